/- The numbers' layer: package varint, and the reference's, over plain lists (for any seat). -/
import Derived.Test.YthblkhafehanfaaY9
set_option linter.unusedVariables false
set_option linter.unusedSimpArgs false
set_option linter.unnecessarySimpa false
set_option maxHeartbeats 40000000
set_option maxRecDepth 100000
namespace Go.Proofs.Ythblkhafehanfaa.Ab
open Go Go.RowKit R
def vput (n:Nat):List UInt8:=
 if h:n < 128 then [n.toUInt8] else (n % 128 + 128).toUInt8 :: vput (n / 128)
termination_by n
decreasing_by omega
def vputP (n:Int):List UInt8:=vput n.toNat
theorem vput_small {n:Nat} (h:n < 128):vput n = [n.toUInt8]:=by rw [vput,dif_pos h]
theorem vput_big {n:Nat} (h:¬ n < 128):vput n = (n % 128 + 128).toUInt8 :: vput (n / 128):=by rw [vput,dif_neg h]
theorem or_128 (m:Nat):sbit .or .u8 ((m:Int) % 256) 128 = .int .u8 (((m % 128 + 128).toUInt8.toNat:Nat):Int):=by
 have key:∀ x:Fin 256,IntKind.u8.wrap ((BitVec.ofInt IntKind.u8.bits (x.val:Int) ||| BitVec.ofInt IntKind.u8.bits 128).toNat:Nat) = (((x.val % 128 + 128).toUInt8.toNat:Nat):Int):=by decide +kernel
 have h:=key ⟨m % 256,by omega⟩
 have e1:(m:Int) % 256 = ((m % 256:Nat):Int):=by omega
 have e2:m % 256 % 128 = m % 128:=by omega
 rw [e1]
 simp only [e2] at h
 unfold sbit
 exact congrArg _ h
def Gput:List AV→Option (Prop × AV)
 | [.pv (.int .u64 n)]=>some (0≤n∧n≤18446744073709551615,.fr 5 (bytesRow (vputP n)))
 | _=>none
@[simp] theorem Gput_eq (n:Int):Gput [.pv (.int .u64 n)] = some (0≤n∧n≤18446744073709551615,.fr 5 (bytesRow (vputP n))):=rfl
theorem c_put:ConT Try.prog 136 Gput:=by
 intro ys φ r h hφ
 unfold Gput at h
 split at h
 ·rename_i N
  cases h
  obtain ⟨n,rfl⟩:=Int.eq_ofNat_of_zero_le hφ.1
  have hn:n≤18446744073709551615:=by omega
  refine con_of tab_nil (by kernel_rfl) fn136 (by simp) ?_
  unfold body136
  simp (config := { maxSteps := 3000000 })
  refine vwp_loop (fun x:Nat × List UInt8=>x.2 ++ vput x.1 = vput n∧x.1≤18446744073709551615∧(x.2.length≤10∧x.1 * 128 ^ x.2.length≤n)) (fun x=>⟨[(0,.pv (.int .u64 x.1)),(3,.own 3)],[(3,.arr 5 (bytesRow x.2))]⟩) (fun x=>x.1) [] (n,[]) ?_ ?_ ?_
  ·simp [hn]
  ·simp
  ·rintro ⟨m,acc⟩ ⟨h1,h2,h3,h4⟩
   dsimp only at h1 h2 h3 h4
   simp (config := { maxSteps := 3000000 }) [wrap_u8,-Int.emod_emod_of_dvd,maxLen_eq]
   rw [or_128]
   refine ⟨fun hm=>⟨by omega,m / 128,acc ++ [(m % 128 + 128).toUInt8],⟨?_,by omega,?_,?_⟩,⟨?_,?_⟩,by omega⟩,fun hm=>⟨by omega,?_⟩⟩
   ·rw [← h1,vput_big (n:=m) (by omega)];simp
   ·simp only [List.length_append,List.length_singleton]
    have:¬ 9≤acc.length:=by
     intro h9
     have h128 : 128 ^ 9≤128 ^ acc.length:=Nat.pow_le_pow_right (by decide) h9
     have : 128 * 128 ^ acc.length≤m * 128 ^ acc.length:=Nat.mul_le_mul_right _ (by omega)
     omega
    omega
   ·simp only [List.length_append,List.length_singleton,Nat.pow_succ]
    refine Nat.le_trans ?_ h4
    have:m / 128 * 128≤m:=by omega
    calc m / 128 * (128 ^ acc.length * 128) = (m / 128 * 128) * 128 ^ acc.length:=by rw [Nat.mul_comm (128 ^ acc.length) 128,Nat.mul_assoc]
     _≤m * 128 ^ acc.length:=Nat.mul_le_mul_right _ this
   ·simp [IntKind.bits,Int.fdiv_eq_ediv_of_nonneg]
   ·rw [bytesRow_append];rfl
   ·rw [vputP,Int.toNat_natCast,← h1,vput_small (n:=m) (by omega),bytesRow_append]
    simp [bytesRow]
 ·cases h
theorem vput_len (n:Nat):1≤(vput n).length:=by
 rw [vput];split<;>simp
theorem vput_len10:∀ (k n:Nat),n < 128 ^ (k + 1)→(vput n).length≤k + 1
 | 0,n,h=>by rw [vput_small (by simpa using h)];simp
 | k + 1,n,h=>by
  by_cases h1:n < 128
  ·rw [vput_small h1];simp
  ·rw [vput_big h1]
   have:n / 128 < 128 ^ (k + 1):=by
    rw [Nat.div_lt_iff_lt_mul (by decide)]
    rw [Nat.pow_succ] at h
    exact h
   have:=vput_len10 k (n / 128) this
   simp;omega
theorem vput_le10 {n:Nat} (h:n≤18446744073709551615):(vput n).length≤10:=vput_len10 9 n (by omega)
def Ggroups:List AV→Option (Prop × AV)
 | [.pv (.int .u64 n)]=>some (0≤n∧n≤18446744073709551615,.pv (.int .i64 (vputP n).length))
 | _=>none
@[simp] theorem Ggroups_eq (n:Int):Ggroups [.pv (.int .u64 n)] = some (0≤n∧n≤18446744073709551615,.pv (.int .i64 (vputP n).length)):=rfl
theorem c_groups:ConT Try.prog 143 Ggroups:=by
 intro ys φ r h hφ
 unfold Ggroups at h
 split at h
 ·rename_i N
  cases h
  obtain ⟨n,rfl⟩:=Int.eq_ofNat_of_zero_le hφ.1
  have hn:n≤18446744073709551615:=by omega
  have hl:=vput_le10 hn
  refine con_of tab_nil (by kernel_rfl) fn143 (by simp) ?_
  unfold body143
  simp (config := { maxSteps := 3000000 })
  refine vwp_loop (fun x:Nat × Nat=>x.2 + (vput x.1).length = (vput n).length + 1∧x.1≤18446744073709551615) (fun x=>⟨[(0,.pv (.int .u64 x.1)),(3,.pv (.int .i64 x.2))],[]⟩) (fun x=>x.1) [] (n,1) ?_ ?_ ?_
  ·simp [hn];omega
  ·simp
  ·rintro ⟨m,k⟩ ⟨h1,h2⟩
   dsimp only at h1 h2
   have hl2:=vput_len m
   simp (config := { maxSteps := 3000000 }) (disch:=omega) [wrap_i64,wrap_u64]
   refine ⟨fun hm=>⟨m / 128,k + 1,⟨?_,by omega⟩,⟨by omega,by omega⟩,by omega⟩,fun hm=>?_⟩
   ·rw [vput_big (n:=m) (by omega)] at h1
    simp at h1;omega
   ·rw [vput_small (n:=m) (by omega)] at h1
    simp at h1
    rw [vputP,Int.toNat_natCast];omega
 ·cases h
theorem byte_of (m:Nat) (h:m < 128):(m.toUInt8.toNat:Int) = m:=by
 have:m.toUInt8.toNat = m:=by simp [Nat.toUInt8];omega
 omega
theorem byte_of' (m:Nat) (h:m < 256):(m.toUInt8.toNat:Int) = m:=by
 have:m.toUInt8.toNat = m:=by simp [Nat.toUInt8];omega
 omega
theorem c_rput:ConT Try.prog 110 Gput:=by
 intro ys φ r h hφ
 unfold Gput at h
 split at h
 ·rename_i N
  cases h
  obtain ⟨n,rfl⟩:=Int.eq_ofNat_of_zero_le hφ.1
  have hn:n≤18446744073709551615:=by omega
  have hl:=vput_le10 hn
  have hl1:=vput_len n
  refine con_of (tab_cons c_groups tab_nil) (by kernel_rfl) fn110 (by simp) ?_
  unfold body110
  simp (config := { maxSteps := 3000000 }) [vputP]
  refine ⟨by omega,?_⟩
  refine vwp_loop (fun x:Nat × List UInt8=>x.2 ++ (if x.2.length < (vput n).length then vput x.1 else []) = vput n∧x.1≤18446744073709551615∧x.2.length≤(vput n).length)
   (fun x=>⟨[(0,.pv (.int .u64 x.1)),(3,.own 3),(4,.pv (.int .i64 (vput n).length)),(5,.pv (.int .i64 x.2.length))],[(3,.arr 5 (bytesRow x.2))]⟩) (fun x=>(vput n).length - x.2.length) [] (n,[]) ?_ ?_ ?_
  ·refine ⟨?_,hn,by simp⟩
   rw [if_pos (by simp only [List.length_nil];omega),List.nil_append]
  ·simp
  ·rintro ⟨m,acc⟩ ⟨h1,h2,h3⟩
   dsimp only at h1 h2 h3
   have w1:IntKind.i64.wrap ((acc.length:Int) + 1) = (acc.length:Int) + 1:=wrap_i64 (by omega)
   have w2:IntKind.u8.wrap ((m:Int) % 128) = (m:Int) % 128:=by rw [wrap_u8];omega
   have w3:IntKind.u8.wrap ((m:Int) % 128 + 128) = (m:Int) % 128 + 128:=by rw [wrap_u8];omega
   have w4:IntKind.u64.wrap ((m:Int) / 128) = (m:Int) / 128:=wrap_u64 (by omega)
   have w5:(m:Int).tmod 128 = (m:Int) % 128:=Int.tmod_eq_emod_of_nonneg (by omega)
   by_cases hlt:acc.length < (vput n).length
   ·rw [if_pos hlt] at h1
    have hlen:acc.length + (vput m).length = (vput n).length:=by rw [← h1];simp
    by_cases hm:m < 128
    ·have hv:=vput_small hm
     rw [hv] at h1 hlen
     simp at hlen
     simp (config := { maxSteps := 3000000 }) [w1,w2,w3,w4,w5,hlt,maxLen_eq]
     refine ⟨fun h=>by omega,fun h=>⟨by omega,m / 128,acc ++ [m.toUInt8],⟨?_,by omega,by simp;omega⟩,⟨⟨by omega,by simp⟩,?_⟩,by simp;omega⟩⟩
     ·rw [if_neg (by simp;omega),List.append_nil];exact h1
     ·rw [bytesRow_append];simp only [bytesRow,List.map_cons,List.map_nil];rw [byte_of m hm]
      have:(m:Int) % 128 = m:=by omega
      rw [this]
    ·have hv:=vput_big hm
     have hl2:=vput_len (m / 128)
     rw [hv] at h1 hlen
     simp at hlen
     simp (config := { maxSteps := 3000000 }) [w1,w2,w3,w4,w5,hlt,maxLen_eq]
     refine ⟨fun h=>⟨by omega,m / 128,acc ++ [(m % 128 + 128).toUInt8],⟨?_,by omega,by simp;omega⟩,⟨⟨by omega,by simp⟩,?_⟩,by simp;omega⟩,fun h=>by omega⟩
     ·rw [if_pos (by simp;omega)];simpa using h1
     ·rw [bytesRow_append];simp only [bytesRow,List.map_cons,List.map_nil];rw [byte_of' (m % 128 + 128) (by omega)]
      simp
   ·rw [if_neg hlt,List.append_nil] at h1
    simp (config := { maxSteps := 3000000 }) [hlt]
    rw [h1]
 ·cases h
noncomputable def GsameB:List AV→Option (Prop × AV)
 | [.pv (.ro a),.pv (.ro b)]=>(dec byteR a).bind fun la=>(dec byteR b).map fun lb=>(la.length≤1000000000,.pv (.bool (decide (la = lb))))
 | _=>none
@[simp] theorem GsameB_eq (a b:List (List PV)):GsameB [.pv (.ro a),.pv (.ro b)] = (dec byteR a).bind fun la=>(dec byteR b).map fun lb=>(la.length≤1000000000,.pv (.bool (decide (la = lb)))):=rfl
theorem c_sameB:ConT Try.prog 41 GsameB:=by
 intro ys φ r h hφ
 unfold GsameB at h
 split at h
 ·rename_i ra rb
  obtain ⟨a,ha,h⟩:=Option.bind_eq_some_iff.1 h
  obtain ⟨b,hb,h⟩:=Option.map_eq_some_iff.1 h
  cases h
  cases dec_bytes_inv ha
  cases dec_bytes_inv hb
  refine con_of tab_nil (by kernel_rfl) fn41 (by simp) ?_
  unfold body41
  simp (config := { maxSteps := 3000000 })
  refine ⟨fun hne=>?_,fun hlen=>?_⟩
  ·intro e;exact hne (by rw [e])
  refine vwp_loop (fun i:Nat=>i≤a.length∧a.take i = b.take i) (fun i=>⟨[(0,.pv (.ro (bytesRow a))),(1,.pv (.ro (bytesRow b))),(5,.pv (.int .i64 i))],[]⟩) (fun i=>a.length - i) [] 0 (by simp) ?_ ?_
  ·simp
  ·rintro i ⟨hi,ht⟩
   have w2:IntKind.i64.wrap ((i:Int) + 1) = (i:Int) + 1:=wrap_i64 (by omega)
   by_cases hlt:i < a.length
   ·have r1:=R.bytesRow_at hlt
    have hlb:i < b.length:=by omega
    have r2:=R.bytesRow_at hlb
    simp (config := { maxSteps := 3000000 }) [w2,hlt,hlb,r1,r2]
    refine ⟨fun hne e=>hne (by subst e;rfl),fun heq=>⟨i + 1,⟨by omega,?_⟩,by omega,by omega⟩⟩
    rw [List.take_succ_eq_append_getElem hlt,List.take_succ_eq_append_getElem hlb,ht]
    congr 2
    exact UInt8.toNat_inj.1 (by omega)
   ·simp (config := { maxSteps := 3000000 }) [hlt]
    rw [List.take_of_length_le (by omega),List.take_of_length_le (by omega)] at ht
    exact ht
 ·cases h
def takeG:List UInt8→Nat→Nat→Nat × Nat × Int
 | [],_,_=>(0,0,10)
 | c :: l,i,n=>if (i = 9∧1 < c.toNat)∨(c.toNat = 0∧0 < i) then (0,0,11) else
  if c.toNat < 128 then (n + c.toNat % 128 * 2 ^ (7 * i),i + 1,0) else takeG l (i + 1) (n + c.toNat % 128 * 2 ^ (7 * i))
def takeL (b:List UInt8) (p:Int):Int × Int × Int:=
 if p < 0∨(b.length:Int)≤p then (0,p,10) else (((takeG (b.drop p.toNat) 0 0).1:Int),p + ((takeG (b.drop p.toNat) 0 0).2.1:Int),(takeG (b.drop p.toNat) 0 0).2.2)
theorem takeG_bound:∀ (l:List UInt8) (i n:Nat),i≤9→n < 2 ^ (7 * i)→(takeG l i n).1 < 2 ^ 64∧(takeG l i n).2.1≤i + l.length∧((takeG l i n).2.2 = 0→i < (takeG l i n).2.1)∧((takeG l i n).2.2≠0→(takeG l i n).1 = 0∧(takeG l i n).2.1 = 0)∧((takeG l i n).2.2 = 0∨(takeG l i n).2.2 = 10∨(takeG l i n).2.2 = 11)
 | [],i,n,hi,hn=>by simp [takeG]
 | c :: l,i,n,hi,hn=>by
  unfold takeG
  have hc:=c.toNat_lt
  have hcm:c.toNat % 128≤127:=by omega
  have h1:n + c.toNat % 128 * 2 ^ (7 * i) < 2 ^ (7 * (i + 1)):=by
   have:c.toNat % 128 * 2 ^ (7 * i)≤127 * 2 ^ (7 * i):=Nat.mul_le_mul_right _ hcm
   rw [Nat.mul_add,Nat.pow_add];omega
  split
  ·simp
  ·rename_i h0
   split
   ·refine ⟨?_,by simp,by simp,by simp,by simp⟩
    dsimp only
    by_cases h9:i = 9
    ·subst h9
     have hc1:c.toNat≤1:=by omega
     have:c.toNat % 128 * 2 ^ (7 * 9)≤1 * 2 ^ (7 * 9):=Nat.mul_le_mul_right _ (by omega)
     omega
    ·have : 2 ^ (7 * (i + 1))≤2 ^ 63:=Nat.pow_le_pow_right (by decide) (by omega)
     omega
   ·rename_i hbig
    have hi8:i≤8:=by omega
    obtain ⟨a1,a2,a3,a4⟩:=takeG_bound l (i + 1) _ (by omega) h1
    refine ⟨a1,?_,fun h=>?_,a4⟩
    ·simp only [List.length_cons];omega
    ·have:=a3 h;omega
theorem andNot_128 (c:UInt8):sbit .andNot .u8 (c.toNat:Int) 128 = .int .u8 ((c.toNat % 128:Nat):Int):=by
 have key:∀ x:Fin 256,IntKind.u8.wrap ((BitVec.ofInt IntKind.u8.bits (x.val:Int) &&& ~~~ BitVec.ofInt IntKind.u8.bits 128).toNat:Nat) = ((x.val % 128:Nat):Int):=by decide +kernel
 have h:=key ⟨c.toNat,c.toNat_lt⟩
 unfold sbit
 exact congrArg _ h
theorem or_u64 {n m i:Nat} (hn:n < 2 ^ (7 * i)) (hm:n + m * 2 ^ (7 * i) < 2 ^ 64):sbit .or .u64 (n:Int) ((m:Int) * 2 ^ (7 * i)) = .int .u64 ((n + m * 2 ^ (7 * i):Nat):Int):=by
 have e1:((m:Int) * 2 ^ (7 * i)) = ((m * 2 ^ (7 * i):Nat):Int):=by simp
 have hn64:n < 2 ^ 64:=by omega
 have hm64:m * 2 ^ (7 * i) < 2 ^ 64:=by omega
 have h1:(BitVec.ofInt 64 (n:Int)).toNat = n:=by rw [BitVec.ofInt_natCast,BitVec.toNat_ofNat,Nat.mod_eq_of_lt hn64]
 have h2:(BitVec.ofInt 64 ((m * 2 ^ (7 * i):Nat):Int)).toNat = m * 2 ^ (7 * i):=by rw [BitVec.ofInt_natCast,BitVec.toNat_ofNat,Nat.mod_eq_of_lt hm64]
 have h3:n ||| m * 2 ^ (7 * i) = n + m * 2 ^ (7 * i):=by
  rw [Nat.or_comm,← Nat.shiftLeft_eq,← Nat.shiftLeft_add_eq_or_of_lt hn,Nat.add_comm]
 rw [e1]
 unfold sbit
 have h4:(BitVec.ofInt IntKind.u64.bits (n:Int) ||| BitVec.ofInt IntKind.u64.bits ((m * 2 ^ (7 * i):Nat):Int)).toNat = n + m * 2 ^ (7 * i):=by
  show (BitVec.ofInt 64 (n:Int) ||| BitVec.ofInt 64 ((m * 2 ^ (7 * i):Nat):Int)).toNat = _
  rw [BitVec.toNat_or,h1,h2,h3]
 simp only [h4]
 refine congrArg _ ?_
 exact wrap_u64 (by omega)
def val:List UInt8→Nat
 | []=>0
 | c :: l=>c.toNat % 128 + 128 * val l
theorem val_snoc (l:List UInt8) (c:UInt8):val (l ++ [c]) = val l + c.toNat % 128 * 2 ^ (7 * l.length):=by
 induction l with
 | nil=>simp [val]
 | cons x l ih=>
  simp only [List.cons_append,val,ih,List.length_cons]
  have : 2 ^ (7 * (l.length + 1)) = 128 * 2 ^ (7 * l.length):=by rw [Nat.mul_add,Nat.pow_add];omega
  rw [this,Nat.mul_add,Nat.mul_left_comm];omega
theorem val_lt (l:List UInt8):val l < 2 ^ (7 * l.length):=by
 induction l with
 | nil=>simp [val]
 | cons x l ih=>
  simp only [val,List.length_cons]
  have : 2 ^ (7 * (l.length + 1)) = 128 * 2 ^ (7 * l.length):=by rw [Nat.mul_add,Nat.pow_add];omega
  omega
theorem vput_val:∀ (l:List UInt8) (c:UInt8),(∀ x∈l,128≤x.toNat)→c.toNat < 128→(c.toNat≠0∨l = [])→vput (val (l ++ [c])) = l ++ [c]
 | [],c,_,hc,_=>by
  have:val ([] ++ [c]) = c.toNat:=by simp [val];omega
  rw [this,vput_small hc]
  simp
 | x :: l,c,hl,hc,h0=>by
  have hx:=hl x (by simp)
  have hx2:=x.toNat_lt
  have h0:c.toNat≠0:=by rcases h0 with h | h;exact h;cases h
  have hv : 0 < val (l ++ [c]):=by
   rw [val_snoc]
   have : 0 < c.toNat % 128 * 2 ^ (7 * l.length):=Nat.mul_pos (by omega) (Nat.pow_pos (by decide))
   omega
  have ih:=vput_val l c (fun y hy=>hl y (by simp [hy])) hc (.inl h0)
  simp only [List.cons_append,val]
  rw [vput_big (by omega),show (x.toNat % 128 + 128 * val (l ++ [c])) / 128 = val (l ++ [c]) from by omega,ih,show (x.toNat % 128 + 128 * val (l ++ [c])) % 128 + 128 = x.toNat from by omega]
  simp
theorem vput_le:∀ (k n:Nat),n < 2 ^ (7 * (k + 1))→(vput n).length≤k + 1
 | 0,n,h=>by rw [vput_small (by simpa using h)];simp
 | k + 1,n,h=>by
  by_cases hn:n < 128
  ·rw [vput_small hn];simp
  ·rw [vput_big hn]
   have : 2 ^ (7 * (k + 1 + 1)) = 128 * 2 ^ (7 * (k + 1)):=by rw [Nat.mul_add 7 (k + 1),Nat.pow_add];omega
   have:=vput_le k (n / 128) (by omega)
   simp only [List.length_cons];omega
noncomputable def Gtake:List AV→Option (Prop × AV)
 | [.pv (.ro b),.pv (.int .i64 p)]=>(dec byteR b).map fun l=>(l.length≤1000000000∧-9223372036854775808≤p∧p≤9223372036854775807,.tup [.pv (.int .u64 (takeL l p).1),.pv (.int .i64 (takeL l p).2.1),.pv (.int .i64 (takeL l p).2.2)])
 | _=>none
@[simp] theorem Gtake_eq (b:List (List PV)) (p:Int):Gtake [.pv (.ro b),.pv (.int .i64 p)] = (dec byteR b).map fun l=>(l.length≤1000000000∧-9223372036854775808≤p∧p≤9223372036854775807,.tup [.pv (.int .u64 (takeL l p).1),.pv (.int .i64 (takeL l p).2.1),.pv (.int .i64 (takeL l p).2.2)]):=rfl
theorem grp_lt {n c i:Nat} (hn:n < 2 ^ (7 * i)) (hc:c≤127):n + c * 2 ^ (7 * i) < 2 ^ (7 * (i + 1)):=by
 have:c * 2 ^ (7 * i)≤127 * 2 ^ (7 * i):=Nat.mul_le_mul_right _ hc
 rw [Nat.mul_add,Nat.pow_add];omega
theorem cut_bytes (l:List UInt8) (i:Nat):cut (bytesRow l) (i:Int) (l.length:Int) = bytesRow (l.drop i):=by
 have:List.take l.length (bytesRow l) = bytesRow l:=List.take_of_length_le (by simp [bytesRow])
 unfold cut
 rw [Int.toNat_natCast,Int.toNat_natCast,this]
 simp [bytesRow,List.map_drop]
theorem c_take:ConT Try.prog 141 Gtake:=by
 intro ys φ r h hφ
 unfold Gtake at h
 split at h
 ·rename_i rb p
  obtain ⟨b,hb,h⟩:=Option.map_eq_some_iff.1 h
  cases h
  cases dec_bytes_inv hb
  obtain ⟨hl,hp1,hp2⟩:=hφ
  refine con_of tab_nil (by kernel_rfl) fn141 (by simp) ?_
  unfold body141
  by_cases h0:p < 0∨(b.length:Int)≤p
  ·have ht:takeL b p = (0,p,10):=by unfold takeL;rw [if_pos h0]
   by_cases hp0:p < 0
   ·simp (config := { maxSteps := 3000000 }) [hp0,ht]
   ·have hbp:(b.length:Int)≤p:=by omega
    simp (config := { maxSteps := 3000000 }) [hp0,hbp,ht]
  ·obtain ⟨q,rfl⟩:=Int.eq_ofNat_of_zero_le (show 0≤p by omega)
   have ht:takeL b q = (((takeG (b.drop q) 0 0).1:Int),(q:Int) + ((takeG (b.drop q) 0 0).2.1:Int),(takeG (b.drop q) 0 0).2.2):=by unfold takeL;rw [if_neg h0];rfl
   have hq0:¬ (q:Int) < 0:=by omega
   have hq1:¬ (b.length:Int)≤q:=by omega
   have hq2:¬ b.length≤q:=by omega
   have hc:=cut_bytes b q
   rw [ht]
   simp (config := { maxSteps := 3000000 }) [hq0,hq1,hq2,hc]
   refine ⟨⟨by omega,bytesRow_one b⟩,?_⟩
   generalize hD:b.drop q = D
   have hDl:D.length + q = b.length:=by rw [← hD];simp;omega
   have hbD:(b.length:Int) - q = (D.length:Int):=by omega
   refine vwp_loop (fun x:Nat × Nat=>x.1≤D.length∧x.1≤9∧x.2 < 2 ^ (7 * x.1)∧takeG D 0 0 = takeG (D.drop x.1) x.1 x.2)
    (fun x=>⟨[(1,.pv (.int .i64 q)),(4,.pv (.int .u64 x.2)),(6,.pv (.int .i64 10)),(21,.pv (.ro (bytesRow D))),(22,.pv (.int .i64 D.length)),(23,.pv (.int .i64 x.1))],[]⟩) (fun x=>D.length - x.1) [] (0,0) ?_ ?_ ?_
   ·simp
   ·simp
    omega
   ·rintro ⟨i,n⟩ ⟨hi,hi9,hn,hG⟩
    dsimp only at hi hi9 hn hG
    have w1:IntKind.i64.wrap ((i:Int) + 1) = (i:Int) + 1:=wrap_i64 (by omega)
    have w2:IntKind.i64.wrap (7 * (i:Int)) = 7 * (i:Int):=wrap_i64 (by omega)
    have w3:IntKind.i64.wrap ((q:Int) + (i:Int)) = (q:Int) + (i:Int):=wrap_i64 (by omega)
    have w4:IntKind.i64.wrap ((q:Int) + (i:Int) + 1) = (q:Int) + (i:Int) + 1:=wrap_i64 (by omega)
    by_cases hlt:i < D.length
    ·have r1:=R.bytesRow_at hlt
     rw [List.drop_eq_getElem_cons hlt,takeG] at hG
     have hc:=D[i].toNat_lt
     have ha:=andNot_128 D[i]
     simp (config := { maxSteps := 3000000 }) [w1,w2,w3,w4,hlt,r1,ha]
     have hcm:D[i].toNat % 128≤127:=by omega
     have hn':=grp_lt hn hcm
     have hor:∀ hm:n + D[i].toNat % 128 * 2 ^ (7 * i) < 2 ^ 64,sbit .or .u64 (n:Int) (IntKind.u64.wrap (IntKind.u64.wrap ((D[i].toNat:Int) % 128) * 2 ^ min (7 * (i:Int)).toNat IntKind.u64.bits)) = .int .u64 ((n + D[i].toNat % 128 * 2 ^ (7 * i):Nat):Int):=by
      intro hm
      have e1:IntKind.u64.wrap ((D[i].toNat:Int) % 128) = ((D[i].toNat % 128:Nat):Int):=by rw [wrap_u64 (by omega)];omega
      have e2:min (7 * (i:Int)).toNat IntKind.u64.bits = 7 * i:=by
       have:(7 * (i:Int)).toNat = 7 * i:=by omega
       rw [this];exact Nat.min_eq_left (show 7 * i≤64 by omega)
      have e3:IntKind.u64.wrap (((D[i].toNat % 128:Nat):Int) * 2 ^ (7 * i)) = ((D[i].toNat % 128:Nat):Int) * 2 ^ (7 * i):=by
       have e4:(((D[i].toNat % 128:Nat):Int) * 2 ^ (7 * i)) = ((D[i].toNat % 128 * 2 ^ (7 * i):Nat):Int):=by simp
       rw [e4];exact wrap_u64 (by omega)
      rw [e1,e2,e3]
      exact or_u64 hn hm
     have h63:i≤8→n + D[i].toNat % 128 * 2 ^ (7 * i) < 2 ^ 64:=fun h8=>by
      have : 2 ^ (7 * (i + 1))≤2 ^ 63:=Nat.pow_le_pow_right (by decide) (by omega)
      omega
     have h64:¬ (i = 9∧1 < D[i].toNat)→n + D[i].toNat % 128 * 2 ^ (7 * i) < 2 ^ 64:=fun h=>by
      by_cases h9:i = 9
      ·have hle:D[i].toNat % 128 * 2 ^ (7 * i)≤1 * 2 ^ (7 * i):=Nat.mul_le_mul_right _ (by omega)
       have : 2 ^ (7 * i) = 2 ^ 63:=by rw [h9]
       omega
      ·exact h63 (by omega)
     have hA:(i = 9∧1 < D[i].toNat)∨(D[i].toNat = 0∧0 < i)→takeG D 0 0 = (0,0,11):=fun h=>by rw [hG,if_pos h]
     have hN:¬ ((i = 9∧1 < D[i].toNat)∨(D[i].toNat = 0∧0 < i))→takeG D 0 0 = if D[i].toNat < 128 then (n + D[i].toNat % 128 * 2 ^ (7 * i),i + 1,0) else takeG (D.drop (i + 1)) (i + 1) (n + D[i].toNat % 128 * 2 ^ (7 * i)):=fun h=>by rw [hG,if_neg h]
     clear hG
     generalize n + D[i].toNat % 128 * 2 ^ (7 * i) = m at *
     generalize D[i].toNat = c at *
     refine ⟨fun a1 a2=>⟨fun _ _=>?_,fun hx=>?_⟩,fun hx=>⟨fun b1 b2 b3=>?_,fun hy=>⟨by omega,fun h1=>?_,fun h2=>?_⟩⟩⟩
     ·rw [hA (.inl ⟨by omega,by omega⟩)];simp
     ·exfalso;have:=hx a1;omega
     ·rw [hA (.inr ⟨by omega,by omega⟩)];simp
     ·have hno:¬ ((i = 9∧1 < c)∨(c = 0∧0 < i)):=by
       rintro (⟨x,y⟩ | ⟨x,y⟩)
       ·have:=hx (by omega);omega
       ·have:=hy h1 x;omega
      rw [hN hno,if_pos (by omega),hor (h64 fun h=>hno (.inl h))]
      exact ⟨rfl,by simp;omega,rfl⟩
     ·have hno:¬ ((i = 9∧1 < c)∨(c = 0∧0 < i)):=by
       rintro (⟨x,y⟩ | ⟨x,y⟩)
       ·have:=hx (by omega);omega
       ·omega
      have hi8:i≤8:=by
       have:¬ i = 9:=fun h=>by have:=hx (by omega);omega
       omega
      refine ⟨i + 1,m,⟨by omega,by omega,hn',?_⟩,⟨hor (h63 hi8),by omega⟩,by omega⟩
      rw [hN hno,if_neg (by omega)]
    ·have hd:D.drop i = []:=by rw [List.drop_eq_nil_iff];omega
     have he:takeG D 0 0 = (0,0,10):=by rw [hG,hd];rfl
     simp (config := { maxSteps := 3000000 }) [w1,w2,hlt,he]
 ·cases h
theorem takeL_ok (b:List UInt8) (p:Int):((takeL b p).2.2 = 0→0≤p∧p < (takeL b p).2.1∧(takeL b p).2.1≤b.length)∧0≤(takeL b p).1∧(takeL b p).1≤18446744073709551615∧((takeL b p).2.2≠0→(takeL b p).1 = 0∧(takeL b p).2.1 = p)∧((takeL b p).2.2 = 0∨(takeL b p).2.2 = 10∨(takeL b p).2.2 = 11):=by
 unfold takeL
 split
 ·simp
 ·rename_i h0
  obtain ⟨h1,h2,h3,h4,h5⟩:=takeG_bound (b.drop p.toNat) 0 0 (by omega) (by simp)
  have hd:(b.drop p.toNat).length = b.length - p.toNat:=by simp
  rw [hd] at h2
  dsimp only
  refine ⟨fun h=>?_,by omega,by omega,fun h=>?_,h5⟩
  ·have:=h3 h;omega
  ·have:=h4 h;omega
def standB (b:List UInt8) (at':Nat) (w:List UInt8):Bool:=decide (at' + w.length≤b.length∧(b.drop at').take w.length = w)
noncomputable def Gstand:List AV→Option (Prop × AV)
 | [.pv (.ro b),.pv (.int .i64 i),.pv (.ro w)]=>(dec byteR b).bind fun lb=>(dec byteR w).map fun lw=>(0≤i∧i≤1000000000∧lb.length≤1000000000∧lw.length≤1000000000,.pv (.bool (standB lb i.toNat lw)))
 | _=>none
@[simp] theorem Gstand_eq (b w:List (List PV)) (i:Int):Gstand [.pv (.ro b),.pv (.int .i64 i),.pv (.ro w)] = (dec byteR b).bind fun lb=>(dec byteR w).map fun lw=>(0≤i∧i≤1000000000∧lb.length≤1000000000∧lw.length≤1000000000,.pv (.bool (standB lb i.toNat lw))):=rfl
theorem c_rsame:ConT Try.prog 180 Gstand:=by
 intro ys φ r h hφ
 unfold Gstand at h
 split at h
 ·rename_i rb I rw'
  obtain ⟨b,hb,h⟩:=Option.bind_eq_some_iff.1 h
  obtain ⟨l,hl,h⟩:=Option.map_eq_some_iff.1 h
  cases h
  cases dec_bytes_inv hb
  cases dec_bytes_inv hl
  obtain ⟨p,rfl⟩:=Int.eq_ofNat_of_zero_le hφ.1
  obtain ⟨h0,h1,h2,h3⟩:=hφ
  have w1:IntKind.i64.wrap ((p:Int) + (l.length:Int)) = (p:Int) + (l.length:Int):=wrap_i64 (by omega)
  refine con_of tab_nil (by kernel_rfl) fn180 (by simp) ?_
  unfold body180
  by_cases hle:p + l.length≤b.length
  ·have hle':¬ (b.length:Int) < (p:Int) + (l.length:Int):=by omega
   simp (config := { maxSteps := 3000000 }) [w1,hle']
   refine vwp_loop (fun i:Nat=>i≤l.length∧(b.drop p).take i = l.take i) (fun i=>⟨[(0,.pv (.ro (bytesRow b))),(1,.pv (.int .i64 p)),(2,.pv (.ro (bytesRow l))),(7,.pv (.int .i64 i))],[]⟩) (fun i=>l.length - i) [] 0 (by simp) ?_ ?_
   ·simp
   ·rintro i ⟨hi,ht⟩
    have w2:IntKind.i64.wrap ((i:Int) + 1) = (i:Int) + 1:=wrap_i64 (by omega)
    have w3:IntKind.i64.wrap ((p:Int) + (i:Int)) = (p:Int) + (i:Int):=wrap_i64 (by omega)
    by_cases hlt:i < l.length
    ·have r1:=R.bytesRow_at hlt
     have hlb:p + i < b.length:=by omega
     have hlb':(p:Int) + (i:Int) < (b.length:Int):=by omega
     have hp0 : 0≤(p:Int) + (i:Int):=by omega
     have r2:rowAt (bytesRow b) ((p:Int) + (i:Int)) = [.int .u8 (b[p + i].toNat:Int)]:=by
      have:=R.bytesRow_at hlb
      simpa using this
     have hdl:i < (b.drop p).length:=by simp;omega
     simp (config := { maxSteps := 3000000 }) [w2,w3,hlt,hlb,hlb',hp0,r1,r2]
     have hg:(b.drop p)[i] = b[p + i]:=by rw [List.getElem_drop]
     refine ⟨fun hne=>?_,fun he=>⟨i + 1,⟨by omega,?_⟩,by omega,by omega⟩⟩
     ·unfold standB
      rw [decide_eq_false_iff_not]
      rintro ⟨_,e⟩
      refine hne ?_
      have e2:((b.drop p).take l.length)[i]? = l[i]?:=by rw [e]
      rw [List.getElem?_take,if_pos hlt,List.getElem?_eq_getElem hdl,List.getElem?_eq_getElem hlt,hg] at e2
      simp only [Option.some.injEq] at e2
      rw [e2]
     ·rw [List.take_succ_eq_append_getElem hlt,List.take_succ_eq_append_getElem hdl,ht,hg]
      congr 2
      exact UInt8.toNat_inj.1 (by omega)
    ·simp (config := { maxSteps := 3000000 }) [hlt]
     unfold standB
     have hil:i = l.length:=by omega
     rw [hil,List.take_length] at ht
     simp [hle,ht]
  ·have hle':(b.length:Int) < (p:Int) + (l.length:Int):=by omega
   have hno:standB b p l = false:=by unfold standB;simp [hle]
   simp (config := { maxSteps := 3000000 }) [w1,hle',hno]
 ·cases h
theorem c_rtake:ConT Try.prog 144 Gtake:=by
 intro ys φ r h hφ
 unfold Gtake at h
 split at h
 ·rename_i rb p
  obtain ⟨b,hb,h⟩:=Option.map_eq_some_iff.1 h
  cases h
  cases dec_bytes_inv hb
  obtain ⟨hl,hp1,hp2⟩:=hφ
  refine con_of (tab_cons c_rput (tab_cons c_rsame tab_nil)) (by kernel_rfl) fn144 (by simp) ?_
  unfold body144
  by_cases h0:p < 0∨(b.length:Int)≤p
  ·have ht:takeL b p = (0,p,10):=by unfold takeL;rw [if_pos h0]
   by_cases hp0:p < 0
   ·simp (config := { maxSteps := 3000000 }) [hp0,ht]
   ·have hbp:(b.length:Int)≤p:=by omega
    simp (config := { maxSteps := 3000000 }) [hp0,hbp,ht]
  ·obtain ⟨q,rfl⟩:=Int.eq_ofNat_of_zero_le (show 0≤p by omega)
   have ht:takeL b q = (((takeG (b.drop q) 0 0).1:Int),(q:Int) + ((takeG (b.drop q) 0 0).2.1:Int),(takeG (b.drop q) 0 0).2.2):=by unfold takeL;rw [if_neg h0];rfl
   have hq0:¬ (q:Int) < 0:=by omega
   have hq1:¬ (b.length:Int)≤q:=by omega
   have hq2:¬ b.length≤q:=by omega
   rw [ht]
   simp (config := { maxSteps := 3000000 }) [hq0,hq1,hq2]
   generalize hD:b.drop q = D
   have hDl:D.length + q = b.length:=by rw [← hD];simp;omega
   refine vwp_loop (fun i:Nat=>i≤D.length∧i≤9∧(∀ x∈D.take i,128≤x.toNat)∧takeG D 0 0 = takeG (D.drop i) i (val (D.take i)))
    (fun i=>⟨[(0,.pv (.ro (bytesRow b))),(1,.pv (.int .i64 q)),(7,.pv (.int .u64 (val (D.take i)))),(8,.pv (.int .i64 i))],[]⟩) (fun i=>D.length - i) [] 0 ?_ ?_ ?_
   ·simp [val]
   ·simp [val]
   ·rintro i ⟨hi,hi9,hall,hG⟩
    have w1:IntKind.i64.wrap ((i:Int) + 1) = (i:Int) + 1:=wrap_i64 (by omega)
    have w2:IntKind.i64.wrap (7 * (i:Int)) = 7 * (i:Int):=wrap_i64 (by omega)
    have w3:IntKind.i64.wrap ((q:Int) + (i:Int)) = (q:Int) + (i:Int):=wrap_i64 (by omega)
    have w4:IntKind.i64.wrap ((q:Int) + (i:Int) + 1) = (q:Int) + (i:Int) + 1:=wrap_i64 (by omega)
    have hi10:(i:Int) < 10:=by omega
    by_cases hlt:i < D.length
    ·have hlt1:(q:Int) + i < b.length:=by omega
     have hlt2:¬ (b.length:Int)≤(q:Int) + i:=by omega
     have hqi:q + i < b.length:=by omega
     have r1:rowAt (bytesRow b) ((q:Int) + (i:Int)) = [.int .u8 (D[i].toNat:Int)]:=by
      have h1:=R.bytesRow_at hqi
      have h2:D[i] = b[q + i]:=by subst hD;rw [List.getElem_drop]
      rw [h2];simpa using h1
     have hq3 : 0≤(q:Int) + i:=by omega
     rw [List.drop_eq_getElem_cons hlt,takeG] at hG
     have hc:=D[i].toNat_lt
     have hn:=val_lt (D.take i)
     have htl:(D.take i).length = i:=by simp;omega
     rw [htl] at hn
     have hcm:D[i].toNat % 128≤127:=by omega
     have hn':=grp_lt hn hcm
     have hv:val (D.take (i + 1)) = val (D.take i) + D[i].toNat % 128 * 2 ^ (7 * i):=by
      rw [List.take_succ_eq_append_getElem hlt,val_snoc,htl]
     have h63:i≤8→val (D.take i) + D[i].toNat % 128 * 2 ^ (7 * i) < 2 ^ 64:=fun h8=>by
      have : 2 ^ (7 * (i + 1))≤2 ^ 63:=Nat.pow_le_pow_right (by decide) (by omega)
      omega
     have h64:¬ (i = 9∧1 < D[i].toNat)→val (D.take i) + D[i].toNat % 128 * 2 ^ (7 * i) < 2 ^ 64:=fun h=>by
      by_cases h9:i = 9
      ·have hle:D[i].toNat % 128 * 2 ^ (7 * i)≤1 * 2 ^ (7 * i):=Nat.mul_le_mul_right _ (by omega)
       have : 2 ^ (7 * i) = 2 ^ 63:=by rw [h9]
       omega
      ·exact h63 (by omega)
     have c1:IntKind.u64.wrap (D[i].toNat:Int) = (D[i].toNat:Int):=wrap_u64 (by omega)
     have hpw : 2 ^ (7 * i)≤2 ^ 63:=Nat.pow_le_pow_right (by decide) (by omega)
     have c2:IntKind.u64.wrap (2 ^ min (7 * (i:Int)).toNat IntKind.u64.bits) = ((2 ^ (7 * i):Nat):Int):=by
      have e1:min (7 * (i:Int)).toNat IntKind.u64.bits = 7 * i:=by
       have:(7 * (i:Int)).toNat = 7 * i:=by omega
       rw [this];exact Nat.min_eq_left (show 7 * i≤64 by omega)
      rw [e1,show ((2:Int) ^ (7 * i)) = ((2 ^ (7 * i):Nat):Int) from by simp]
      exact wrap_u64 (by omega)
     by_cases hA:i = 9∧1 < D[i].toNat
     ·rw [if_pos (.inl hA)] at hG
      obtain ⟨h9,h1c⟩:=hA
      have h9':((i:Int) = 9) = True:=eq_true (by omega)
      have h1c':(1:Int) < (D[i].toNat:Int):=by omega
      simp (config := { maxSteps := 3000000 }) [w1,w2,w3,w4,hi10,hlt1,hlt2,hq3,r1,c1,c2,h9',h1c',hG]
      omega
     ·have hN:=h64 hA
      obtain ⟨M,hM⟩:∃ M,M = D[i].toNat % 128 * 2 ^ (7 * i):=⟨_,rfl⟩
      have c3:IntKind.u64.wrap ((D[i].toNat:Int).tmod 128 * 2 ^ (7 * i)) = (M:Int):=by
       have e0:(D[i].toNat:Int).tmod 128 = ((D[i].toNat % 128:Nat):Int):=by rw [Int.tmod_eq_emod_of_nonneg (by omega)];omega
       rw [e0,hM,show ((D[i].toNat % 128:Nat):Int) * 2 ^ (7 * i) = ((D[i].toNat % 128 * 2 ^ (7 * i):Nat):Int) from by simp]
       exact wrap_u64 (by omega)
      obtain ⟨V,hV⟩:∃ V,V = val (D.take (i + 1)):=⟨_,rfl⟩
      have hVM:V = val (D.take i) + M:=by rw [hV,hv,hM]
      have c4:IntKind.u64.wrap ((val (D.take i):Int) + (M:Int)) = (V:Int):=by
       rw [show ((val (D.take i):Int) + (M:Int)) = ((val (D.take i) + M:Nat):Int) from by simp,← hVM];exact wrap_u64 (by omega)
      have hV64:(V:Int)≤18446744073709551615:=by omega
      have hp:vputP (V:Int) = vput V:=by rw [vputP,Int.toNat_natCast]
      have hpl:(vput V).length≤10:=vput_le 9 V (by omega)
      have hpl9:(vput V).length≤1000000000:=by omega
      have h7 : 0≤7 * (i:Int):=by omega
      have hq9:(q:Int)≤1000000000:=by omega
      have hA1:(i:Int) = 9→¬ 1 < (D[i].toNat:Int):=fun h1 h2=>hA ⟨by omega,by omega⟩
      have hA2:((i:Int) = 9→(D[i].toNat:Int)≤1) = True:=eq_true fun h1=>by have:=hA1 h1;omega
      by_cases h128:D[i].toNat < 128
      ·have h128i:(D[i].toNat:Int) < 128:=by omega
       by_cases h00:D[i].toNat = 0∧0 < i
       ·rw [if_pos (.inr h00)] at hG
        have hlt7:(vput V).length≤i:=by
         obtain ⟨k,rfl⟩:∃ k,i = k + 1:=⟨i - 1,by omega⟩
         refine vput_le k V ?_
         have:M = 0:=by rw [hM,h00.1];simp
         omega
        have hne:¬ ((i:Int) + 1 = ((vput V).length:Int)):=by omega
        by_cases hst:standB b q (vput V) = true
        ·simp (config := { maxSteps := 3000000 }) [w1,w2,w3,w4,hi10,hlt1,hlt2,hq3,r1,c1,c2,c3,c4,hV64,hp,hpl9,h7,hq9,hA2,h128i,hst,hne,hG,hl]
        ·have hst':standB b q (vput V) = false:=by simpa using hst
         simp (config := { maxSteps := 3000000 }) [w1,w2,w3,w4,hi10,hlt1,hlt2,hq3,r1,c1,c2,c3,c4,hV64,hp,hpl9,h7,hq9,hA2,h128i,hst',hne,hG,hl]
       ·rw [if_neg (by rintro (h | h);exact hA h;exact h00 h),if_pos h128] at hG
        rw [← hM,← hVM] at hG
        have hpe:vput V = D.take (i + 1):=by
         have:=vput_val (D.take i) D[i] hall h128 (by
          by_cases hc0:D[i].toNat = 0
          ·right;have:i = 0:=by omega
           subst this;simp
          ·exact .inl hc0)
         rw [← List.take_succ_eq_append_getElem hlt] at this
         rw [hV,this]
        have hle1:(vput V).length = i + 1:=by rw [hpe];simp;omega
        have heq:((i:Int) + 1 = ((vput V).length:Int)) = True:=eq_true (by omega)
        have hst:standB b q (vput V) = true:=by
         unfold standB
         rw [hD,hle1,hpe]
         simp;omega
        simp (config := { maxSteps := 3000000 }) [w1,w2,w3,w4,hi10,hlt1,hlt2,hq3,r1,c1,c2,c3,c4,hV64,hp,hpl9,h7,hq9,hA2,h128i,hst,heq,hG,hl]
        omega
      ·have h128i:¬ (D[i].toNat:Int) < 128:=by omega
       rw [if_neg (by rintro (h | h);exact hA h;omega),if_neg h128] at hG
       rw [← hM,← hVM] at hG
       simp (config := { maxSteps := 3000000 }) [w1,w2,w3,w4,hi10,hlt1,hlt2,hq3,r1,c1,c2,c3,c4,hV64,hp,hpl9,h7,hq9,hA2,h128i]
       have hi8:i≤8:=by
        have:¬ i = 9:=fun h9=>hA ⟨h9,by omega⟩
        omega
       have hall':∀ x∈D.take (i + 1),128≤x.toNat:=by
        intro x hx
        rw [List.take_succ_eq_append_getElem hlt,List.mem_append] at hx
        rcases hx with hx | hx
        ·exact hall x hx
        ·simp only [List.mem_singleton] at hx
         subst hx;omega
       exact ⟨fun a1 a2=>absurd a2 (hA1 a1),i + 1,⟨by omega,by omega,hall',by rw [hG,hV]⟩,⟨by rw [hV],by omega⟩,by omega⟩
    ·have hd:D.drop i = []:=by rw [List.drop_eq_nil_iff];omega
     have he:takeG D 0 0 = (0,0,10):=by rw [hG,hd];rfl
     have hlt2:(b.length:Int)≤(q:Int) + i:=by omega
     simp (config := { maxSteps := 3000000 }) [w1,w2,w3,hi10,hlt2,he]
 ·cases h
structure Pn where
 i:Int
 v:Int
 u:Int
 deriving DecidableEq
def rowP (e:Pn):List PV:=[.int .u64 e.i,.int .u64 e.v,.int .u64 e.u]
theorem rowP_inj:∀ a b,rowP a = rowP b→a = b:=by
 rintro ⟨k,n,t⟩ ⟨k',n',t'⟩ h
 simp only [rowP,List.cons.injEq,PV.int.injEq,true_and,and_true] at h
 obtain ⟨h1,h2,h3⟩:=h
 rw [h1,h2,h3]
def rowsP (l:List Pn):List (List PV):=l.map rowP
@[simp] theorem rowsP_nil:rowsP [] = []:=rfl
@[simp] theorem rowsP_length (l:List Pn):(rowsP l).length = l.length:=by simp [rowsP]
theorem rowsP_append (l m:List Pn):rowsP (l ++ m) = rowsP l ++ rowsP m:=by simp [rowsP]
theorem rowsP_three (l:List Pn):∀ r∈rowsP l,r.length = 3:=by
 intro r hr
 simp only [rowsP,List.mem_map] at hr
 obtain ⟨c,_,rfl⟩:=hr
 rfl
theorem rowsP_at {l:List Pn} {i:Nat} (h:i < l.length):rowAt (rowsP l) (i:Int) = [.int .u64 l[i].i,.int .u64 l[i].v,.int .u64 l[i].u]:=by
 simp [rowAt,rowsP,h,rowP]
@[simp] theorem dec_rowsP (l:List Pn):dec rowP (rowsP l) = some l:=dec_map rowP_inj l
theorem dec_rowsP_inv {rows:List (List PV)} {l:List Pn} (h:dec rowP rows = some l):rows = rowsP l:=dec_inv h
theorem flat_rowsP (l:List Pn):flatRows (rowsP l):=by
 intro r hr p hp
 simp only [rowsP,List.mem_map] at hr
 obtain ⟨c,_,rfl⟩:=hr
 simp only [rowP,List.mem_cons,List.not_mem_nil,or_false] at hp
 rcases hp with rfl | rfl | rfl<;>rfl
def riseP (l:List Pn):Bool:=(List.range (l.length - 1)).all fun k=>match l[k]?,l[k + 1]? with
 | some a,some b=>decide (a.i < b.i)
 | _,_=>true
theorem riseP_iff (l:List Pn):riseP l = true↔∀ (k:Nat) (h:k + 1 < l.length),l[k].i < l[k + 1].i:=by
 unfold riseP
 rw [List.all_eq_true]
 constructor
 ·intro h k hk
  have:=h k (by rw [List.mem_range];omega)
  rw [List.getElem?_eq_getElem (by omega),List.getElem?_eq_getElem hk] at this
  simpa using this
 ·intro h k hk
  rw [List.mem_range] at hk
  rw [List.getElem?_eq_getElem (by omega),List.getElem?_eq_getElem (show k + 1 < l.length by omega)]
  simpa using h k (by omega)
theorem riseP_not {l:List Pn} {k:Nat} (h:k + 1 < l.length) (hk:l[k + 1].i≤l[k].i):riseP l = false:=by
 cases hr:riseP l with
 | false=>rfl
 | true=>have:=(riseP_iff l).1 hr k h;omega
noncomputable def GpR:List AV→Option (Prop × AV)
 | [.agg [.pv (.ro a)]]=>(dec rowP a).map fun l=>(l.length≤1000000000,.pv (.bool (riseP l)))
 | _=>none
@[simp] theorem GpR_eq (a:List (List PV)):GpR [.agg [.pv (.ro a)]] = (dec rowP a).map fun l=>(l.length≤1000000000,.pv (.bool (riseP l))):=rfl
noncomputable def GrR:List AV→Option (Prop × AV)
 | [.pv (.ro a)]=>(dec rowP a).map fun l=>(l.length≤1000000000,.pv (.bool (riseP l)))
 | _=>none
@[simp] theorem GrR_eq (a:List (List PV)):GrR [.pv (.ro a)] = (dec rowP a).map fun l=>(l.length≤1000000000,.pv (.bool (riseP l))):=rfl
theorem c_pRight:ConT Try.prog 56 GpR:=by
 intro ys φ r h hφ
 unfold GpR at h
 split at h
 ·rename_i ra
  obtain ⟨a,ha,h⟩:=Option.map_eq_some_iff.1 h
  cases h
  cases dec_rowsP_inv ha
  refine con_of tab_nil (by kernel_rfl) fn56 (by simp) ?_
  unfold body56
  simp (config := { maxSteps := 3000000 })
  refine vwp_loop (fun i:Nat=>i≤a.length∧∀ (k:Nat) (h:k + 1 < a.length),k + 1 < i→a[k].i < a[k + 1].i) (fun i=>⟨[(1,.ptr 1 0),(6,.pv (.int .i64 a.length)),(7,.pv (.int .i64 i))],[(1,.box [.pv (.ro (rowsP a))])]⟩) (fun i=>a.length - i) [] 0 ?_ ?_ ?_
  ·exact ⟨Nat.zero_le _,fun k h h2=>absurd h2 (by omega)⟩
  ·simp
  ·rintro i ⟨hi,ht⟩
   have w2:IntKind.i64.wrap ((i:Int) + 1) = (i:Int) + 1:=wrap_i64 (by omega)
   have w3:IntKind.i64.wrap ((i:Int) - 1) = (i:Int) - 1:=wrap_i64 (by omega)
   by_cases hlt:i < a.length
   ·have r1:=rowsP_at hlt
    by_cases h0:i = 0
    ·subst h0
     have wm:IntKind.i64.wrap (-1) = -1:=wrap_i64 (by omega)
     have rm:rowAt (rowsP a) (-1) = [.int .u64 a[0].i,.int .u64 a[0].v,.int .u64 a[0].u]:=r1
     have rz:rowAt (rowsP a) 0 = [.int .u64 a[0].i,.int .u64 a[0].v,.int .u64 a[0].u]:=r1
     simp (config := { maxSteps := 3000000 }) [hlt,rm,rz,wm]
     exact ⟨1,⟨by omega,fun k h h2=>absurd h2 (by omega)⟩,by rw [wrap_i64 (by omega)];rfl,by omega⟩
    ·obtain ⟨k,hik⟩:∃ k,i = k + 1:=⟨i - 1,by omega⟩
     have hk:k < a.length:=by omega
     have r2:=rowsP_at hk
     have w3:IntKind.i64.wrap ((i:Int) - 1) = (k:Int):=by rw [wrap_i64 (by omega)];omega
     have h0i : 0 < i:=by omega
     simp (config := { maxSteps := 3000000 }) [w2,w3,hlt,hk,r1,r2,h0i]
     subst hik
     refine ⟨fun h=>riseP_not (k:=k) hlt h,fun h=>⟨k + 2,⟨by omega,fun j hj h2=>?_⟩,by omega,by omega⟩⟩
     by_cases hjk:j = k
     ·subst hjk;exact h
     ·exact ht j hj (by omega)
   ·simp (config := { maxSteps := 3000000 }) [hlt]
    rw [riseP_iff]
    exact fun k h=>ht k h (by omega)
 ·cases h
theorem c_rRight:ConT Try.prog 57 GrR:=by
 intro ys φ r h hφ
 unfold GrR at h
 split at h
 ·rename_i ra
  obtain ⟨a,ha,h⟩:=Option.map_eq_some_iff.1 h
  cases h
  cases dec_rowsP_inv ha
  refine con_of tab_nil (by kernel_rfl) fn57 (by simp) ?_
  unfold body57
  simp (config := { maxSteps := 3000000 })
  refine vwp_loop (fun i:Nat=>1≤i∧i≤a.length + 1∧∀ (k:Nat) (h:k + 1 < a.length),k + 1 < i→a[k].i < a[k + 1].i) (fun i=>⟨[(0,.pv (.ro (rowsP a))),(3,.pv (.int .i64 i))],[]⟩) (fun i=>a.length + 1 - i) [] 1 ?_ ?_ ?_
  ·exact ⟨by omega,by omega,fun k h h2=>absurd h2 (by omega)⟩
  ·simp
  ·rintro i ⟨hi1,hi,ht⟩
   obtain ⟨k,hik⟩:∃ k,i = k + 1:=⟨i - 1,by omega⟩
   have w2:IntKind.i64.wrap ((i:Int) + 1) = (i:Int) + 1:=wrap_i64 (by omega)
   have w3:IntKind.i64.wrap ((i:Int) - 1) = (k:Int):=by rw [wrap_i64 (by omega)];omega
   by_cases hlt:i < a.length
   ·have r1:=rowsP_at hlt
    have hk:k < a.length:=by omega
    have r2:=rowsP_at hk
    simp (config := { maxSteps := 3000000 }) [w2,w3,hlt,hk,r1,r2]
    subst hik
    refine ⟨fun h=>riseP_not (k:=k) hlt h,fun h=>⟨k + 2,⟨by omega,by omega,fun j hj h2=>?_⟩,by omega,by omega⟩⟩
    by_cases hjk:j = k
    ·subst hjk;exact h
    ·exact ht j hj (by omega)
   ·simp (config := { maxSteps := 3000000 }) [hlt]
    rw [riseP_iff]
    exact fun k h=>ht k h (by omega)
 ·cases h
noncomputable def GS1:List AV→Option (Prop × AV)
 | [.agg [.pv (.int .u64 a),.pv (.int .u64 b),.pv (.int .u64 c)],.agg [.pv (.int .u64 d),.pv (.int .u64 e),.pv (.int .u64 f)]]=>some (True,.pv (.bool (decide (a = d) && (decide (b = e) && decide (c = f)))))
 | _=>none
@[simp] theorem GS1_eq (a b c d e f:Int):GS1 [.agg [.pv (.int .u64 a),.pv (.int .u64 b),.pv (.int .u64 c)],.agg [.pv (.int .u64 d),.pv (.int .u64 e),.pv (.int .u64 f)]] = some (True,.pv (.bool (decide (a = d) && (decide (b = e) && decide (c = f))))):=rfl
theorem c_S1:ConT Try.prog 108 GS1:=by
 intro ys φ r h hφ
 unfold GS1 at h
 split at h
 ·cases h
  refine con_of tab_nil (by kernel_rfl) fn108 (by simp) ?_
  unfold body108
  simp (config := { maxSteps := 3000000 })
 ·cases h
noncomputable def GrS:List AV→Option (Prop × AV)
 | [.pv (.ro a),.pv (.ro b)]=>(dec rowP a).bind fun la=>(dec rowP b).map fun lb=>(la.length≤1000000000,.pv (.bool (decide (la = lb))))
 | _=>none
@[simp] theorem GrS_eq (a b:List (List PV)):GrS [.pv (.ro a),.pv (.ro b)] = (dec rowP a).bind fun la=>(dec rowP b).map fun lb=>(la.length≤1000000000,.pv (.bool (decide (la = lb)))):=rfl
theorem c_rSame:ConT Try.prog 51 GrS:=by
 intro ys φ r h hφ
 unfold GrS at h
 split at h
 ·rename_i ra rb
  obtain ⟨a,ha,h⟩:=Option.bind_eq_some_iff.1 h
  obtain ⟨b,hb,h⟩:=Option.map_eq_some_iff.1 h
  cases h
  cases dec_rowsP_inv ha
  cases dec_rowsP_inv hb
  refine con_of tab_nil (by kernel_rfl) fn51 (by simp) ?_
  unfold body51
  simp (config := { maxSteps := 3000000 })
  refine ⟨fun hne=>?_,fun hlen=>?_⟩
  ·intro e;exact hne (by rw [e])
  refine vwp_loop (fun i:Nat=>i≤a.length∧a.take i = b.take i) (fun i=>⟨[(0,.pv (.ro (rowsP a))),(1,.pv (.ro (rowsP b))),(5,.pv (.int .i64 i))],[]⟩) (fun i=>a.length - i) [] 0 (by simp) ?_ ?_
  ·simp
  ·rintro i ⟨hi,ht⟩
   have w2:IntKind.i64.wrap ((i:Int) + 1) = (i:Int) + 1:=wrap_i64 (by omega)
   by_cases hlt:i < a.length
   ·have r1:=rowsP_at hlt
    have hlb:i < b.length:=by omega
    have r2:=rowsP_at hlb
    simp (config := { maxSteps := 3000000 }) [w2,hlt,hlb,r1,r2]
    refine ⟨fun hne e=>by subst e;simp at hne,fun h1 h2 h3=>⟨i + 1,⟨by omega,?_⟩,by omega,by omega⟩⟩
    rw [List.take_succ_eq_append_getElem hlt,List.take_succ_eq_append_getElem hlb,ht]
    congr 2
    exact rowP_inj _ _ (by simp only [rowP,h1,h2,h3])
   ·simp (config := { maxSteps := 3000000 }) [hlt]
    rw [List.take_of_length_le (by omega),List.take_of_length_le (by omega)] at ht
    exact ht
 ·cases h
noncomputable def GEq:List AV→Option (Prop × AV)
 | [.pv (.ro a),.pv (.ro b),.clo f []]=>if f = 108 then (dec rowP a).bind fun la=>(dec rowP b).map fun lb=>(la.length≤1000000000,.pv (.bool (decide (la = lb)))) else none
 | _=>none
@[simp] theorem GEq_eq (a b:List (List PV)) (f:FuncId):GEq [.pv (.ro a),.pv (.ro b),.clo f []] = if f = 108 then (dec rowP a).bind fun la=>(dec rowP b).map fun lb=>(la.length≤1000000000,.pv (.bool (decide (la = lb)))) else none:=rfl
theorem isfnS1:isFn Try.prog 108 = true:=by kernel_rfl
theorem c_Eq:ConT Try.prog 107 GEq:=by
 intro ys φ r h hφ
 unfold GEq at h
 split at h
 ·rename_i ra rb f
  split at h
  ·rename_i hf
   subst hf
   obtain ⟨a,ha,h⟩:=Option.bind_eq_some_iff.1 h
   obtain ⟨b,hb,h⟩:=Option.map_eq_some_iff.1 h
   cases h
   cases dec_rowsP_inv ha
   cases dec_rowsP_inv hb
   refine con_of (tab_cons c_S1 tab_nil) (by kernel_rfl) fn107 (by simp) ?_
   unfold body107
   simp (config := { maxSteps := 3000000 })
   refine ⟨fun hne=>?_,fun hlen=>?_⟩
   ·intro e;exact hne (by rw [e])
   refine vwp_loop (fun i:Nat=>i≤a.length∧a.take i = b.take i) (fun i=>⟨[(0,.pv (.ro (rowsP a))),(1,.pv (.ro (rowsP b))),(2,.clo 108 []),(15,.pv (.ro (rowsP a))),(16,.pv (.int .i64 a.length)),(17,.pv (.int .i64 i))],[]⟩) (fun i=>a.length - i) [] 0 (by simp) ?_ ?_
   ·simp
   ·rintro i ⟨hi,ht⟩
    have w2:IntKind.i64.wrap ((i:Int) + 1) = (i:Int) + 1:=wrap_i64 (by omega)
    by_cases hlt:i < a.length
    ·have r1:=rowsP_at hlt
     have hlb:i < b.length:=by omega
     have r2:=rowsP_at hlb
     simp (config := { maxSteps := 3000000 }) [w2,hlt,hlb,r1,r2,isfnS1]
     refine ⟨fun hne e=>by subst e;simp at hne,fun h1 h2 h3=>⟨i + 1,⟨by omega,?_⟩,by omega,by omega⟩⟩
     rw [List.take_succ_eq_append_getElem hlt,List.take_succ_eq_append_getElem hlb,ht]
     congr 2
     exact rowP_inj _ _ (by simp only [rowP,h1,h2,h3])
    ·simp (config := { maxSteps := 3000000 }) [hlt]
     rw [List.take_of_length_le (by omega),List.take_of_length_le (by omega)] at ht
     exact ht
  ·cases h
 ·cases h
noncomputable def GpS:List AV→Option (Prop × AV)
 | [.agg [.pv (.ro a)],.agg [.pv (.ro b)]]=>(dec rowP a).bind fun la=>(dec rowP b).map fun lb=>(la.length≤1000000000,.pv (.bool (decide (la = lb))))
 | _=>none
@[simp] theorem GpS_eq (a b:List (List PV)):GpS [.agg [.pv (.ro a)],.agg [.pv (.ro b)]] = (dec rowP a).bind fun la=>(dec rowP b).map fun lb=>(la.length≤1000000000,.pv (.bool (decide (la = lb)))):=rfl
theorem c_pSame:ConT Try.prog 60 GpS:=by
 intro ys φ r h hφ
 unfold GpS at h
 split at h
 ·rename_i ra rb
  obtain ⟨a,ha,h⟩:=Option.bind_eq_some_iff.1 h
  obtain ⟨b,hb,h⟩:=Option.map_eq_some_iff.1 h
  cases h
  cases dec_rowsP_inv ha
  cases dec_rowsP_inv hb
  refine con_of (tab_cons c_Eq tab_nil) (by kernel_rfl) fn60 (by simp) ?_
  unfold body60
  simp (config := { maxSteps := 3000000 })
  exact hφ
 ·cases h
noncomputable def Gpref:List AV→Option (Prop × AV)
 | [.agg [.pv (.ro a)]]=>(dec rowP a).map fun l=>(l.length≤100000000,.fr 86 (rowsP l))
 | _=>none
@[simp] theorem Gpref_eq (a:List (List PV)):Gpref [.agg [.pv (.ro a)]] = (dec rowP a).map fun l=>(l.length≤100000000,.fr 86 (rowsP l)):=rfl
theorem c_pref:ConT Try.prog 44 Gpref:=by
 intro ys φ r h hφ
 unfold Gpref at h
 split at h
 ·rename_i ra
  obtain ⟨a,ha,h⟩:=Option.map_eq_some_iff.1 h
  cases h
  cases dec_rowsP_inv ha
  refine con_of tab_nil (by kernel_rfl) fn44 (by simp) ?_
  unfold body44
  simp (config := { maxSteps := 3000000 })
  refine vwp_loop (fun i:Nat=>i≤a.length) (fun i=>⟨[(1,.ptr 1 0),(3,.own 3),(4,.pv (.int .i64 i))],[(1,.box [.pv (.ro (rowsP a))]),(3,.arr 86 (rowsP (a.take i)))]⟩) (fun i=>a.length - i) [] 0 (by simp) ?_ ?_
  ·simp
  ·rintro i hi
   have w2:IntKind.i64.wrap ((i:Int) + 1) = (i:Int) + 1:=wrap_i64 (by omega)
   by_cases hlt:i < a.length
   ·have r1:=rowsP_at hlt
    simp (config := { maxSteps := 3000000 }) [w2,hlt,r1,maxLen_eq]
    refine ⟨⟨by omega,by omega⟩,i + 1,by omega,⟨by omega,?_⟩,by omega⟩
    rw [List.take_succ_eq_append_getElem hlt,rowsP_append];rfl
   ·simp (config := { maxSteps := 3000000 }) [hlt]
    rw [List.take_of_length_le (by omega)]
 ·cases h
noncomputable def GpCl:List AV→Option (Prop × AV)
 | [.pv (.ro a)]=>(dec rowP a).map fun l=>(l.length≤100000000,.fr 83 (rowsP l))
 | _=>none
@[simp] theorem GpCl_eq (a:List (List PV)):GpCl [.pv (.ro a)] = (dec rowP a).map fun l=>(l.length≤100000000,.fr 83 (rowsP l)):=rfl
theorem c_pClone:ConT Try.prog 95 GpCl:=by
 intro ys φ r h hφ
 unfold GpCl at h
 split at h
 ·rename_i ra
  obtain ⟨a,ha,h⟩:=Option.map_eq_some_iff.1 h
  cases h
  cases dec_rowsP_inv ha
  refine con_of tab_nil (by kernel_rfl) fn95 (by simp) ?_
  unfold body95
  cases a with
  | nil=>
   simp (config := { maxSteps := 3000000 }) [exNil_eq]
  | cons x l=>
   have hx:rowsP (x :: l) = rowP x :: rowsP l:=rfl
   simp (config := { maxSteps := 3000000 }) [hx,maxLen_eq]
   simp only [List.length_cons] at hφ
   exact ⟨by omega,by omega,rfl,rowsP_three l⟩
 ·cases h
noncomputable def GOf1:List AV→Option (Prop × AV)
 | [.agg [.pv (.int .u64 a),.pv (.int .u64 b),.pv (.int .u64 c)],.rp [.int .u64 n]]=>some (True,.pv (.bool (decide (b = n))))
 | _=>none
@[simp] theorem GOf1_eq (a b c n:Int):GOf1 [.agg [.pv (.int .u64 a),.pv (.int .u64 b),.pv (.int .u64 c)],.rp [.int .u64 n]] = some (True,.pv (.bool (decide (b = n)))):=rfl
theorem c_Of1:ConT Try.prog 106 GOf1:=by
 intro ys φ r h hφ
 unfold GOf1 at h
 split at h
 ·cases h
  refine con_of tab_nil (by kernel_rfl) fn106 (by simp) ?_
  unfold body106
  simp (config := { maxSteps := 3000000 })
 ·cases h
noncomputable def GRm1:List AV→Option (Prop × AV)
 | [.agg [.pv (.int .u64 a),.pv (.int .u64 b),.pv (.int .u64 c)],.rp [.int .u64 n]]=>some (True,.pv (.bool (decide (a = n))))
 | _=>none
@[simp] theorem GRm1_eq (a b c n:Int):GRm1 [.agg [.pv (.int .u64 a),.pv (.int .u64 b),.pv (.int .u64 c)],.rp [.int .u64 n]] = some (True,.pv (.bool (decide (a = n)))):=rfl
theorem c_Rm1:ConT Try.prog 97 GRm1:=by
 intro ys φ r h hφ
 unfold GRm1 at h
 split at h
 ·cases h
  refine con_of tab_nil (by kernel_rfl) fn97 (by simp) ?_
  unfold body97
  simp (config := { maxSteps := 3000000 })
 ·cases h
def isP (f:FuncId) (n:Int) (e:Pn):Bool:=if f = 106 then decide (e.v = n) else decide (e.i = n)
def idxP (p:Pn→Bool) (l:List Pn):Int:=if l.findIdx p < l.length then (l.findIdx p:Nat) else -1
theorem idxP_at {p:Pn→Bool} {l:List Pn} {i:Nat} (hi:i < l.length) (h:p l[i] = true) (ha:∀ e∈l.take i,p e = false):idxP p l = (i:Int):=by
 have:l.findIdx p = i:=by
  rw [List.findIdx_eq hi]
  refine ⟨h,fun j hj=>?_⟩
  exact ha l[j] (by rw [List.mem_take_iff_getElem];exact ⟨j,by omega,rfl⟩)
 unfold idxP
 rw [this,if_pos hi]
theorem idxP_none {p:Pn→Bool} {l:List Pn} (ha:∀ e∈l,p e = false):idxP p l = -1:=by
 have:l.findIdx p = l.length:=by
  rw [List.findIdx_eq_length]
  exact ha
 unfold idxP
 rw [this,if_neg (by omega)]
theorem idxP_neg (p:Pn→Bool) (l:List Pn):(0≤idxP p l) = (l.any p = true):=by
 apply propext
 by_cases h:l.any p = true
 ·obtain ⟨e,he,hr⟩:=List.any_eq_true.1 h
  have:l.findIdx p < l.length:=by
   rw [List.findIdx_lt_length]
   exact ⟨e,he,hr⟩
  unfold idxP
  rw [if_pos this]
  simp [h]
 ·have h':l.any p = false:=by simpa using h
  rw [List.any_eq_false] at h'
  rw [idxP_none fun e he=>by simpa using h' e he]
  simp [h]
noncomputable def GIx:List AV→Option (Prop × AV)
 | [.pv (.ro a),.clo f [.rp [.int .u64 n]]]=>if f = 106∨f = 97 then (dec rowP a).map fun l=>(l.length≤1000000000,.pv (.int .i64 (idxP (isP f n) l))) else none
 | _=>none
@[simp] theorem GIx_eq (a:List (List PV)) (f:FuncId) (n:Int):GIx [.pv (.ro a),.clo f [.rp [.int .u64 n]]] = if f = 106∨f = 97 then (dec rowP a).map fun l=>(l.length≤1000000000,.pv (.int .i64 (idxP (isP f n) l))) else none:=rfl
theorem isfnOf1:isFn Try.prog 106 = true:=by kernel_rfl
theorem isfnRm1:isFn Try.prog 97 = true:=by kernel_rfl
theorem c_Ix:ConT Try.prog 96 GIx:=by
 intro ys φ r h hφ
 unfold GIx at h
 split at h
 ·rename_i ra f n
  split at h
  ·rename_i hf
   obtain ⟨a,ha,h⟩:=Option.map_eq_some_iff.1 h
   cases h
   cases dec_rowsP_inv ha
   have hfn:isFn Try.prog f = true:=by rcases hf with rfl | rfl;exact isfnOf1;exact isfnRm1
   refine con_of (tab_cons c_Of1 (tab_cons c_Rm1 tab_nil)) (by kernel_rfl) fn96 (by simp) ?_
   unfold body96
   simp (config := { maxSteps := 3000000 })
   refine vwp_loop (fun i:Nat=>i≤a.length∧∀ e∈a.take i,isP f n e = false) (fun i=>⟨[(0,.pv (.ro (rowsP a))),(1,.clo f [.rp [.int .u64 n]]),(7,.pv (.int .i64 a.length)),(8,.pv (.int .i64 i))],[]⟩) (fun i=>a.length - i) [] 0 (by simp) ?_ ?_
   ·simp
   ·rintro i ⟨hi,ht⟩
    have w2:IntKind.i64.wrap ((i:Int) + 1) = (i:Int) + 1:=wrap_i64 (by omega)
    by_cases hlt:i < a.length
    ·have r1:=rowsP_at hlt
     have hr:isP f n a[i] = false→∀ e∈a.take (i + 1),isP f n e = false:=by
      intro h0 e he
      rw [List.take_succ_eq_append_getElem hlt,List.mem_append] at he
      rcases he with he | he
      ·exact ht e he
      ·rw [List.mem_singleton] at he;rw [he];exact h0
     rcases hf with rfl | rfl
     ·have hp:isP 106 n a[i] = decide (a[i].v = n):=rfl
      simp (config := { maxSteps := 3000000 }) [w2,hlt,r1,hfn]
      refine ⟨fun h=>(idxP_at hlt (by rw [hp];simpa using h) ht).symm,fun h=>⟨i + 1,⟨by omega,hr (by rw [hp];simpa using h)⟩,by omega,by omega⟩⟩
     ·have hp:isP 97 n a[i] = decide (a[i].i = n):=rfl
      simp (config := { maxSteps := 3000000 }) [w2,hlt,r1,hfn]
      refine ⟨fun h=>(idxP_at hlt (by rw [hp];simpa using h) ht).symm,fun h=>⟨i + 1,⟨by omega,hr (by rw [hp];simpa using h)⟩,by omega,by omega⟩⟩
    ·simp (config := { maxSteps := 3000000 }) [hlt]
     rw [List.take_of_length_le (by omega)] at ht
     exact (idxP_none ht).symm
  ·cases h
 ·cases h
def rowN (n:Int):List PV:=[.int .u64 n]
theorem rowN_inj:∀ a b,rowN a = rowN b→a = b:=by
 intro a b h
 simpa [rowN] using h
def rowsN (l:List Int):List (List PV):=l.map rowN
@[simp] theorem rowsN_nil:rowsN [] = []:=rfl
@[simp] theorem rowsN_length (l:List Int):(rowsN l).length = l.length:=by simp [rowsN]
theorem rowsN_append (l m:List Int):rowsN (l ++ m) = rowsN l ++ rowsN m:=by simp [rowsN]
theorem rowsN_at {l:List Int} {i:Nat} (h:i < l.length):rowAt (rowsN l) (i:Int) = [.int .u64 l[i]]:=by
 simp [rowAt,rowsN,h,rowN]
@[simp] theorem dec_rowsN (l:List Int):dec rowN (rowsN l) = some l:=dec_map rowN_inj l
theorem dec_rowsN_inv {rows:List (List PV)} {l:List Int} (h:dec rowN rows = some l):rows = rowsN l:=dec_inv h
theorem flat_bytes (l:List UInt8):flatRows (bytesRow l):=by
 intro r hr p hp
 simp only [bytesRow,List.mem_map] at hr
 obtain ⟨c,_,rfl⟩:=hr
 simp only [List.mem_singleton] at hp
 subst hp;rfl
theorem flat_rowsN (l:List Int):flatRows (rowsN l):=by
 intro r hr p hp
 simp only [rowsN,List.mem_map] at hr
 obtain ⟨c,_,rfl⟩:=hr
 simp only [rowN,List.mem_singleton] at hp
 subst hp;rfl
def okN (n:Int):Prop:=0≤n∧n≤18446744073709551615
def allL (l:List Int):List UInt8:=l.flatMap vputP
theorem vputP_len {n:Int} (h:okN n):(vputP n).length≤10:=by
 obtain ⟨h1,h2⟩:=h
 unfold vputP
 exact vput_le 9 _ (by omega)
theorem allL_len:∀ {l:List Int},(∀ n∈l,okN n)→(allL l).length≤10 * l.length
 | [],_=>by simp [allL]
 | n :: l,h=>by
  have h1:=vputP_len (h n (by simp))
  have h2:=allL_len (l:=l) fun m hm=>h m (by simp [hm])
  unfold allL at h2 ⊢
  simp only [List.flatMap_cons,List.length_append,List.length_cons]
  omega
theorem allL_snoc (l:List Int) (n:Int):allL (l ++ [n]) = allL l ++ vputP n:=by simp [allL]
noncomputable def GAll:List AV→Option (Prop × AV)
 | [.pv (.ro a)]=>(dec rowN a).map fun l=>(l.length≤1000000∧(∀ n∈l,okN n),.fr 5 (bytesRow (allL l)))
 | _=>none
@[simp] theorem GAll_eq (a:List (List PV)):GAll [.pv (.ro a)] = (dec rowN a).map fun l=>(l.length≤1000000∧(∀ n∈l,okN n),.fr 5 (bytesRow (allL l))):=rfl
theorem c_All:ConT Try.prog 137 GAll:=by
 intro ys φ r h hφ
 unfold GAll at h
 split at h
 ·rename_i ra
  obtain ⟨a,ha,h⟩:=Option.map_eq_some_iff.1 h
  cases h
  cases dec_rowsN_inv ha
  obtain ⟨hl,hn⟩:=hφ
  refine con_of (tab_cons c_put tab_nil) (by kernel_rfl) fn137 (by simp) ?_
  unfold body137
  simp (config := { maxSteps := 3000000 })
  refine vwp_loop (fun i:Nat=>i≤a.length) (fun i=>⟨[(2,.own 2),(5,.pv (.ro (rowsN a))),(6,.pv (.int .i64 a.length)),(7,.pv (.int .i64 i))],[(2,.arr 5 (bytesRow (allL (a.take i))))]⟩) (fun i=>a.length - i) [] 0 (by simp) ?_ ?_
  ·simp [allL]
  ·rintro i hi
   have w2:IntKind.i64.wrap ((i:Int) + 1) = (i:Int) + 1:=wrap_i64 (by omega)
   by_cases hlt:i < a.length
   ·have r1:=rowsN_at hlt
    have ho:=hn _ (List.getElem_mem hlt)
    have h1:=vputP_len ho
    have h2:=allL_len (l:=a.take i) fun n h=>hn n (List.mem_of_mem_take h)
    rw [List.length_take] at h2
    obtain ⟨o1,o2⟩:=ho
    simp (config := { maxSteps := 3000000 }) [w2,hlt,r1,maxLen_eq,o1,o2]
    refine ⟨⟨by omega,by omega,bytesRow_one _⟩,i + 1,by omega,⟨by omega,?_⟩,by omega⟩
    rw [List.take_succ_eq_append_getElem hlt,allL_snoc,bytesRow_append]
   ·simp (config := { maxSteps := 3000000 }) [hlt]
    rw [List.take_of_length_le (by omega)]
 ·cases h
theorem c_rAll:ConT Try.prog 111 GAll:=by
 intro ys φ r h hφ
 unfold GAll at h
 split at h
 ·rename_i ra
  obtain ⟨a,ha,h⟩:=Option.map_eq_some_iff.1 h
  cases h
  cases dec_rowsN_inv ha
  obtain ⟨hl,hn⟩:=hφ
  refine con_of (tab_cons c_rput tab_nil) (by kernel_rfl) fn111 (by simp) ?_
  unfold body111
  simp (config := { maxSteps := 3000000 })
  refine vwp_loop (fun i:Nat=>i≤a.length) (fun i=>⟨[(0,.pv (.ro (rowsN a))),(3,.own 3),(4,.pv (.int .i64 i))],[(3,.arr 5 (bytesRow (allL (a.take i))))]⟩) (fun i=>a.length - i) [] 0 (by simp) ?_ ?_
  ·simp [allL]
  ·rintro i hi
   have w2:IntKind.i64.wrap ((i:Int) + 1) = (i:Int) + 1:=wrap_i64 (by omega)
   by_cases hlt:i < a.length
   ·have r1:=rowsN_at hlt
    have ho:=hn _ (List.getElem_mem hlt)
    have h1:=vputP_len ho
    have h2:=allL_len (l:=a.take i) fun n h=>hn n (List.mem_of_mem_take h)
    rw [List.length_take] at h2
    obtain ⟨o1,o2⟩:=ho
    simp (config := { maxSteps := 3000000 }) [w2,hlt,r1,maxLen_eq,o1,o2]
    refine ⟨⟨by omega,by omega,bytesRow_one _⟩,i + 1,by omega,⟨by omega,?_⟩,by omega⟩
    rw [List.take_succ_eq_append_getElem hlt,allL_snoc,bytesRow_append]
   ·simp (config := { maxSteps := 3000000 }) [hlt]
    rw [List.take_of_length_le (by omega)]
 ·cases h
def okP' (e:Pn):Prop:=okN e.i∧okN e.v∧okN e.u
def pinB (e:Pn):List UInt8:=vputP e.i ++ (vputP e.v ++ vputP e.u)
def pinsB (l:List Pn):List UInt8:=l.flatMap pinB
def putPs (l:List Pn):List UInt8:=vputP l.length ++ pinsB l
theorem pinB_all (e:Pn):allL [e.i,e.v,e.u] = pinB e:=by simp [allL,pinB]
theorem pinB_len {e:Pn} (h:okP' e):(pinB e).length≤30:=by
 have h1:=vputP_len h.1
 have h2:=vputP_len h.2.1
 have h3:=vputP_len h.2.2
 simp [pinB];omega
theorem pinsB_len:∀ {l:List Pn},(∀ n∈l,okP' n)→(pinsB l).length≤30 * l.length
 | [],_=>by simp [pinsB]
 | n :: l,h=>by
  have h1:=pinB_len (h n (by simp))
  have h2:=pinsB_len (l:=l) fun m hm=>h m (by simp [hm])
  unfold pinsB at h2 ⊢
  simp only [List.flatMap_cons,List.length_append,List.length_cons]
  omega
theorem pinsB_snoc (l:List Pn) (n:Pn):pinsB (l ++ [n]) = pinsB l ++ pinB n:=by simp [pinsB]
theorem dec_three (a b c:Int):dec rowN [[.int .u64 a],[.int .u64 b],[.int .u64 c]] = some [a,b,c]:=dec_rowsN [a,b,c]
noncomputable def GpPut:List AV→Option (Prop × AV)
 | [.agg [.pv (.ro a)]]=>(dec rowP a).map fun l=>(l.length≤1000000∧(∀ n∈l,okP' n),.fr 5 (bytesRow (putPs l)))
 | _=>none
@[simp] theorem GpPut_eq (a:List (List PV)):GpPut [.agg [.pv (.ro a)]] = (dec rowP a).map fun l=>(l.length≤1000000∧(∀ n∈l,okP' n),.fr 5 (bytesRow (putPs l))):=rfl
theorem c_pPut:ConT Try.prog 94 GpPut:=by
 intro ys φ r h hφ
 unfold GpPut at h
 split at h
 ·rename_i ra
  obtain ⟨a,ha,h⟩:=Option.map_eq_some_iff.1 h
  cases h
  cases dec_rowsP_inv ha
  obtain ⟨hl,hn⟩:=hφ
  refine con_of (tab_cons c_put (tab_cons c_All tab_nil)) (by kernel_rfl) fn94 (by simp) ?_
  unfold body94
  have wl:IntKind.u64.wrap (a.length:Int) = (a.length:Int):=wrap_u64 (by omega)
  have l0:(0:Int)≤(a.length:Int):=by omega
  have l1:(a.length:Int)≤18446744073709551615:=by omega
  have hv:=vputP_len (n:=(a.length:Int)) ⟨by omega,by omega⟩
  simp (config := { maxSteps := 3000000 }) [wl,l0,l1]
  refine vwp_loop (fun i:Nat=>i≤a.length) (fun i=>⟨[(1,.ptr 1 0),(3,.own 10),(12,.pv (.ro (rowsP a))),(13,.pv (.int .i64 a.length)),(14,.pv (.int .i64 i))],[(1,.box [.pv (.ro (rowsP a))]),(10,.arr 5 (bytesRow (vputP a.length ++ pinsB (a.take i))))]⟩) (fun i=>a.length - i) [] 0 (by simp) ?_ ?_
  ·simp [pinsB]
  ·rintro i hi
   have w2:IntKind.i64.wrap ((i:Int) + 1) = (i:Int) + 1:=wrap_i64 (by omega)
   by_cases hlt:i < a.length
   ·have r1:=rowsP_at hlt
    have ho:=hn _ (List.getElem_mem hlt)
    have h1:=pinB_len ho
    have h2:=pinsB_len (l:=a.take i) fun n h=>hn n (List.mem_of_mem_take h)
    rw [List.length_take] at h2
    obtain ⟨o1,o2,o3⟩:=ho
    simp (config := { maxSteps := 3000000 }) [w2,hlt,r1,maxLen_eq,o1,o2,o3,dec_three,pinB_all]
    refine ⟨flat_bytes _,⟨by omega,by omega,bytesRow_one _⟩,i + 1,by omega,⟨by omega,?_⟩,by omega⟩
    rw [List.take_succ_eq_append_getElem hlt,pinsB_snoc,← List.append_assoc,bytesRow_append (vputP _ ++ _)]
   ·simp (config := { maxSteps := 3000000 }) [hlt]
    rw [List.take_of_length_le (by omega)]
    rfl
 ·cases h
noncomputable def GrPut:List AV→Option (Prop × AV)
 | [.pv (.ro a)]=>(dec rowP a).map fun l=>(l.length≤1000000∧(∀ n∈l,okP' n),.fr 5 (bytesRow (putPs l)))
 | _=>none
@[simp] theorem GrPut_eq (a:List (List PV)):GrPut [.pv (.ro a)] = (dec rowP a).map fun l=>(l.length≤1000000∧(∀ n∈l,okP' n),.fr 5 (bytesRow (putPs l))):=rfl
theorem c_rPut:ConT Try.prog 62 GrPut:=by
 intro ys φ r h hφ
 unfold GrPut at h
 split at h
 ·rename_i ra
  obtain ⟨a,ha,h⟩:=Option.map_eq_some_iff.1 h
  cases h
  cases dec_rowsP_inv ha
  obtain ⟨hl,hn⟩:=hφ
  refine con_of (tab_cons c_rput (tab_cons c_rAll tab_nil)) (by kernel_rfl) fn62 (by simp) ?_
  unfold body62
  have wl:IntKind.u64.wrap (a.length:Int) = (a.length:Int):=wrap_u64 (by omega)
  have l0:(0:Int)≤(a.length:Int):=by omega
  have l1:(a.length:Int)≤18446744073709551615:=by omega
  have hv:=vputP_len (n:=(a.length:Int)) ⟨by omega,by omega⟩
  simp (config := { maxSteps := 3000000 }) [wl,l0,l1]
  refine vwp_loop (fun i:Nat=>i≤a.length) (fun i=>⟨[(0,.pv (.ro (rowsP a))),(3,.own 8),(4,.pv (.int .i64 i))],[(8,.arr 5 (bytesRow (vputP a.length ++ pinsB (a.take i))))]⟩) (fun i=>a.length - i) [] 0 (by simp) ?_ ?_
  ·simp [pinsB]
  ·rintro i hi
   have w2:IntKind.i64.wrap ((i:Int) + 1) = (i:Int) + 1:=wrap_i64 (by omega)
   by_cases hlt:i < a.length
   ·have r1:=rowsP_at hlt
    have ho:=hn _ (List.getElem_mem hlt)
    have h1:=pinB_len ho
    have h2:=pinsB_len (l:=a.take i) fun n h=>hn n (List.mem_of_mem_take h)
    rw [List.length_take] at h2
    obtain ⟨o1,o2,o3⟩:=ho
    simp (config := { maxSteps := 3000000 }) [w2,hlt,r1,maxLen_eq,o1,o2,o3,dec_three,pinB_all]
    refine ⟨flat_bytes _,⟨by omega,by omega,bytesRow_one _⟩,i + 1,by omega,⟨by omega,?_⟩,by omega⟩
    rw [List.take_succ_eq_append_getElem hlt,pinsB_snoc,← List.append_assoc,bytesRow_append (vputP _ ++ _)]
   ·simp (config := { maxSteps := 3000000 }) [hlt]
    rw [List.take_of_length_le (by omega)]
    rfl
 ·cases h
def takeAG (b:List UInt8):Nat→Int→List Int × Int × Int
 | 0,p=>([],p,0)
 | k + 1,p=>if (takeL b p).2.2≠0 then ([],0,(takeL b p).2.2) else
   if (takeAG b k (takeL b p).2.1).2.2≠0 then ([],0,(takeAG b k (takeL b p).2.1).2.2) else ((takeL b p).1 :: (takeAG b k (takeL b p).2.1).1,(takeAG b k (takeL b p).2.1).2.1,0)
def takeA (b:List UInt8) (p:Int) (k:Nat):List Int × Int × Int:=if (takeAG b k p).2.2≠0 then ([],p,(takeAG b k p).2.2) else takeAG b k p
def ahead (L:List Int) (q:List Int × Int × Int):List Int × Int × Int:=if q.2.2≠0 then ([],0,q.2.2) else (L ++ q.1,q.2.1,0)
theorem takeAG_form (b:List UInt8):∀ (k:Nat) (p:Int),(takeAG b k p).2.2≠0→takeAG b k p = ([],0,(takeAG b k p).2.2)
 | 0,p,h=>absurd rfl h
 | k + 1,p,h=>by
  unfold takeAG at h ⊢
  split
  ·rfl
  ·split
   ·rfl
   ·rename_i h1 h2
    rw [if_neg h1,if_neg h2] at h
    exact absurd rfl h
theorem takeAG_ok (b:List UInt8):∀ (k:Nat) (p:Int),(takeAG b k p).2.2 = 0→(takeAG b k p).1.length = k∧(∀ n∈(takeAG b k p).1,okN n)∧p + k≤(takeAG b k p).2.1∧(0 < k→0≤p∧(takeAG b k p).2.1≤b.length)
 | 0,p,h=>by
  refine ⟨rfl,fun n hn=>?_,by simp [takeAG],fun h=>absurd h (by omega)⟩
  simp [takeAG] at hn
 | k + 1,p,h=>by
  unfold takeAG at h ⊢
  split at h
  ·rename_i h1;exact absurd h h1
  ·rename_i h1
   rw [if_neg h1]
   split at h
   ·rename_i h2;exact absurd h h2
   ·rename_i h2
    rw [if_neg h2]
    have e1:(takeL b p).2.2 = 0:=by simpa using h1
    have e2:(takeAG b k (takeL b p).2.1).2.2 = 0:=by simpa using h2
    obtain ⟨g1,g2,g3,g4⟩:=takeAG_ok b k _ e2
    obtain ⟨o1,o2,o3,_⟩:=takeL_ok b p
    obtain ⟨o1,o4,o5⟩:=o1 e1
    refine ⟨by simp [g1],fun n hn=>?_,by simp only;omega,fun _=>⟨o1,?_⟩⟩
    ·simp only [List.mem_cons] at hn
     rcases hn with rfl | hn
     ·exact ⟨o2,o3⟩
     ·exact g2 n hn
    ·by_cases hk : 0 < k
     ·exact (g4 hk).2
     ·have:k = 0:=by omega
      subst this
      exact o5
theorem ahead_nil (b:List UInt8) (k:Nat) (p:Int):ahead [] (takeAG b k p) = takeAG b k p:=by
 unfold ahead
 split
 ·rename_i h;exact (takeAG_form b k p h).symm
 ·rename_i h
  have:(takeAG b k p).2.2 = 0:=by simpa using h
  rw [← this];rfl
theorem ahead_step (b:List UInt8) (L:List Int) (k:Nat) (p:Int) (h:(takeL b p).2.2 = 0):ahead L (takeAG b (k + 1) p) = ahead (L ++ [(takeL b p).1]) (takeAG b k (takeL b p).2.1):=by
 rw [takeAG,if_neg (by simpa using h)]
 by_cases h2:(takeAG b k (takeL b p).2.1).2.2 = 0
 ·rw [if_neg (by simpa using h2)]
  simp [ahead,h2]
 ·rw [if_pos h2]
  simp [ahead,h2]
theorem ahead_err (b:List UInt8) (L:List Int) (k:Nat) (p:Int) (h:(takeL b p).2.2≠0):ahead L (takeAG b (k + 1) p) = ([],0,(takeL b p).2.2):=by
 rw [takeAG,if_pos h]
 simp [ahead,h]
noncomputable def GtA:List AV→Option (Prop × AV)
 | [.pv (.ro b),.pv (.int .i64 p),.pv (.int .i64 k)]=>(dec byteR b).map fun l=>(l.length≤1000000000∧-9223372036854775808≤p∧p≤9223372036854775807∧0≤k∧k≤1000,.tup [.fr 81 (rowsN (takeA l p k.toNat).1),.pv (.int .i64 (takeA l p k.toNat).2.1),.pv (.int .i64 (takeA l p k.toNat).2.2)])
 | _=>none
@[simp] theorem GtA_eq (b:List (List PV)) (p k:Int):GtA [.pv (.ro b),.pv (.int .i64 p),.pv (.int .i64 k)] = (dec byteR b).map fun l=>(l.length≤1000000000∧-9223372036854775808≤p∧p≤9223372036854775807∧0≤k∧k≤1000,.tup [.fr 81 (rowsN (takeA l p k.toNat).1),.pv (.int .i64 (takeA l p k.toNat).2.1),.pv (.int .i64 (takeA l p k.toNat).2.2)]):=rfl
theorem c_takeA:ConT Try.prog 142 GtA:=by
 intro ys φ r h hφ
 unfold GtA at h
 split at h
 ·rename_i rb p K
  obtain ⟨b,hb,h⟩:=Option.map_eq_some_iff.1 h
  cases h
  cases dec_bytes_inv hb
  obtain ⟨hl,hp1,hp2,hk1,hk2⟩:=hφ
  obtain ⟨k,rfl⟩:=Int.eq_ofNat_of_zero_le hk1
  have hkk:((k:Nat):Int).toNat = k:=by simp
  rw [hkk]
  have hT:takeA b p k = if (takeAG b k p).2.2≠0 then ([],p,(takeAG b k p).2.2) else takeAG b k p:=rfl
  generalize takeA b p k = T at *
  refine con_of (tab_cons c_take tab_nil) (by kernel_rfl) fn142 (by simp) ?_
  unfold body142
  simp (config := { maxSteps := 3000000 })
  refine vwp_loop (fun x:Nat × Int × List Int=>x.1≤k∧x.2.2.length = x.1∧-9223372036854775808≤x.2.1∧x.2.1≤9223372036854775807∧takeAG b k p = ahead x.2.2 (takeAG b (k - x.1) x.2.1))
   (fun x=>⟨[(0,.pv (.ro (bytesRow b))),(1,.pv (.int .i64 p)),(6,.own 6),(7,.pv (.int .i64 x.2.1)),(13,.pv (.int .i64 k)),(14,.pv (.int .i64 x.1))],[(6,.arr 81 (rowsN x.2.2))]⟩) (fun x=>k - x.1) [] (0,p,[]) ?_ ?_ ?_
  ·exact ⟨Nat.zero_le _,rfl,hp1,hp2,by rw [ahead_nil];rfl⟩
  ·simp
  ·rintro ⟨i,q,L⟩ ⟨hi,hL,hq1,hq2,hG⟩
   dsimp only at hi hL hq1 hq2 hG
   have w2:IntKind.i64.wrap ((i:Int) + 1) = (i:Int) + 1:=wrap_i64 (by omega)
   by_cases hlt:i < k
   ·have hlti:(i:Int) < (k:Int):=by omega
    obtain ⟨m,hm⟩:∃ m,k - i = m + 1:=⟨k - i - 1,by omega⟩
    rw [hm] at hG
    obtain ⟨k1,k2,k3,k4,k5⟩:=takeL_ok b q
    by_cases he:(takeL b q).2.2 = 0
    ·obtain ⟨j1,j2,j3⟩:=k1 he
     rw [ahead_step b L m q he] at hG
     simp (config := { maxSteps := 3000000 }) [w2,hlti,hl,hq1,hq2,he,maxLen_eq]
     exact ⟨⟨by omega,by omega⟩,i + 1,(takeL b q).2.1,L ++ [(takeL b q).1],⟨by omega,by simp [hL],by omega,by omega,by rw [hG,show k - (i + 1) = m from by omega]⟩,⟨⟨rfl,by omega⟩,by rw [rowsN_append];rfl⟩,by omega⟩
    ·rw [ahead_err b L m q he] at hG
     have hTe:T = ([],p,(takeL b q).2.2):=by rw [hT,hG];simp [he]
     simp (config := { maxSteps := 3000000 }) [w2,hlti,hl,hq1,hq2,he,hTe]
   ·have hltn:¬ (i:Int) < (k:Int):=by omega
    have hik:k - i = 0:=by omega
    rw [hik] at hG
    have hTe:T = (L,q,0):=by rw [hT,hG];simp [ahead,takeAG]
    simp (config := { maxSteps := 3000000 }) [hltn,hTe]
 ·cases h
theorem c_rtakeA:ConT Try.prog 145 GtA:=by
 intro ys φ r h hφ
 unfold GtA at h
 split at h
 ·rename_i rb p K
  obtain ⟨b,hb,h⟩:=Option.map_eq_some_iff.1 h
  cases h
  cases dec_bytes_inv hb
  obtain ⟨hl,hp1,hp2,hk1,hk2⟩:=hφ
  obtain ⟨k,rfl⟩:=Int.eq_ofNat_of_zero_le hk1
  have hkk:((k:Nat):Int).toNat = k:=by simp
  rw [hkk]
  have hT:takeA b p k = if (takeAG b k p).2.2≠0 then ([],p,(takeAG b k p).2.2) else takeAG b k p:=rfl
  generalize takeA b p k = T at *
  refine con_of (tab_cons c_rtake tab_nil) (by kernel_rfl) fn145 (by simp) ?_
  unfold body145
  simp (config := { maxSteps := 3000000 })
  refine vwp_loop (fun x:Nat × Int × List Int=>x.1≤k∧x.2.2.length = x.1∧-9223372036854775808≤x.2.1∧x.2.1≤9223372036854775807∧takeAG b k p = ahead x.2.2 (takeAG b (k - x.1) x.2.1))
   (fun x=>⟨[(0,.pv (.ro (bytesRow b))),(1,.pv (.int .i64 p)),(2,.pv (.int .i64 k)),(9,.own 9),(10,.pv (.int .i64 x.2.1)),(11,.pv (.int .i64 x.1))],[(9,.arr 81 (rowsN x.2.2))]⟩) (fun x=>k - x.1) [] (0,p,[]) ?_ ?_ ?_
  ·exact ⟨Nat.zero_le _,rfl,hp1,hp2,by rw [ahead_nil];rfl⟩
  ·simp
  ·rintro ⟨i,q,L⟩ ⟨hi,hL,hq1,hq2,hG⟩
   dsimp only at hi hL hq1 hq2 hG
   have w2:IntKind.i64.wrap ((i:Int) + 1) = (i:Int) + 1:=wrap_i64 (by omega)
   by_cases hlt:i < k
   ·have hlti:(i:Int) < (k:Int):=by omega
    obtain ⟨m,hm⟩:∃ m,k - i = m + 1:=⟨k - i - 1,by omega⟩
    rw [hm] at hG
    obtain ⟨k1,k2,k3,k4,k5⟩:=takeL_ok b q
    by_cases he:(takeL b q).2.2 = 0
    ·obtain ⟨j1,j2,j3⟩:=k1 he
     rw [ahead_step b L m q he] at hG
     simp (config := { maxSteps := 3000000 }) [w2,hlti,hl,hq1,hq2,he,maxLen_eq]
     exact ⟨⟨by omega,by omega⟩,i + 1,(takeL b q).2.1,L ++ [(takeL b q).1],⟨by omega,by simp [hL],by omega,by omega,by rw [hG,show k - (i + 1) = m from by omega]⟩,⟨⟨rfl,by omega⟩,by rw [rowsN_append];rfl⟩,by omega⟩
    ·rw [ahead_err b L m q he] at hG
     have hTe:T = ([],p,(takeL b q).2.2):=by rw [hT,hG];simp [he]
     simp (config := { maxSteps := 3000000 }) [w2,hlti,hl,hq1,hq2,he,hTe]
   ·have hltn:¬ (i:Int) < (k:Int):=by omega
    have hik:k - i = 0:=by omega
    rw [hik] at hG
    have hTe:T = (L,q,0):=by rw [hT,hG];simp [ahead,takeAG]
    simp (config := { maxSteps := 3000000 }) [hltn,hTe]
 ·cases h
def pnOf:List Int→Pn
 | [a,b,c]=>⟨a,b,c⟩
 | _=>⟨0,0,0⟩
def takePG (b:List UInt8):Nat→Int→Int→List Pn × Int × Int
 | 0,_,q=>([],q,0)
 | f + 1,n,q=>if n≤0 then ([],q,0) else if (takeAG b 3 q).2.2≠0 then ([],0,(takeAG b 3 q).2.2) else
   if (takePG b f (n - 1) (takeAG b 3 q).2.1).2.2≠0 then ([],0,(takePG b f (n - 1) (takeAG b 3 q).2.1).2.2)
   else (pnOf (takeAG b 3 q).1 :: (takePG b f (n - 1) (takeAG b 3 q).2.1).1,(takePG b f (n - 1) (takeAG b 3 q).2.1).2.1,0)
def takeP (b:List UInt8) (p:Int):List Pn × Int × Int:=
 if (takeL b p).2.2≠0 then ([],p,(takeL b p).2.2) else
  if (takePG b (b.length + 1) (takeL b p).1 (takeL b p).2.1).2.2≠0 then ([],p,(takePG b (b.length + 1) (takeL b p).1 (takeL b p).2.1).2.2) else
   if riseP (takePG b (b.length + 1) (takeL b p).1 (takeL b p).2.1).1 = false then ([],p,2) else takePG b (b.length + 1) (takeL b p).1 (takeL b p).2.1
def aheadP (L:List Pn) (q:List Pn × Int × Int):List Pn × Int × Int:=if q.2.2≠0 then ([],0,q.2.2) else (L ++ q.1,q.2.1,0)
theorem takePG_form (b:List UInt8):∀ (k:Nat) (n p:Int),(takePG b k n p).2.2≠0→takePG b k n p = ([],0,(takePG b k n p).2.2)
 | 0,n,p,h=>absurd rfl h
 | k + 1,n,p,h=>by
  unfold takePG at h ⊢
  split
  ·rename_i h0;rw [if_pos h0] at h;exact absurd rfl h
  ·rename_i h0
   rw [if_neg h0] at h
   split
   ·rfl
   ·split
    ·rfl
    ·rename_i h1 h2
     rw [if_neg h1,if_neg h2] at h
     exact absurd rfl h
theorem aheadP_nil (b:List UInt8) (k:Nat) (n p:Int):aheadP [] (takePG b k n p) = takePG b k n p:=by
 unfold aheadP
 split
 ·rename_i h;exact (takePG_form b k n p h).symm
 ·rename_i h
  have:(takePG b k n p).2.2 = 0:=by simpa using h
  rw [← this];rfl
theorem aheadP_step (b:List UInt8) (L:List Pn) (k:Nat) (n p:Int) (hn : 0 < n) (h:(takeAG b 3 p).2.2 = 0):aheadP L (takePG b (k + 1) n p) = aheadP (L ++ [pnOf (takeAG b 3 p).1]) (takePG b k (n - 1) (takeAG b 3 p).2.1):=by
 rw [takePG,if_neg (by omega),if_neg (by simpa using h)]
 by_cases h2:(takePG b k (n - 1) (takeAG b 3 p).2.1).2.2 = 0
 ·rw [if_neg (by simpa using h2)]
  simp [aheadP,h2]
 ·rw [if_pos h2]
  simp [aheadP,h2]
theorem aheadP_err (b:List UInt8) (L:List Pn) (k:Nat) (n p:Int) (hn : 0 < n) (h:(takeAG b 3 p).2.2≠0):aheadP L (takePG b (k + 1) n p) = ([],0,(takeAG b 3 p).2.2):=by
 rw [takePG,if_neg (by omega),if_pos h]
 simp [aheadP,h]
theorem aheadP_end (b:List UInt8) (L:List Pn) (k:Nat) (n p:Int) (hn:n≤0):aheadP L (takePG b k n p) = (L,p,0):=by
 cases k with
 | zero=>simp [takePG,aheadP]
 | succ k=>rw [takePG,if_pos hn];simp [aheadP]
theorem takeA_three {b:List UInt8} {q:Int} (h:(takeAG b 3 q).2.2 = 0):∃ x y z,(takeAG b 3 q).1 = [x,y,z]∧okN x∧okN y∧okN z:=by
 obtain ⟨h1,h2,_⟩:=takeAG_ok b 3 q h
 match hl:(takeAG b 3 q).1,h1 with
 | [x,y,z],_=>
  rw [hl] at h2
  exact ⟨x,y,z,rfl,h2 x (by simp),h2 y (by simp),h2 z (by simp)⟩
noncomputable def GrTk:List AV→Option (Prop × AV)
 | [.pv (.ro b),.pv (.int .i64 p)]=>(dec byteR b).map fun l=>(l.length≤100000000∧-9223372036854775808≤p∧p≤9223372036854775807,.tup [.fr 86 (rowsP (takeP l p).1),.pv (.int .i64 (takeP l p).2.1),.pv (.int .i64 (takeP l p).2.2)])
 | _=>none
@[simp] theorem GrTk_eq (b:List (List PV)) (p:Int):GrTk [.pv (.ro b),.pv (.int .i64 p)] = (dec byteR b).map fun l=>(l.length≤100000000∧-9223372036854775808≤p∧p≤9223372036854775807,.tup [.fr 86 (rowsP (takeP l p).1),.pv (.int .i64 (takeP l p).2.1),.pv (.int .i64 (takeP l p).2.2)]):=rfl
theorem c_rTk:ConT Try.prog 112 GrTk:=by
 intro ys φ r h hφ
 unfold GrTk at h
 split at h
 ·rename_i rb p
  obtain ⟨b,hb,h⟩:=Option.map_eq_some_iff.1 h
  cases h
  cases dec_bytes_inv hb
  obtain ⟨hl8,hp1,hp2⟩:=hφ
  have hl:b.length≤1000000000:=by omega
  refine con_of (tab_cons c_rtake (tab_cons c_rtakeA (tab_cons c_rRight tab_nil))) (by kernel_rfl) fn112 (by simp) ?_
  unfold body112
  by_cases he:(takeL b p).2.2 = 0
  ·have hT:takeP b p = if (takePG b (b.length + 1) (takeL b p).1 (takeL b p).2.1).2.2≠0 then ([],p,(takePG b (b.length + 1) (takeL b p).1 (takeL b p).2.1).2.2) else
     if riseP (takePG b (b.length + 1) (takeL b p).1 (takeL b p).2.1).1 = false then ([],p,2) else takePG b (b.length + 1) (takeL b p).1 (takeL b p).2.1:=by
    unfold takeP;rw [if_neg (by simpa using he)]
   obtain ⟨k1,k2,k3,k4,k5⟩:=takeL_ok b p
   obtain ⟨j1,j2,j3⟩:=k1 he
   generalize hP:takeP b p = T at *
   simp (config := { maxSteps := 3000000 }) [hl,hp1,hp2,he]
   generalize (takeL b p).1 = n at *
   generalize (takeL b p).2.1 = q0 at *
   refine vwp_loop (fun x:Nat × Int × List Pn=>(x.2.2.length:Int)≤n∧0≤x.2.1∧x.2.1≤b.length∧(b.length:Int) < x.1 + x.2.1∧x.2.2.length≤x.2.1∧takePG b (b.length + 1) n q0 = aheadP x.2.2 (takePG b x.1 (n - x.2.2.length) x.2.1))
    (fun x=>⟨[(0,.pv (.ro (bytesRow b))),(1,.pv (.int .i64 p)),(7,.pv (.int .u64 n)),(8,.pv (.int .i64 x.2.1)),(10,.own 10)],[(10,.arr 86 (rowsP x.2.2))]⟩) (fun x=>(b.length - x.2.1).toNat) [] (b.length + 1,q0,[]) ?_ ?_ ?_
   ·exact ⟨by simpa using k2,by show 0≤q0;omega,j3,by simp;omega,by simp;omega,by rw [aheadP_nil];simp⟩
   ·simp
   ·rintro ⟨f,q,acc⟩ ⟨hn,hq0,hq1,hf,hacc,hG⟩
    dsimp only at hn hq0 hq1 hf hacc hG
    have wl:IntKind.u64.wrap (acc.length:Int) = (acc.length:Int):=wrap_u64 (by omega)
    have hq2 : -9223372036854775808≤q:=by omega
    have hq3:q≤9223372036854775807:=by omega
    by_cases hlt:(acc.length:Int) < n
    ·obtain ⟨f,rfl⟩:∃ g,f = g + 1:=⟨f - 1,by omega⟩
     have h3:(3:Int).toNat = 3:=rfl
     by_cases h0:(takeAG b 3 q).2.2 = 0
     ·obtain ⟨x,y,z,hx,o1,o2,o3⟩:=takeA_three h0
      obtain ⟨_,_,g3,g4⟩:=takeAG_ok b 3 q h0
      have g4:=(g4 (by omega)).2
      have hA:takeA b q 3 = ([x,y,z],(takeAG b 3 q).2.1,0):=by
       unfold takeA;rw [if_neg (by simpa using h0),← hx,← h0]
      rw [aheadP_step b acc f (n - acc.length) q (by omega) h0,hx] at hG
      have hr:rowsN [x,y,z] = [[.int .u64 x],[.int .u64 y],[.int .u64 z]]:=rfl
      have r0:rowAt [[PV.int .u64 x],[.int .u64 y],[.int .u64 z]] 0 = [.int .u64 x]:=rfl
      have r1:rowAt [[PV.int .u64 x],[.int .u64 y],[.int .u64 z]] 1 = [.int .u64 y]:=rfl
      have r2:rowAt [[PV.int .u64 x],[.int .u64 y],[.int .u64 z]] 2 = [.int .u64 z]:=rfl
      simp (config := { maxSteps := 3000000 }) [wl,hlt,hl,hq2,hq3,h3,hA,hr,maxLen_eq,r0,r1,r2]
      refine ⟨by omega,f,(takeAG b 3 q).2.1,acc ++ [pnOf [x,y,z]],?_⟩
      have hlen:((acc ++ [pnOf [x,y,z]]).length:Int) = acc.length + 1:=by simp
      have hi:n - ((acc ++ [pnOf [x,y,z]]).length:Int) = n - acc.length - 1:=by omega
      refine ⟨⟨by omega,by omega,g4,by omega,by omega,by rw [hi];exact hG⟩,⟨rfl,?_⟩,by omega⟩
      rw [rowsP_append];rfl
     ·have hA:takeA b q 3 = ([],q,(takeAG b 3 q).2.2):=by unfold takeA;rw [if_pos h0]
      rw [aheadP_err b acc f _ q (by omega) h0] at hG
      have hTe:T = ([],p,(takeAG b 3 q).2.2):=by rw [hT,hG];simp [h0]
      simp (config := { maxSteps := 3000000 }) [wl,hlt,hl,hq2,hq3,h3,hA,h0,hTe]
    ·have hle:n - acc.length≤0:=by omega
     rw [aheadP_end b acc f _ q hle] at hG
     have ha9:acc.length≤1000000000:=by omega
     by_cases hrs:riseP acc = false
     ·have hTe:T = ([],p,2):=by rw [hT,hG];simp [hrs]
      simp (config := { maxSteps := 3000000 }) [wl,hlt,ha9,hrs,hTe]
     ·have hrs':riseP acc = true:=by simpa using hrs
      have hTe:T = (acc,q,0):=by rw [hT,hG];simp [hrs']
      simp (config := { maxSteps := 3000000 }) [wl,hlt,ha9,hrs',hTe]
  ·have hT:takeP b p = ([],p,(takeL b p).2.2):=by unfold takeP;rw [if_pos he]
   simp (config := { maxSteps := 3000000 }) [hl,hp1,hp2,he,hT]
 ·cases h
def finP (p:Int) (R:List Pn × Int × Int):List Pn × Int × Int:=if R.2.2≠0 then ([],p,R.2.2) else if riseP R.1 = false then ([],p,2) else R
theorem takeP_fin (b:List UInt8) (p:Int) (h:(takeL b p).2.2 = 0):takeP b p = finP p (takePG b (b.length + 1) (takeL b p).1 (takeL b p).2.1):=by
 unfold takeP;rw [if_neg (by simpa using h)];rfl
def osP:List Pn→List (Nat × AO)
 | []=>[(4,.box [.pv .nil])]
 | x :: l=>[(4,.box [.own 44]),(44,.arr 83 (rowsP (x :: l)))]
noncomputable def GpTk:List AV→Option (Prop × AV)
 | [.pv (.ro b),.pv (.int .i64 p)]=>(dec byteR b).map fun l=>(l.length≤100000000∧-9223372036854775808≤p∧p≤9223372036854775807,.tup [.agg [.fr 83 (rowsP (takeP l p).1)],.pv (.int .i64 (takeP l p).2.1),.pv (.int .i64 (takeP l p).2.2)])
 | _=>none
@[simp] theorem GpTk_eq (b:List (List PV)) (p:Int):GpTk [.pv (.ro b),.pv (.int .i64 p)] = (dec byteR b).map fun l=>(l.length≤100000000∧-9223372036854775808≤p∧p≤9223372036854775807,.tup [.agg [.fr 83 (rowsP (takeP l p).1)],.pv (.int .i64 (takeP l p).2.1),.pv (.int .i64 (takeP l p).2.2)]):=rfl
theorem c_pTk:ConT Try.prog 109 GpTk:=by
 intro ys φ r h hφ
 unfold GpTk at h
 split at h
 ·rename_i rb p
  obtain ⟨b,hb,h⟩:=Option.map_eq_some_iff.1 h
  cases h
  cases dec_bytes_inv hb
  obtain ⟨hl8,hp1,hp2⟩:=hφ
  have hl:b.length≤1000000000:=by omega
  refine con_of (tab_cons c_take (tab_cons c_takeA (tab_cons c_pRight tab_nil))) (by kernel_rfl) fn109 (by simp) ?_
  unfold body109
  obtain ⟨k1,k2,k3,k4,k5⟩:=takeL_ok b p
  have hT1:=takeP_fin b p
  have hT2:(takeL b p).2.2≠0→takeP b p = ([],p,(takeL b p).2.2):=fun h=>by unfold takeP;rw [if_pos h]
  generalize hP:takeP b p = T at *
  simp (config := { maxSteps := 3000000 }) [hl,hp1,hp2]
  generalize (takeL b p).1 = n at *
  generalize (takeL b p).2.1 = q0 at *
  generalize (takeL b p).2.2 = e0 at *
  have h3:(3:Int).toNat = 3:=rfl
  have hinf:(Try.prog.info? 83).isSome = true:=by kernel_rfl
  refine vwp_loop (fun x:Nat × Int × List Pn × Int × Int=>0≤x.2.2.2.1∧x.2.2.2.1≤18446744073709551615∧-9223372036854775808≤x.2.1∧x.2.1≤9223372036854775807 ∧
    (x.2.2.2.2 = 0→T = finP p (aheadP x.2.2.1 (takePG b x.1 x.2.2.2.1 x.2.1))∧0≤x.2.1∧x.2.1≤b.length∧(b.length:Int) < x.1 + x.2.1∧(x.2.2.1.length:Int)≤x.2.1)∧(x.2.2.2.2≠0→T = ([],p,x.2.2.2.2)))
   (fun x=>⟨[(0,.pv (.ro (bytesRow b))),(1,.pv (.int .i64 p)),(4,.ptr 4 0),(5,.pv (.int .i64 x.2.1)),(6,.pv (.int .i64 x.2.2.2.2)),(7,.pv (.int .u64 x.2.2.2.1))],osP x.2.2.1⟩)
   (fun x=>if x.2.2.2.2 = 0 then (b.length - x.2.1).toNat + 1 else 0) [] (b.length + 1,q0,[],n,e0) ?_ ?_ ?_
  ·refine ⟨k2,k3,?_,?_,fun h=>⟨?_,?_⟩,hT2⟩
   ·show -9223372036854775808≤q0
    by_cases he:e0 = 0
    ·have:=k1 he;omega
    ·have:=k4 he;omega
   ·show q0≤9223372036854775807
    by_cases he:e0 = 0
    ·have:=k1 he;omega
    ·have:=k4 he;omega
   ·rw [aheadP_nil];exact hT1 h
   ·have:=k1 h
    exact ⟨by show 0≤q0;omega,by show q0≤b.length;omega,by show (b.length:Int) < (b.length + 1:Nat) + q0;omega,by show (0:Int)≤q0;omega⟩
  ·simp [osP]
  ·rintro ⟨f,q,acc,m,e⟩ ⟨hm0,hm1,hq1,hq2,hz,hnz⟩
   dsimp only at hm0 hm1 hq1 hq2 hz hnz
   by_cases he:e = 0
   ·subst he
    obtain ⟨hG,g1,g2,g3,g4⟩:=hz rfl
    clear hz hnz
    have hacc:acc.length≤1000000000:=by omega
    by_cases hlt : 0 < m
    ·obtain ⟨f,rfl⟩:∃ g,f = g + 1:=⟨f - 1,by omega⟩
     have wl:IntKind.u64.wrap (m - 1) = m - 1:=wrap_u64 (by omega)
     by_cases h0:(takeAG b 3 q).2.2 = 0
     ·obtain ⟨x,y,z,hx,o1,o2,o3⟩:=takeA_three h0
      obtain ⟨_,_,i3,i4⟩:=takeAG_ok b 3 q h0
      have i4:=(i4 (by omega)).2
      have hA:takeA b q 3 = ([x,y,z],(takeAG b 3 q).2.1,0):=by
       unfold takeA;rw [if_neg (by simpa using h0),← hx,← h0]
      rw [aheadP_step b acc f m q hlt h0,hx] at hG
      have hr:rowsN [x,y,z] = [[.int .u64 x],[.int .u64 y],[.int .u64 z]]:=rfl
      have r0:rowAt [[PV.int .u64 x],[.int .u64 y],[.int .u64 z]] 0 = [.int .u64 x]:=rfl
      have r1:rowAt [[PV.int .u64 x],[.int .u64 y],[.int .u64 z]] 1 = [.int .u64 y]:=rfl
      have r2:rowAt [[PV.int .u64 x],[.int .u64 y],[.int .u64 z]] 2 = [.int .u64 z]:=rfl
      cases acc with
      | nil=>
       simp (config := { maxSteps := 3000000 }) [wl,hlt,hl,hq1,hq2,h3,hA,hr,maxLen_eq,r0,r1,r2,hinf,osP]
       refine ⟨f,(takeAG b 3 q).2.1,[pnOf [x,y,z]],m - 1,0,⟨by omega,by omega,by omega,by omega,fun _=>⟨hG,by omega,i4,by omega,by simp;omega⟩,fun h=>absurd rfl h⟩,⟨⟨?_,rfl,rfl,rfl⟩,?_⟩,?_⟩
       ·simp
       ·simp [rowsP,rowP,pnOf]
       ·rw [if_pos rfl];omega
      | cons c acc=>
       simp (config := { maxSteps := 3000000 }) [wl,hlt,hl,hq1,hq2,h3,hA,hr,maxLen_eq,r0,r1,r2,hinf,osP]
       simp only [List.length_cons] at hacc g4
       refine ⟨⟨by omega,by omega⟩,f,(takeAG b 3 q).2.1,c :: (acc ++ [pnOf [x,y,z]]),m - 1,0,⟨by omega,by omega,by omega,by omega,fun _=>⟨hG,by omega,i4,by omega,by simp;omega⟩,fun h=>absurd rfl h⟩,⟨⟨?_,rfl,rfl,rfl⟩,?_⟩,?_⟩
       ·simp
       ·simp [rowsP,rowP,pnOf]
       ·rw [if_pos rfl];omega
     ·have hA:takeA b q 3 = ([],q,(takeAG b 3 q).2.2):=by unfold takeA;rw [if_pos h0]
      rw [aheadP_err b acc f m q hlt h0] at hG
      have hTe:T = ([],p,(takeAG b 3 q).2.2):=by rw [hG];simp [finP,h0]
      cases acc with
      | nil=>
       simp (config := { maxSteps := 3000000 }) [wl,hlt,hl,hq1,hq2,h3,hA,h0,hinf,osP]
       refine ⟨f,q,[],m,(takeAG b 3 q).2.2,⟨hm0,hm1,hq1,hq2,fun h=>absurd h h0,fun _=>hTe⟩,⟨⟨?_,rfl,rfl,rfl⟩,?_⟩,?_⟩
       ·simp
       ·simp
       ·rw [if_neg h0];omega
      | cons c acc=>
       simp (config := { maxSteps := 3000000 }) [wl,hlt,hl,hq1,hq2,h3,hA,h0,hinf,osP]
       refine ⟨f,q,c :: acc,m,(takeAG b 3 q).2.2,⟨hm0,hm1,hq1,hq2,fun h=>absurd h h0,fun _=>hTe⟩,⟨⟨?_,rfl,rfl,rfl⟩,?_⟩,?_⟩
       ·simp
       ·simp
       ·rw [if_neg h0];omega
    ·rw [aheadP_end b acc f m q (by omega)] at hG
     by_cases hrs:riseP acc = false
     ·have hTe:T = ([],p,2):=by rw [hG];simp [finP,hrs]
      cases acc with
      | nil=>cases hrs
      | cons c acc=>
       simp (config := { maxSteps := 3000000 }) [hlt,hacc,hrs,hTe,hinf,osP]
       simp only [List.length_cons] at hacc
       omega
     ·have hrs':riseP acc = true:=by simpa using hrs
      have hTe:T = (acc,q,0):=by rw [hG];simp [finP,hrs']
      cases acc with
      | nil=>
       simp (config := { maxSteps := 3000000 }) [hlt,hacc,hrs',hTe,hinf,osP]
      | cons c acc=>
       simp (config := { maxSteps := 3000000 }) [hlt,hacc,hrs',hTe,hinf,osP]
       simp only [List.length_cons] at hacc
       omega
   ·have hTe:=hnz he
    cases acc with
    | nil=>
     simp (config := { maxSteps := 3000000 }) [he,hTe,hinf,osP]
    | cons c acc=>
     simp (config := { maxSteps := 3000000 }) [he,hTe,hinf,osP]
 ·cases h
def pastB (n u s:Int):Bool:=decide (u + s < n)
noncomputable def GPast:List AV→Option (Prop × AV)
 | [.pv (.int .u64 n),.pv (.int .u64 u),.pv (.int .u64 s)]=>some (okN n∧okN u∧okN s,.pv (.bool (pastB n u s)))
 | _=>none
@[simp] theorem GPast_eq (n u s:Int):GPast [.pv (.int .u64 n),.pv (.int .u64 u),.pv (.int .u64 s)] = some (okN n∧okN u∧okN s,.pv (.bool (pastB n u s))):=rfl
theorem c_past:ConT Try.prog 100 GPast:=by
 intro ys φ r h hφ
 unfold GPast at h
 split at h
 ·rename_i n u s
  cases h
  obtain ⟨⟨n1,n2⟩,⟨u1,u2⟩,⟨s1,s2⟩⟩:=hφ
  refine con_of tab_nil (by kernel_rfl) fn100 (by simp) ?_
  unfold body100
  unfold pastB
  by_cases hc:u + s < 18446744073709551616
  ·have e1:(u + s) / 18446744073709551616 = 0:=by omega
   have e2:(u + s) % 18446744073709551616 = u + s:=by omega
   simp (config := { maxSteps := 3000000 }) [e1,e2,u1,s1]
  ·have e1:(u + s) / 18446744073709551616 = 1:=by omega
   have e2:¬ (u + s < n):=by omega
   simp (config := { maxSteps := 3000000 }) [e1,e2,u1,s1]
 ·cases h
theorem c_rpast:ConT Try.prog 104 GPast:=by
 intro ys φ r h hφ
 unfold GPast at h
 split at h
 ·rename_i n u s
  cases h
  obtain ⟨⟨n1,n2⟩,⟨u1,u2⟩,⟨s1,s2⟩⟩:=hφ
  refine con_of tab_nil (by kernel_rfl) fn104 (by simp) ?_
  unfold body104
  unfold pastB
  have w1:IntKind.u64.wrap (18446744073709551615 - u) = 18446744073709551615 - u:=wrap_u64 (by omega)
  by_cases hc:s≤18446744073709551615 - u
  ·have w2:IntKind.u64.wrap (u + s) = u + s:=wrap_u64 (by omega)
   simp (config := { maxSteps := 3000000 }) [w1,w2,hc]
  ·have e2:¬ (u + s < n):=by omega
   simp (config := { maxSteps := 3000000 }) [w1,hc,e2]
 ·cases h
noncomputable def GLv1:List AV→Option (Prop × AV)
 | [.agg [.pv (.int .u64 a),.pv (.int .u64 b),.pv (.int .u64 c)],.rp [.int .u64 n],.rp [.int .u64 s]]=>some (okN n∧okN c∧okN s,.pv (.bool (pastB n c s)))
 | _=>none
@[simp] theorem GLv1_eq (a b c n s:Int):GLv1 [.agg [.pv (.int .u64 a),.pv (.int .u64 b),.pv (.int .u64 c)],.rp [.int .u64 n],.rp [.int .u64 s]] = some (okN n∧okN c∧okN s,.pv (.bool (pastB n c s))):=rfl
theorem c_Lv1:ConT Try.prog 99 GLv1:=by
 intro ys φ r h hφ
 unfold GLv1 at h
 split at h
 ·cases h
  obtain ⟨h1,h2,h3⟩:=hφ
  refine con_of (tab_cons c_past tab_nil) (by kernel_rfl) fn99 (by simp) ?_
  unfold body99
  simp (config := { maxSteps := 3000000 }) [h1,h2,h3]
 ·cases h
theorem isfnLv1:isFn Try.prog 99 = true:=by kernel_rfl
def pastP (n s:Int) (e:Pn):Bool:=pastB n e.u s
noncomputable def GIxL:List AV→Option (Prop × AV)
 | [.pv (.ro a),.clo f [.rp [.int .u64 n],.rp [.int .u64 s]]]=>if f = 99 then (dec rowP a).map fun l=>(l.length≤1000000000∧okN n∧okN s∧∀ e∈l,okN e.u,.pv (.int .i64 (idxP (pastP n s) l))) else none
 | _=>none
@[simp] theorem GIxL_eq (a:List (List PV)) (f:FuncId) (n s:Int):GIxL [.pv (.ro a),.clo f [.rp [.int .u64 n],.rp [.int .u64 s]]] = if f = 99 then (dec rowP a).map fun l=>(l.length≤1000000000∧okN n∧okN s∧∀ e∈l,okN e.u,.pv (.int .i64 (idxP (pastP n s) l))) else none:=rfl
theorem c_IxL:ConT Try.prog 96 GIxL:=by
 intro ys φ r h hφ
 unfold GIxL at h
 split at h
 ·rename_i ra f n s
  split at h
  ·rename_i hf
   subst hf
   obtain ⟨a,ha,h⟩:=Option.map_eq_some_iff.1 h
   cases h
   cases dec_rowsP_inv ha
   obtain ⟨hl,o1,o2,o3⟩:=hφ
   have hfn:=isfnLv1
   refine con_of (tab_cons c_Lv1 tab_nil) (by kernel_rfl) fn96 (by simp) ?_
   unfold body96
   simp (config := { maxSteps := 3000000 })
   refine vwp_loop (fun i:Nat=>i≤a.length∧∀ e∈a.take i,pastP n s e = false) (fun i=>⟨[(0,.pv (.ro (rowsP a))),(1,.clo 99 [.rp [.int .u64 n],.rp [.int .u64 s]]),(7,.pv (.int .i64 a.length)),(8,.pv (.int .i64 i))],[]⟩) (fun i=>a.length - i) [] 0 (by simp) ?_ ?_
   ·simp
   ·rintro i ⟨hi,ht⟩
    have w2:IntKind.i64.wrap ((i:Int) + 1) = (i:Int) + 1:=wrap_i64 (by omega)
    by_cases hlt:i < a.length
    ·have r1:=rowsP_at hlt
     have o4:okN a[i].u:=o3 _ (List.getElem_mem hlt)
     have hr:pastP n s a[i] = false→∀ e∈a.take (i + 1),pastP n s e = false:=by
      intro h0 e he
      rw [List.take_succ_eq_append_getElem hlt,List.mem_append] at he
      rcases he with he | he
      ·exact ht e he
      ·rw [List.mem_singleton] at he;rw [he];exact h0
     by_cases hp:pastP n s a[i] = true
     ·have hp':pastB n a[i].u s = true:=hp
      simp (config := { maxSteps := 3000000 }) [w2,hlt,r1,hfn,o1,o2,o4,hp']
      exact (idxP_at hlt hp ht).symm
     ·have hp0:pastP n s a[i] = false:=by simpa using hp
      have hp':pastB n a[i].u s = false:=hp0
      simp (config := { maxSteps := 3000000 }) [w2,hlt,r1,hfn,o1,o2,o4,hp']
      exact ⟨i + 1,⟨by omega,hr hp0⟩,by omega,by omega⟩
    ·simp (config := { maxSteps := 3000000 }) [hlt]
     rw [List.take_of_length_le (by omega)] at ht
     exact (idxP_none ht).symm
  ·cases h
 ·cases h
theorem idxP_filter {p:Pn→Bool} {l:List Pn} {k:Nat} (h:idxP p l = (k:Int)):k < l.length∧(l.take (k + 1)).filter (fun e=>!p e) = l.take k:=by
 unfold idxP at h
 split at h
 ·rename_i hlt
  have hk:l.findIdx p = k:=by omega
  rw [hk] at hlt
  refine ⟨hlt,?_⟩
  obtain ⟨h1,h2⟩:=(List.findIdx_eq hlt).1 hk
  rw [List.take_succ_eq_append_getElem hlt,List.filter_append]
  have hf:(l.take k).filter (fun e=>!p e) = l.take k:=by
   rw [List.filter_eq_self]
   intro e he
   rw [List.mem_take_iff_getElem] at he
   obtain ⟨j,hj,rfl⟩:=he
   have:=h2 j (by omega)
   simpa using this
  rw [hf]
  simp [h1]
 ·omega
theorem rowsP_set (l:List Pn) (i:Nat) (e:Pn):(rowsP l).set i [.int .u64 e.i,.int .u64 e.v,.int .u64 e.u] = rowsP (l.set i e):=by
 unfold rowsP
 rw [List.map_set]
 rfl
def liveL (l:List Pn) (n s:Int):List Pn:=l.filter fun e=>!pastP n s e
noncomputable def GdelP:List AV→Option (Prop × AV)
 | [.fr e a,.clo f [.rp [.int .u64 n],.rp [.int .u64 s]]]=>if e = 83∧f = 99 then (dec rowP a).map fun l=>(l.length≤1000000∧okN n∧okN s∧∀ e∈l,okN e.u,.fr 83 (rowsP (liveL l n s))) else none
 | _=>none
@[simp] theorem GdelP_eq (e:TypeId) (a:List (List PV)) (f:FuncId) (n s:Int):GdelP [.fr e a,.clo f [.rp [.int .u64 n],.rp [.int .u64 s]]] = if e = 83∧f = 99 then (dec rowP a).map fun l=>(l.length≤1000000∧okN n∧okN s∧∀ e∈l,okN e.u,.fr 83 (rowsP (liveL l n s))) else none:=rfl
theorem c_delP:ConTU Try.prog 101 GdelP:=by
 intro ys φ r h hφ
 unfold GdelP at h
 split at h
 ·rename_i e ra f n s
  split at h
  ·rename_i hef
   obtain ⟨rfl,rfl⟩:=hef
   obtain ⟨a,ha,h⟩:=Option.map_eq_some_iff.1 h
   cases h
   cases dec_rowsP_inv ha
   obtain ⟨hl6,o1,o2,o3⟩:=hφ
   refine con_ofU (tab_cons c_IxL (tab_cons c_Lv1 tab_nil)) (by kernel_rfl) fn101 (by simp) (by simp [resOK,res1,resC]) (by simp) ?_
   unfold body101
   have hl9:a.length≤1000000000:=by omega
   have isfn3:=isfnLv1
   by_cases hr:a.any (pastP n s) = true
   ·have hw : 0≤idxP (pastP n s) a:=by rw [idxP_neg];exact hr
    obtain ⟨k,hk⟩:=Int.eq_ofNat_of_zero_le hw
    obtain ⟨hkl,hkf⟩:=idxP_filter hk
    have hne:¬ ((k:Int) = -1):=by omega
    have w1:IntKind.i64.wrap ((k:Int) + 1) = (k:Int) + 1:=wrap_i64 (by omega)
    simp (config := { maxSteps := 3000000 }) [hk,hne,w1,hl9,o1,o2]
    refine ⟨o3,?_⟩
    refine vwp_loop (fun x:Nat × Nat × List Pn=>x.1 < x.2.1∧x.2.1≤a.length∧x.2.2.length = a.length∧x.2.2.take x.1 = (a.take x.2.1).filter (fun e=>!pastP n s e)∧x.2.2.drop x.2.1 = a.drop x.2.1)
     (fun x=>⟨[(0,.own 998),(1,.clo 99 [.rp [.int .u64 n],.rp [.int .u64 s]]),(5,.pv (.int .i64 x.1)),(6,.pv (.int .i64 x.2.1))],[(998,.arr 83 (rowsP x.2.2))]⟩) (fun x=>a.length - x.2.1) [] (k,k + 1,a) ?_ ?_ ?_
    ·exact ⟨by simp,by simp;omega,rfl,by simp [hkf],rfl⟩
    ·simp
    ·rintro ⟨i,j,b⟩ ⟨h1,h2,h3,h4,h5⟩
     dsimp only at h1 h2 h3 h4 h5
     have w2:IntKind.i64.wrap ((j:Int) + 1) = (j:Int) + 1:=wrap_i64 (by omega)
     have w3:IntKind.i64.wrap ((i:Int) + 1) = (i:Int) + 1:=wrap_i64 (by omega)
     by_cases hlt:j < a.length
     ·have hjb:j < b.length:=by omega
      have hib:i < b.length:=by omega
      have o4:okN a[j].u:=o3 _ (List.getElem_mem hlt)
      have hbj:b[j] = a[j]:=by
       have e1:=List.drop_eq_getElem_cons hjb
       have e2:=List.drop_eq_getElem_cons hlt
       rw [h5,e2] at e1
       injection e1 with e1 _;exact e1.symm
      have r1:=rowsP_at hjb
      rw [hbj] at r1
      have r2:=rowsP_at hib
      have hib':(i:Int) < a.length:=by omega
      have hdrop:∀ e,(b.set i e).drop (j + 1) = a.drop (j + 1):=by
       intro e
       rw [List.drop_set_of_lt (by omega)]
       have e1:(b.drop j).drop 1 = (a.drop j).drop 1:=by rw [h5]
       simpa [List.drop_drop] using e1
      by_cases hq:pastP n s a[j] = true
      ·have hq':pastB n a[j].u s = true:=hq
       simp (config := { maxSteps := 3000000 }) [w2,w3,hlt,hjb,r1,r2,h3,hq',rowsP_set,hib',o1,o2,o4,isfn3]
       refine ⟨i,j + 1,b,⟨by omega,by omega,h3,?_,?_⟩,⟨⟨rfl,by omega⟩,rfl⟩,by omega⟩
       ·rw [List.take_succ_eq_append_getElem hlt,List.filter_append,← h4]
        simp [hq]
       ·have e1:(b.drop j).drop 1 = (a.drop j).drop 1:=by rw [h5]
        simpa [List.drop_drop] using e1
      ·have hq0:pastP n s a[j] = false:=by simpa using hq
       have hq':pastB n a[j].u s = false:=hq0
       simp (config := { maxSteps := 3000000 }) [w2,w3,hlt,hjb,r1,r2,h3,hq',rowsP_set,hib',o1,o2,o4,isfn3]
       refine ⟨by omega,i + 1,j + 1,b.set i a[j],⟨by omega,by omega,by simp [h3],?_,hdrop _⟩,⟨⟨by omega,by omega⟩,rfl⟩,by omega⟩
       rw [List.take_succ_eq_append_getElem hlt,List.filter_append,← h4,List.take_succ_eq_append_getElem (by simp;omega)]
       simp [hq0,List.take_set_of_le]
     ·simp (config := { maxSteps := 3000000 }) [hlt,h3]
      have hja:j = a.length:=by omega
      subst hja
      rw [List.take_length] at h4
      have h3r:=rowsP_three b
      refine ⟨⟨by omega,h3r⟩,⟨by omega,?_⟩,?_⟩
      ·rintro x (hx | ⟨_,rfl⟩ | hx)
       ·exact h3r x (List.mem_of_mem_take hx)
       ·rfl
       ·exact h3r x (List.mem_of_mem_drop hx)
      ·rw [List.take_append_of_le_length (by simp;omega),List.take_take,Nat.min_self]
       unfold liveL
       rw [← h4]
       simp [rowsP,List.map_take]
   ·have hw:idxP (pastP n s) a = -1:=by
     apply idxP_none
     have:=hr
     simp only [List.any_eq_true,not_exists,not_and] at this
     intro e he;simpa using this e he
    have hfil:liveL a n s = a:=by
     unfold liveL;rw [List.filter_eq_self];intro e he
     have:=hr
     simp only [List.any_eq_true,not_exists,not_and] at this
     simpa using this e he
    simp (config := { maxSteps := 3000000 }) [hw,hfil,hl9,o1,o2]
    exact o3
  ·cases h
 ·cases h
noncomputable def GpLive:List AV→Option (Prop × AV)
 | [.agg [.pv (.ro a)],.pv (.int .u64 n),.pv (.int .u64 s)]=>(dec rowP a).map fun l=>(l.length≤1000000∧okN n∧okN s∧∀ e∈l,okN e.u,.agg [.fr 83 (rowsP (liveL l n s))])
 | _=>none
@[simp] theorem GpLive_eq (a:List (List PV)) (n s:Int):GpLive [.agg [.pv (.ro a)],.pv (.int .u64 n),.pv (.int .u64 s)] = (dec rowP a).map fun l=>(l.length≤1000000∧okN n∧okN s∧∀ e∈l,okN e.u,.agg [.fr 83 (rowsP (liveL l n s))]):=rfl
theorem c_Live:ConT Try.prog 49 GpLive:=by
 intro ys φ r h hφ
 unfold GpLive at h
 split at h
 ·rename_i ra n s
  obtain ⟨a,ha,h⟩:=Option.map_eq_some_iff.1 h
  cases h
  cases dec_rowsP_inv ha
  obtain ⟨hl6,o1,o2,o3⟩:=hφ
  have hl8:a.length≤100000000:=by omega
  refine con_of (tab_cons c_pClone (tab_consU (p:=0) (k:=998) c_delP (by kernel_rfl) tab_nil)) (by kernel_rfl) fn49 (by simp) ?_
  unfold body49
  simp (config := { maxSteps := 3000000 }) [hl6,hl8,o1,o2]
  exact ⟨o3,flat_rowsP _⟩
 ·cases h
noncomputable def GrLive:List AV→Option (Prop × AV)
 | [.pv (.ro a),.pv (.int .u64 n),.pv (.int .u64 s)]=>(dec rowP a).map fun l=>(l.length≤1000000∧okN n∧okN s∧∀ e∈l,okN e.u,.fr 86 (rowsP (liveL l n s)))
 | _=>none
@[simp] theorem GrLive_eq (a:List (List PV)) (n s:Int):GrLive [.pv (.ro a),.pv (.int .u64 n),.pv (.int .u64 s)] = (dec rowP a).map fun l=>(l.length≤1000000∧okN n∧okN s∧∀ e∈l,okN e.u,.fr 86 (rowsP (liveL l n s))):=rfl
theorem c_rLive:ConT Try.prog 52 GrLive:=by
 intro ys φ r h hφ
 unfold GrLive at h
 split at h
 ·rename_i ra n s
  obtain ⟨a,ha,h⟩:=Option.map_eq_some_iff.1 h
  cases h
  cases dec_rowsP_inv ha
  obtain ⟨hl6,o1,o2,o3⟩:=hφ
  refine con_of (tab_cons c_rpast tab_nil) (by kernel_rfl) fn52 (by simp) ?_
  unfold body52
  simp (config := { maxSteps := 3000000 })
  refine vwp_loop (fun i:Nat=>i≤a.length) (fun i=>⟨[(0,.pv (.ro (rowsP a))),(1,.pv (.int .u64 n)),(2,.pv (.int .u64 s)),(7,.own 7),(8,.pv (.int .i64 i))],[(7,.arr 86 (rowsP (liveL (a.take i) n s)))]⟩) (fun i=>a.length - i) [] 0 (by simp) ?_ ?_
  ·simp [liveL]
  ·intro i hi
   have w2:IntKind.i64.wrap ((i:Int) + 1) = (i:Int) + 1:=wrap_i64 (by omega)
   by_cases hlt:i < a.length
   ·have r1:=rowsP_at hlt
    have o4:okN a[i].u:=o3 _ (List.getElem_mem hlt)
    have hln:(liveL (a.take i) n s).length≤i:=by
     unfold liveL
     have:=List.length_filter_le (fun e=>!pastP n s e) (a.take i)
     simp at this;omega
    have hst:liveL (a.take (i + 1)) n s = liveL (a.take i) n s ++ (if pastP n s a[i] = true then [] else [a[i]]):=by
     unfold liveL
     rw [List.take_succ_eq_append_getElem hlt,List.filter_append]
     cases hp:pastP n s a[i]<;>simp [hp]
    by_cases hq:pastP n s a[i] = true
    ·have hq':pastB n a[i].u s = true:=hq
     rw [if_pos hq,List.append_nil] at hst
     simp (config := { maxSteps := 3000000 }) [w2,hlt,r1,hq',o1,o2,o4]
     refine ⟨i + 1,by omega,⟨by omega,by rw [hst]⟩,by omega⟩
    ·have hq0:pastP n s a[i] = false:=by simpa using hq
     have hq':pastB n a[i].u s = false:=hq0
     rw [if_neg hq] at hst
     simp (config := { maxSteps := 3000000 }) [w2,hlt,r1,hq',o1,o2,o4,maxLen_eq]
     refine ⟨⟨by omega,by omega⟩,i + 1,by omega,⟨by omega,by rw [hst,rowsP_append];rfl⟩,by omega⟩
   ·have hia:i = a.length:=by omega
    subst hia
    simp (config := { maxSteps := 3000000 })
 ·cases h
def addP (l:List Pn) (e:Pn):List Pn × Int:=if riseP (l ++ [e]) = true then (l ++ [e],0) else ([],2)
noncomputable def GpAdd:List AV→Option (Prop × AV)
 | [.agg [.pv (.ro a)],.agg [.pv (.int .u64 x),.pv (.int .u64 y),.pv (.int .u64 z)]]=>(dec rowP a).map fun l=>(l.length≤1000000,.tup [.agg [.fr 83 (rowsP (addP l ⟨x,y,z⟩).1)],.pv (.int .i64 (addP l ⟨x,y,z⟩).2)])
 | _=>none
@[simp] theorem GpAdd_eq (a:List (List PV)) (x y z:Int):GpAdd [.agg [.pv (.ro a)],.agg [.pv (.int .u64 x),.pv (.int .u64 y),.pv (.int .u64 z)]] = (dec rowP a).map fun l=>(l.length≤1000000,.tup [.agg [.fr 83 (rowsP (addP l ⟨x,y,z⟩).1)],.pv (.int .i64 (addP l ⟨x,y,z⟩).2)]):=rfl
theorem c_pAdd:ConT Try.prog 47 GpAdd:=by
 intro ys φ r h hφ
 unfold GpAdd at h
 split at h
 ·rename_i ra x y z
  obtain ⟨a,ha,h⟩:=Option.map_eq_some_iff.1 h
  cases h
  cases dec_rowsP_inv ha
  have hl8:a.length≤100000000:=by omega
  have hinf:(Try.prog.info? 83).isSome = true:=by kernel_rfl
  have hap:rowsP a ++ [[PV.int .u64 x,.int .u64 y,.int .u64 z]] = rowsP (a ++ [⟨x,y,z⟩]):=by rw [rowsP_append];rfl
  refine con_of (tab_cons c_pClone (tab_cons c_pRight tab_nil)) (by kernel_rfl) fn47 (by simp) ?_
  unfold body47
  unfold addP
  by_cases hr:riseP (a ++ [⟨x,y,z⟩]) = true
  ·simp (config := { maxSteps := 3000000 }) [hl8,hr,hap,hinf,maxLen_eq]
   exact ⟨⟨by omega,by omega⟩,by omega⟩
  ·simp (config := { maxSteps := 3000000 }) [hl8,hr,hap,hinf,maxLen_eq]
   exact ⟨⟨by omega,by omega⟩,by omega⟩
 ·cases h
noncomputable def GrAdd:List AV→Option (Prop × AV)
 | [.pv (.ro a),.agg [.pv (.int .u64 x),.pv (.int .u64 y),.pv (.int .u64 z)]]=>(dec rowP a).map fun l=>(l.length≤1000000,.tup [.fr 86 (rowsP (addP l ⟨x,y,z⟩).1),.pv (.int .i64 (addP l ⟨x,y,z⟩).2)])
 | _=>none
@[simp] theorem GrAdd_eq (a:List (List PV)) (x y z:Int):GrAdd [.pv (.ro a),.agg [.pv (.int .u64 x),.pv (.int .u64 y),.pv (.int .u64 z)]] = (dec rowP a).map fun l=>(l.length≤1000000,.tup [.fr 86 (rowsP (addP l ⟨x,y,z⟩).1),.pv (.int .i64 (addP l ⟨x,y,z⟩).2)]):=rfl
theorem c_rAdd:ConT Try.prog 45 GrAdd:=by
 intro ys φ r h hφ
 unfold GrAdd at h
 split at h
 ·rename_i ra x y z
  obtain ⟨a,ha,h⟩:=Option.map_eq_some_iff.1 h
  cases h
  cases dec_rowsP_inv ha
  have hl8:a.length≤100000000:=by omega
  have h3:=rowsP_three a
  have hap:rowsP a ++ [[PV.int .u64 x,.int .u64 y,.int .u64 z]] = rowsP (a ++ [⟨x,y,z⟩]):=by rw [rowsP_append];rfl
  refine con_of (tab_cons c_rRight tab_nil) (by kernel_rfl) fn45 (by simp) ?_
  unfold body45
  unfold addP
  by_cases hr:riseP (a ++ [⟨x,y,z⟩]) = true
  ·simp (config := { maxSteps := 3000000 }) [hl8,hr,hap,maxLen_eq]
   exact ⟨⟨by omega,by omega,h3⟩,⟨by omega,by omega⟩,by omega⟩
  ·simp (config := { maxSteps := 3000000 }) [hl8,hr,hap,maxLen_eq]
   exact ⟨⟨by omega,by omega,h3⟩,⟨by omega,by omega⟩,by omega⟩
 ·cases h
end Go.Proofs.Ythblkhafehanfaa.Ab
namespace Go.Proofs.Ythblkhafehanfaa.Ab
open Go Go.RowKit
section
variable {P:Program} {Γ:Tab}
theorem withO_mono {α:Type} {o:Option α} {K K' : α→Prop} (h:∀ x,K x→K' x) (hs:withO o K):withO o K':=by
 cases o with
 | none=>exact hs
 | some x=>exact h x hs
theorem semCall_mono {d:Option Nat} {f:FuncId} {xs:List AV} {objs:Nat→Option AO} {C C':Eff→Prop} (h:∀ e,C e→C' e) (hs:semCall P Γ d f xs objs C):semCall P Γ d f xs objs C':=by
 unfold semCall at hs ⊢
 refine withO_mono (fun d hs=>⟨hs.1,withO_mono (fun ys hs=>withO_mono (fun x hs=>?_) hs) hs.2⟩) hs
 exact ⟨hs.1,hs.2.1,hs.2.2.1,hs.2.2.2.1,h _ hs.2.2.2.2⟩
theorem stepI_wk {i:AI} {K K':St→Prop} (h:∀ st,K st→K' st) {st:St} (hs:stepI P Γ i K st):stepI P Γ i K' st:=by
 obtain ⟨e,he,hk⟩:=stepI_iff.1 hs
 exact stepI_iff.2 ⟨e,he,h _ hk⟩
theorem stepF_mono {i:AI} {f:FuncId} {K K':St→Prop} (h:∀ st,K st→K' st) {st:St} (hs:stepF P Γ i f K st):stepF P Γ i f K' st:=by
 unfold stepF at hs ⊢
 refine withO_mono (fun ys hs=>withO_mono (fun x hs=>?_) hs) hs
 split at hs
 ·rename_i hc
  rw [if_pos hc]
  exact semCall_mono (fun e he=>h _ he) hs
 ·rename_i hc
  rw [if_neg hc]
  exact stepI_wk h hs
theorem pickJ_mono {b f:Bool} {A B A' B':Prop} (hA:A→A') (hB:B→B') (h:pickJ b f A B):pickJ b f A' B':=by
 cases b with
 | false=>exact hA h
 | true=>cases f with
  | false=>exact hA h
  | true=>exact hB h
theorem stepJ_mono {i:AI} {K K':St→Prop} (h:∀ st,K st→K' st) {st:St} (hs:stepJ P Γ i K st):stepJ P Γ i K' st:=by
 unfold stepJ at hs ⊢
 split at hs
 ·exact stepI_wk h hs
 ·exact pickJ_mono (stepI_wk h) (h _) hs
theorem stepXo_mono {i:AI} {K K':St→Prop} (h:∀ st,K st→K' st) {st:St} (hs:stepXo P Γ i K st):stepXo P Γ i K' st:=by
 have hE:∀ {d:Option Nat} {x:XK} {xs:List AV},stepEx d x xs K st→stepEx d x xs K' st:=by
  intro d x xs hs
  unfold stepEx at hs ⊢
  split at hs
  ·exact withO_mono (fun d hs=>⟨hs.1,h _ hs.2⟩) hs
  ·exact ⟨hs.1,withO_mono (fun es hs=>⟨hs.1,hs.2.1,hs.2.2.1,h _ hs.2.2.2⟩) hs.2⟩
  ·exact ⟨hs.1,withO_mono (fun es hs=>⟨hs.1,hs.2.1,h _ hs.2.2⟩) hs.2⟩
  ·unfold exAdd at hs ⊢
   split at hs
   ·exact ⟨hs.1,hs.2.1,h _ hs.2.2⟩
   ·exact hs
  ·exact ⟨hs.1,withO_mono (fun rows hs b hb=>h _ (hs b hb)) hs.2⟩
  ·exact ⟨hs.1,h _ hs.2⟩
  ·unfold exAppz at hs ⊢
   split at hs
   ·exact withO_mono (fun d hs=>⟨hs.1,hs.2.1,hs.2.2.1,h _ hs.2.2.2⟩) hs
   ·exact hs
  ·exact withO_mono (fun d hs=>⟨hs.1,hs.2.1,hs.2.2.1,h _ hs.2.2.2⟩) hs
  ·unfold exMks at hs ⊢
   split at hs
   ·exact withO_mono (fun d hs=>⟨hs.1,hs.2.1,hs.2.2.1,h _ hs.2.2.2⟩) hs
   ·exact hs
  ·exact ⟨hs.1,hs.2.1,hs.2.2.1,hs.2.2.2.1,h _ hs.2.2.2.2⟩
  ·exact ⟨hs.1,withO_mono (fun r hs=>⟨hs.1,h _ hs.2⟩) hs.2⟩
  ·unfold exMore at hs ⊢
   split at hs
   ·unfold exRst at hs ⊢
    split at hs
    ·exact ⟨hs.1,withO_mono (fun r hs=>⟨hs.1,hs.2.1,h _ hs.2.2⟩) hs.2⟩
    ·exact hs
   ·unfold exPubk at hs ⊢
    split at hs
    ·exact ⟨hs.1,withO_mono (fun r hs=>withO_mono (fun j hs=>withO_mono (fun s hs=>withO_mono (fun ps hs=>h _ hs) hs) hs) hs) hs.2⟩
    ·exact hs
   ·exact withO_mono (fun d hs=>⟨hs.1,h _ hs.2⟩) hs
   ·unfold exPuv at hs ⊢
    split at hs
    ·exact ⟨hs.1,withO_mono (fun r hs=>⟨hs.1,hs.2.1,h _ hs.2.2⟩) hs.2⟩
    ·exact hs
   ·unfold exGev at hs ⊢
    split at hs
    ·exact ⟨hs.1,withO_mono (fun r hs=>⟨hs.1,hs.2.1,hs.2.2.1,h _ hs.2.2.2⟩) hs.2⟩
    ·exact hs
   ·unfold exDlv at hs ⊢
    split at hs
    ·exact ⟨hs.1,withO_mono (fun r hs=>⟨hs.1,hs.2.1,h _ hs.2.2⟩) hs.2⟩
    ·exact hs
   ·exact ⟨hs.1,withO_mono (fun r hs=>h _ hs) hs.2⟩
   ·unfold exRng at hs ⊢
    split at hs
    ·exact withO_mono (fun d hs=>⟨hs.1,hs.2.1,h _ hs.2.2⟩) hs
    ·exact hs
   ·unfold exNxt at hs ⊢
    split at hs
    ·exact ⟨hs.1,withO_mono (fun r hs=>⟨fun e=>h _ (hs.1 e),fun e l m q=>h _ (hs.2 e l m q)⟩) hs.2⟩
    ·exact hs
   ·unfold exEnt at hs ⊢
    split at hs
    ·exact ⟨hs.1,withO_mono (fun r hs=>withO_mono (fun e hs=>h _ hs) hs) hs.2⟩
    ·exact hs
   ·exact hs
 unfold stepXo at hs ⊢
 split at hs
 ·exact hE hs
 ·unfold stepEg at hs ⊢
  refine withO_mono (fun c hs=>?_) hs
  split at hs
  ·rename_i h1;rw [if_pos h1];exact hE hs
  ·rename_i h1;rw [if_neg h1];exact h _ hs
 ·exact stepJ_mono h hs
 ·rename_i e sz zs e1 e2
  unfold stepClr at hs ⊢
  exact ⟨hs.1,withO_mono (fun X hs=>withO_mono (fun r hs=>h _ hs) hs) hs.2⟩
 ·unfold stepH stepHF at hs ⊢
  split at hs
  ·split at hs
   ·rename_i h0
    rw [if_pos h0]
    refine withO_mono (fun c hs=>?_) hs
    split at hs
    ·rename_i h2;rw [if_pos h2];exact stepG_mono h hs
    ·rename_i h2;rw [if_neg h2];exact h _ hs
   ·exact hs.elim
  refine pickJ_mono (fun hs=>?_) (h _) hs
  refine withO_mono (fun c hs=>withO_mono (fun ys hs=>withO_mono (fun x hs=>?_) hs) hs) hs
  split at hs
  ·rename_i h1
   rw [if_pos h1]
   split at hs
   ·rename_i h2;rw [if_pos h2];exact stepF_mono h hs
   ·rename_i h2;rw [if_neg h2];exact h _ hs
  ·rename_i h1
   rw [if_neg h1]
   exact stepI_wk h hs
 ·unfold stepC at hs ⊢
  split at hs
  ·refine ⟨hs.1,withO_mono (fun x hs=>⟨hs.1,?_⟩) hs.2⟩
   have hs:=hs.2
   unfold stepCF at hs ⊢
   split at hs
   ·split at hs
    ·rename_i h1;rw [if_pos h1];exact stepG_mono h hs
    ·exact hs.elim
   ·exact semCall_mono (fun e he=>h _ he) hs
  ·refine pickJ_mono (fun hs=>?_) (h _) hs
   unfold stepCg at hs ⊢
   refine withO_mono (fun c hs=>withO_mono (fun x hs=>⟨hs.1,?_⟩) hs) hs
   have hs:=hs.2
   unfold semGc at hs ⊢
   exact withO_mono (fun ys hs=>withO_mono (fun x hs=>⟨hs.1,hs.2.1,hs.2.2.1,hs.2.2.2.1,hs.2.2.2.2.1,h _ hs.2.2.2.2.2⟩) hs) hs
 ·unfold stepFU at hs ⊢
  split at hs
  ·split at hs
   ·rename_i h1
    rw [if_pos h1]
    unfold stepN at hs ⊢
    exact withO_mono (fun d hs=>⟨hs.1,withO_mono (fun ys hs=>withO_mono (fun x hs=>⟨hs.1,hs.2.1,hs.2.2.1,hs.2.2.2.1,h _ hs.2.2.2.2⟩) hs) hs.2⟩) hs
   ·rename_i h1
    rw [if_neg h1]
    split at hs
    ·rename_i h2;rw [if_pos h2];exact stepG_mono h hs
    rename_i h2
    rw [if_neg h2]
    unfold stepU at hs ⊢
    refine withO_mono (fun d hs=>⟨hs.1,withO_mono (fun X hs=>withO_mono (fun T hs=>⟨hs.1,withO_mono (fun ys hs=>withO_mono (fun x hs=>?_) hs) hs.2⟩) hs) hs.2⟩) hs
    exact ⟨hs.1,hs.2.1,hs.2.2.1,hs.2.2.2.1,h _ hs.2.2.2.2⟩
  ·exact stepF_mono h hs
 ·exact stepI_wk h hs
 ·exact stepJ_mono h hs
theorem stepX_mono {i:AI} {K K':St→Prop} (h:∀ st,K st→K' st) {st:St} (hs:stepX P Γ i K st):stepX P Γ i K' st:=by
 unfold stepX at hs ⊢
 split at hs
 ·split at hs
  ·rename_i h1;rw [if_pos h1]
   exact ⟨hs.1,withO_mono (fun r hs=>⟨hs.1,hs.2.1,h _ hs.2.2⟩) hs.2⟩
  ·rename_i h1;rw [if_neg h1];exact stepXo_mono h hs
 ·exact stepXo_mono h hs
theorem stepsX_mono {K K':St→Prop} (h:∀ st,K st→K' st):∀ {is:List AI} {st:St},stepsX P Γ is K st→stepsX P Γ is K' st
 | [],st,hs=>h st hs
 | i :: is,st,hs=>stepX_mono (fun st hs=>stepsX_mono h hs) hs
theorem steps_wk {K K':St→Prop} (h:∀ st,K st→K' st):∀ {is:List AI} {st:St},steps P Γ is K st→steps P Γ is K' st
 | [],st,hs=>h st hs
 | i :: is,st,hs=>stepD_mono (fun st hs=>steps_wk h hs) hs
theorem vwp_mono:∀ {a:AC} {K K':St→Prop} {J J':Exit→St→Prop} {st:St},(∀ st,K st→K' st)→(∀ e st,J e st→J' e st)→vwp P Γ a K J st→vwp P Γ a K' J' st
 | .skip,_,_,_,_,st,h,_,hs=>h st hs
 | .reg is d keep,_,_,_,_,st,h,_,hs=>by
  unfold vwp at hs ⊢
  split at hs
  ·rename_i hd;rw [if_pos hd];exact steps_wk (fun st hs=>h _ hs) hs
  ·rename_i hd;rw [if_neg hd];exact stepsX_mono (fun st hs=>h _ hs) hs
 | .seq a b,_,_,_,_,st,h,hj,hs=>vwp_mono (a:=a) (fun st hs=>vwp_mono (a:=b) h hj hs) hj hs
 | .cond x a b,_,_,_,_,st,h,hj,hs=>withO_mono (fun c hs=>⟨fun e=>vwp_mono (a:=a) h hj (hs.1 e),fun e=>vwp_mono (a:=b) h hj (hs.2 e)⟩) (show withO _ _ from hs)
 | .block id a,K,K',J,J',st,h,hj,hs=>vwp_mono (a:=a) h (fun e st hs=>by
   cases e with
   | exit id'=>
    simp only [inBlk] at hs ⊢
    split at hs
    ·rename_i h1;rw [if_pos h1];exact h _ hs
    ·rename_i h1;rw [if_neg h1];exact hj _ _ hs
   | _=>exact hj _ _ hs) (show vwp P Γ a K (inBlk id K J) st from hs)
 | .loop a,_,_,_,_,st,h,hj,hs=>by
  obtain ⟨ι,F,μ,ad,shs,i0,hw,hr⟩:=hs
  exact ⟨ι,F,μ,ad,shs,i0,hw,fun i=>vwp_mono (a:=a) (fun st hs=>hs) hj (hr i)⟩
 | .exit id,_,_,_,_,st,_,hj,hs=>hj _ _ hs
 | .ret,_,_,_,_,st,_,hj,hs=>hj _ _ hs
theorem vwp_cut {a b:AC} {K:St→Prop} {J:Exit→St→Prop} {st:St} (vs:List (Nat × AV)) (os:List (Nat × AO)) (h1:vwp P Γ a (fun st'=>st' = ⟨look vs,lookO os⟩) J st) (h2:vwp P Γ b K J ⟨look vs,lookO os⟩):vwp P Γ (.seq a b) K J st:=
 vwp_mono (a:=a) (fun st' (hs:st' = _)=>by rw [hs];exact h2) (fun _ _ h=>h) h1
theorem vwp_cT {x:Operand} {a b:AC} {K:St→Prop} {J:Exit→St→Prop} {vs:List (Nat × AV)} {os:List (Nat × AO)} (h:boolOf (ev (look vs) x) = some true) (h1:vwp P Γ a K J ⟨look vs,lookO os⟩):vwp P Γ (.cond x a b) K J ⟨look vs,lookO os⟩:=by
 rw [R.vwp_cond,h]
 exact ⟨fun _=>h1,fun e=>Bool.noConfusion e⟩
theorem vwp_cF {x:Operand} {a b:AC} {K:St→Prop} {J:Exit→St→Prop} {vs:List (Nat × AV)} {os:List (Nat × AO)} (h:boolOf (ev (look vs) x) = some false) (h1:vwp P Γ b K J ⟨look vs,lookO os⟩):vwp P Γ (.cond x a b) K J ⟨look vs,lookO os⟩:=by
 rw [R.vwp_cond,h]
 exact ⟨fun e=>Bool.noConfusion e,fun _=>h1⟩
theorem vwp_at {a:AC} {K:St→Prop} {J:Exit→St→Prop} {st:St} (vs:List (Nat × AV)) (os:List (Nat × AO)) (h1:vwp P Γ a (fun st'=>st' = ⟨look vs,lookO os⟩) J st) (h2:K ⟨look vs,lookO os⟩):vwp P Γ a K J st:=
 vwp_mono (a:=a) (fun st' (hs:st' = _)=>by rw [hs];exact h2) (fun _ _ h=>h) h1
theorem vwp_cutB {a b:AC} {K:St→Prop} {J:Exit→St→Prop} {st:St} (Q:St→Prop) (h1:vwp P Γ a Q J st) (h2:∀ st',Q st'→vwp P Γ b K J st'):vwp P Γ (.seq a b) K J st:=
 vwp_mono (a:=a) (fun st' hs=>h2 st' hs) (fun _ _ h=>h) h1
theorem stepsX_cut {is js:List AI} {K:St→Prop} {st:St} (vs:List (Nat × AV)) (os:List (Nat × AO)) (h1:stepsX P Γ is (fun st'=>st' = ⟨look vs,lookO os⟩) st) (h2:stepsX P Γ js K ⟨look vs,lookO os⟩):stepsX P Γ (is ++ js) K st:=by
 have key:∀ (is:List AI) (st:St),stepsX P Γ is (fun st'=>stepsX P Γ js K st') st→stepsX P Γ (is ++ js) K st:=by
  intro is
  induction is with
  | nil=>exact fun st h=>h
  | cons i is ih=>exact fun st h=>stepX_mono (fun st hs=>ih st hs) h
 exact key is st (stepsX_mono (fun st' (hs:st' = _)=>by rw [hs];exact h2) h1)
theorem stepsX_at (k:Nat) {is:List AI} {K:St→Prop} {st:St} (vs:List (Nat × AV)) (os:List (Nat × AO)) (h1:stepsX P Γ (is.take k) (fun st'=>st' = ⟨look vs,lookO os⟩) st) (h2:stepsX P Γ (is.drop k) K ⟨look vs,lookO os⟩):stepsX P Γ is K st:=by
 have:=stepsX_cut vs os h1 h2
 rwa [List.take_append_drop] at this
theorem stepsX_spl (k:Nat) {is l1 l2:List AI} {K:St→Prop} {st:St} {vs:List (Nat × AV)} {os:List (Nat × AO)} (e1:is.take k = l1) (e2:is.drop k = l2) (h1:stepsX P Γ l1 (fun st'=>st' = ⟨look vs,lookO os⟩) st) (h2:stepsX P Γ l2 K ⟨look vs,lookO os⟩):stepsX P Γ is K st:=by
 subst e1 e2
 exact stepsX_at k vs os h1 h2
theorem steps_cut {is js:List AI} {K:St→Prop} {st:St} (vs:List (Nat × AV)) (os:List (Nat × AO)) (h1:steps P Γ is (fun st'=>st' = ⟨look vs,lookO os⟩) st) (h2:steps P Γ js K ⟨look vs,lookO os⟩):steps P Γ (is ++ js) K st:=by
 have key:∀ (is:List AI) (st:St),steps P Γ is (fun st'=>steps P Γ js K st') st→steps P Γ (is ++ js) K st:=by
  intro is
  induction is with
  | nil=>exact fun st h=>h
  | cons i is ih=>exact fun st h=>stepD_mono (fun st hs=>ih st hs) h
 exact key is st (steps_wk (fun st' (hs:st' = _)=>by rw [hs];exact h2) h1)
theorem steps_spl (k:Nat) {is l1 l2:List AI} {K:St→Prop} {st:St} {vs:List (Nat × AV)} {os:List (Nat × AO)} (e1:is.take k = l1) (e2:is.drop k = l2) (h1:steps P Γ l1 (fun st'=>st' = ⟨look vs,lookO os⟩) st) (h2:steps P Γ l2 K ⟨look vs,lookO os⟩):steps P Γ is K st:=by
 subst e1 e2
 have:=steps_cut vs os h1 h2
 rwa [List.take_append_drop] at this
end
end Go.Proofs.Ythblkhafehanfaa.Ab
