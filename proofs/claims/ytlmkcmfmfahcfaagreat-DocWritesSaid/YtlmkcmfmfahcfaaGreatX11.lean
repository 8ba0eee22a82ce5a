/- Rows of plain data read back. -/
import Derived.Test.YtlmkcmfmfahcfaaGreatX10
set_option linter.unusedVariables false
set_option linter.unusedSimpArgs false
set_option linter.unnecessarySimpa false
set_option maxHeartbeats 40000000
set_option maxRecDepth 100000
namespace Go.Proofs.YtlmkcmfmfahcfaaGreat.Ab.R
open Go Go.RowKit
open Classical in noncomputable def dec {α:Type} (f:α→List PV) (rows:List (List PV)):Option (List α):=if h:∃l:List α,l.map f=rows then some h.choose else none
theorem map_inj {α β:Type}{f:α→β} (hf:∀a b,f a=f b→a=b):∀{l m:List α},l.map f=m.map f→l=m|[],[],_=>rfl|[],_::_,h=>by simp at h|_::_,[],h=>by simp at h|a::l,b::m,h=>by simp only[List.map_cons,List.cons.injEq]at h;rw[hf _ _ h.1,map_inj hf h.2]
theorem ni {α:Type}{f:α→List PV} (hf:∀a b,f a=f b→a=b) (l:List α):dec f (l.map f)=some l:=by unfold dec;have h:∃m:List α,m.map f=l.map f:=⟨l,rfl⟩;rw[dif_pos h];exact congrArg some (map_inj hf h.choose_spec)
theorem mP {α:Type}{f:α→List PV}{rows:List (List PV)}{l:List α} (h:dec f rows=some l):rows=l.map f:=by
 unfold dec at h;split at h;·rename_i h';simp only[Option.some.injEq]at h;rw[←h];exact h'.choose_spec.symm
 ·cases h
def eK (c:UInt8):List PV:=[.int .u8 (c.toNat:Int)]
theorem BA:∀a b,eK a=eK b→a=b:=by intro a b h;simp only[eK,List.cons.injEq,PV.int.injEq,true_and,and_true]at h;exact UInt8.toNat_inj.1 (by omega)
@[simp] theorem NG (l:List UInt8):dec eK (bytesRow l)=some l:=ni BA l
@[simp] theorem VU {α:Type} (f:α→List PV):dec f []=some []:=by unfold dec;have h:∃m:List α,m.map f=[]:=⟨[],rfl⟩;rw[dif_pos h];have:=h.choose_spec;simpa using this
theorem aU {rows:List (List PV)}{l:List UInt8} (h:dec eK rows=some l):rows=bytesRow l:=mP h
end Go.Proofs.YtlmkcmfmfahcfaaGreat.Ab.R
namespace Go.Proofs.YtlmkcmfmfahcfaaGreat.Ab
open Go Go.RowKit R
def bI (n:Nat):List UInt8:=if h:n<128 then[n.toUInt8] else(n%128+128).toUInt8::bI (n/128) termination_by n decreasing_by omega
def b6 (n:Int):List UInt8:=bI n.toNat
theorem cT {n:Nat} (h:n<128):bI n=[n.toUInt8]:=by rw[bI,dif_pos h]
theorem fJ {n:Nat} (h:¬n<128):bI n=(n%128+128).toUInt8::bI (n/128):=by rw[bI,dif_neg h]
theorem I4 (m:Nat):ke .or .u8 ((m:Int)%256) 128=.int .u8 (((m%128+128).toUInt8.toNat:Nat):Int):=by
 have key:∀x:Fin 256,IntKind.u8.wrap ((BitVec.ofInt IntKind.u8.bits (x.val:Int)|||BitVec.ofInt IntKind.u8.bits 128).toNat:Nat)=(((x.val%128+128).toUInt8.toNat:Nat):Int):=by decide+kernel
 have h:=key ⟨m%256,by omega⟩;have e1:(m:Int)%256=((m%256:Nat):Int):=by omega
 have e2:m%256%128=m%128:=by omega
 rw[e1];simp only[e2]at h;unfold ke;exact congrArg _ h
@[simp] def FC:List AV→Option (Prop×AV)|[.pv (.int .u64 n)]=>some (0≤n∧n≤18446744073709551615,.fr 5 (bytesRow (b6 n)))|_=>none
theorem zX:aV Tryz.prog 94 FC:=by
 intro ys φ r h hφ;unfold FC at h;split at h
 ·rename_i N;cases h;obtain⟨n,rfl⟩:=Int.eq_ofNat_of_zero_le hφ.1;have hn:n≤18446744073709551615:=by omega
  refine ax aj (by kernel_rfl) fn94 (by simp) ?_;unfold body94;simp(config := { maxSteps := 3000000 });refine au (fun x:Nat×List UInt8=>x.2++bI x.1=bI n∧x.1≤18446744073709551615∧(x.2.length≤10∧x.1*128^x.2.length≤n)) (fun x=>⟨[(0,.pv (.int .u64 x.1)),(3,.own 3)],[(3,.arr 5 (bytesRow x.2))]⟩) (fun x=>x.1) [] (n,[]) ?_ ?_ ?_;·simp[hn]
  ·simp
  ·rintro⟨m,acc⟩ ⟨h1,h2,h3,h4⟩;dsimp only at h1 h2 h3 h4;simp(config := { maxSteps := 3000000 }) [wrap_u8,-Int.emod_emod_of_dvd,aI];rw[I4];refine⟨fun hm=>⟨by omega,m/128,acc++[(m%128+128).toUInt8],⟨?_,by omega,?_,?_⟩,⟨?_,?_⟩,by omega⟩,fun hm=>⟨by omega,?_⟩⟩;·rw[←h1,fJ (n:=m) (by omega)];simp
   ·simp only[List.length_append,List.length_singleton];have:¬9≤acc.length:=by intro h9;have h128:128^9≤128^acc.length:=Nat.pow_le_pow_right (by decide) h9;have:128*128^acc.length≤m*128^acc.length:=Nat.mul_le_mul_right _ (by omega);omega
    omega
   ·simp only[List.length_append,List.length_singleton,Nat.pow_succ];refine Nat.le_trans ?_ h4;have:m/128*128≤m:=by omega
    calc m/128*(128^acc.length*128)=(m/128*128)*128^acc.length:=by rw[Nat.mul_comm (128^acc.length) 128,Nat.mul_assoc]
     _≤m*128^acc.length:=Nat.mul_le_mul_right _ this
   ·simp[IntKind.bits,Int.fdiv_eq_ediv_of_nonneg]
   ·rw[aZ];rfl
   ·rw[b6,Int.toNat_natCast,←h1,cT (n:=m) (by omega),aZ];simp[bytesRow]
 ·cases h
theorem qq (n:Nat):1≤(bI n).length:=by rw[bI];split<;>simp
theorem qB:∀(k n:Nat),n<128^(k+1)→(bI n).length≤k+1
 |0,n,h=>by rw[cT (by simpa using h)];simp|k+1,n,h=>by
  by_cases h1:n<128;·rw[cT h1];simp
  ·rw[fJ h1];have:n/128<128^(k+1):=by rw[Nat.div_lt_iff_lt_mul (by decide)];rw[Nat.pow_succ]at h;exact h
   have:=qB k (n/128) this;simp;omega
theorem eD {n:Nat} (h:n≤18446744073709551615):(bI n).length≤10:=qB 9 n (by omega)
@[simp] def Ac:List AV→Option (Prop×AV)|[.pv (.int .u64 n)]=>some (0≤n∧n≤18446744073709551615,.pv (.int .i64 (b6 n).length))|_=>none
theorem DK:aV Tryz.prog 125 Ac:=by
 intro ys φ r h hφ;unfold Ac at h;split at h
 ·rename_i N;cases h;obtain⟨n,rfl⟩:=Int.eq_ofNat_of_zero_le hφ.1;have hn:n≤18446744073709551615:=by omega
  have hl:=eD hn;refine ax aj (by kernel_rfl) fn125 (by simp) ?_;unfold body125;simp(config := { maxSteps := 3000000 });refine au (fun x:Nat×Nat=>x.2+(bI x.1).length=(bI n).length+1∧x.1≤18446744073709551615) (fun x=>⟨[(0,.pv (.int .u64 x.1)),(3,.pv (.int .i64 x.2))],[]⟩) (fun x=>x.1) [] (n,1) ?_ ?_ ?_;·simp[hn];omega
  ·simp
  ·rintro⟨m,k⟩ ⟨h1,h2⟩;dsimp only at h1 h2;have hl2:=qq m;simp(config := { maxSteps := 3000000 }) (disch:=omega) [wrap_i64,wrap_u64];refine⟨fun hm=>⟨m/128,k+1,⟨?_,by omega⟩,⟨by omega,by omega⟩,by omega⟩,fun hm=>?_⟩;·rw[fJ (n:=m) (by omega)]at h1;simp at h1;omega
   ·rw[cT (n:=m) (by omega)]at h1;simp at h1;rw[b6,Int.toNat_natCast];omega
 ·cases h
theorem EM (m:Nat) (h:m<128):(m.toUInt8.toNat:Int)=m:=by
 have:m.toUInt8.toNat=m:=by simp[Nat.toUInt8];omega
 omega
theorem Eb (m:Nat) (h:m<256):(m.toUInt8.toNat:Int)=m:=by
 have:m.toUInt8.toNat=m:=by simp[Nat.toUInt8];omega
 omega
theorem sR:aV Tryz.prog 97 FC:=by
 intro ys φ r h hφ;unfold FC at h;split at h
 ·rename_i N;cases h;obtain⟨n,rfl⟩:=Int.eq_ofNat_of_zero_le hφ.1;have hn:n≤18446744073709551615:=by omega
  have hl:=eD hn;have hl1:=qq n;refine ax (ah DK aj) (by kernel_rfl) fn97 (by simp) ?_;unfold body97;simp(config := { maxSteps := 3000000 }) [b6];refine⟨by omega,?_⟩;refine au (fun x:Nat×List UInt8=>x.2++(if x.2.length<(bI n).length then bI x.1 else[])=bI n∧x.1≤18446744073709551615∧x.2.length≤(bI n).length) (fun x=>⟨[(0,.pv (.int .u64 x.1)),(3,.own 3),(4,.pv (.int .i64 (bI n).length)),(5,.pv (.int .i64 x.2.length))],[(3,.arr 5 (bytesRow x.2))]⟩) (fun x=>(bI n).length-x.2.length) [] (n,[]) ?_ ?_ ?_;·refine⟨?_,hn,by simp⟩;rw[if_pos (by simp only[List.length_nil];omega),List.nil_append]
  ·simp
  ·rintro⟨m,acc⟩ ⟨h1,h2,h3⟩;dsimp only at h1 h2 h3;have w1:IntKind.i64.wrap ((acc.length:Int)+1)=(acc.length:Int)+1:=wrap_i64 (by omega);have w2:IntKind.u8.wrap ((m:Int)%128)=(m:Int)%128:=by rw[wrap_u8];omega
   have w3:IntKind.u8.wrap ((m:Int)%128+128)=(m:Int)%128+128:=by rw[wrap_u8];omega
   have w4:IntKind.u64.wrap ((m:Int)/128)=(m:Int)/128:=wrap_u64 (by omega);have w5:(m:Int).tmod 128=(m:Int)%128:=Int.tmod_eq_emod_of_nonneg (by omega);by_cases hlt:acc.length<(bI n).length
   ·rw[if_pos hlt]at h1;have hlen:acc.length+(bI m).length=(bI n).length:=by rw[←h1];simp
    by_cases hm:m<128
    ·have hv:=cT hm;rw[hv]at h1 hlen;simp at hlen;simp(config := { maxSteps := 3000000 }) [w1,w2,w3,w4,w5,hlt,aI];refine⟨fun h=>by omega,fun h=>⟨by omega,m/128,acc++[m.toUInt8],⟨?_,by omega,by simp;omega⟩,⟨⟨by omega,by simp⟩,?_⟩,by simp;omega⟩⟩;·rw[if_neg (by simp;omega),List.append_nil];exact h1
     ·rw[aZ];simp only[bytesRow,List.map_cons,List.map_nil];rw[EM m hm];have:(m:Int)%128=m:=by omega
      rw[this]
    ·have hv:=fJ hm;have hl2:=qq (m/128);rw[hv]at h1 hlen;simp at hlen;simp(config := { maxSteps := 3000000 }) [w1,w2,w3,w4,w5,hlt,aI];refine⟨fun h=>⟨by omega,m/128,acc++[(m%128+128).toUInt8],⟨?_,by omega,by simp;omega⟩,⟨⟨by omega,by simp⟩,?_⟩,by simp;omega⟩,fun h=>by omega⟩;·rw[if_pos (by simp;omega)];simpa using h1
     ·rw[aZ];simp only[bytesRow,List.map_cons,List.map_nil];rw[Eb (m%128+128) (by omega)];simp
   ·rw[if_neg hlt,List.append_nil]at h1;simp(config := { maxSteps := 3000000 }) [hlt];rw[h1]
 ·cases h
def df (s:List UInt8):List UInt8:=bI s.length++s
@[simp] def Ak:List AV→Option (Prop×AV)|[.pv (.str s)]=>some (s.length≤1000000,.fr 5 (bytesRow (df s)))|_=>none
theorem Da:aV Tryz.prog 42 Ak:=by
 intro ys φ r h hφ;unfold Ak at h;split at h;·rename_i s;cases h;refine ax (ah zX aj) (by kernel_rfl) fn42 (by simp) ?_;have hl:=eD (n:=s.length) (by omega);have w1:IntKind.u64.wrap (s.length:Int)=(s.length:Int):=wrap_u64 (by omega);unfold body42;simp(config := { maxSteps := 3000000 }) [w1,b6,aI,df,aZ];exact⟨by omega,by omega,by omega,aW s⟩
 ·cases h
theorem Ax:aV Tryz.prog 48 Ak:=by
 intro ys φ r h hφ;unfold Ak at h;split at h
 ·rename_i s;cases h;refine ax (ah sR aj) (by kernel_rfl) fn48 (by simp) ?_;have hl:=eD (n:=s.length) (by omega);have w1:IntKind.u64.wrap (s.length:Int)=(s.length:Int):=wrap_u64 (by omega);unfold body48;simp(config := { maxSteps := 3000000 }) [w1,b6];refine⟨by omega,?_⟩;refine au (fun i:Nat=>i≤s.length) (fun i=>⟨[(0,.pv (.str s)),(3,.own 8),(4,.pv (.int .i64 i))],[(8,.arr 5 (bytesRow (bI s.length++s.take i)))]⟩) (fun i=>s.length-i) [] 0 (by omega) ?_ ?_;·simp
  ·intro i hi;have w2:IntKind.i64.wrap ((i:Int)+1)=(i:Int)+1:=wrap_i64 (by omega);by_cases hlt:i<s.length;·simp(config := { maxSteps := 3000000 }) [w2,hlt,aI];refine⟨by omega,i+1,by omega,⟨by omega,?_⟩,by omega⟩;rw[List.take_succ_eq_append_getElem hlt,←List.append_assoc,aZ _ [s[i]]];rfl
   ·simp(config := { maxSteps := 3000000 }) [hlt];rw[List.take_of_length_le (by omega)];rfl
 ·cases h
@[simp] noncomputable def DV:List AV→Option (Prop×AV)|[.pv (.ro a),.pv (.ro b)]=>(dec eK a).bind fun la=>(dec eK b).map fun lb=>(la.length≤1000000000,.pv (.bool (decide (la=lb))))|_=>none
theorem E2:aV Tryz.prog 19 DV:=by
 intro ys φ r h hφ;unfold DV at h;split at h
 ·rename_i ra rb;obtain⟨a,ha,h⟩:=Option.bind_eq_some_iff.1 h;obtain⟨b,hb,h⟩:=Option.map_eq_some_iff.1 h;cases h;cases aU ha;cases aU hb;refine ax aj (by kernel_rfl) fn19 (by simp) ?_;unfold body19;simp(config := { maxSteps := 3000000 });refine⟨fun hne=>?_,fun hlen=>?_⟩;·intro e;exact hne (by rw[e])
  refine au (fun i:Nat=>i≤a.length∧a.take i=b.take i) (fun i=>⟨[(0,.pv (.ro (bytesRow a))),(1,.pv (.ro (bytesRow b))),(5,.pv (.int .i64 i))],[]⟩) (fun i=>a.length-i) [] 0 (by simp) ?_ ?_;·simp
  ·rintro i ⟨hi,ht⟩;have w2:IntKind.i64.wrap ((i:Int)+1)=(i:Int)+1:=wrap_i64 (by omega);by_cases hlt:i<a.length
   ·have r1:=R.bytesRow_at hlt;have hlb:i<b.length:=by omega
    have r2:=R.bytesRow_at hlb;simp(config := { maxSteps := 3000000 }) [w2,hlt,hlb,r1,r2];refine⟨fun hne e=>hne (by subst e;rfl),fun heq=>⟨i+1,⟨by omega,?_⟩,by omega,by omega⟩⟩;rw[List.take_succ_eq_append_getElem hlt,List.take_succ_eq_append_getElem hlb,ht];congr 2;exact UInt8.toNat_inj.1 (by omega)
   ·simp(config := { maxSteps := 3000000 }) [hlt];rw[List.take_of_length_le (by omega),List.take_of_length_le (by omega)]at ht;exact ht
 ·cases h
def bG:List UInt8→Nat→Nat→Nat×Nat×Int|[],_,_=>(0,0,10)|c::l,i,n=>if(i=9∧1<c.toNat)∨(c.toNat=0∧0<i) then(0,0,11) else if c.toNat<128 then(n+c.toNat%128*2^(7*i),i+1,0) else bG l (i+1) (n+c.toNat%128*2^(7*i))
def al (b:List UInt8) (p:Int):Int×Int×Int:=if p<0∨(b.length:Int)≤p then(0,p,10) else(((bG (b.drop p.toNat) 0 0).1:Int),p+((bG (b.drop p.toNat) 0 0).2.1:Int),(bG (b.drop p.toNat) 0 0).2.2)
theorem pg:∀(l:List UInt8) (i n:Nat),i≤9→n<2^(7*i)→(bG l i n).1<2^64∧(bG l i n).2.1≤i+l.length∧((bG l i n).2.2=0→i<(bG l i n).2.1)∧((bG l i n).2.2≠0→(bG l i n).1=0∧(bG l i n).2.1=0)∧((bG l i n).2.2=0∨(bG l i n).2.2=10∨(bG l i n).2.2=11)
 |[],i,n,hi,hn=>by simp[bG]|c::l,i,n,hi,hn=>by
  unfold bG;have hc:=c.toNat_lt;have hcm:c.toNat%128≤127:=by omega
  have h1:n+c.toNat%128*2^(7*i)<2^(7*(i+1)):=by have:c.toNat%128*2^(7*i)≤127*2^(7*i):=Nat.mul_le_mul_right _ hcm;rw[Nat.mul_add,Nat.pow_add];omega
  split;·simp
  ·rename_i h0;split
   ·refine⟨?_,by simp,by simp,by simp,by simp⟩;dsimp only;by_cases h9:i=9
    ·subst h9;have hc1:c.toNat≤1:=by omega
     have:c.toNat%128*2^(7*9)≤1*2^(7*9):=Nat.mul_le_mul_right _ (by omega);omega
    ·have:2^(7*(i+1))≤2^63:=Nat.pow_le_pow_right (by decide) (by omega);omega
   ·rename_i hbig;have hi8:i≤8:=by omega
    obtain⟨a1,a2,a3,a4⟩:=pg l (i+1) _ (by omega) h1;refine⟨a1,?_,fun h=>?_,a4⟩;·simp only[List.length_cons];omega
    ·have:=a3 h;omega
theorem zS (c:UInt8):ke .andNot .u8 (c.toNat:Int) 128=.int .u8 ((c.toNat%128:Nat):Int):=by
 have key:∀x:Fin 256,IntKind.u8.wrap ((BitVec.ofInt IntKind.u8.bits (x.val:Int)&&&~~~BitVec.ofInt IntKind.u8.bits 128).toNat:Nat)=((x.val%128:Nat):Int):=by decide+kernel
 have h:=key ⟨c.toNat,c.toNat_lt⟩;unfold ke;exact congrArg _ h
theorem Lm {n m i:Nat} (hn:n<2^(7*i)) (hm:n+m*2^(7*i)<2^64):ke .or .u64 (n:Int) ((m:Int)*2^(7*i))=.int .u64 ((n+m*2^(7*i):Nat):Int):=by
 have e1:((m:Int)*2^(7*i))=((m*2^(7*i):Nat):Int):=by simp
 have hn64:n<2^64:=by omega
 have hm64:m*2^(7*i)<2^64:=by omega
 have h1:(BitVec.ofInt 64 (n:Int)).toNat=n:=by rw[BitVec.ofInt_natCast,BitVec.toNat_ofNat,Nat.mod_eq_of_lt hn64]
 have h2:(BitVec.ofInt 64 ((m*2^(7*i):Nat):Int)).toNat=m*2^(7*i):=by rw[BitVec.ofInt_natCast,BitVec.toNat_ofNat,Nat.mod_eq_of_lt hm64]
 have h3:n|||m*2^(7*i)=n+m*2^(7*i):=by rw[Nat.or_comm,←Nat.shiftLeft_eq,←Nat.shiftLeft_add_eq_or_of_lt hn,Nat.add_comm]
 rw[e1];unfold ke;have h4:(BitVec.ofInt IntKind.u64.bits (n:Int)|||BitVec.ofInt IntKind.u64.bits ((m*2^(7*i):Nat):Int)).toNat=n+m*2^(7*i):=by show(BitVec.ofInt 64 (n:Int)|||BitVec.ofInt 64 ((m*2^(7*i):Nat):Int)).toNat=_;rw[BitVec.toNat_or,h1,h2,h3]
 simp only[h4];refine congrArg _ ?_;exact wrap_u64 (by omega)
def val:List UInt8→Nat|[]=>0|c::l=>c.toNat%128+128*val l
theorem mG (l:List UInt8) (c:UInt8):val (l++[c])=val l+c.toNat%128*2^(7*l.length):=by induction l with|nil=>simp[val]|cons x l ih=>
 simp only[List.cons_append,val,ih,List.length_cons];have:2^(7*(l.length+1))=128*2^(7*l.length):=by rw[Nat.mul_add,Nat.pow_add];omega
 rw[this,Nat.mul_add,Nat.mul_left_comm];omega
theorem J0 (l:List UInt8):val l<2^(7*l.length):=by induction l with|nil=>simp[val]|cons x l ih=>
 simp only[val,List.length_cons];have:2^(7*(l.length+1))=128*2^(7*l.length):=by rw[Nat.mul_add,Nat.pow_add];omega
 omega
theorem rJ:∀(l:List UInt8) (c:UInt8),(∀x∈l,128≤x.toNat)→c.toNat<128→(c.toNat≠0∨l=[])→bI (val (l++[c]))=l++[c]
 |[],c,_,hc,_=>by
  have:val ([]++[c])=c.toNat:=by simp[val];omega
  rw[this,cT hc];simp|x::l,c,hl,hc,h0=>by
  have hx:=hl x (by simp);have hx2:=x.toNat_lt;have h0:c.toNat≠0:=by rcases h0 with h|h;exact h;cases h
  have hv:0<val (l++[c]):=by rw[mG];have:0<c.toNat%128*2^(7*l.length):=Nat.mul_pos (by omega) (Nat.pow_pos (by decide));omega
  have ih:=rJ l c (fun y hy=>hl y (by simp[hy])) hc (.inl h0);simp only[List.cons_append,val];rw[fJ (by omega),show(x.toNat%128+128*val (l++[c]))/128=val (l++[c]) from by omega,ih,show(x.toNat%128+128*val (l++[c]))%128+128=x.toNat from by omega];simp
theorem pZ:∀(k n:Nat),n<2^(7*(k+1))→(bI n).length≤k+1
 |0,n,h=>by rw[cT (by simpa using h)];simp|k+1,n,h=>by
  by_cases hn:n<128;·rw[cT hn];simp
  ·rw[fJ hn];have:2^(7*(k+1+1))=128*2^(7*(k+1)):=by rw[Nat.mul_add 7 (k+1),Nat.pow_add];omega
   have:=pZ k (n/128) (by omega);simp only[List.length_cons];omega
@[simp] noncomputable def wJ:List AV→Option (Prop×AV)|[.pv (.ro b),.pv (.int .i64 p)]=>(dec eK b).map fun l=>(l.length≤1000000000∧-9223372036854775808≤p∧p≤9223372036854775807,.aL [.pv (.int .u64 (al l p).1),.pv (.int .i64 (al l p).2.1),.pv (.int .i64 (al l p).2.2)])|_=>none
theorem C8 {n c i:Nat} (hn:n<2^(7*i)) (hc:c≤127):n+c*2^(7*i)<2^(7*(i+1)):=by have:c*2^(7*i)≤127*2^(7*i):=Nat.mul_le_mul_right _ hc;rw[Nat.mul_add,Nat.pow_add];omega
theorem Ck (l:List UInt8) (i:Nat):cut (bytesRow l) (i:Int) (l.length:Int)=bytesRow (l.drop i):=by have:List.take l.length (bytesRow l)=bytesRow l:=List.take_of_length_le (by simp[bytesRow]);unfold cut;rw[Int.toNat_natCast,Int.toNat_natCast,this];simp[bytesRow,List.map_drop]
theorem vO:aV Tryz.prog 98 wJ:=by
 intro ys φ r h hφ;unfold wJ at h;split at h
 ·rename_i rb p;obtain⟨b,hb,h⟩:=Option.map_eq_some_iff.1 h;cases h;cases aU hb;obtain⟨hl,hp1,hp2⟩:=hφ;refine ax aj (by kernel_rfl) fn98 (by simp) ?_;unfold body98;by_cases h0:p<0∨(b.length:Int)≤p
  ·have ht:al b p=(0,p,10):=by unfold al;rw[if_pos h0]
   by_cases hp0:p<0;·simp(config := { maxSteps := 3000000 }) [hp0,ht]
   ·have hbp:(b.length:Int)≤p:=by omega
    simp(config := { maxSteps := 3000000 }) [hp0,hbp,ht]
  ·obtain⟨q,rfl⟩:=Int.eq_ofNat_of_zero_le (show 0≤p by omega);have ht:al b q=(((bG (b.drop q) 0 0).1:Int),(q:Int)+((bG (b.drop q) 0 0).2.1:Int),(bG (b.drop q) 0 0).2.2):=by unfold al;rw[if_neg h0];rfl
   have hq0:¬(q:Int)<0:=by omega
   have hq1:¬(b.length:Int)≤q:=by omega
   have hq2:¬b.length≤q:=by omega
   have hc:=Ck b q;rw[ht];simp(config := { maxSteps := 3000000 }) [hq0,hq1,hq2,hc];refine⟨⟨by omega,aW b⟩,?_⟩;generalize hD:b.drop q=D;have hDl:D.length+q=b.length:=by rw[←hD];simp;omega
   have hbD:(b.length:Int)-q=(D.length:Int):=by omega
   refine au (fun x:Nat×Nat=>x.1≤D.length∧x.1≤9∧x.2<2^(7*x.1)∧bG D 0 0=bG (D.drop x.1) x.1 x.2) (fun x=>⟨[(1,.pv (.int .i64 q)),(4,.pv (.int .u64 x.2)),(6,.pv (.int .i64 10)),(21,.pv (.ro (bytesRow D))),(22,.pv (.int .i64 D.length)),(23,.pv (.int .i64 x.1))],[]⟩) (fun x=>D.length-x.1) [] (0,0) ?_ ?_ ?_;·simp
   ·simp;omega
   ·rintro⟨i,n⟩ ⟨hi,hi9,hn,hG⟩;dsimp only at hi hi9 hn hG;have w1:IntKind.i64.wrap ((i:Int)+1)=(i:Int)+1:=wrap_i64 (by omega);have w2:IntKind.i64.wrap (7*(i:Int))=7*(i:Int):=wrap_i64 (by omega);have w3:IntKind.i64.wrap ((q:Int)+(i:Int))=(q:Int)+(i:Int):=wrap_i64 (by omega);have w4:IntKind.i64.wrap ((q:Int)+(i:Int)+1)=(q:Int)+(i:Int)+1:=wrap_i64 (by omega);by_cases hlt:i<D.length
    ·have r1:=R.bytesRow_at hlt;rw[List.drop_eq_getElem_cons hlt,bG]at hG;have hc:=D[i].toNat_lt;have ha:=zS D[i];simp(config := { maxSteps := 3000000 }) [w1,w2,w3,w4,hlt,r1,ha];have hcm:D[i].toNat%128≤127:=by omega
     have hn':=C8 hn hcm;have hor:∀hm:n+D[i].toNat%128*2^(7*i)<2^64,ke .or .u64 (n:Int) (IntKind.u64.wrap (IntKind.u64.wrap ((D[i].toNat:Int)%128)*2^min (7*(i:Int)).toNat IntKind.u64.bits))=.int .u64 ((n+D[i].toNat%128*2^(7*i):Nat):Int):=by
      intro hm;have e1:IntKind.u64.wrap ((D[i].toNat:Int)%128)=((D[i].toNat%128:Nat):Int):=by rw[wrap_u64 (by omega)];omega
      have e2:min (7*(i:Int)).toNat IntKind.u64.bits=7*i:=by
       have:(7*(i:Int)).toNat=7*i:=by omega
       rw[this];exact Nat.min_eq_left (show 7*i≤64 by omega)
      have e3:IntKind.u64.wrap (((D[i].toNat%128:Nat):Int)*2^(7*i))=((D[i].toNat%128:Nat):Int)*2^(7*i):=by
       have e4:(((D[i].toNat%128:Nat):Int)*2^(7*i))=((D[i].toNat%128*2^(7*i):Nat):Int):=by simp
       rw[e4];exact wrap_u64 (by omega)
      rw[e1,e2,e3];exact Lm hn hm
     have h63:i≤8→n+D[i].toNat%128*2^(7*i)<2^64:=fun h8=>by have:2^(7*(i+1))≤2^63:=Nat.pow_le_pow_right (by decide) (by omega);omega
     have h64:¬(i=9∧1<D[i].toNat)→n+D[i].toNat%128*2^(7*i)<2^64:=fun h=>by
      by_cases h9:i=9
      ·have hle:D[i].toNat%128*2^(7*i)≤1*2^(7*i):=Nat.mul_le_mul_right _ (by omega);have:2^(7*i)=2^63:=by rw[h9]
       omega
      ·exact h63 (by omega)
     have hA:(i=9∧1<D[i].toNat)∨(D[i].toNat=0∧0<i)→bG D 0 0=(0,0,11):=fun h=>by rw[hG,if_pos h]
     have hN:¬((i=9∧1<D[i].toNat)∨(D[i].toNat=0∧0<i))→bG D 0 0=if D[i].toNat<128 then(n+D[i].toNat%128*2^(7*i),i+1,0) else bG (D.drop (i+1)) (i+1) (n+D[i].toNat%128*2^(7*i)):=fun h=>by rw[hG,if_neg h]
     clear hG;generalize n+D[i].toNat%128*2^(7*i)=m at*;generalize D[i].toNat=c at*;refine⟨fun a1 a2=>⟨fun _ _=>?_,fun hx=>?_⟩,fun hx=>⟨fun b1 b2 b3=>?_,fun hy=>⟨by omega,fun h1=>?_,fun h2=>?_⟩⟩⟩;·rw[hA (.inl ⟨by omega,by omega⟩)];simp
     ·exfalso;have:=hx a1;omega
     ·rw[hA (.inr ⟨by omega,by omega⟩)];simp
     ·have hno:¬((i=9∧1<c)∨(c=0∧0<i)):=by
       rintro(⟨x,y⟩|⟨x,y⟩);·have:=hx (by omega);omega
       ·have:=hy h1 x;omega
      rw[hN hno,if_pos (by omega),hor (h64 fun h=>hno (.inl h))];exact⟨rfl,by simp;omega,rfl⟩
     ·have hno:¬((i=9∧1<c)∨(c=0∧0<i)):=by
       rintro(⟨x,y⟩|⟨x,y⟩);·have:=hx (by omega);omega
       ·omega
      have hi8:i≤8:=by
       have:¬i=9:=fun h=>by have:=hx (by omega);omega
       omega
      refine⟨i+1,m,⟨by omega,by omega,hn',?_⟩,⟨hor (h63 hi8),by omega⟩,by omega⟩;rw[hN hno,if_neg (by omega)]
    ·have hd:D.drop i=[]:=by rw[List.drop_eq_nil_iff];omega
     have he:bG D 0 0=(0,0,10):=by rw[hG,hd];rfl
     simp(config := { maxSteps := 3000000 }) [w1,w2,hlt,he]
 ·cases h
theorem dc (b:List UInt8) (p:Int):((al b p).2.2=0→0≤p∧p<(al b p).2.1∧(al b p).2.1≤b.length)∧0≤(al b p).1∧(al b p).1≤18446744073709551615∧((al b p).2.2≠0→(al b p).1=0∧(al b p).2.1=p)∧((al b p).2.2=0∨(al b p).2.2=10∨(al b p).2.2=11):=by
 unfold al;split;·simp
 ·rename_i h0;obtain⟨h1,h2,h3,h4,h5⟩:=pg (b.drop p.toNat) 0 0 (by omega) (by simp);have hd:(b.drop p.toNat).length=b.length-p.toNat:=by simp
  rw[hd]at h2;dsimp only;refine⟨fun h=>?_,by omega,by omega,fun h=>?_,h5⟩;·have:=h3 h;omega
  ·have:=h4 h;omega
theorem H6 (l:List UInt8) (i j:Int):cut (bytesRow l) i j=bytesRow ((l.take j.toNat).drop i.toNat):=by simp[cut,bytesRow,List.map_drop,List.map_take]
def ba (b:List UInt8) (p:Int):List UInt8×Int×Int:=if(al b p).2.2≠0 then([],p,(al b p).2.2) else if(b.length:Int)-(al b p).2.1<(al b p).1 then([],p,10) else((b.drop (al b p).2.1.toNat).take (al b p).1.toNat,(al b p).2.1+(al b p).1,0)
@[simp] noncomputable def vA:List AV→Option (Prop×AV)|[.pv (.ro b),.pv (.int .i64 p)]=>(dec eK b).map fun l=>(l.length≤1000000000∧-9223372036854775808≤p∧p≤9223372036854775807,.aL [.pv (.str (ba l p).1),.pv (.int .i64 (ba l p).2.1),.pv (.int .i64 (ba l p).2.2)])|_=>none
theorem A5:aV Tryz.prog 51 vA:=by
 intro ys φ r h hφ;unfold vA at h;split at h
 ·rename_i rb p;obtain⟨b,hb,h⟩:=Option.map_eq_some_iff.1 h;cases h;cases aU hb;obtain⟨hl,hp1,hp2⟩:=hφ;refine ax (ah vO aj) (by kernel_rfl) fn51 (by simp) ?_;unfold body51;obtain⟨k1,k2,k3,k4,k5⟩:=dc b p;have hT:ba b p=if(al b p).2.2≠0 then([],p,(al b p).2.2) else if(b.length:Int)-(al b p).2.1<(al b p).1 then([],p,10) else((b.drop (al b p).2.1.toNat).take (al b p).1.toNat,(al b p).2.1+(al b p).1,0):=rfl;generalize ba b p=T at*;obtain⟨n,q,e,hL⟩:∃n q e,al b p=(n,q,e):=⟨_,_,_,rfl⟩;rw[hL]at k1 k2 k3 k4 k5 hT;dsimp only at k1 k2 k3 k4 k5 hT;by_cases he:e=0
  ·obtain⟨j1,j2,j3⟩:=k1 he;subst he;have w1:IntKind.i64.wrap ((b.length:Int)-q)=(b.length:Int)-q:=wrap_i64 (by omega);have w2:IntKind.u64.wrap ((b.length:Int)-q)=(b.length:Int)-q:=wrap_u64 (by omega);by_cases hgt:(b.length:Int)-q<n;·rw[if_neg (by simp),if_pos hgt]at hT;subst hT;simp(config := { maxSteps := 3000000 }) [hl,hp1,hp2,hL,w1,w2,hgt]
   ·rw[if_neg (by simp),if_neg hgt]at hT;subst hT;have w3:IntKind.i64.wrap n=n:=wrap_i64 (by omega);have w4:IntKind.i64.wrap (q+n)=q+n:=wrap_i64 (by omega);have hc:cut (bytesRow b) q (q+n)=bytesRow ((b.drop q.toNat).take n.toNat):=by rw[H6,List.drop_take,show(q+n).toNat-q.toNat=n.toNat from by omega]
    simp(config := { maxSteps := 3000000 }) [hl,hp1,hp2,hL,w1,w2,w3,w4,hgt,hc];exact⟨by omega,by omega,by omega,aW b⟩
  ·rw[if_pos he]at hT;subst hT;simp(config := { maxSteps := 3000000 }) [hl,hp1,hp2,hL,he]
 ·cases h
def jv (b:List UInt8) (at':Nat) (w:List UInt8):Bool:=decide (at'+w.length≤b.length∧(b.drop at').take w.length=w)
@[simp] noncomputable def CC:List AV→Option (Prop×AV)|[.pv (.ro b),.pv (.int .i64 i),.pv (.ro w)]=>(dec eK b).bind fun lb=>(dec eK w).map fun lw=>(0≤i∧i≤1000000000∧lb.length≤1000000000∧lw.length≤1000000000,.pv (.bool (jv lb i.toNat lw)))|_=>none
theorem Gq:aV Tryz.prog 126 CC:=by
 intro ys φ r h hφ;unfold CC at h;split at h
 ·rename_i rb I rw';obtain⟨b,hb,h⟩:=Option.bind_eq_some_iff.1 h;obtain⟨l,hl,h⟩:=Option.map_eq_some_iff.1 h;cases h;cases aU hb;cases aU hl;obtain⟨p,rfl⟩:=Int.eq_ofNat_of_zero_le hφ.1;obtain⟨h0,h1,h2,h3⟩:=hφ;have w1:IntKind.i64.wrap ((p:Int)+(l.length:Int))=(p:Int)+(l.length:Int):=wrap_i64 (by omega);refine ax aj (by kernel_rfl) fn126 (by simp) ?_;unfold body126;by_cases hle:p+l.length≤b.length
  ·have hle':¬(b.length:Int)<(p:Int)+(l.length:Int):=by omega
   simp(config := { maxSteps := 3000000 }) [w1,hle'];refine au (fun i:Nat=>i≤l.length∧(b.drop p).take i=l.take i) (fun i=>⟨[(0,.pv (.ro (bytesRow b))),(1,.pv (.int .i64 p)),(2,.pv (.ro (bytesRow l))),(7,.pv (.int .i64 i))],[]⟩) (fun i=>l.length-i) [] 0 (by simp) ?_ ?_;·simp
   ·rintro i ⟨hi,ht⟩;have w2:IntKind.i64.wrap ((i:Int)+1)=(i:Int)+1:=wrap_i64 (by omega);have w3:IntKind.i64.wrap ((p:Int)+(i:Int))=(p:Int)+(i:Int):=wrap_i64 (by omega);by_cases hlt:i<l.length
    ·have r1:=R.bytesRow_at hlt;have hlb:p+i<b.length:=by omega
     have hlb':(p:Int)+(i:Int)<(b.length:Int):=by omega
     have hp0:0≤(p:Int)+(i:Int):=by omega
     have r2:rowAt (bytesRow b) ((p:Int)+(i:Int))=[.int .u8 (b[p+i].toNat:Int)]:=by have:=R.bytesRow_at hlb;simpa using this
     have hdl:i<(b.drop p).length:=by simp;omega
     simp(config := { maxSteps := 3000000 }) [w2,w3,hlt,hlb,hlb',hp0,r1,r2];have hg:(b.drop p)[i]=b[p+i]:=by rw[List.getElem_drop]
     refine⟨fun hne=>?_,fun he=>⟨i+1,⟨by omega,?_⟩,by omega,by omega⟩⟩
     ·unfold jv;rw[decide_eq_false_iff_not];rintro⟨_,e⟩;refine hne ?_;have e2:((b.drop p).take l.length)[i]?=l[i]?:=by rw[e]
      rw[List.getElem?_take,if_pos hlt,List.getElem?_eq_getElem hdl,List.getElem?_eq_getElem hlt,hg]at e2;simp only[Option.some.injEq]at e2;rw[e2]
     ·rw[List.take_succ_eq_append_getElem hlt,List.take_succ_eq_append_getElem hdl,ht,hg];congr 2;exact UInt8.toNat_inj.1 (by omega)
    ·simp(config := { maxSteps := 3000000 }) [hlt];unfold jv;have hil:i=l.length:=by omega
     rw[hil,List.take_length]at ht;simp[hle,ht]
  ·have hle':(b.length:Int)<(p:Int)+(l.length:Int):=by omega
   have hno:jv b p l=false:=by unfold jv;simp[hle]
   simp(config := { maxSteps := 3000000 }) [w1,hle',hno]
 ·cases h
theorem jy:aV Tryz.prog 99 wJ:=by
 intro ys φ r h hφ;unfold wJ at h;split at h
 ·rename_i rb p;obtain⟨b,hb,h⟩:=Option.map_eq_some_iff.1 h;cases h;cases aU hb;obtain⟨hl,hp1,hp2⟩:=hφ;refine ax (ah sR (ah Gq aj)) (by kernel_rfl) fn99 (by simp) ?_;unfold body99;by_cases h0:p<0∨(b.length:Int)≤p
  ·have ht:al b p=(0,p,10):=by unfold al;rw[if_pos h0]
   by_cases hp0:p<0;·simp(config := { maxSteps := 3000000 }) [hp0,ht]
   ·have hbp:(b.length:Int)≤p:=by omega
    simp(config := { maxSteps := 3000000 }) [hp0,hbp,ht]
  ·obtain⟨q,rfl⟩:=Int.eq_ofNat_of_zero_le (show 0≤p by omega);have ht:al b q=(((bG (b.drop q) 0 0).1:Int),(q:Int)+((bG (b.drop q) 0 0).2.1:Int),(bG (b.drop q) 0 0).2.2):=by unfold al;rw[if_neg h0];rfl
   have hq0:¬(q:Int)<0:=by omega
   have hq1:¬(b.length:Int)≤q:=by omega
   have hq2:¬b.length≤q:=by omega
   rw[ht];simp(config := { maxSteps := 3000000 }) [hq0,hq1,hq2];generalize hD:b.drop q=D;have hDl:D.length+q=b.length:=by rw[←hD];simp;omega
   refine au (fun i:Nat=>i≤D.length∧i≤9∧(∀x∈D.take i,128≤x.toNat)∧bG D 0 0=bG (D.drop i) i (val (D.take i))) (fun i=>⟨[(0,.pv (.ro (bytesRow b))),(1,.pv (.int .i64 q)),(7,.pv (.int .u64 (val (D.take i)))),(8,.pv (.int .i64 i))],[]⟩) (fun i=>D.length-i) [] 0 ?_ ?_ ?_;·simp[val]
   ·simp[val]
   ·rintro i ⟨hi,hi9,hall,hG⟩;have w1:IntKind.i64.wrap ((i:Int)+1)=(i:Int)+1:=wrap_i64 (by omega);have w2:IntKind.i64.wrap (7*(i:Int))=7*(i:Int):=wrap_i64 (by omega);have w3:IntKind.i64.wrap ((q:Int)+(i:Int))=(q:Int)+(i:Int):=wrap_i64 (by omega);have w4:IntKind.i64.wrap ((q:Int)+(i:Int)+1)=(q:Int)+(i:Int)+1:=wrap_i64 (by omega);have hi10:(i:Int)<10:=by omega
    by_cases hlt:i<D.length
    ·have hlt1:(q:Int)+i<b.length:=by omega
     have hlt2:¬(b.length:Int)≤(q:Int)+i:=by omega
     have hqi:q+i<b.length:=by omega
     have r1:rowAt (bytesRow b) ((q:Int)+(i:Int))=[.int .u8 (D[i].toNat:Int)]:=by
      have h1:=R.bytesRow_at hqi;have h2:D[i]=b[q+i]:=by subst hD;rw[List.getElem_drop]
      rw[h2];simpa using h1
     have hq3:0≤(q:Int)+i:=by omega
     rw[List.drop_eq_getElem_cons hlt,bG]at hG;have hc:=D[i].toNat_lt;have hn:=J0 (D.take i);have htl:(D.take i).length=i:=by simp;omega
     rw[htl]at hn;have hcm:D[i].toNat%128≤127:=by omega
     have hn':=C8 hn hcm;have hv:val (D.take (i+1))=val (D.take i)+D[i].toNat%128*2^(7*i):=by rw[List.take_succ_eq_append_getElem hlt,mG,htl]
     have h63:i≤8→val (D.take i)+D[i].toNat%128*2^(7*i)<2^64:=fun h8=>by have:2^(7*(i+1))≤2^63:=Nat.pow_le_pow_right (by decide) (by omega);omega
     have h64:¬(i=9∧1<D[i].toNat)→val (D.take i)+D[i].toNat%128*2^(7*i)<2^64:=fun h=>by
      by_cases h9:i=9
      ·have hle:D[i].toNat%128*2^(7*i)≤1*2^(7*i):=Nat.mul_le_mul_right _ (by omega);have:2^(7*i)=2^63:=by rw[h9]
       omega
      ·exact h63 (by omega)
     have c1:IntKind.u64.wrap (D[i].toNat:Int)=(D[i].toNat:Int):=wrap_u64 (by omega);have hpw:2^(7*i)≤2^63:=Nat.pow_le_pow_right (by decide) (by omega);have c2:IntKind.u64.wrap (2^min (7*(i:Int)).toNat IntKind.u64.bits)=((2^(7*i):Nat):Int):=by
      have e1:min (7*(i:Int)).toNat IntKind.u64.bits=7*i:=by
       have:(7*(i:Int)).toNat=7*i:=by omega
       rw[this];exact Nat.min_eq_left (show 7*i≤64 by omega)
      rw[e1,show((2:Int)^(7*i))=((2^(7*i):Nat):Int) from by simp];exact wrap_u64 (by omega)
     by_cases hA:i=9∧1<D[i].toNat
     ·rw[if_pos (.inl hA)]at hG;obtain⟨h9,h1c⟩:=hA;have h9':((i:Int)=9)=True:=eq_true (by omega);have h1c':(1:Int)<(D[i].toNat:Int):=by omega
      simp(config := { maxSteps := 3000000 }) [w1,w2,w3,w4,hi10,hlt1,hlt2,hq3,r1,c1,c2,h9',h1c',hG];omega
     ·have hN:=h64 hA;obtain⟨M,hM⟩:∃M,M=D[i].toNat%128*2^(7*i):=⟨_,rfl⟩;have c3:IntKind.u64.wrap ((D[i].toNat:Int).tmod 128*2^(7*i))=(M:Int):=by
       have e0:(D[i].toNat:Int).tmod 128=((D[i].toNat%128:Nat):Int):=by rw[Int.tmod_eq_emod_of_nonneg (by omega)];omega
       rw[e0,hM,show((D[i].toNat%128:Nat):Int)*2^(7*i)=((D[i].toNat%128*2^(7*i):Nat):Int) from by simp];exact wrap_u64 (by omega)
      obtain⟨V,hV⟩:∃V,V=val (D.take (i+1)):=⟨_,rfl⟩;have hVM:V=val (D.take i)+M:=by rw[hV,hv,hM]
      have c4:IntKind.u64.wrap ((val (D.take i):Int)+(M:Int))=(V:Int):=by rw[show((val (D.take i):Int)+(M:Int))=((val (D.take i)+M:Nat):Int) from by simp,←hVM];exact wrap_u64 (by omega)
      have hV64:(V:Int)≤18446744073709551615:=by omega
      have hp:b6 (V:Int)=bI V:=by rw[b6,Int.toNat_natCast]
      have hpl:(bI V).length≤10:=pZ 9 V (by omega);have hpl9:(bI V).length≤1000000000:=by omega
      have h7:0≤7*(i:Int):=by omega
      have hq9:(q:Int)≤1000000000:=by omega
      have hA1:(i:Int)=9→¬1<(D[i].toNat:Int):=fun h1 h2=>hA ⟨by omega,by omega⟩;have hA2:((i:Int)=9→(D[i].toNat:Int)≤1)=True:=eq_true fun h1=>by have:=hA1 h1;omega
      by_cases h128:D[i].toNat<128
      ·have h128i:(D[i].toNat:Int)<128:=by omega
       by_cases h00:D[i].toNat=0∧0<i
       ·rw[if_pos (.inr h00)]at hG;have hlt7:(bI V).length≤i:=by
         obtain⟨k,rfl⟩:∃k,i=k+1:=⟨i-1,by omega⟩;refine pZ k V ?_;have:M=0:=by rw[hM,h00.1];simp
         omega
        have hne:¬((i:Int)+1=((bI V).length:Int)):=by omega
        by_cases hst:jv b q (bI V)=true;·simp(config := { maxSteps := 3000000 }) [w1,w2,w3,w4,hi10,hlt1,hlt2,hq3,r1,c1,c2,c3,c4,hV64,hp,hpl9,h7,hq9,hA2,h128i,hst,hne,hG,hl]
        ·have hst':jv b q (bI V)=false:=by simpa using hst
         simp(config := { maxSteps := 3000000 }) [w1,w2,w3,w4,hi10,hlt1,hlt2,hq3,r1,c1,c2,c3,c4,hV64,hp,hpl9,h7,hq9,hA2,h128i,hst',hne,hG,hl]
       ·rw[if_neg (by rintro(h|h);exact hA h;exact h00 h),if_pos h128]at hG;rw[←hM,←hVM]at hG;have hpe:bI V=D.take (i+1):=by
         have:=rJ (D.take i) D[i] hall h128 (by
          by_cases hc0:D[i].toNat=0
          ·right;have:i=0:=by omega
           subst this;simp
          ·exact .inl hc0);rw[←List.take_succ_eq_append_getElem hlt]at this;rw[hV,this]
        have hle1:(bI V).length=i+1:=by rw[hpe];simp;omega
        have heq:((i:Int)+1=((bI V).length:Int))=True:=eq_true (by omega);have hst:jv b q (bI V)=true:=by unfold jv;rw[hD,hle1,hpe];simp;omega
        simp(config := { maxSteps := 3000000 }) [w1,w2,w3,w4,hi10,hlt1,hlt2,hq3,r1,c1,c2,c3,c4,hV64,hp,hpl9,h7,hq9,hA2,h128i,hst,heq,hG,hl];omega
      ·have h128i:¬(D[i].toNat:Int)<128:=by omega
       rw[if_neg (by rintro(h|h);exact hA h;omega),if_neg h128]at hG;rw[←hM,←hVM]at hG;simp(config := { maxSteps := 3000000 }) [w1,w2,w3,w4,hi10,hlt1,hlt2,hq3,r1,c1,c2,c3,c4,hV64,hp,hpl9,h7,hq9,hA2,h128i];have hi8:i≤8:=by have:¬i=9:=fun h9=>hA ⟨h9,by omega⟩;omega
       have hall':∀x∈D.take (i+1),128≤x.toNat:=by
        intro x hx;rw[List.take_succ_eq_append_getElem hlt,List.mem_append]at hx;rcases hx with hx|hx;·exact hall x hx
        ·simp only[List.mem_singleton]at hx;subst hx;omega
       exact⟨fun a1 a2=>absurd a2 (hA1 a1),i+1,⟨by omega,by omega,hall',by rw[hG,hV]⟩,⟨by rw[hV],by omega⟩,by omega⟩
    ·have hd:D.drop i=[]:=by rw[List.drop_eq_nil_iff];omega
     have he:bG D 0 0=(0,0,10):=by rw[hG,hd];rfl
     have hlt2:(b.length:Int)≤(q:Int)+i:=by omega
     simp(config := { maxSteps := 3000000 }) [w1,w2,w3,hi10,hlt2,he]
 ·cases h
theorem uK (jy:aV Tryz.prog 99 wJ):aV Tryz.prog 55 vA:=by
 intro ys φ r h hφ;unfold vA at h;split at h
 ·rename_i rb p;obtain⟨b,hb,h⟩:=Option.map_eq_some_iff.1 h;cases h;cases aU hb;obtain⟨hl,hp1,hp2⟩:=hφ;refine ax (ah jy aj) (by kernel_rfl) fn55 (by simp) ?_;unfold body55;obtain⟨k1,k2,k3,k4,k5⟩:=dc b p;have hT:ba b p=if(al b p).2.2≠0 then([],p,(al b p).2.2) else if(b.length:Int)-(al b p).2.1<(al b p).1 then([],p,10) else((b.drop (al b p).2.1.toNat).take (al b p).1.toNat,(al b p).2.1+(al b p).1,0):=rfl;generalize ba b p=T at*;obtain⟨n,q,e,hL⟩:∃n q e,al b p=(n,q,e):=⟨_,_,_,rfl⟩;rw[hL]at k1 k2 k3 k4 k5 hT;dsimp only at k1 k2 k3 k4 k5 hT;have w2:IntKind.u64.wrap (b.length:Int)=(b.length:Int):=wrap_u64 (by omega);by_cases he:e=0
  ·obtain⟨j1,j2,j3⟩:=k1 he;subst he;by_cases hgt:(b.length:Int)<n;·rw[if_neg (by simp),if_pos (by omega)]at hT;subst hT;simp(config := { maxSteps := 3000000 }) [hl,hp1,hp2,hL,w2,hgt]
   ·have w3:IntKind.i64.wrap n=n:=wrap_i64 (by omega);have w4:IntKind.i64.wrap (q+n)=q+n:=wrap_i64 (by omega);by_cases hgt2:(b.length:Int)<q+n;·rw[if_neg (by simp),if_pos (by omega)]at hT;subst hT;simp(config := { maxSteps := 3000000 }) [hl,hp1,hp2,hL,w2,w3,w4,hgt,hgt2]
    ·rw[if_neg (by simp),if_neg (by omega)]at hT;subst hT;have hc:cut (bytesRow b) q (q+n)=bytesRow ((b.drop q.toNat).take n.toNat):=by rw[H6,List.drop_take,show(q+n).toNat-q.toNat=n.toNat from by omega]
     simp(config := { maxSteps := 3000000 }) [hl,hp1,hp2,hL,w2,w3,w4,hgt,hgt2,hc];exact⟨by omega,by omega,by omega,aW b⟩
  ·rw[if_pos he]at hT;subst hT;simp(config := { maxSteps := 3000000 }) [hl,hp1,hp2,hL,he]
 ·cases h
structure Pn where
 i:Int
 v:Int
 u:Int deriving DecidableEq
def rowP (e:Pn):List PV:=[.int .u64 e.i,.int .u64 e.v,.int .u64 e.u]
theorem kc:∀a b,rowP a=rowP b→a=b:=by rintro⟨k,n,t⟩ ⟨k',n',t'⟩ h;simp only[rowP,List.cons.injEq,PV.int.injEq,true_and,and_true]at h;obtain⟨h1,h2,h3⟩:=h;rw[h1,h2,h3]
def aC (l:List Pn):List (List PV):=l.map rowP
@[simp] theorem MM:aC []=[]:=rfl
@[simp] theorem FT (l:List Pn):(aC l).length=l.length:=by simp[aC]
theorem gn (l m:List Pn):aC (l++m)=aC l++aC m:=by simp[aC]
theorem fE (l:List Pn):∀r∈aC l,r.length=3:=by intro r hr;simp only[aC,List.mem_map]at hr;obtain⟨c,_,rfl⟩:=hr;rfl
theorem cL {l:List Pn}{i:Nat} (h:i<l.length):rowAt (aC l) (i:Int)=[.int .u64 l[i].i,.int .u64 l[i].v,.int .u64 l[i].u]:=by simp[rowAt,aC,h,rowP]
@[simp] theorem MY (l:List Pn):dec rowP (aC l)=some l:=ni kc l
theorem aJ {rows:List (List PV)}{l:List Pn} (h:dec rowP rows=some l):rows=aC l:=mP h
theorem bF (l:List Pn):bV (aC l):=by intro r hr p hp;simp only[aC,List.mem_map]at hr;obtain⟨c,_,rfl⟩:=hr;simp only[rowP,List.mem_cons,List.not_mem_nil,or_false]at hp;rcases hp with rfl|rfl|rfl<;>rfl
def eb (l:List Pn):Bool:=(List.range (l.length-1)).all fun k=>match l[k]?,l[k+1]? with|some a,some b=>decide (a.i<b.i)|_,_=>true
theorem nQ (l:List Pn):eb l=true↔∀(k:Nat) (h:k+1<l.length),l[k].i<l[k+1].i:=by
 unfold eb;rw[List.all_eq_true];constructor;·intro h k hk;have:=h k (by rw[List.mem_range];omega);rw[List.getElem?_eq_getElem (by omega),List.getElem?_eq_getElem hk]at this;simpa using this
 ·intro h k hk;rw[List.mem_range]at hk;rw[List.getElem?_eq_getElem (by omega),List.getElem?_eq_getElem (show k+1<l.length by omega)];simpa using h k (by omega)
theorem uc {l:List Pn}{k:Nat} (h:k+1<l.length) (hk:l[k+1].i≤l[k].i):eb l=false:=by cases hr:eb l with|false=>rfl|true=>have:=(nQ l).1 hr k h;omega
@[simp] noncomputable def Zy:List AV→Option (Prop×AV)|[.agg [.pv (.ro a)]]=>(dec rowP a).map fun l=>(l.length≤1000000000,.pv (.bool (eb l)))|_=>none
@[simp] noncomputable def ZU:List AV→Option (Prop×AV)|[.pv (.ro a)]=>(dec rowP a).map fun l=>(l.length≤1000000000,.pv (.bool (eb l)))|_=>none
theorem qi:aV Tryz.prog 37 Zy:=by
 intro ys φ r h hφ;unfold Zy at h;split at h
 ·rename_i ra;obtain⟨a,ha,h⟩:=Option.map_eq_some_iff.1 h;cases h;cases aJ ha;refine ax aj (by kernel_rfl) fn37 (by simp) ?_;unfold body37;simp(config := { maxSteps := 3000000 });refine au (fun i:Nat=>i≤a.length∧∀(k:Nat) (h:k+1<a.length),k+1<i→a[k].i<a[k+1].i) (fun i=>⟨[(1,.ptr 1 0),(6,.pv (.int .i64 a.length)),(7,.pv (.int .i64 i))],[(1,.box [.pv (.ro (aC a))])]⟩) (fun i=>a.length-i) [] 0 ?_ ?_ ?_;·exact⟨Nat.zero_le _,fun k h h2=>absurd h2 (by omega)⟩
  ·simp
  ·rintro i ⟨hi,ht⟩;have w2:IntKind.i64.wrap ((i:Int)+1)=(i:Int)+1:=wrap_i64 (by omega);have w3:IntKind.i64.wrap ((i:Int)-1)=(i:Int)-1:=wrap_i64 (by omega);by_cases hlt:i<a.length
   ·have r1:=cL hlt;by_cases h0:i=0;·subst h0;have wm:IntKind.i64.wrap (-1)=-1:=wrap_i64 (by omega);have rm:rowAt (aC a) (-1)=[.int .u64 a[0].i,.int .u64 a[0].v,.int .u64 a[0].u]:=r1;have rz:rowAt (aC a) 0=[.int .u64 a[0].i,.int .u64 a[0].v,.int .u64 a[0].u]:=r1;simp(config := { maxSteps := 3000000 }) [hlt,rm,rz,wm];exact⟨1,⟨by omega,fun k h h2=>absurd h2 (by omega)⟩,by rw[wrap_i64 (by omega)];rfl,by omega⟩
    ·obtain⟨k,hik⟩:∃k,i=k+1:=⟨i-1,by omega⟩;have hk:k<a.length:=by omega
     have r2:=cL hk;have w3:IntKind.i64.wrap ((i:Int)-1)=(k:Int):=by rw[wrap_i64 (by omega)];omega
     have h0i:0<i:=by omega
     simp(config := { maxSteps := 3000000 }) [w2,w3,hlt,hk,r1,r2,h0i];subst hik;refine⟨fun h=>uc (k:=k) hlt h,fun h=>⟨k+2,⟨by omega,fun j hj h2=>?_⟩,by omega,by omega⟩⟩;by_cases hjk:j=k;·subst hjk;exact h
     ·exact ht j hj (by omega)
   ·simp(config := { maxSteps := 3000000 }) [hlt];rw[nQ];exact fun k h=>ht k h (by omega)
 ·cases h
theorem xY:aV Tryz.prog 44 ZU:=by
 intro ys φ r h hφ;unfold ZU at h;split at h
 ·rename_i ra;obtain⟨a,ha,h⟩:=Option.map_eq_some_iff.1 h;cases h;cases aJ ha;refine ax aj (by kernel_rfl) fn44 (by simp) ?_;unfold body44;simp(config := { maxSteps := 3000000 });refine au (fun i:Nat=>1≤i∧i≤a.length+1∧∀(k:Nat) (h:k+1<a.length),k+1<i→a[k].i<a[k+1].i) (fun i=>⟨[(0,.pv (.ro (aC a))),(3,.pv (.int .i64 i))],[]⟩) (fun i=>a.length+1-i) [] 1 ?_ ?_ ?_;·exact⟨by omega,by omega,fun k h h2=>absurd h2 (by omega)⟩
  ·simp
  ·rintro i ⟨hi1,hi,ht⟩;obtain⟨k,hik⟩:∃k,i=k+1:=⟨i-1,by omega⟩;have w2:IntKind.i64.wrap ((i:Int)+1)=(i:Int)+1:=wrap_i64 (by omega);have w3:IntKind.i64.wrap ((i:Int)-1)=(k:Int):=by rw[wrap_i64 (by omega)];omega
   by_cases hlt:i<a.length
   ·have r1:=cL hlt;have hk:k<a.length:=by omega
    have r2:=cL hk;simp(config := { maxSteps := 3000000 }) [w2,w3,hlt,hk,r1,r2];subst hik;refine⟨fun h=>uc (k:=k) hlt h,fun h=>⟨k+2,⟨by omega,by omega,fun j hj h2=>?_⟩,by omega,by omega⟩⟩;by_cases hjk:j=k;·subst hjk;exact h
    ·exact ht j hj (by omega)
   ·simp(config := { maxSteps := 3000000 }) [hlt];rw[nQ];exact fun k h=>ht k h (by omega)
 ·cases h
@[simp] noncomputable def Zm:List AV→Option (Prop×AV)|[.agg [.pv (.int .u64 a),.pv (.int .u64 b),.pv (.int .u64 c)],.agg [.pv (.int .u64 d),.pv (.int .u64 e),.pv (.int .u64 f)]]=>some (True,.pv (.bool (decide (a=d)&&(decide (b=e)&&decide (c=f)))))|_=>none
theorem YJ:aV Tryz.prog 101 Zm:=by
 intro ys φ r h hφ;unfold Zm at h;split at h;·cases h;refine ax aj (by kernel_rfl) fn101 (by simp) ?_;unfold body101;simp(config := { maxSteps := 3000000 })
 ·cases h
@[simp] noncomputable def ZS:List AV→Option (Prop×AV)|[.pv (.ro a),.pv (.ro b)]=>(dec rowP a).bind fun la=>(dec rowP b).map fun lb=>(la.length≤1000000000,.pv (.bool (decide (la=lb))))|_=>none
theorem Gc:aV Tryz.prog 35 ZS:=by
 intro ys φ r h hφ;unfold ZS at h;split at h
 ·rename_i ra rb;obtain⟨a,ha,h⟩:=Option.bind_eq_some_iff.1 h;obtain⟨b,hb,h⟩:=Option.map_eq_some_iff.1 h;cases h;cases aJ ha;cases aJ hb;refine ax aj (by kernel_rfl) fn35 (by simp) ?_;unfold body35;simp(config := { maxSteps := 3000000 });refine⟨fun hne=>?_,fun hlen=>?_⟩;·intro e;exact hne (by rw[e])
  refine au (fun i:Nat=>i≤a.length∧a.take i=b.take i) (fun i=>⟨[(0,.pv (.ro (aC a))),(1,.pv (.ro (aC b))),(5,.pv (.int .i64 i))],[]⟩) (fun i=>a.length-i) [] 0 (by simp) ?_ ?_;·simp
  ·rintro i ⟨hi,ht⟩;have w2:IntKind.i64.wrap ((i:Int)+1)=(i:Int)+1:=wrap_i64 (by omega);by_cases hlt:i<a.length
   ·have r1:=cL hlt;have hlb:i<b.length:=by omega
    have r2:=cL hlb;simp(config := { maxSteps := 3000000 }) [w2,hlt,hlb,r1,r2];refine⟨fun hne e=>by subst e;simp at hne,fun h1 h2 h3=>⟨i+1,⟨by omega,?_⟩,by omega,by omega⟩⟩;rw[List.take_succ_eq_append_getElem hlt,List.take_succ_eq_append_getElem hlb,ht];congr 2;exact kc _ _ (by simp only[rowP,h1,h2,h3])
   ·simp(config := { maxSteps := 3000000 }) [hlt];rw[List.take_of_length_le (by omega),List.take_of_length_le (by omega)]at ht;exact ht
 ·cases h
@[simp] noncomputable def Zs:List AV→Option (Prop×AV)|[.pv (.ro a),.pv (.ro b),.bA f []]=>if f=101 then(dec rowP a).bind fun la=>(dec rowP b).map fun lb=>(la.length≤1000000000,.pv (.bool (decide (la=lb)))) else none|_=>none
theorem Jt:fQ Tryz.prog 101=true:=by kernel_rfl
theorem Y2:aV Tryz.prog 100 Zs:=by
 intro ys φ r h hφ;unfold Zs at h;split at h
 ·rename_i ra rb f;split at h
  ·rename_i hf;subst hf;obtain⟨a,ha,h⟩:=Option.bind_eq_some_iff.1 h;obtain⟨b,hb,h⟩:=Option.map_eq_some_iff.1 h;cases h;cases aJ ha;cases aJ hb;refine ax (ah YJ aj) (by kernel_rfl) fn100 (by simp) ?_;unfold body100;simp(config := { maxSteps := 3000000 });refine⟨fun hne=>?_,fun hlen=>?_⟩;·intro e;exact hne (by rw[e])
   refine au (fun i:Nat=>i≤a.length∧a.take i=b.take i) (fun i=>⟨[(0,.pv (.ro (aC a))),(1,.pv (.ro (aC b))),(2,.bA 101 []),(15,.pv (.ro (aC a))),(16,.pv (.int .i64 a.length)),(17,.pv (.int .i64 i))],[]⟩) (fun i=>a.length-i) [] 0 (by simp) ?_ ?_;·simp
   ·rintro i ⟨hi,ht⟩;have w2:IntKind.i64.wrap ((i:Int)+1)=(i:Int)+1:=wrap_i64 (by omega);by_cases hlt:i<a.length
    ·have r1:=cL hlt;have hlb:i<b.length:=by omega
     have r2:=cL hlb;simp(config := { maxSteps := 3000000 }) [w2,hlt,hlb,r1,r2,Jt];refine⟨fun hne e=>by subst e;simp at hne,fun h1 h2 h3=>⟨i+1,⟨by omega,?_⟩,by omega,by omega⟩⟩;rw[List.take_succ_eq_append_getElem hlt,List.take_succ_eq_append_getElem hlb,ht];congr 2;exact kc _ _ (by simp only[rowP,h1,h2,h3])
    ·simp(config := { maxSteps := 3000000 }) [hlt];rw[List.take_of_length_le (by omega),List.take_of_length_le (by omega)]at ht;exact ht
  ·cases h
 ·cases h
@[simp] noncomputable def ZA:List AV→Option (Prop×AV)|[.agg [.pv (.ro a)],.agg [.pv (.ro b)]]=>(dec rowP a).bind fun la=>(dec rowP b).map fun lb=>(la.length≤1000000000,.pv (.bool (decide (la=lb))))|_=>none
theorem Fv:aV Tryz.prog 57 ZA:=by
 intro ys φ r h hφ;unfold ZA at h;split at h;·rename_i ra rb;obtain⟨a,ha,h⟩:=Option.bind_eq_some_iff.1 h;obtain⟨b,hb,h⟩:=Option.map_eq_some_iff.1 h;cases h;cases aJ ha;cases aJ hb;refine ax (ah Y2 aj) (by kernel_rfl) fn57 (by simp) ?_;unfold body57;simp(config := { maxSteps := 3000000 });exact hφ
 ·cases h
@[simp] noncomputable def Zu:List AV→Option (Prop×AV)|[.agg [.pv (.ro a)]]=>(dec rowP a).map fun l=>(l.length≤100000000,.fr 123 (aC l))|_=>none
@[simp] noncomputable def Tz:List AV→Option (Prop×AV)|[.pv (.ro a)]=>(dec rowP a).map fun l=>(l.length≤100000000,.fr 94 (aC l))|_=>none
theorem qt:aV Tryz.prog 78 Tz:=by
 intro ys φ r h hφ;unfold Tz at h;split at h;·rename_i ra;obtain⟨a,ha,h⟩:=Option.map_eq_some_iff.1 h;cases h;cases aJ ha;refine ax aj (by kernel_rfl) fn78 (by simp) ?_;unfold body78;cases a with|nil=>simp(config := { maxSteps := 3000000 }) [sO]|cons x l=>have hx:aC (x::l)=rowP x::aC l:=rfl;simp(config := { maxSteps := 3000000 }) [hx,aI];simp only[List.length_cons]at hφ;exact⟨by omega,by omega,rfl,fE l⟩
 ·cases h
@[simp] noncomputable def Z4:List AV→Option (Prop×AV)|[.agg [.pv (.int .u64 a),.pv (.int .u64 b),.pv (.int .u64 c)],.rp [.int .u64 n]]=>some (True,.pv (.bool (decide (b=n))))|_=>none
@[simp] noncomputable def QI:List AV→Option (Prop×AV)|[.agg [.pv (.int .u64 a),.pv (.int .u64 b),.pv (.int .u64 c)],.rp [.int .u64 n]]=>some (True,.pv (.bool (decide (a=n))))|_=>none
theorem UH:aV Tryz.prog 130 QI:=by
 intro ys φ r h hφ;unfold QI at h;split at h;·cases h;refine ax aj (by kernel_rfl) fn130 (by simp) ?_;unfold body130;simp(config := { maxSteps := 3000000 })
 ·cases h
def Nj (f:FuncId) (n:Int) (e:Pn):Bool:=decide (e.i=n)
def mA (p:Pn→Bool) (l:List Pn):Int:=if l.findIdx p<l.length then(l.findIdx p:Nat) else-1
theorem vh {p:Pn→Bool}{l:List Pn}{i:Nat} (hi:i<l.length) (h:p l[i]=true) (ha:∀e∈l.take i,p e=false):mA p l=(i:Int):=by
 have:l.findIdx p=i:=by rw[List.findIdx_eq hi];refine⟨h,fun j hj=>?_⟩;exact ha l[j] (by rw[List.mem_take_iff_getElem];exact⟨j,by omega,rfl⟩)
 unfold mA;rw[this,if_pos hi]
theorem iP {p:Pn→Bool}{l:List Pn} (ha:∀e∈l,p e=false):mA p l=-1:=by
 have:l.findIdx p=l.length:=by rw[List.findIdx_eq_length];exact ha
 unfold mA;rw[this,if_neg (by omega)]
theorem CV (p:Pn→Bool) (l:List Pn):(0≤mA p l)=(l.any p=true):=by
 apply propext;by_cases h:l.any p=true
 ·obtain⟨e,he,hr⟩:=List.any_eq_true.1 h;have:l.findIdx p<l.length:=by rw[List.findIdx_lt_length];exact⟨e,he,hr⟩
  unfold mA;rw[if_pos this];simp[h]
 ·have h':l.any p=false:=by simpa using h
  rw[List.any_eq_false]at h';rw[iP fun e he=>by simpa using h' e he];simp[h]
@[simp] noncomputable def Zn:List AV→Option (Prop×AV)|[.pv (.ro a),.bA f [.rp [.int .u64 n]]]=>if f=130 then(dec rowP a).map fun l=>(l.length≤1000000000,.pv (.int .i64 (mA (Nj f n) l))) else none|_=>none
theorem Gj:fQ Tryz.prog 130=true:=by kernel_rfl
theorem XX:aV Tryz.prog 129 Zn:=by
 intro ys φ r h hφ;unfold Zn at h;split at h
 ·rename_i ra f n;split at h
  ·rename_i hf;obtain⟨a,ha,h⟩:=Option.map_eq_some_iff.1 h;cases h;cases aJ ha;have hfn:fQ Tryz.prog f=true:=by rw[hf];exact Gj
   refine ax (ah UH aj) (by kernel_rfl) fn129 (by simp) ?_;unfold body129;simp(config := { maxSteps := 3000000 });refine au (fun i:Nat=>i≤a.length∧∀e∈a.take i,Nj f n e=false) (fun i=>⟨[(0,.pv (.ro (aC a))),(1,.bA f [.rp [.int .u64 n]]),(7,.pv (.int .i64 a.length)),(8,.pv (.int .i64 i))],[]⟩) (fun i=>a.length-i) [] 0 (by simp) ?_ ?_;·simp
   ·rintro i ⟨hi,ht⟩;have w2:IntKind.i64.wrap ((i:Int)+1)=(i:Int)+1:=wrap_i64 (by omega);by_cases hlt:i<a.length
    ·have r1:=cL hlt;have hr:Nj f n a[i]=false→∀e∈a.take (i+1),Nj f n e=false:=by
      intro h0 e he;rw[List.take_succ_eq_append_getElem hlt,List.mem_append]at he;rcases he with he|he;·exact ht e he
      ·rw[List.mem_singleton]at he;rw[he];exact h0
     subst hf;·have hp:Nj 130 n a[i]=decide (a[i].i=n):=rfl;simp(config := { maxSteps := 3000000 }) [w2,hlt,r1,hfn];refine⟨fun h=>(vh hlt (by rw[hp];simpa using h) ht).symm,fun h=>⟨i+1,⟨by omega,hr (by rw[hp];simpa using h)⟩,by omega,by omega⟩⟩
    ·simp(config := { maxSteps := 3000000 }) [hlt];rw[List.take_of_length_le (by omega)]at ht;exact(iP ht).symm
  ·cases h
 ·cases h
def dm (n:Int):List PV:=[.int .u64 n]
theorem Di:∀a b,dm a=dm b→a=b:=by intro a b h;simpa[dm]using h
def bH (l:List Int):List (List PV):=l.map dm
@[simp] theorem OV:bH []=[]:=rfl
@[simp] theorem Gv (l:List Int):(bH l).length=l.length:=by simp[bH]
theorem jG (l m:List Int):bH (l++m)=bH l++bH m:=by simp[bH]
theorem fG {l:List Int}{i:Nat} (h:i<l.length):rowAt (bH l) (i:Int)=[.int .u64 l[i]]:=by simp[rowAt,bH,h,dm]
@[simp] theorem lx (l:List Int):dec dm (bH l)=some l:=ni Di l
theorem cO {rows:List (List PV)}{l:List Int} (h:dec dm rows=some l):rows=bH l:=mP h
theorem dO (l:List UInt8):bV (bytesRow l):=by intro r hr p hp;simp only[bytesRow,List.mem_map]at hr;obtain⟨c,_,rfl⟩:=hr;simp only[List.mem_singleton]at hp;subst hp;rfl
theorem zr (l:List Int):bV (bH l):=by intro r hr p hp;simp only[bH,List.mem_map]at hr;obtain⟨c,_,rfl⟩:=hr;simp only[dm,List.mem_singleton]at hp;subst hp;rfl
def cW (n:Int):Prop:=0≤n∧n≤18446744073709551615
def eH (l:List Int):List UInt8:=l.flatMap b6
theorem dP {n:Int} (h:cW n):(b6 n).length≤10:=by obtain⟨h1,h2⟩:=h;unfold b6;exact pZ 9 _ (by omega)
theorem iQ:∀{l:List Int},(∀n∈l,cW n)→(eH l).length≤10*l.length|[],_=>by simp[eH]|n::l,h=>by have h1:=dP (h n (by simp));have h2:=iQ (l:=l) fun m hm=>h m (by simp[hm]);unfold eH at h2 ⊢;simp only[List.flatMap_cons,List.length_append,List.length_cons];omega
theorem uJ (l:List Int) (n:Int):eH (l++[n])=eH l++b6 n:=by simp[eH]
@[simp] noncomputable def EF:List AV→Option (Prop×AV)|[.pv (.ro a)]=>(dec dm a).map fun l=>(l.length≤1000000∧(∀n∈l,cW n),.fr 5 (bytesRow (eH l)))|_=>none
theorem HE:aV Tryz.prog 39 EF:=by
 intro ys φ r h hφ;unfold EF at h;split at h
 ·rename_i ra;obtain⟨a,ha,h⟩:=Option.map_eq_some_iff.1 h;cases h;cases cO ha;obtain⟨hl,hn⟩:=hφ;refine ax (ah zX aj) (by kernel_rfl) fn39 (by simp) ?_;unfold body39;simp(config := { maxSteps := 3000000 });refine au (fun i:Nat=>i≤a.length) (fun i=>⟨[(2,.own 2),(5,.pv (.ro (bH a))),(6,.pv (.int .i64 a.length)),(7,.pv (.int .i64 i))],[(2,.arr 5 (bytesRow (eH (a.take i))))]⟩) (fun i=>a.length-i) [] 0 (by simp) ?_ ?_;·simp[eH]
  ·rintro i hi;have w2:IntKind.i64.wrap ((i:Int)+1)=(i:Int)+1:=wrap_i64 (by omega);by_cases hlt:i<a.length;·have r1:=fG hlt;have ho:=hn _ (List.getElem_mem hlt);have h1:=dP ho;have h2:=iQ (l:=a.take i) fun n h=>hn n (List.mem_of_mem_take h);rw[List.length_take]at h2;obtain⟨o1,o2⟩:=ho;simp(config := { maxSteps := 3000000 }) [w2,hlt,r1,aI,o1,o2];refine⟨⟨by omega,by omega,aW _⟩,i+1,by omega,⟨by omega,?_⟩,by omega⟩;rw[List.take_succ_eq_append_getElem hlt,uJ,aZ]
   ·simp(config := { maxSteps := 3000000 }) [hlt];rw[List.take_of_length_le (by omega)]
 ·cases h
theorem CB:aV Tryz.prog 45 EF:=by
 intro ys φ r h hφ;unfold EF at h;split at h
 ·rename_i ra;obtain⟨a,ha,h⟩:=Option.map_eq_some_iff.1 h;cases h;cases cO ha;obtain⟨hl,hn⟩:=hφ;refine ax (ah sR aj) (by kernel_rfl) fn45 (by simp) ?_;unfold body45;simp(config := { maxSteps := 3000000 });refine au (fun i:Nat=>i≤a.length) (fun i=>⟨[(0,.pv (.ro (bH a))),(3,.own 3),(4,.pv (.int .i64 i))],[(3,.arr 5 (bytesRow (eH (a.take i))))]⟩) (fun i=>a.length-i) [] 0 (by simp) ?_ ?_;·simp[eH]
  ·rintro i hi;have w2:IntKind.i64.wrap ((i:Int)+1)=(i:Int)+1:=wrap_i64 (by omega);by_cases hlt:i<a.length;·have r1:=fG hlt;have ho:=hn _ (List.getElem_mem hlt);have h1:=dP ho;have h2:=iQ (l:=a.take i) fun n h=>hn n (List.mem_of_mem_take h);rw[List.length_take]at h2;obtain⟨o1,o2⟩:=ho;simp(config := { maxSteps := 3000000 }) [w2,hlt,r1,aI,o1,o2];refine⟨⟨by omega,by omega,aW _⟩,i+1,by omega,⟨by omega,?_⟩,by omega⟩;rw[List.take_succ_eq_append_getElem hlt,uJ,aZ]
   ·simp(config := { maxSteps := 3000000 }) [hlt];rw[List.take_of_length_le (by omega)]
 ·cases h
def eG (e:Pn):Prop:=cW e.i∧cW e.v∧cW e.u
def sA (e:Pn):List UInt8:=b6 e.i++(b6 e.v++b6 e.u)
def dT (l:List Pn):List UInt8:=l.flatMap sA
def gg (l:List Pn):List UInt8:=b6 l.length++dT l
theorem mK (e:Pn):eH [e.i,e.v,e.u]=sA e:=by simp[eH,sA]
theorem sJ {e:Pn} (h:eG e):(sA e).length≤30:=by have h1:=dP h.1;have h2:=dP h.2.1;have h3:=dP h.2.2;simp[sA];omega
theorem lp:∀{l:List Pn},(∀n∈l,eG n)→(dT l).length≤30*l.length|[],_=>by simp[dT]|n::l,h=>by have h1:=sJ (h n (by simp));have h2:=lp (l:=l) fun m hm=>h m (by simp[hm]);unfold dT at h2 ⊢;simp only[List.flatMap_cons,List.length_append,List.length_cons];omega
theorem qp (l:List Pn) (n:Pn):dT (l++[n])=dT l++sA n:=by simp[dT]
theorem uy (a b c:Int):dec dm [[.int .u64 a],[.int .u64 b],[.int .u64 c]]=some [a,b,c]:=lx [a,b,c]
@[simp] noncomputable def HN:List AV→Option (Prop×AV)|[.agg [.pv (.ro a)]]=>(dec rowP a).map fun l=>(l.length≤1000000∧(∀n∈l,eG n),.fr 5 (bytesRow (gg l)))|_=>none
theorem KV:aV Tryz.prog 41 HN:=by
 intro ys φ r h hφ;unfold HN at h;split at h
 ·rename_i ra;obtain⟨a,ha,h⟩:=Option.map_eq_some_iff.1 h;cases h;cases aJ ha;obtain⟨hl,hn⟩:=hφ;refine ax (ah zX (ah HE aj)) (by kernel_rfl) fn41 (by simp) ?_;unfold body41;have wl:IntKind.u64.wrap (a.length:Int)=(a.length:Int):=wrap_u64 (by omega);have l0:(0:Int)≤(a.length:Int):=by omega
  have l1:(a.length:Int)≤18446744073709551615:=by omega
  have hv:=dP (n:=(a.length:Int)) ⟨by omega,by omega⟩;simp(config := { maxSteps := 3000000 }) [wl,l0,l1];refine au (fun i:Nat=>i≤a.length) (fun i=>⟨[(1,.ptr 1 0),(3,.own 10),(12,.pv (.ro (aC a))),(13,.pv (.int .i64 a.length)),(14,.pv (.int .i64 i))],[(1,.box [.pv (.ro (aC a))]),(10,.arr 5 (bytesRow (b6 a.length++dT (a.take i))))]⟩) (fun i=>a.length-i) [] 0 (by simp) ?_ ?_;·simp[dT]
  ·rintro i hi;have w2:IntKind.i64.wrap ((i:Int)+1)=(i:Int)+1:=wrap_i64 (by omega);by_cases hlt:i<a.length
   ·have r1:=cL hlt;have ho:=hn _ (List.getElem_mem hlt);have h1:=sJ ho;have h2:=lp (l:=a.take i) fun n h=>hn n (List.mem_of_mem_take h);rw[List.length_take]at h2;obtain⟨o1,o2,o3⟩:=ho;simp(config := { maxSteps := 3000000 }) [w2,hlt,r1,aI,o1,o2,o3,uy,mK];first|refine⟨dO _,⟨by omega,by omega,aW _⟩,i+1,by omega,⟨by omega,?_⟩,by omega⟩|refine⟨⟨by omega,by omega,aW _⟩,i+1,by omega,⟨by omega,?_⟩,by omega⟩
    rw[List.take_succ_eq_append_getElem hlt,qp,←List.append_assoc,aZ (b6 _++_)]
   ·simp(config := { maxSteps := 3000000 }) [hlt];rw[List.take_of_length_le (by omega)];rfl
 ·cases h
@[simp] noncomputable def Iu:List AV→Option (Prop×AV)|[.pv (.ro a)]=>(dec rowP a).map fun l=>(l.length≤1000000∧(∀n∈l,eG n),.fr 5 (bytesRow (gg l)))|_=>none
theorem JW:aV Tryz.prog 47 Iu:=by
 intro ys φ r h hφ;unfold Iu at h;split at h
 ·rename_i ra;obtain⟨a,ha,h⟩:=Option.map_eq_some_iff.1 h;cases h;cases aJ ha;obtain⟨hl,hn⟩:=hφ;refine ax (ah sR (ah CB aj)) (by kernel_rfl) fn47 (by simp) ?_;unfold body47;have wl:IntKind.u64.wrap (a.length:Int)=(a.length:Int):=wrap_u64 (by omega);have l0:(0:Int)≤(a.length:Int):=by omega
  have l1:(a.length:Int)≤18446744073709551615:=by omega
  have hv:=dP (n:=(a.length:Int)) ⟨by omega,by omega⟩;simp(config := { maxSteps := 3000000 }) [wl,l0,l1];refine au (fun i:Nat=>i≤a.length) (fun i=>⟨[(0,.pv (.ro (aC a))),(3,.own 8),(4,.pv (.int .i64 i))],[(8,.arr 5 (bytesRow (b6 a.length++dT (a.take i))))]⟩) (fun i=>a.length-i) [] 0 (by simp) ?_ ?_;·simp[dT]
  ·rintro i hi;have w2:IntKind.i64.wrap ((i:Int)+1)=(i:Int)+1:=wrap_i64 (by omega);by_cases hlt:i<a.length
   ·have r1:=cL hlt;have ho:=hn _ (List.getElem_mem hlt);have h1:=sJ ho;have h2:=lp (l:=a.take i) fun n h=>hn n (List.mem_of_mem_take h);rw[List.length_take]at h2;obtain⟨o1,o2,o3⟩:=ho;simp(config := { maxSteps := 3000000 }) [w2,hlt,r1,aI,o1,o2,o3,uy,mK];first|refine⟨dO _,⟨by omega,by omega,aW _⟩,i+1,by omega,⟨by omega,?_⟩,by omega⟩|refine⟨⟨by omega,by omega,aW _⟩,i+1,by omega,⟨by omega,?_⟩,by omega⟩
    rw[List.take_succ_eq_append_getElem hlt,qp,←List.append_assoc,aZ (b6 _++_)]
   ·simp(config := { maxSteps := 3000000 }) [hlt];rw[List.take_of_length_le (by omega)];rfl
 ·cases h
def az (b:List UInt8):Nat→Int→List Int×Int×Int|0,p=>([],p,0)|k+1,p=>if(al b p).2.2≠0 then([],0,(al b p).2.2) else if(az b k (al b p).2.1).2.2≠0 then([],0,(az b k (al b p).2.1).2.2) else((al b p).1::(az b k (al b p).2.1).1,(az b k (al b p).2.1).2.1,0)
def bZ (b:List UInt8) (p:Int) (k:Nat):List Int×Int×Int:=if(az b k p).2.2≠0 then([],p,(az b k p).2.2) else az b k p
def ahead (L:List Int) (q:List Int×Int×Int):List Int×Int×Int:=if q.2.2≠0 then([],0,q.2.2) else(L++q.1,q.2.1,0)
theorem wG (b:List UInt8):∀(k:Nat) (p:Int),(az b k p).2.2≠0→az b k p=([],0,(az b k p).2.2)
 |0,p,h=>absurd rfl h|k+1,p,h=>by
  unfold az at h ⊢;split;·rfl
  ·split;·rfl
   ·rename_i h1 h2;rw[if_neg h1,if_neg h2]at h;exact absurd rfl h
theorem gz (b:List UInt8):∀(k:Nat) (p:Int),(az b k p).2.2=0→(az b k p).1.length=k∧(∀n∈(az b k p).1,cW n)∧p+k≤(az b k p).2.1∧(0<k→0≤p∧(az b k p).2.1≤b.length)
 |0,p,h=>by refine⟨rfl,fun n hn=>?_,by simp[az],fun h=>absurd h (by omega)⟩;simp[az]at hn|k+1,p,h=>by
  unfold az at h ⊢;split at h;·rename_i h1;exact absurd h h1
  ·rename_i h1;rw[if_neg h1];split at h;·rename_i h2;exact absurd h h2
   ·rename_i h2;rw[if_neg h2];have e1:(al b p).2.2=0:=by simpa using h1
    have e2:(az b k (al b p).2.1).2.2=0:=by simpa using h2
    obtain⟨g1,g2,g3,g4⟩:=gz b k _ e2;obtain⟨o1,o2,o3,_⟩:=dc b p;obtain⟨o1,o4,o5⟩:=o1 e1;refine⟨by simp[g1],fun n hn=>?_,by simp only;omega,fun _=>⟨o1,?_⟩⟩
    ·simp only[List.mem_cons]at hn;rcases hn with rfl|hn;·exact⟨o2,o3⟩
     ·exact g2 n hn
    ·by_cases hk:0<k;·exact(g4 hk).2
     ·have:k=0:=by omega
      subst this;exact o5
theorem tU (b:List UInt8) (k:Nat) (p:Int):ahead [] (az b k p)=az b k p:=by
 unfold ahead;split;·rename_i h;exact(wG b k p h).symm
 ·rename_i h;have:(az b k p).2.2=0:=by simpa using h
  rw[←this];rfl
theorem rE (b:List UInt8) (L:List Int) (k:Nat) (p:Int) (h:(al b p).2.2=0):ahead L (az b (k+1) p)=ahead (L++[(al b p).1]) (az b k (al b p).2.1):=by
 rw[az,if_neg (by simpa using h)];by_cases h2:(az b k (al b p).2.1).2.2=0;·rw[if_neg (by simpa using h2)];simp[ahead,h2]
 ·rw[if_pos h2];simp[ahead,h2]
theorem tZ (b:List UInt8) (L:List Int) (k:Nat) (p:Int) (h:(al b p).2.2≠0):ahead L (az b (k+1) p)=([],0,(al b p).2.2):=by rw[az,if_pos h];simp[ahead,h]
@[simp] noncomputable def Xz:List AV→Option (Prop×AV)|[.pv (.ro b),.pv (.int .i64 p),.pv (.int .i64 k)]=>(dec eK b).map fun l=>(l.length≤1000000000∧-9223372036854775808≤p∧p≤9223372036854775807∧0≤k∧k≤1000,.aL [.fr 22 (bH (bZ l p k.toNat).1),.pv (.int .i64 (bZ l p k.toNat).2.1),.pv (.int .i64 (bZ l p k.toNat).2.2)])|_=>none
theorem Ay:aV Tryz.prog 49 Xz:=by
 intro ys φ r h hφ;unfold Xz at h;split at h
 ·rename_i rb p K;obtain⟨b,hb,h⟩:=Option.map_eq_some_iff.1 h;cases h;cases aU hb;obtain⟨hl,hp1,hp2,hk1,hk2⟩:=hφ;obtain⟨k,rfl⟩:=Int.eq_ofNat_of_zero_le hk1;have hkk:((k:Nat):Int).toNat=k:=by simp
  rw[hkk];have hT:bZ b p k=if(az b k p).2.2≠0 then([],p,(az b k p).2.2) else az b k p:=rfl;generalize bZ b p k=T at*;refine ax (ah vO aj) (by kernel_rfl) fn49 (by simp) ?_;unfold body49;simp(config := { maxSteps := 3000000 });refine au (fun x:Nat×Int×List Int=>x.1≤k∧x.2.2.length=x.1∧-9223372036854775808≤x.2.1∧x.2.1≤9223372036854775807∧az b k p=ahead x.2.2 (az b (k-x.1) x.2.1)) (fun x=>⟨[(0,.pv (.ro (bytesRow b))),(1,.pv (.int .i64 p)),(6,.own 6),(7,.pv (.int .i64 x.2.1)),(13,.pv (.int .i64 k)),(14,.pv (.int .i64 x.1))],[(6,.arr 22 (bH x.2.2))]⟩) (fun x=>k-x.1) [] (0,p,[]) ?_ ?_ ?_;·exact⟨Nat.zero_le _,rfl,hp1,hp2,by rw[tU];rfl⟩
  ·simp
  ·rintro⟨i,q,L⟩ ⟨hi,hL,hq1,hq2,hG⟩;dsimp only at hi hL hq1 hq2 hG;have w2:IntKind.i64.wrap ((i:Int)+1)=(i:Int)+1:=wrap_i64 (by omega);by_cases hlt:i<k
   ·have hlti:(i:Int)<(k:Int):=by omega
    obtain⟨m,hm⟩:∃m,k-i=m+1:=⟨k-i-1,by omega⟩;rw[hm]at hG;obtain⟨k1,k2,k3,k4,k5⟩:=dc b q;by_cases he:(al b q).2.2=0;·obtain⟨j1,j2,j3⟩:=k1 he;rw[rE b L m q he]at hG;simp(config := { maxSteps := 3000000 }) [w2,hlti,hl,hq1,hq2,he,aI];exact⟨⟨by omega,by omega⟩,i+1,(al b q).2.1,L++[(al b q).1],⟨by omega,by simp[hL],by omega,by omega,by rw[hG,show k-(i+1)=m from by omega]⟩,⟨⟨rfl,by omega⟩,by rw[jG];rfl⟩,by omega⟩
    ·rw[tZ b L m q he]at hG;have hTe:T=([],p,(al b q).2.2):=by rw[hT,hG];simp[he]
     simp(config := { maxSteps := 3000000 }) [w2,hlti,hl,hq1,hq2,he,hTe]
   ·have hltn:¬(i:Int)<(k:Int):=by omega
    have hik:k-i=0:=by omega
    rw[hik]at hG;have hTe:T=(L,q,0):=by rw[hT,hG];simp[ahead,az]
    simp(config := { maxSteps := 3000000 }) [hltn,hTe]
 ·cases h
theorem xb:aV Tryz.prog 53 Xz:=by
 intro ys φ r h hφ;unfold Xz at h;split at h
 ·rename_i rb p K;obtain⟨b,hb,h⟩:=Option.map_eq_some_iff.1 h;cases h;cases aU hb;obtain⟨hl,hp1,hp2,hk1,hk2⟩:=hφ;obtain⟨k,rfl⟩:=Int.eq_ofNat_of_zero_le hk1;have hkk:((k:Nat):Int).toNat=k:=by simp
  rw[hkk];have hT:bZ b p k=if(az b k p).2.2≠0 then([],p,(az b k p).2.2) else az b k p:=rfl;generalize bZ b p k=T at*;refine ax (ah jy aj) (by kernel_rfl) fn53 (by simp) ?_;unfold body53;simp(config := { maxSteps := 3000000 });refine au (fun x:Nat×Int×List Int=>x.1≤k∧x.2.2.length=x.1∧-9223372036854775808≤x.2.1∧x.2.1≤9223372036854775807∧az b k p=ahead x.2.2 (az b (k-x.1) x.2.1)) (fun x=>⟨[(0,.pv (.ro (bytesRow b))),(1,.pv (.int .i64 p)),(2,.pv (.int .i64 k)),(9,.own 9),(10,.pv (.int .i64 x.2.1)),(11,.pv (.int .i64 x.1))],[(9,.arr 22 (bH x.2.2))]⟩) (fun x=>k-x.1) [] (0,p,[]) ?_ ?_ ?_;·exact⟨Nat.zero_le _,rfl,hp1,hp2,by rw[tU];rfl⟩
  ·simp
  ·rintro⟨i,q,L⟩ ⟨hi,hL,hq1,hq2,hG⟩;dsimp only at hi hL hq1 hq2 hG;have w2:IntKind.i64.wrap ((i:Int)+1)=(i:Int)+1:=wrap_i64 (by omega);by_cases hlt:i<k
   ·have hlti:(i:Int)<(k:Int):=by omega
    obtain⟨m,hm⟩:∃m,k-i=m+1:=⟨k-i-1,by omega⟩;rw[hm]at hG;obtain⟨k1,k2,k3,k4,k5⟩:=dc b q;by_cases he:(al b q).2.2=0;·obtain⟨j1,j2,j3⟩:=k1 he;rw[rE b L m q he]at hG;simp(config := { maxSteps := 3000000 }) [w2,hlti,hl,hq1,hq2,he,aI];exact⟨⟨by omega,by omega⟩,i+1,(al b q).2.1,L++[(al b q).1],⟨by omega,by simp[hL],by omega,by omega,by rw[hG,show k-(i+1)=m from by omega]⟩,⟨⟨rfl,by omega⟩,by rw[jG];rfl⟩,by omega⟩
    ·rw[tZ b L m q he]at hG;have hTe:T=([],p,(al b q).2.2):=by rw[hT,hG];simp[he]
     simp(config := { maxSteps := 3000000 }) [w2,hlti,hl,hq1,hq2,he,hTe]
   ·have hltn:¬(i:Int)<(k:Int):=by omega
    have hik:k-i=0:=by omega
    rw[hik]at hG;have hTe:T=(L,q,0):=by rw[hT,hG];simp[ahead,az]
    simp(config := { maxSteps := 3000000 }) [hltn,hTe]
 ·cases h
def tf:List Int→Pn|[a,b,c]=>⟨a,b,c⟩|_=>⟨0,0,0⟩
def bm (b:List UInt8):Nat→Int→Int→List Pn×Int×Int|0,_,q=>([],q,0)|f+1,n,q=>if n≤0 then([],q,0) else if(az b 3 q).2.2≠0 then([],0,(az b 3 q).2.2) else if(bm b f (n-1) (az b 3 q).2.1).2.2≠0 then([],0,(bm b f (n-1) (az b 3 q).2.1).2.2) else(tf (az b 3 q).1::(bm b f (n-1) (az b 3 q).2.1).1,(bm b f (n-1) (az b 3 q).2.1).2.1,0)
def cu (b:List UInt8) (p:Int):List Pn×Int×Int:=if(al b p).2.2≠0 then([],p,(al b p).2.2) else if(bm b (b.length+1) (al b p).1 (al b p).2.1).2.2≠0 then([],p,(bm b (b.length+1) (al b p).1 (al b p).2.1).2.2) else if eb (bm b (b.length+1) (al b p).1 (al b p).2.1).1=false then([],p,2) else bm b (b.length+1) (al b p).1 (al b p).2.1
def fk (L:List Pn) (q:List Pn×Int×Int):List Pn×Int×Int:=if q.2.2≠0 then([],0,q.2.2) else(L++q.1,q.2.1,0)
theorem xL (b:List UInt8):∀(k:Nat) (n p:Int),(bm b k n p).2.2≠0→bm b k n p=([],0,(bm b k n p).2.2)
 |0,n,p,h=>absurd rfl h|k+1,n,p,h=>by
  unfold bm at h ⊢;split;·rename_i h0;rw[if_pos h0]at h;exact absurd rfl h
  ·rename_i h0;rw[if_neg h0]at h;split;·rfl
   ·split;·rfl
    ·rename_i h1 h2;rw[if_neg h1,if_neg h2]at h;exact absurd rfl h
theorem rf (b:List UInt8) (k:Nat) (n p:Int):fk [] (bm b k n p)=bm b k n p:=by
 unfold fk;split;·rename_i h;exact(xL b k n p h).symm
 ·rename_i h;have:(bm b k n p).2.2=0:=by simpa using h
  rw[←this];rfl
theorem pB (b:List UInt8) (L:List Pn) (k:Nat) (n p:Int) (hn:0<n) (h:(az b 3 p).2.2=0):fk L (bm b (k+1) n p)=fk (L++[tf (az b 3 p).1]) (bm b k (n-1) (az b 3 p).2.1):=by
 rw[bm,if_neg (by omega),if_neg (by simpa using h)];by_cases h2:(bm b k (n-1) (az b 3 p).2.1).2.2=0;·rw[if_neg (by simpa using h2)];simp[fk,h2]
 ·rw[if_pos h2];simp[fk,h2]
theorem rU (b:List UInt8) (L:List Pn) (k:Nat) (n p:Int) (hn:0<n) (h:(az b 3 p).2.2≠0):fk L (bm b (k+1) n p)=([],0,(az b 3 p).2.2):=by rw[bm,if_neg (by omega),if_pos h];simp[fk,h]
theorem si (b:List UInt8) (L:List Pn) (k:Nat) (n p:Int) (hn:n≤0):fk L (bm b k n p)=(L,p,0):=by cases k with|zero=>simp[bm,fk]|succ k=>rw[bm,if_pos hn];simp[fk]
theorem ph {b:List UInt8}{q:Int} (h:(az b 3 q).2.2=0):∃x y z,(az b 3 q).1=[x,y,z]∧cW x∧cW y∧cW z:=by obtain⟨h1,h2,_⟩:=gz b 3 q h;match hl:(az b 3 q).1,h1 with|[x,y,z],_=>rw[hl]at h2;exact⟨x,y,z,rfl,h2 x (by simp),h2 y (by simp),h2 z (by simp)⟩
@[simp] noncomputable def S7:List AV→Option (Prop×AV)|[.pv (.ro b),.pv (.int .i64 p)]=>(dec eK b).map fun l=>(l.length≤100000000∧-9223372036854775808≤p∧p≤9223372036854775807,.aL [.fr 123 (aC (cu l p).1),.pv (.int .i64 (cu l p).2.1),.pv (.int .i64 (cu l p).2.2)])|_=>none
theorem UR:aV Tryz.prog 54 S7:=by
 intro ys φ r h hφ;unfold S7 at h;split at h
 ·rename_i rb p;obtain⟨b,hb,h⟩:=Option.map_eq_some_iff.1 h;cases h;cases aU hb;obtain⟨hl8,hp1,hp2⟩:=hφ;have hl:b.length≤1000000000:=by omega
  refine ax (ah jy (ah xb (ah xY aj))) (by kernel_rfl) fn54 (by simp) ?_;unfold body54;by_cases he:(al b p).2.2=0
  ·have hT:cu b p=if(bm b (b.length+1) (al b p).1 (al b p).2.1).2.2≠0 then([],p,(bm b (b.length+1) (al b p).1 (al b p).2.1).2.2) else if eb (bm b (b.length+1) (al b p).1 (al b p).2.1).1=false then([],p,2) else bm b (b.length+1) (al b p).1 (al b p).2.1:=by unfold cu;rw[if_neg (by simpa using he)]
   obtain⟨k1,k2,k3,k4,k5⟩:=dc b p;obtain⟨j1,j2,j3⟩:=k1 he;generalize hP:cu b p=T at*;simp(config := { maxSteps := 3000000 }) [hl,hp1,hp2,he];generalize(al b p).1=n at*;generalize(al b p).2.1=q0 at*;refine au (fun x:Nat×Int×List Pn=>(x.2.2.length:Int)≤n∧0≤x.2.1∧x.2.1≤b.length∧(b.length:Int)<x.1+x.2.1∧x.2.2.length≤x.2.1∧bm b (b.length+1) n q0=fk x.2.2 (bm b x.1 (n-x.2.2.length) x.2.1)) (fun x=>⟨[(0,.pv (.ro (bytesRow b))),(1,.pv (.int .i64 p)),(7,.pv (.int .u64 n)),(8,.pv (.int .i64 x.2.1)),(10,.own 10)],[(10,.arr 123 (aC x.2.2))]⟩) (fun x=>(b.length-x.2.1).toNat) [] (b.length+1,q0,[]) ?_ ?_ ?_;·exact⟨by simpa using k2,by show 0≤q0;omega,j3,by simp;omega,by simp;omega,by rw[rf];simp⟩
   ·simp
   ·rintro⟨f,q,acc⟩ ⟨hn,hq0,hq1,hf,hacc,hG⟩;dsimp only at hn hq0 hq1 hf hacc hG;have wl:IntKind.u64.wrap (acc.length:Int)=(acc.length:Int):=wrap_u64 (by omega);have hq2:-9223372036854775808≤q:=by omega
    have hq3:q≤9223372036854775807:=by omega
    by_cases hlt:(acc.length:Int)<n
    ·obtain⟨f,rfl⟩:∃g,f=g+1:=⟨f-1,by omega⟩;have h3:(3:Int).toNat=3:=rfl;by_cases h0:(az b 3 q).2.2=0
     ·obtain⟨x,y,z,hx,o1,o2,o3⟩:=ph h0;obtain⟨_,_,g3,g4⟩:=gz b 3 q h0;have g4:=(g4 (by omega)).2;have hA:bZ b q 3=([x,y,z],(az b 3 q).2.1,0):=by unfold bZ;rw[if_neg (by simpa using h0),←hx,←h0]
      rw[pB b acc f (n-acc.length) q (by omega) h0,hx]at hG;have hr:bH [x,y,z]=[[.int .u64 x],[.int .u64 y],[.int .u64 z]]:=rfl;have r0:rowAt [[PV.int .u64 x],[.int .u64 y],[.int .u64 z]] 0=[.int .u64 x]:=rfl;have r1:rowAt [[PV.int .u64 x],[.int .u64 y],[.int .u64 z]] 1=[.int .u64 y]:=rfl;have r2:rowAt [[PV.int .u64 x],[.int .u64 y],[.int .u64 z]] 2=[.int .u64 z]:=rfl;simp(config := { maxSteps := 3000000 }) [wl,hlt,hl,hq2,hq3,h3,hA,hr,aI,r0,r1,r2];refine⟨by omega,f,(az b 3 q).2.1,acc++[tf [x,y,z]],?_⟩;have hlen:((acc++[tf [x,y,z]]).length:Int)=acc.length+1:=by simp
      have hi:n-((acc++[tf [x,y,z]]).length:Int)=n-acc.length-1:=by omega
      refine⟨⟨by omega,by omega,g4,by omega,by omega,by rw[hi];exact hG⟩,⟨rfl,?_⟩,by omega⟩;rw[gn];rfl
     ·have hA:bZ b q 3=([],q,(az b 3 q).2.2):=by unfold bZ;rw[if_pos h0]
      rw[rU b acc f _ q (by omega) h0]at hG;have hTe:T=([],p,(az b 3 q).2.2):=by rw[hT,hG];simp[h0]
      simp(config := { maxSteps := 3000000 }) [wl,hlt,hl,hq2,hq3,h3,hA,h0,hTe]
    ·have hle:n-acc.length≤0:=by omega
     rw[si b acc f _ q hle]at hG;have ha9:acc.length≤1000000000:=by omega
     by_cases hrs:eb acc=false
     ·have hTe:T=([],p,2):=by rw[hT,hG];simp[hrs]
      simp(config := { maxSteps := 3000000 }) [wl,hlt,ha9,hrs,hTe]
     ·have hrs':eb acc=true:=by simpa using hrs
      have hTe:T=(acc,q,0):=by rw[hT,hG];simp[hrs']
      simp(config := { maxSteps := 3000000 }) [wl,hlt,ha9,hrs',hTe]
  ·have hT:cu b p=([],p,(al b p).2.2):=by unfold cu;rw[if_pos he]
   simp(config := { maxSteps := 3000000 }) [hl,hp1,hp2,he,hT]
 ·cases h
def CW (p:Int) (R:List Pn×Int×Int):List Pn×Int×Int:=if R.2.2≠0 then([],p,R.2.2) else if eb R.1=false then([],p,2) else R
theorem B7 (b:List UInt8) (p:Int) (h:(al b p).2.2=0):cu b p=CW p (bm b (b.length+1) (al b p).1 (al b p).2.1):=by unfold cu;rw[if_neg (by simpa using h)];rfl
def Em:List Pn→List (Nat×AO)|[]=>[(4,.box [.pv .nil])]|x::l=>[(4,.box [.own 44]),(44,.arr 94 (aC (x::l)))]
@[simp] noncomputable def O6:List AV→Option (Prop×AV)|[.pv (.ro b),.pv (.int .i64 p)]=>(dec eK b).map fun l=>(l.length≤100000000∧-9223372036854775808≤p∧p≤9223372036854775807,.aL [.agg [.fr 94 (aC (cu l p).1)],.pv (.int .i64 (cu l p).2.1),.pv (.int .i64 (cu l p).2.2)])|_=>none
theorem SX:aV Tryz.prog 50 O6:=by
 intro ys φ r h hφ;unfold O6 at h;split at h
 ·rename_i rb p;obtain⟨b,hb,h⟩:=Option.map_eq_some_iff.1 h;cases h;cases aU hb;obtain⟨hl8,hp1,hp2⟩:=hφ;have hl:b.length≤1000000000:=by omega
  refine ax (ah vO (ah Ay (ah qi aj))) (by kernel_rfl) fn50 (by simp) ?_;unfold body50;obtain⟨k1,k2,k3,k4,k5⟩:=dc b p;have hT1:=B7 b p;have hT2:(al b p).2.2≠0→cu b p=([],p,(al b p).2.2):=fun h=>by unfold cu;rw[if_pos h]
  generalize hP:cu b p=T at*;simp(config := { maxSteps := 3000000 }) [hl,hp1,hp2];generalize(al b p).1=n at*;generalize(al b p).2.1=q0 at*;generalize(al b p).2.2=e0 at*;have h3:(3:Int).toNat=3:=rfl;have hinf:(Tryz.prog.info? 94).isSome=true:=by kernel_rfl
  refine au (fun x:Nat×Int×List Pn×Int×Int=>0≤x.2.2.2.1∧x.2.2.2.1≤18446744073709551615∧-9223372036854775808≤x.2.1∧x.2.1≤9223372036854775807∧(x.2.2.2.2=0→T=CW p (fk x.2.2.1 (bm b x.1 x.2.2.2.1 x.2.1))∧0≤x.2.1∧x.2.1≤b.length∧(b.length:Int)<x.1+x.2.1∧(x.2.2.1.length:Int)≤x.2.1)∧(x.2.2.2.2≠0→T=([],p,x.2.2.2.2))) (fun x=>⟨[(0,.pv (.ro (bytesRow b))),(1,.pv (.int .i64 p)),(4,.ptr 4 0),(5,.pv (.int .i64 x.2.1)),(6,.pv (.int .i64 x.2.2.2.2)),(7,.pv (.int .u64 x.2.2.2.1))],Em x.2.2.1⟩) (fun x=>if x.2.2.2.2=0 then(b.length-x.2.1).toNat+1 else 0) [] (b.length+1,q0,[],n,e0) ?_ ?_ ?_
  ·refine⟨k2,k3,?_,?_,fun h=>⟨?_,?_⟩,hT2⟩
   ·show-9223372036854775808≤q0;by_cases he:e0=0;·have:=k1 he;omega
    ·have:=k4 he;omega
   ·show q0≤9223372036854775807;by_cases he:e0=0;·have:=k1 he;omega
    ·have:=k4 he;omega
   ·rw[rf];exact hT1 h
   ·have:=k1 h;exact⟨by show 0≤q0;omega,by show q0≤b.length;omega,by show(b.length:Int)<(b.length+1:Nat)+q0;omega,by show(0:Int)≤q0;omega⟩
  ·simp[Em]
  ·rintro⟨f,q,acc,m,e⟩ ⟨hm0,hm1,hq1,hq2,hz,hnz⟩;dsimp only at hm0 hm1 hq1 hq2 hz hnz;by_cases he:e=0
   ·subst he;obtain⟨hG,g1,g2,g3,g4⟩:=hz rfl;clear hz hnz;have hacc:acc.length≤1000000000:=by omega
    by_cases hlt:0<m
    ·obtain⟨f,rfl⟩:∃g,f=g+1:=⟨f-1,by omega⟩;have wl:IntKind.u64.wrap (m-1)=m-1:=wrap_u64 (by omega);by_cases h0:(az b 3 q).2.2=0
     ·obtain⟨x,y,z,hx,o1,o2,o3⟩:=ph h0;obtain⟨_,_,i3,i4⟩:=gz b 3 q h0;have i4:=(i4 (by omega)).2;have hA:bZ b q 3=([x,y,z],(az b 3 q).2.1,0):=by unfold bZ;rw[if_neg (by simpa using h0),←hx,←h0]
      rw[pB b acc f m q hlt h0,hx]at hG;have hr:bH [x,y,z]=[[.int .u64 x],[.int .u64 y],[.int .u64 z]]:=rfl;have r0:rowAt [[PV.int .u64 x],[.int .u64 y],[.int .u64 z]] 0=[.int .u64 x]:=rfl;have r1:rowAt [[PV.int .u64 x],[.int .u64 y],[.int .u64 z]] 1=[.int .u64 y]:=rfl;have r2:rowAt [[PV.int .u64 x],[.int .u64 y],[.int .u64 z]] 2=[.int .u64 z]:=rfl;cases acc with
      |nil=>
       simp(config := { maxSteps := 3000000 }) [wl,hlt,hl,hq1,hq2,h3,hA,hr,aI,r0,r1,r2,hinf,Em];refine⟨f,(az b 3 q).2.1,[tf [x,y,z]],m-1,0,⟨by omega,by omega,by omega,by omega,fun _=>⟨hG,by omega,i4,by omega,by simp;omega⟩,fun h=>absurd rfl h⟩,⟨⟨?_,rfl,rfl,rfl⟩,?_⟩,?_⟩;·simp
       ·simp[aC,rowP,tf]
       ·rw[if_pos rfl];omega|cons c acc=>
       simp(config := { maxSteps := 3000000 }) [wl,hlt,hl,hq1,hq2,h3,hA,hr,aI,r0,r1,r2,hinf,Em];simp only[List.length_cons]at hacc g4;refine⟨⟨by omega,by omega⟩,f,(az b 3 q).2.1,c::(acc++[tf [x,y,z]]),m-1,0,⟨by omega,by omega,by omega,by omega,fun _=>⟨hG,by omega,i4,by omega,by simp;omega⟩,fun h=>absurd rfl h⟩,⟨⟨?_,rfl,rfl,rfl⟩,?_⟩,?_⟩;·simp
       ·simp[aC,rowP,tf]
       ·rw[if_pos rfl];omega
     ·have hA:bZ b q 3=([],q,(az b 3 q).2.2):=by unfold bZ;rw[if_pos h0]
      rw[rU b acc f m q hlt h0]at hG;have hTe:T=([],p,(az b 3 q).2.2):=by rw[hG];simp[CW,h0]
      cases acc with|nil=>
       simp(config := { maxSteps := 3000000 }) [wl,hlt,hl,hq1,hq2,h3,hA,h0,hinf,Em];refine⟨f,q,[],m,(az b 3 q).2.2,⟨hm0,hm1,hq1,hq2,fun h=>absurd h h0,fun _=>hTe⟩,⟨⟨?_,rfl,rfl,rfl⟩,?_⟩,?_⟩;·simp
       ·simp
       ·rw[if_neg h0];omega|cons c acc=>
       simp(config := { maxSteps := 3000000 }) [wl,hlt,hl,hq1,hq2,h3,hA,h0,hinf,Em];refine⟨f,q,c::acc,m,(az b 3 q).2.2,⟨hm0,hm1,hq1,hq2,fun h=>absurd h h0,fun _=>hTe⟩,⟨⟨?_,rfl,rfl,rfl⟩,?_⟩,?_⟩;·simp
       ·simp
       ·rw[if_neg h0];omega
    ·rw[si b acc f m q (by omega)]at hG;by_cases hrs:eb acc=false
     ·have hTe:T=([],p,2):=by rw[hG];simp[CW,hrs]
      cases acc with|nil=>cases hrs|cons c acc=>simp(config := { maxSteps := 3000000 }) [hlt,hacc,hrs,hTe,hinf,Em];simp only[List.length_cons]at hacc;omega
     ·have hrs':eb acc=true:=by simpa using hrs
      have hTe:T=(acc,q,0):=by rw[hG];simp[CW,hrs']
      cases acc with|nil=>simp(config := { maxSteps := 3000000 }) [hlt,hacc,hrs',hTe,hinf,Em]|cons c acc=>simp(config := { maxSteps := 3000000 }) [hlt,hacc,hrs',hTe,hinf,Em];simp only[List.length_cons]at hacc;omega
   ·have hTe:=hnz he;cases acc with|nil=>simp(config := { maxSteps := 3000000 }) [he,hTe,hinf,Em]|cons c acc=>simp(config := { maxSteps := 3000000 }) [he,hTe,hinf,Em]
 ·cases h
def pH (n u s:Int):Bool:=decide (u+s<n)
@[simp] noncomputable def HP:List AV→Option (Prop×AV)|[.pv (.int .u64 n),.pv (.int .u64 u),.pv (.int .u64 s)]=>some (cW n∧cW u∧cW s,.pv (.bool (pH n u s)))|_=>none
theorem Jv:aV Tryz.prog 133 HP:=by
 intro ys φ r h hφ;unfold HP at h;split at h
 ·rename_i n u s;cases h;obtain⟨⟨n1,n2⟩,⟨u1,u2⟩,⟨s1,s2⟩⟩:=hφ;refine ax aj (by kernel_rfl) fn133 (by simp) ?_;unfold body133;unfold pH;by_cases hc:u+s<18446744073709551616
  ·have e1:(u+s)/18446744073709551616=0:=by omega
   have e2:(u+s)%18446744073709551616=u+s:=by omega
   simp(config := { maxSteps := 3000000 }) [e1,e2,u1,s1]
  ·have e1:(u+s)/18446744073709551616=1:=by omega
   have e2:¬(u+s<n):=by omega
   simp(config := { maxSteps := 3000000 }) [e1,e2,u1,s1]
 ·cases h
@[simp] noncomputable def Sh:List AV→Option (Prop×AV)|[.agg [.pv (.int .u64 a),.pv (.int .u64 b),.pv (.int .u64 c)],.rp [.int .u64 n],.rp [.int .u64 s]]=>some (cW n∧cW c∧cW s,.pv (.bool (pH n c s)))|_=>none
theorem Ih:aV Tryz.prog 132 Sh:=by
 intro ys φ r h hφ;unfold Sh at h;split at h;·cases h;obtain⟨h1,h2,h3⟩:=hφ;refine ax (ah Jv aj) (by kernel_rfl) fn132 (by simp) ?_;unfold body132;simp(config := { maxSteps := 3000000 }) [h1,h2,h3]
 ·cases h
theorem AH:fQ Tryz.prog 132=true:=by kernel_rfl
def iB (n s:Int) (e:Pn):Bool:=pH n e.u s
@[simp] noncomputable def Tk:List AV→Option (Prop×AV)|[.pv (.ro a),.bA f [.rp [.int .u64 n],.rp [.int .u64 s]]]=>if f=132 then(dec rowP a).map fun l=>(l.length≤1000000000∧cW n∧cW s∧∀e∈l,cW e.u,.pv (.int .i64 (mA (iB n s) l))) else none|_=>none
theorem RR:aV Tryz.prog 129 Tk:=by
 intro ys φ r h hφ;unfold Tk at h;split at h
 ·rename_i ra f n s;split at h
  ·rename_i hf;subst hf;obtain⟨a,ha,h⟩:=Option.map_eq_some_iff.1 h;cases h;cases aJ ha;obtain⟨hl,o1,o2,o3⟩:=hφ;have hfn:=AH;refine ax (ah Ih aj) (by kernel_rfl) fn129 (by simp) ?_;unfold body129;simp(config := { maxSteps := 3000000 });refine au (fun i:Nat=>i≤a.length∧∀e∈a.take i,iB n s e=false) (fun i=>⟨[(0,.pv (.ro (aC a))),(1,.bA 132 [.rp [.int .u64 n],.rp [.int .u64 s]]),(7,.pv (.int .i64 a.length)),(8,.pv (.int .i64 i))],[]⟩) (fun i=>a.length-i) [] 0 (by simp) ?_ ?_;·simp
   ·rintro i ⟨hi,ht⟩;have w2:IntKind.i64.wrap ((i:Int)+1)=(i:Int)+1:=wrap_i64 (by omega);by_cases hlt:i<a.length
    ·have r1:=cL hlt;have o4:cW a[i].u:=o3 _ (List.getElem_mem hlt);have hr:iB n s a[i]=false→∀e∈a.take (i+1),iB n s e=false:=by
      intro h0 e he;rw[List.take_succ_eq_append_getElem hlt,List.mem_append]at he;rcases he with he|he;·exact ht e he
      ·rw[List.mem_singleton]at he;rw[he];exact h0
     by_cases hp:iB n s a[i]=true;·have hp':pH n a[i].u s=true:=hp;simp(config := { maxSteps := 3000000 }) [w2,hlt,r1,hfn,o1,o2,o4,hp'];exact(vh hlt hp ht).symm
     ·have hp0:iB n s a[i]=false:=by simpa using hp
      have hp':pH n a[i].u s=false:=hp0;simp(config := { maxSteps := 3000000 }) [w2,hlt,r1,hfn,o1,o2,o4,hp'];exact⟨i+1,⟨by omega,hr hp0⟩,by omega,by omega⟩
    ·simp(config := { maxSteps := 3000000 }) [hlt];rw[List.take_of_length_le (by omega)]at ht;exact(iP ht).symm
  ·cases h
 ·cases h
theorem wN {p:Pn→Bool}{l:List Pn}{k:Nat} (h:mA p l=(k:Int)):k<l.length∧(l.take (k+1)).filter (fun e=>!p e)=l.take k:=by
 unfold mA at h;split at h
 ·rename_i hlt;have hk:l.findIdx p=k:=by omega
  rw[hk]at hlt;refine⟨hlt,?_⟩;obtain⟨h1,h2⟩:=(List.findIdx_eq hlt).1 hk;rw[List.take_succ_eq_append_getElem hlt,List.filter_append];have hf:(l.take k).filter (fun e=>!p e)=l.take k:=by rw[List.filter_eq_self];intro e he;rw[List.mem_take_iff_getElem]at he;obtain⟨j,hj,rfl⟩:=he;have:=h2 j (by omega);simpa using this
  rw[hf];simp[h1]
 ·omega
theorem tB (l:List Pn) (i:Nat) (e:Pn):(aC l).set i [.int .u64 e.i,.int .u64 e.v,.int .u64 e.u]=aC (l.set i e):=by unfold aC;rw[List.map_set];rfl
def jP (l:List Pn) (n s:Int):List Pn:=l.filter fun e=>!iB n s e
@[simp] noncomputable def GX:List AV→Option (Prop×AV)|[.fr e a,.bA f [.rp [.int .u64 n],.rp [.int .u64 s]]]=>if e=94∧f=132 then(dec rowP a).map fun l=>(l.length≤1000000∧cW n∧cW s∧∀e∈l,cW e.u,.fr 94 (aC (jP l n s))) else none|_=>none
theorem IU:sd Tryz.prog 134 GX:=by
 intro ys φ r h hφ;unfold GX at h;split at h
 ·rename_i e ra f n s;split at h
  ·rename_i hef;obtain⟨rfl,rfl⟩:=hef;obtain⟨a,ha,h⟩:=Option.map_eq_some_iff.1 h;cases h;cases aJ ha;obtain⟨hl6,o1,o2,o3⟩:=hφ;refine lu (ah RR (ah Ih aj)) (by kernel_rfl) fn134 (by simp) (by simp[cH,kl,ij]) (by simp) ?_;unfold body134;have hl9:a.length≤1000000000:=by omega
   have isfn3:=AH;by_cases hr:a.any (iB n s)=true
   ·have hw:0≤mA (iB n s) a:=by rw[CV];exact hr
    obtain⟨k,hk⟩:=Int.eq_ofNat_of_zero_le hw;obtain⟨hkl,hkf⟩:=wN hk;have hne:¬((k:Int)=-1):=by omega
    have w1:IntKind.i64.wrap ((k:Int)+1)=(k:Int)+1:=wrap_i64 (by omega);simp(config := { maxSteps := 3000000 }) [hk,hne,w1,hl9,o1,o2];refine⟨o3,?_⟩;refine au (fun x:Nat×Nat×List Pn=>x.1<x.2.1∧x.2.1≤a.length∧x.2.2.length=a.length∧x.2.2.take x.1=(a.take x.2.1).filter (fun e=>!iB n s e)∧x.2.2.drop x.2.1=a.drop x.2.1) (fun x=>⟨[(0,.own 998),(1,.bA 132 [.rp [.int .u64 n],.rp [.int .u64 s]]),(5,.pv (.int .i64 x.1)),(6,.pv (.int .i64 x.2.1))],[(998,.arr 94 (aC x.2.2))]⟩) (fun x=>a.length-x.2.1) [] (k,k+1,a) ?_ ?_ ?_;·exact⟨by simp,by simp;omega,rfl,by simp[hkf],rfl⟩
    ·simp
    ·rintro⟨i,j,b⟩ ⟨h1,h2,h3,h4,h5⟩;dsimp only at h1 h2 h3 h4 h5;have w2:IntKind.i64.wrap ((j:Int)+1)=(j:Int)+1:=wrap_i64 (by omega);have w3:IntKind.i64.wrap ((i:Int)+1)=(i:Int)+1:=wrap_i64 (by omega);by_cases hlt:j<a.length
     ·have hjb:j<b.length:=by omega
      have hib:i<b.length:=by omega
      have o4:cW a[j].u:=o3 _ (List.getElem_mem hlt);have hbj:b[j]=a[j]:=by have e1:=List.drop_eq_getElem_cons hjb;have e2:=List.drop_eq_getElem_cons hlt;rw[h5,e2]at e1;injection e1 with e1 _;exact e1.symm
      have r1:=cL hjb;rw[hbj]at r1;have r2:=cL hib;have hib':(i:Int)<a.length:=by omega
      have hdrop:∀e,(b.set i e).drop (j+1)=a.drop (j+1):=by
       intro e;rw[List.drop_set_of_lt (by omega)];have e1:(b.drop j).drop 1=(a.drop j).drop 1:=by rw[h5]
       simpa[List.drop_drop]using e1
      by_cases hq:iB n s a[j]=true
      ·have hq':pH n a[j].u s=true:=hq;simp(config := { maxSteps := 3000000 }) [w2,w3,hlt,hjb,r1,r2,h3,hq',tB,hib',o1,o2,o4,isfn3];refine⟨i,j+1,b,⟨by omega,by omega,h3,?_,?_⟩,⟨⟨rfl,by omega⟩,rfl⟩,by omega⟩;·rw[List.take_succ_eq_append_getElem hlt,List.filter_append,←h4];simp[hq]
       ·have e1:(b.drop j).drop 1=(a.drop j).drop 1:=by rw[h5]
        simpa[List.drop_drop]using e1
      ·have hq0:iB n s a[j]=false:=by simpa using hq
       have hq':pH n a[j].u s=false:=hq0;simp(config := { maxSteps := 3000000 }) [w2,w3,hlt,hjb,r1,r2,h3,hq',tB,hib',o1,o2,o4,isfn3];refine⟨by omega,i+1,j+1,b.set i a[j],⟨by omega,by omega,by simp[h3],?_,hdrop _⟩,⟨⟨by omega,by omega⟩,rfl⟩,by omega⟩;rw[List.take_succ_eq_append_getElem hlt,List.filter_append,←h4,List.take_succ_eq_append_getElem (by simp;omega)];simp[hq0,List.take_set_of_le]
     ·simp(config := { maxSteps := 3000000 }) [hlt,h3];have hja:j=a.length:=by omega
      subst hja;rw[List.take_length]at h4;have h3r:=fE b;refine⟨⟨by omega,h3r⟩,⟨by omega,?_⟩,?_⟩
      ·rintro x (hx|⟨_,rfl⟩|hx);·exact h3r x (List.mem_of_mem_take hx)
       ·rfl
       ·exact h3r x (List.mem_of_mem_drop hx)
      ·rw[List.take_append_of_le_length (by simp;omega),List.take_take,Nat.min_self];unfold jP;rw[←h4];simp[aC,List.map_take]
   ·have hw:mA (iB n s) a=-1:=by apply iP;have:=hr;simp only[List.any_eq_true,not_exists,not_and]at this;intro e he;simpa using this e he
    have hfil:jP a n s=a:=by unfold jP;rw[List.filter_eq_self];intro e he;have:=hr;simp only[List.any_eq_true,not_exists,not_and]at this;simpa using this e he
    simp(config := { maxSteps := 3000000 }) [hw,hfil,hl9,o1,o2];exact o3
  ·cases h
 ·cases h
@[simp] noncomputable def C6:List AV→Option (Prop×AV)|[.agg [.pv (.ro a)],.pv (.int .u64 n),.pv (.int .u64 s)]=>(dec rowP a).map fun l=>(l.length≤1000000∧cW n∧cW s∧∀e∈l,cW e.u,.agg [.fr 94 (aC (jP l n s))])|_=>none
theorem IY:aV Tryz.prog 119 C6:=by
 intro ys φ r h hφ;unfold C6 at h;split at h
 ·rename_i ra n s;obtain⟨a,ha,h⟩:=Option.map_eq_some_iff.1 h;cases h;cases aJ ha;obtain⟨hl6,o1,o2,o3⟩:=hφ;have hl8:a.length≤100000000:=by omega
  refine ax (ah qt (gv (p:=0) (k:=998) IU (by kernel_rfl) aj)) (by kernel_rfl) fn119 (by simp) ?_;unfold body119;simp(config := { maxSteps := 3000000 }) [hl6,hl8,o1,o2];exact⟨o3,bF _⟩
 ·cases h
@[simp] noncomputable def Ya:List AV→Option (Prop×AV)|[.pv (.ro a),.pv (.int .u64 n),.pv (.int .u64 s)]=>(dec rowP a).map fun l=>(l.length≤1000000∧cW n∧cW s∧∀e∈l,cW e.u,.fr 123 (aC (jP l n s)))|_=>none
def yS (l:List Pn) (e:Pn):List Pn×Int:=if eb (l++[e])=true then(l++[e],0) else([],2)
@[simp] noncomputable def HL:List AV→Option (Prop×AV)|[.agg [.pv (.ro a)],.agg [.pv (.int .u64 x),.pv (.int .u64 y),.pv (.int .u64 z)]]=>(dec rowP a).map fun l=>(l.length≤1000000,.aL [.agg [.fr 94 (aC (yS l ⟨x,y,z⟩).1)],.pv (.int .i64 (yS l ⟨x,y,z⟩).2)])|_=>none
theorem Ku:aV Tryz.prog 117 HL:=by
 intro ys φ r h hφ;unfold HL at h;split at h
 ·rename_i ra x y z;obtain⟨a,ha,h⟩:=Option.map_eq_some_iff.1 h;cases h;cases aJ ha;have hl8:a.length≤100000000:=by omega
  have hinf:(Tryz.prog.info? 94).isSome=true:=by kernel_rfl
  have hap:aC a++[[PV.int .u64 x,.int .u64 y,.int .u64 z]]=aC (a++[⟨x,y,z⟩]):=by rw[gn];rfl
  refine ax (ah qt (ah qi aj)) (by kernel_rfl) fn117 (by simp) ?_;unfold body117;unfold yS;by_cases hr:eb (a++[⟨x,y,z⟩])=true;·simp(config := { maxSteps := 3000000 }) [hl8,hr,hap,hinf,aI];exact⟨⟨by omega,by omega⟩,by omega⟩
  ·simp(config := { maxSteps := 3000000 }) [hl8,hr,hap,hinf,aI];exact⟨⟨by omega,by omega⟩,by omega⟩
 ·cases h
@[simp] noncomputable def ZF:List AV→Option (Prop×AV)|[.pv (.ro a),.agg [.pv (.int .u64 x),.pv (.int .u64 y),.pv (.int .u64 z)]]=>(dec rowP a).map fun l=>(l.length≤1000000,.aL [.fr 123 (aC (yS l ⟨x,y,z⟩).1),.pv (.int .i64 (yS l ⟨x,y,z⟩).2)])|_=>none
def CD (n:Int):List Pn→List Pn|[]=>[]|e::l=>if e.i=n then l else e::CD n l
def xU (l:List Pn) (n:Int):Bool:=l.any fun e=>decide (e.i=n)
def ze (l:List Pn) (n:Int):List Pn×Int:=if xU l n=true then(CD n l,0) else([],80)
theorem wu (n:Int):∀l:List Pn,xU l n=true→∃k:Nat,mA (fun e=>decide (e.i=n)) l=(k:Int)∧k<l.length∧CD n l=l.take k++l.drop (k+1)
 |[],h=>by simp[xU]at h|x::l,h=>by
  by_cases hx:x.i=n;·refine⟨0,?_,by simp,by simp[CD,hx]⟩;exact vh (i:=0) (by simp) (by simpa using hx) (by simp)
  ·have h':xU l n=true:=by simpa[xU,hx]using h
   obtain⟨k,h1,h2,h3⟩:=wu n l h';refine⟨k+1,?_,by simp;omega,by simp[CD,hx,h3]⟩;unfold mA at h1 ⊢;split at h1
   ·rename_i hlt;have hf:(x::l).findIdx (fun e=>decide (e.i=n))=l.findIdx (fun e=>decide (e.i=n))+1:=by rw[List.findIdx_cons];simp[hx]
    rw[hf,if_pos (by rw[List.length_cons];omega)];omega
   ·omega
@[simp] noncomputable def H2:List AV→Option (Prop×AV)|[.pv .nil,.pv (.int .i64 n)]=>some (0≤n∧n≤1000000,.fr 94 [])|_=>none
theorem Lj:sd Tryz.prog 143 H2:=by
 intro ys φ r h hφ;unfold H2 at h;split at h
 ·rename_i n;cases h;obtain⟨h1,h2⟩:=hφ;have hinf:(Tryz.prog.info? 94).isSome=true:=by kernel_rfl
  have w0:IntKind.i64.wrap 0=0:=wrap_i64 (by omega);have w1:IntKind.i64.wrap n=n:=wrap_i64 (by omega);refine lu aj (by kernel_rfl) fn143 (by simp) (by simp[cH,kl,ij]) (by simp) ?_;unfold body143;have hn0:¬n<0:=by omega
  by_cases h0:0<n;·simp(config := { maxSteps := 3000000 }) [hn0,h0,w0,w1,hinf];exact⟨h1,by omega,by omega⟩
  ·simp(config := { maxSteps := 3000000 }) [hn0,h0,w0,w1,hinf]
 ·cases h
@[simp] noncomputable def QT:List AV→Option (Prop×AV)|[.pv (.ro [[.ro a],[.ro b]])]=>(dec rowP a).bind fun la=>(dec rowP b).map fun lb=>(la.length≤100000∧lb.length≤100000,.fr 94 (aC (la++lb)))|_=>none
theorem T7:aV Tryz.prog 131 QT:=by
 intro ys φ r h hφ;unfold QT at h;split at h
 ·rename_i ra rb;obtain⟨a,ha,h⟩:=Option.bind_eq_some_iff.1 h;obtain⟨b,hb,h⟩:=Option.map_eq_some_iff.1 h;cases h;cases aJ ha;cases aJ hb;obtain⟨hla,hlb⟩:=hφ;have h3a:=fE a;have h3b:=fE b;have w1:IntKind.i64.wrap 1=1:=wrap_i64 (by omega);have w2:IntKind.i64.wrap 2=2:=wrap_i64 (by omega);have wa:IntKind.i64.wrap (a.length:Int)=a.length:=wrap_i64 (by omega);have wab:IntKind.i64.wrap ((a.length:Int)+(b.length:Int))=(a.length:Int)+(b.length:Int):=wrap_i64 (by omega);have r0:rowAt [[PV.ro (aC a)],[PV.ro (aC b)]] 0=[.ro (aC a)]:=rfl;have r1:rowAt [[PV.ro (aC a)],[PV.ro (aC b)]] 1=[.ro (aC b)]:=rfl;have ga:¬((a.length:Int)<0):=by omega
  have gab:¬((a.length:Int)+(b.length:Int)<0):=by omega
  have gc:(a.length:Int)+(b.length:Int)≤1000000:=by omega
  have gd:(0:Int)≤(a.length:Int)+(b.length:Int):=by omega
  refine ax (gv (p:=0) (k:=997) Lj (by kernel_rfl) aj) (by kernel_rfl) fn131 (by simp) ?_;unfold body131;simp(config := { maxSteps := 3000000 });refine au (fun i:Nat=>i=0∨i=1∨i=2) (fun i=>⟨[(0,.pv (.ro [[.ro (aC a)],[.ro (aC b)]])),(2,.own 2),(3,.pv (.int .i64 (if i=0 then 0 else if i=1 then(a.length:Int) else(a.length:Int)+(b.length:Int)))),(9,.pv (.ro [[.ro (aC a)],[.ro (aC b)]])),(10,.pv (.int .i64 2)),(11,.pv (.int .i64 i))],[(2,.arr 94 [])]⟩) (fun i=>2-i) [] 0 (by simp) ?_ ?_;·simp
  ·rintro i (rfl|rfl|rfl);·simp(config := { maxSteps := 3000000 }) [r0,wa,ga,w1]
   ·simp(config := { maxSteps := 3000000 }) [r1,wab,gab,w2]
   ·simp(config := { maxSteps := 3000000 }) [gc,gd];refine au (fun i:Nat=>i=0∨i=1∨i=2) (fun i=>⟨[(0,.pv (.ro [[.ro (aC a)],[.ro (aC b)]])),(2,.own 2),(6,.own 24),(25,.pv (.ro [[.ro (aC a)],[.ro (aC b)]])),(26,.pv (.int .i64 2)),(27,.pv (.int .i64 i))],[(2,.arr 94 []),(24,.arr 94 (if i=0 then[] else if i=1 then aC a else aC (a++b)))]⟩) (fun i=>2-i) [] 0 (by simp) ?_ ?_;·simp
    ·rintro i (rfl|rfl|rfl);·simp(config := { maxSteps := 3000000 }) [r0,w1,aI];exact⟨by omega,by omega,h3a⟩
     ·simp(config := { maxSteps := 3000000 }) [r1,w2,aI];exact⟨⟨by omega,by omega,h3b⟩,(gn a b).symm⟩
     ·simp(config := { maxSteps := 3000000 })
 ·cases h
@[simp] noncomputable def H7:List AV→Option (Prop×AV)|[.agg [.pv (.ro a)],.pv (.int .u64 n)]=>(dec rowP a).map fun l=>(l.length≤100000,.aL [.agg [.fr 94 (aC (ze l n).1)],.pv (.int .i64 (ze l n).2)])|_=>none
theorem uH (l:List Pn) (i j:Int):cut (aC l) i j=aC ((l.take j.toNat).drop i.toNat):=by unfold cut aC;rw[List.map_drop,List.map_take]
theorem Ld:aV Tryz.prog 118 H7:=by
 intro ys φ r h hφ;unfold H7 at h;split at h
 ·rename_i ra n;obtain⟨a,ha,h⟩:=Option.map_eq_some_iff.1 h;cases h;cases aJ ha;have hl9:a.length≤1000000000:=by omega
  have hinf:(Tryz.prog.info? 94).isSome=true:=by kernel_rfl
  have h3:=fE a;have his:Nj 130 n=fun e=>decide (e.i=n):=by rfl
  refine ax (ah XX (ah T7 aj)) (by kernel_rfl) fn118 (by simp) ?_;unfold body118;unfold ze;by_cases hh:xU a n=true
  ·obtain⟨k,hk,hkl,hke⟩:=wu n a hh;have hn0:¬((k:Int)<0):=by omega
   have w1:IntKind.i64.wrap ((k:Int)+1)=(k:Int)+1:=wrap_i64 (by omega);have c1:cut (aC a) 0 (k:Int)=aC (a.take k):=by rw[uH];simp
   have c2:cut (aC a) ((k:Int)+1) (a.length:Int)=aC (a.drop (k+1)):=by rw[uH,show((k:Int)+1).toNat=k+1 from by omega];simp
   have hl1:(a.take k).length≤100000:=by rw[List.length_take];omega
   have hl2:(a.drop (k+1)).length≤100000:=by rw[List.length_drop];omega
   have hf:∀l,bV (aC l):=bF;simp(config := { maxSteps := 3000000 }) [hh,hl9,his,hk,hn0,w1,c1,c2,hl1,hl2,hke,hf,hinf];exact⟨⟨by omega,h3⟩,⟨by omega,by omega,h3⟩,by omega,by omega⟩
  ·have hh':xU a n=false:=by simpa using hh
   have hk:mA (fun e=>decide (e.i=n)) a=-1:=by apply iP;intro e he;unfold xU at hh';rw[List.any_eq_false]at hh';simpa using hh' e he
   simp(config := { maxSteps := 3000000 }) [hh,hl9,his,hk,hinf]
 ·cases h
@[simp] noncomputable def Zz:List AV→Option (Prop×AV)|[.pv (.ro a),.pv (.int .u64 n)]=>(dec rowP a).map fun l=>(l.length≤100000,.aL [.fr 123 (aC (ze l n).1),.pv (.int .i64 (ze l n).2)])|_=>none
def Zp (l:List Pn) (n:Int):Bool:=l.any fun e=>decide (e.v=n)
@[simp] noncomputable def ZY:List AV→Option (Prop×AV)|[.agg [.pv (.ro a)],.pv (.int .u64 n)]=>(dec rowP a).map fun l=>(l.length≤1000000000,.pv (.bool (Zp l n)))|_=>none
@[simp] noncomputable def Z2:List AV→Option (Prop×AV)|[.pv (.ro a),.pv (.int .u64 n)]=>(dec rowP a).map fun l=>(l.length≤1000000000,.pv (.bool (Zp l n)))|_=>none
end Go.Proofs.YtlmkcmfmfahcfaaGreat.Ab
namespace Go.Proofs.YtlmkcmfmfahcfaaGreat.Ab
open Go Go.RowKit
section
variable{P:Program}{Γ:bN}
theorem aw {α:Type}{o:Option α}{K K':α→Prop} (h:∀x,K x→K' x) (hs:ai o K):ai o K':=by cases o with|none=>exact hs|some x=>exact h x hs
theorem m6 {d:Option Nat}{f:FuncId}{xs:List AV}{aa:Nat→Option AO}{C C':bz→Prop} (h:∀e,C e→C' e) (hs:cr P Γ d f xs aa C):cr P Γ d f xs aa C':=by unfold cr at hs ⊢;refine aw (fun d hs=>⟨hs.1,aw (fun ys hs=>aw (fun x hs=>?_) hs) hs.2⟩) hs;exact⟨hs.1,hs.2.1,hs.2.2.1,hs.2.2.2.1,h _ hs.2.2.2.2⟩
theorem kf {i:AI}{K K':St→Prop} (h:∀st,K st→K' st) {st:St} (hs:cI P Γ i K st):cI P Γ i K' st:=by obtain⟨e,he,hk⟩:=cg.1 hs;exact cg.2 ⟨e,he,h _ hk⟩
theorem sQ {i:AI}{f:FuncId}{K K':St→Prop} (h:∀st,K st→K' st) {st:St} (hs:ki P Γ i f K st):ki P Γ i f K' st:=by
 unfold ki at hs ⊢;refine aw (fun ys hs=>aw (fun x hs=>?_) hs) hs;split at hs;·rename_i hc;rw[if_pos hc];exact m6 (fun e he=>h _ he) hs
 ·rename_i hc;rw[if_neg hc];exact kf h hs
theorem lR {b f:Bool}{A B A' B':Prop} (hA:A→A') (hB:B→B') (h:gb b f A B):gb b f A' B':=by cases b with|false=>exact hA h|true=>cases f with|false=>exact hA h|true=>exact hB h
theorem qg {i:AI}{K K':St→Prop} (h:∀st,K st→K' st) {st:St} (hs:b7 P Γ i K st):b7 P Γ i K' st:=by
 unfold b7 at hs ⊢;split at hs;·exact kf h hs
 ·exact lR (kf h) (h _) hs
theorem oU {i:AI}{K K':St→Prop} (h:∀st,K st→K' st) {st:St} (hs:iL P Γ i K st):iL P Γ i K' st:=by
 have hE:∀{st:St}{d:Option Nat}{x:XK}{xs:List AV},aP d x xs K st→aP d x xs K' st:=by
  intro st d x xs hs;unfold aP at hs ⊢;split at hs;·exact aw (fun d hs=>⟨hs.1,h _ hs.2⟩) hs
  ·exact⟨hs.1,aw (fun es hs=>⟨hs.1,hs.2.1,hs.2.2.1,h _ hs.2.2.2⟩) hs.2⟩
  ·exact⟨hs.1,aw (fun es hs=>⟨hs.1,hs.2.1,h _ hs.2.2⟩) hs.2⟩
  ·unfold oP at hs ⊢;split at hs;·exact⟨hs.1,hs.2.1,h _ hs.2.2⟩
   ·exact hs
  ·exact⟨hs.1,aw (fun rows hs b hb=>h _ (hs b hb)) hs.2⟩
  ·exact⟨hs.1,h _ hs.2⟩
  ·unfold kH at hs ⊢;split at hs;·exact aw (fun d hs=>⟨hs.1,hs.2.1,hs.2.2.1,h _ hs.2.2.2⟩) hs
   ·exact hs
  ·exact aw (fun d hs=>⟨hs.1,hs.2.1,hs.2.2.1,h _ hs.2.2.2⟩) hs
  ·unfold xK at hs ⊢;split at hs;·exact aw (fun d hs=>⟨hs.1,hs.2.1,hs.2.2.1,h _ hs.2.2.2⟩) hs
   ·exact hs
  ·exact⟨hs.1,hs.2.1,hs.2.2.1,hs.2.2.2.1,h _ hs.2.2.2.2⟩
  ·exact⟨hs.1,aw (fun r hs=>⟨hs.1,h _ hs.2⟩) hs.2⟩
  ·unfold qS at hs ⊢;split at hs
   ·unfold tX at hs ⊢;split at hs;·exact⟨hs.1,aw (fun r hs=>⟨hs.1,hs.2.1,h _ hs.2.2⟩) hs.2⟩
    ·exact hs
   ·unfold rK at hs ⊢;split at hs;·exact⟨hs.1,aw (fun r hs=>aw (fun j hs=>aw (fun s hs=>aw (fun ps hs=>h _ hs) hs) hs) hs) hs.2⟩
    ·exact hs
   ·exact aw (fun d hs=>⟨hs.1,h _ hs.2⟩) hs
   ·unfold oV at hs ⊢;split at hs;·exact⟨hs.1,aw (fun r hs=>⟨hs.1,hs.2.1,h _ hs.2.2⟩) hs.2⟩
    ·exact hs
   ·unfold ug at hs ⊢;split at hs;·exact⟨hs.1,aw (fun r hs=>⟨hs.1,hs.2.1,hs.2.2.1,h _ hs.2.2.2⟩) hs.2⟩
    ·exact hs
   ·unfold tO at hs ⊢;split at hs;·exact⟨hs.1,aw (fun r hs=>⟨hs.1,hs.2.1,h _ hs.2.2⟩) hs.2⟩
    ·exact hs
   ·exact⟨hs.1,aw (fun r hs=>h _ hs) hs.2⟩
   ·unfold uM at hs ⊢;split at hs;·exact aw (fun d hs=>⟨hs.1,hs.2.1,h _ hs.2.2⟩) hs
    ·exact hs
   ·unfold uw at hs ⊢;split at hs;·exact⟨hs.1,aw (fun r hs=>⟨fun e=>h _ (hs.1 e),fun e l m q=>h _ (hs.2 e l m q)⟩) hs.2⟩
    ·exact hs
   ·unfold um at hs ⊢;split at hs;·exact⟨hs.1,aw (fun r hs=>aw (fun e hs=>h _ hs) hs) hs.2⟩
    ·exact hs
   ·unfold nD at hs ⊢;exact aw (fun d hs=>⟨hs.1,aw (fun r hs=>⟨hs.1,hs.2.1,h _ hs.2.2⟩) hs.2⟩) hs
   ·exact hs
 unfold iL at hs ⊢;split at hs;·exact hE hs
 ·unfold zx at hs ⊢;refine aw (fun c hs=>?_) hs;split at hs;·rename_i h1;rw[if_pos h1];exact hE hs
  ·rename_i h1;rw[if_neg h1];exact h _ hs
 ·exact qg h hs
 ·rename_i e sz zs e1 e2;unfold mW at hs ⊢;exact⟨hs.1,aw (fun X hs=>aw (fun r hs=>h _ hs) hs) hs.2⟩
 ·unfold zZ kr at hs ⊢;split at hs
  ·split at hs
   ·rename_i h0;rw[if_pos h0];refine aw (fun c hs=>?_) hs;split at hs;·rename_i h2;rw[if_pos h2];exact fe h hs
    ·rename_i h2;rw[if_neg h2];exact h _ hs
   ·exact hs.elim
  refine lR (fun hs=>?_) (h _) hs;refine aw (fun c hs=>aw (fun ys hs=>aw (fun x hs=>?_) hs) hs) hs;split at hs
  ·rename_i h1;rw[if_pos h1];split at hs;·rename_i h2;rw[if_pos h2];exact sQ h hs
   ·rename_i h2;rw[if_neg h2];exact h _ hs
  ·rename_i h1;rw[if_neg h1];exact kf h hs
 ·unfold eY at hs ⊢;split at hs
  ·refine⟨hs.1,aw (fun x hs=>⟨hs.1,?_⟩) hs.2⟩;have hs:=hs.2;unfold dV at hs ⊢;split at hs
   ·split at hs;·rename_i h1;rw[if_pos h1];exact fe h hs
    ·exact hs.elim
   ·exact m6 (fun e he=>h _ he) hs
  ·refine lR (fun hs=>?_) (h _) hs;unfold nF at hs ⊢;refine aw (fun c hs=>aw (fun x hs=>⟨hs.1,?_⟩) hs) hs;have hs:=hs.2;unfold gm at hs ⊢;split at hs
   ·split at hs
    ·rename_i h1;rw[if_pos h1];split at hs;·rename_i h2;rw[if_pos h2];exact⟨hs.1,fe h hs.2⟩
     ·rename_i h2;rw[if_neg h2];exact h _ hs
    ·exact hs.elim
   unfold wB at hs ⊢;exact aw (fun ys hs=>aw (fun x hs=>⟨hs.1,hs.2.1,hs.2.2.1,hs.2.2.2.1,hs.2.2.2.2.1,h _ hs.2.2.2.2.2⟩) hs) hs
 ·unfold fV at hs ⊢;split at hs
  ·split at hs;·rename_i h1;rw[if_pos h1];unfold xS at hs ⊢;exact aw (fun d hs=>⟨hs.1,aw (fun ys hs=>aw (fun x hs=>⟨hs.1,hs.2.1,hs.2.2.1,hs.2.2.2.1,h _ hs.2.2.2.2⟩) hs) hs.2⟩) hs
   ·rename_i h1;rw[if_neg h1];split at hs;·rename_i h2;rw[if_pos h2];exact fe h hs
    rename_i h2;rw[if_neg h2];unfold jL at hs ⊢;refine aw (fun d hs=>⟨hs.1,aw (fun X hs=>aw (fun T hs=>⟨hs.1,aw (fun ys hs=>aw (fun x hs=>?_) hs) hs.2⟩) hs) hs.2⟩) hs;exact⟨hs.1,hs.2.1,hs.2.2.1,hs.2.2.2.1,h _ hs.2.2.2.2⟩
  ·exact sQ h hs
 ·exact kf h hs
 ·exact qg h hs
theorem sg {i:AI}{K K':St→Prop} (h:∀st,K st→K' st) {st:St} (hs:bS P Γ i K st):bS P Γ i K' st:=by
 unfold bS at hs ⊢;split at hs
 ·split at hs;·rename_i h1;rw[if_pos h1];exact⟨hs.1,aw (fun r hs=>⟨hs.1,hs.2.1,h _ hs.2.2⟩) hs.2⟩
  ·rename_i h1;rw[if_neg h1];exact oU h hs
 ·exact oU h hs
theorem kE {K K':St→Prop} (h:∀st,K st→K' st):∀{is:List AI}{st:St},cC P Γ is K st→cC P Γ is K' st|[],st,hs=>h st hs|i::is,st,hs=>sg (fun st hs=>kE h hs) hs
theorem xH {K K':St→Prop} (h:∀st,K st→K' st):∀{is:List AI}{st:St},steps P Γ is K st→steps P Γ is K' st|[],st,hs=>h st hs|i::is,st,hs=>gE (fun st hs=>xH h hs) hs
theorem ed:∀{a:AC}{K K':St→Prop}{J J':Exit→St→Prop}{st:St},(∀st,K st→K' st)→(∀e st,J e st→J' e st)→gq P Γ a K J st→gq P Γ a K' J' st
 |.skip,_,_,_,_,st,h,_,hs=>h st hs|.ag is d b8,_,_,_,_,st,h,_,hs=>by
  unfold gq at hs ⊢;split at hs;·rename_i hd;rw[if_pos hd];exact xH (fun st hs=>h _ hs) hs
  ·rename_i hd;rw[if_neg hd];exact kE (fun st hs=>h _ hs) hs|.seq a b,_,_,_,_,st,h,hj,hs=>ed (a:=a) (fun st hs=>ed (a:=b) h hj hs) hj hs|.cond x a b,_,_,_,_,st,h,hj,hs=>aw (fun c hs=>⟨fun e=>ed (a:=a) h hj (hs.1 e),fun e=>ed (a:=b) h hj (hs.2 e)⟩) (show ai _ _ from hs)|.block id a,K,K',J,J',st,h,hj,hs=>ed (a:=a) h (fun e st hs=>by cases e with
   |exit id'=>
    simp only[mL]at hs ⊢;split at hs;·rename_i h1;rw[if_pos h1];exact h _ hs
    ·rename_i h1;rw[if_neg h1];exact hj _ _ hs|_=>exact hj _ _ hs) (show gq P Γ a K (mL id K J) st from hs)|.loop a,_,_,_,_,st,h,hj,hs=>by obtain⟨ι,F,μ,ad,shs,i0,hw,hr⟩:=hs;exact⟨ι,F,μ,ad,shs,i0,hw,fun i=>ed (a:=a) (fun st hs=>hs) hj (hr i)⟩|.exit id,_,_,_,_,st,_,hj,hs=>hj _ _ hs|.ret,_,_,_,_,st,_,hj,hs=>hj _ _ hs
theorem af {a b:AC}{K:St→Prop}{J:Exit→St→Prop}{st:St} (vs:List (Nat×AV)) (os:List (Nat×AO)) (h1:gq P Γ a (fun st'=>st'=⟨look vs,ab os⟩) J st) (h2:gq P Γ b K J ⟨look vs,ab os⟩):gq P Γ (.seq a b) K J st:=ed (a:=a) (fun st' (hs:st'=_)=>by rw[hs];exact h2) (fun _ _ h=>h) h1
theorem kO {x:Operand}{a b:AC}{K:St→Prop}{J:Exit→St→Prop}{vs:List (Nat×AV)}{os:List (Nat×AO)} (h:hZ (ev (look vs) x)=some true) (h1:gq P Γ a K J ⟨look vs,ab os⟩):gq P Γ (.cond x a b) K J ⟨look vs,ab os⟩:=by rw[R.wx,h];exact⟨fun _=>h1,fun e=>Bool.noConfusion e⟩
theorem K5 {x:Operand}{a b:AC}{K:St→Prop}{J:Exit→St→Prop}{vs:List (Nat×AV)}{os:List (Nat×AO)} (h:hZ (ev (look vs) x)=some false) (h1:gq P Γ b K J ⟨look vs,ab os⟩):gq P Γ (.cond x a b) K J ⟨look vs,ab os⟩:=by rw[R.wx,h];exact⟨fun e=>Bool.noConfusion e,fun _=>h1⟩
theorem CG {a:AC}{K:St→Prop}{J:Exit→St→Prop}{st:St} (vs:List (Nat×AV)) (os:List (Nat×AO)) (h1:gq P Γ a (fun st'=>st'=⟨look vs,ab os⟩) J st) (h2:K ⟨look vs,ab os⟩):gq P Γ a K J st:=ed (a:=a) (fun st' (hs:st'=_)=>by rw[hs];exact h2) (fun _ _ h=>h) h1
theorem gT {a b:AC}{K:St→Prop}{J:Exit→St→Prop}{st:St} (Q:St→Prop) (h1:gq P Γ a Q J st) (h2:∀st',Q st'→gq P Γ b K J st'):gq P Γ (.seq a b) K J st:=ed (a:=a) (fun st' hs=>h2 st' hs) (fun _ _ h=>h) h1
theorem yF {is js:List AI}{K:St→Prop}{st:St} (vs:List (Nat×AV)) (os:List (Nat×AO)) (h1:cC P Γ is (fun st'=>st'=⟨look vs,ab os⟩) st) (h2:cC P Γ js K ⟨look vs,ab os⟩):cC P Γ (is++js) K st:=by
 have key:∀(is:List AI) (st:St),cC P Γ is (fun st'=>cC P Γ js K st') st→cC P Γ (is++js) K st:=by intro is;induction is with|nil=>exact fun st h=>h|cons i is ih=>exact fun st h=>sg (fun st hs=>ih st hs) h
 exact key is st (kE (fun st' (hs:st'=_)=>by rw[hs];exact h2) h1)
theorem Bb (k:Nat) {is:List AI}{K:St→Prop}{st:St} (vs:List (Nat×AV)) (os:List (Nat×AO)) (h1:cC P Γ (is.take k) (fun st'=>st'=⟨look vs,ab os⟩) st) (h2:cC P Γ (is.drop k) K ⟨look vs,ab os⟩):cC P Γ is K st:=by have:=yF vs os h1 h2;rwa[List.take_append_drop]at this
theorem fp (k:Nat) {is l1 l2:List AI}{K:St→Prop}{st:St}{vs:List (Nat×AV)}{os:List (Nat×AO)} (e1:is.take k=l1) (e2:is.drop k=l2) (h1:cC P Γ l1 (fun st'=>st'=⟨look vs,ab os⟩) st) (h2:cC P Γ l2 K ⟨look vs,ab os⟩):cC P Γ is K st:=by subst e1 e2;exact Bb k vs os h1 h2
theorem Fj {f:FuncId}{args:List AV}{e:TypeId}{rows:List (List PV)} (h:BV P f [] args [] (.fr e rows)):BV P f [] args [] (.pv (.ro rows)):=by
 intro w S0 β vals h1 h2 h3 h4 h5;have hno:∀t,bT (ab []) (fun t=>du (cellAt (.pv (.ro rows)) t)) t=none:=by
  intro t;show du (cellAt (.pv (.ro rows)) t)=none;simp only[cellAt,bQ];split;·split<;>rfl
  ·rfl
 refine(h w S0 β vals h1 h2 h3 h4 h5).mono ?_;rintro ex w' ⟨v,β',rfl,hF,hH,ho,hv⟩;have hob:(bT (ab []) fun t=>du (cellAt (.fr e rows) t)) 0=some (.arr e rows):=rfl;have hv0:RV P (aN S0 w.heap.size β' (bT (ab []) fun t=>du (cellAt (.fr e rows) t)) w') w' β' (ay (bT (ab []) fun t=>du (cellAt (.fr e rows) t))) v (.own 0):=hv;have hve:=hv0.aS.1;have hh:=hH.holds 0 _ hob;obtain⟨hr,_⟩:=ow (S':=aN S0 w.heap.size β' (bT (ab []) fun t=>du (cellAt (.pv (.ro rows)) t)) w') hh (fun b hb=>⟨hb.1,hb.2.1,fun⟨t,o,hto,_⟩=>by rw[hno]at hto;cases hto⟩) (fun b hb=>⟨.inr ((ho 0 b ⟨_,hob⟩ hb).resolve_right fun⟨t,o,hto,_⟩=>by cases hto),hh.lt b hb,fun⟨t,o,hto,_⟩=>by rw[hno]at hto;cases hto⟩);exact⟨v,β',rfl,hF,⟨(fun t o hto=>by rw[hno]at hto;cases hto),(fun t t' b ⟨o,hto⟩=>by rw[hno]at hto;cases hto)⟩,(fun t b ⟨o,hto⟩=>by rw[hno]at hto;cases hto),.pv _ _ (hve▸hr)⟩
@[simp] def YU:AV→AV|.fr _ rows=>.pv (.ro rows)|v=>v
@[simp] def Sp (G:List AV→Option (Prop×AV)) (ys:List AV):Option (Prop×AV):=(G ys).map fun x=>(x.1,YU x.2)
theorem sK {f:FuncId}{G:List AV→Option (Prop×AV)} (h:R.aV P f G):R.aV P f (Sp G):=by intro ys φ r hg hφ;unfold Sp at hg;obtain⟨⟨φ',r'⟩,hx,he⟩:=Option.map_eq_some_iff.1 hg;cases he;have:=h ys φ' r' hx hφ;cases r'<;>first|exact Fj this|exact this
end
end Go.Proofs.YtlmkcmfmfahcfaaGreat.Ab
