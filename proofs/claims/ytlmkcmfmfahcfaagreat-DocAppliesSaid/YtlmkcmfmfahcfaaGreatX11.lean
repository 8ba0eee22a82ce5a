/- Rows of plain data read back. -/
import Derived.Test.YtlmkcmfmfahcfaaGreatX10
set_option linter.unusedVariables false
set_option linter.unusedSimpArgs false
set_option linter.unnecessarySimpa false
set_option maxHeartbeats 40000000
set_option maxRecDepth 100000
namespace Go.Proofs.YtlmkcmfmfahcfaaGreat.Ab.R
open Go Go.RowKit
open Classical in noncomputable def dec {α:Type} (f:α→List PV) (rows:List (List PV)):Option (List α):=if h:∃l:List α,l.map f=rows then some h.choose else none
theorem map_inj {α β:Type}{f:α→β} (hf:∀a b,f a=f b→a=b):∀{l m:List α},l.map f=m.map f→l=m|[],[],_=>rfl|[],_::_,h=>by simp at h|_::_,[],h=>by simp at h|a::l,b::m,h=>by simp only[List.map_cons,List.cons.injEq]at h;rw[hf _ _ h.1,map_inj hf h.2]
theorem pb {α:Type}{f:α→List PV} (hf:∀a b,f a=f b→a=b) (l:List α):dec f (l.map f)=some l:=by unfold dec;have h:∃m:List α,m.map f=l.map f:=⟨l,rfl⟩;rw[dif_pos h];exact congrArg some (map_inj hf h.choose_spec)
theorem oW {α:Type}{f:α→List PV}{rows:List (List PV)}{l:List α} (h:dec f rows=some l):rows=l.map f:=by
 unfold dec at h;split at h;·rename_i h';simp only[Option.some.injEq]at h;rw[←h];exact h'.choose_spec.symm
 ·cases h
def lf (c:UInt8):List PV:=[.int .u8 (c.toNat:Int)]
@[simp] theorem Ve {α:Type} (f:α→List PV):dec f []=some []:=by unfold dec;have h:∃m:List α,m.map f=[]:=⟨[],rfl⟩;rw[dif_pos h];have:=h.choose_spec;simpa using this
end Go.Proofs.YtlmkcmfmfahcfaaGreat.Ab.R
namespace Go.Proofs.YtlmkcmfmfahcfaaGreat.Ab
open Go Go.RowKit R
def Hs (n:Nat):List UInt8:=if h:n<128 then[n.toUInt8] else(n%128+128).toUInt8::Hs (n/128) termination_by n decreasing_by omega
def me (n:Int):List UInt8:=Hs n.toNat
@[simp] def YI:List AV→Option (Prop×AV)|[.pv (.int .u64 n)]=>some (0≤n∧n≤18446744073709551615,.fr 5 (bytesRow (me n)))|_=>none
@[simp] def Va:List AV→Option (Prop×AV)|[.pv (.int .u64 n)]=>some (0≤n∧n≤18446744073709551615,.pv (.int .i64 (me n).length))|_=>none
def Gy (s:List UInt8):List UInt8:=Hs s.length++s
@[simp] def Yd:List AV→Option (Prop×AV)|[.pv (.str s)]=>some (s.length≤1000000,.fr 5 (bytesRow (Gy s)))|_=>none
@[simp] noncomputable def XG:List AV→Option (Prop×AV)|[.pv (.ro a),.pv (.ro b)]=>(dec lf a).bind fun la=>(dec lf b).map fun lb=>(la.length≤1000000000,.pv (.bool (decide (la=lb))))|_=>none
def zi:List UInt8→Nat→Nat→Nat×Nat×Int|[],_,_=>(0,0,10)|c::l,i,n=>if(i=9∧1<c.toNat)∨(c.toNat=0∧0<i) then(0,0,11) else if c.toNat<128 then(n+c.toNat%128*2^(7*i),i+1,0) else zi l (i+1) (n+c.toNat%128*2^(7*i))
def b8 (b:List UInt8) (p:Int):Int×Int×Int:=if p<0∨(b.length:Int)≤p then(0,p,10) else(((zi (b.drop p.toNat) 0 0).1:Int),p+((zi (b.drop p.toNat) 0 0).2.1:Int),(zi (b.drop p.toNat) 0 0).2.2)
def val:List UInt8→Nat|[]=>0|c::l=>c.toNat%128+128*val l
@[simp] noncomputable def Yv:List AV→Option (Prop×AV)|[.pv (.ro b),.pv (.int .i64 p)]=>(dec lf b).map fun l=>(l.length≤1000000000∧-9223372036854775808≤p∧p≤9223372036854775807,.aK [.pv (.int .u64 (b8 l p).1),.pv (.int .i64 (b8 l p).2.1),.pv (.int .i64 (b8 l p).2.2)])|_=>none
def qx (b:List UInt8) (p:Int):List UInt8×Int×Int:=if(b8 b p).2.2≠0 then([],p,(b8 b p).2.2) else if(b.length:Int)-(b8 b p).2.1<(b8 b p).1 then([],p,10) else((b.drop (b8 b p).2.1.toNat).take (b8 b p).1.toNat,(b8 b p).2.1+(b8 b p).1,0)
@[simp] noncomputable def Wf:List AV→Option (Prop×AV)|[.pv (.ro b),.pv (.int .i64 p)]=>(dec lf b).map fun l=>(l.length≤1000000000∧-9223372036854775808≤p∧p≤9223372036854775807,.aK [.pv (.str (qx l p).1),.pv (.int .i64 (qx l p).2.1),.pv (.int .i64 (qx l p).2.2)])|_=>none
def He (b:List UInt8) (at':Nat) (w:List UInt8):Bool:=decide (at'+w.length≤b.length∧(b.drop at').take w.length=w)
@[simp] noncomputable def WN:List AV→Option (Prop×AV)|[.pv (.ro b),.pv (.int .i64 i),.pv (.ro w)]=>(dec lf b).bind fun lb=>(dec lf w).map fun lw=>(0≤i∧i≤1000000000∧lb.length≤1000000000∧lw.length≤1000000000,.pv (.bool (He lb i.toNat lw)))|_=>none
structure Pn where
 i:Int
 v:Int
 u:Int deriving DecidableEq
def rowP (e:Pn):List PV:=[.int .u64 e.i,.int .u64 e.v,.int .u64 e.u]
theorem mP:∀a b,rowP a=rowP b→a=b:=by rintro⟨k,n,t⟩ ⟨k',n',t'⟩ h;simp only[rowP,List.cons.injEq,PV.int.injEq,true_and,and_true]at h;obtain⟨h1,h2,h3⟩:=h;rw[h1,h2,h3]
def aD (l:List Pn):List (List PV):=l.map rowP
@[simp] theorem K0:aD []=[]:=rfl
@[simp] theorem EP (l:List Pn):(aD l).length=l.length:=by simp[aD]
theorem cD (l m:List Pn):aD (l++m)=aD l++aD m:=by simp[aD]
theorem c9 (l:List Pn):∀r∈aD l,r.length=3:=by intro r hr;simp only[aD,List.mem_map]at hr;obtain⟨c,_,rfl⟩:=hr;rfl
theorem cC {l:List Pn}{i:Nat} (h:i<l.length):rowAt (aD l) (i:Int)=[.int .u64 l[i].i,.int .u64 l[i].v,.int .u64 l[i].u]:=by simp[rowAt,aD,h,rowP]
@[simp] theorem KE (l:List Pn):dec rowP (aD l)=some l:=pb mP l
theorem aL {rows:List (List PV)}{l:List Pn} (h:dec rowP rows=some l):rows=aD l:=oW h
theorem aE (l:List Pn):bq (aD l):=by intro r hr p hp;simp only[aD,List.mem_map]at hr;obtain⟨c,_,rfl⟩:=hr;simp only[rowP,List.mem_cons,List.not_mem_nil,or_false]at hp;rcases hp with rfl|rfl|rfl<;>rfl
def kT (l:List Pn):Bool:=(List.range (l.length-1)).all fun k=>match l[k]?,l[k+1]? with|some a,some b=>decide (a.i<b.i)|_,_=>true
theorem mW (l:List Pn):kT l=true↔∀(k:Nat) (h:k+1<l.length),l[k].i<l[k+1].i:=by
 unfold kT;rw[List.all_eq_true];constructor;·intro h k hk;have:=h k (by rw[List.mem_range];omega);rw[List.getElem?_eq_getElem (by omega),List.getElem?_eq_getElem hk]at this;simpa using this
 ·intro h k hk;rw[List.mem_range]at hk;rw[List.getElem?_eq_getElem (by omega),List.getElem?_eq_getElem (show k+1<l.length by omega)];simpa using h k (by omega)
theorem sH {l:List Pn}{k:Nat} (h:k+1<l.length) (hk:l[k+1].i≤l[k].i):kT l=false:=by cases hr:kT l with|false=>rfl|true=>have:=(mW l).1 hr k h;omega
@[simp] noncomputable def Yh:List AV→Option (Prop×AV)|[.agg [.pv (.ro a)]]=>(dec rowP a).map fun l=>(l.length≤1000000000,.pv (.bool (kT l)))|_=>none
@[simp] noncomputable def Yl:List AV→Option (Prop×AV)|[.pv (.ro a)]=>(dec rowP a).map fun l=>(l.length≤1000000000,.pv (.bool (kT l)))|_=>none
theorem Ca:bn Tryz.prog 37 Yh:=by
 intro ys φ r h hφ;unfold Yh at h;split at h
 ·rename_i ra;obtain⟨a,ha,h⟩:=Option.map_eq_some_iff.1 h;cases h;cases aL ha;refine aB aj (by kernel_rfl) fn37 (by simp) ?_;unfold body37;simp(config := { maxSteps := 3000000 });refine ay (fun i:Nat=>i≤a.length∧∀(k:Nat) (h:k+1<a.length),k+1<i→a[k].i<a[k+1].i) (fun i=>⟨[(1,.ptr 1 0),(6,.pv (.int .i64 a.length)),(7,.pv (.int .i64 i))],[(1,.box [.pv (.ro (aD a))])]⟩) (fun i=>a.length-i) [] 0 ?_ ?_ ?_;·exact⟨Nat.zero_le _,fun k h h2=>absurd h2 (by omega)⟩
  ·simp
  ·rintro i ⟨hi,ht⟩;have w2:IntKind.i64.wrap ((i:Int)+1)=(i:Int)+1:=wrap_i64 (by omega);have w3:IntKind.i64.wrap ((i:Int)-1)=(i:Int)-1:=wrap_i64 (by omega);by_cases hlt:i<a.length
   ·have r1:=cC hlt;by_cases h0:i=0;·subst h0;have wm:IntKind.i64.wrap (-1)=-1:=wrap_i64 (by omega);have rm:rowAt (aD a) (-1)=[.int .u64 a[0].i,.int .u64 a[0].v,.int .u64 a[0].u]:=r1;have rz:rowAt (aD a) 0=[.int .u64 a[0].i,.int .u64 a[0].v,.int .u64 a[0].u]:=r1;simp(config := { maxSteps := 3000000 }) [hlt,rm,rz,wm];exact⟨1,⟨by omega,fun k h h2=>absurd h2 (by omega)⟩,by rw[wrap_i64 (by omega)];rfl,by omega⟩
    ·obtain⟨k,hik⟩:∃k,i=k+1:=⟨i-1,by omega⟩;have hk:k<a.length:=by omega
     have r2:=cC hk;have w3:IntKind.i64.wrap ((i:Int)-1)=(k:Int):=by rw[wrap_i64 (by omega)];omega
     have h0i:0<i:=by omega
     simp(config := { maxSteps := 3000000 }) [w2,w3,hlt,hk,r1,r2,h0i];subst hik;refine⟨fun h=>sH (k:=k) hlt h,fun h=>⟨k+2,⟨by omega,fun j hj h2=>?_⟩,by omega,by omega⟩⟩;by_cases hjk:j=k;·subst hjk;exact h
     ·exact ht j hj (by omega)
   ·simp(config := { maxSteps := 3000000 }) [hlt];rw[mW];exact fun k h=>ht k h (by omega)
 ·cases h
theorem Cu:bn Tryz.prog 44 Yl:=by
 intro ys φ r h hφ;unfold Yl at h;split at h
 ·rename_i ra;obtain⟨a,ha,h⟩:=Option.map_eq_some_iff.1 h;cases h;cases aL ha;refine aB aj (by kernel_rfl) fn44 (by simp) ?_;unfold body44;simp(config := { maxSteps := 3000000 });refine ay (fun i:Nat=>1≤i∧i≤a.length+1∧∀(k:Nat) (h:k+1<a.length),k+1<i→a[k].i<a[k+1].i) (fun i=>⟨[(0,.pv (.ro (aD a))),(3,.pv (.int .i64 i))],[]⟩) (fun i=>a.length+1-i) [] 1 ?_ ?_ ?_;·exact⟨by omega,by omega,fun k h h2=>absurd h2 (by omega)⟩
  ·simp
  ·rintro i ⟨hi1,hi,ht⟩;obtain⟨k,hik⟩:∃k,i=k+1:=⟨i-1,by omega⟩;have w2:IntKind.i64.wrap ((i:Int)+1)=(i:Int)+1:=wrap_i64 (by omega);have w3:IntKind.i64.wrap ((i:Int)-1)=(k:Int):=by rw[wrap_i64 (by omega)];omega
   by_cases hlt:i<a.length
   ·have r1:=cC hlt;have hk:k<a.length:=by omega
    have r2:=cC hk;simp(config := { maxSteps := 3000000 }) [w2,w3,hlt,hk,r1,r2];subst hik;refine⟨fun h=>sH (k:=k) hlt h,fun h=>⟨k+2,⟨by omega,by omega,fun j hj h2=>?_⟩,by omega,by omega⟩⟩;by_cases hjk:j=k;·subst hjk;exact h
    ·exact ht j hj (by omega)
   ·simp(config := { maxSteps := 3000000 }) [hlt];rw[mW];exact fun k h=>ht k h (by omega)
 ·cases h
@[simp] noncomputable def YV:List AV→Option (Prop×AV)|[.agg [.pv (.int .u64 a),.pv (.int .u64 b),.pv (.int .u64 c)],.agg [.pv (.int .u64 d),.pv (.int .u64 e),.pv (.int .u64 f)]]=>some (True,.pv (.bool (decide (a=d)&&(decide (b=e)&&decide (c=f)))))|_=>none
@[simp] noncomputable def Yy:List AV→Option (Prop×AV)|[.pv (.ro a),.pv (.ro b)]=>(dec rowP a).bind fun la=>(dec rowP b).map fun lb=>(la.length≤1000000000,.pv (.bool (decide (la=lb))))|_=>none
theorem Dj:bn Tryz.prog 35 Yy:=by
 intro ys φ r h hφ;unfold Yy at h;split at h
 ·rename_i ra rb;obtain⟨a,ha,h⟩:=Option.bind_eq_some_iff.1 h;obtain⟨b,hb,h⟩:=Option.map_eq_some_iff.1 h;cases h;cases aL ha;cases aL hb;refine aB aj (by kernel_rfl) fn35 (by simp) ?_;unfold body35;simp(config := { maxSteps := 3000000 });refine⟨fun hne=>?_,fun hlen=>?_⟩;·intro e;exact hne (by rw[e])
  refine ay (fun i:Nat=>i≤a.length∧a.take i=b.take i) (fun i=>⟨[(0,.pv (.ro (aD a))),(1,.pv (.ro (aD b))),(5,.pv (.int .i64 i))],[]⟩) (fun i=>a.length-i) [] 0 (by simp) ?_ ?_;·simp
  ·rintro i ⟨hi,ht⟩;have w2:IntKind.i64.wrap ((i:Int)+1)=(i:Int)+1:=wrap_i64 (by omega);by_cases hlt:i<a.length
   ·have r1:=cC hlt;have hlb:i<b.length:=by omega
    have r2:=cC hlb;simp(config := { maxSteps := 3000000 }) [w2,hlt,hlb,r1,r2];refine⟨fun hne e=>by subst e;simp at hne,fun h1 h2 h3=>⟨i+1,⟨by omega,?_⟩,by omega,by omega⟩⟩;rw[List.take_succ_eq_append_getElem hlt,List.take_succ_eq_append_getElem hlb,ht];congr 2;exact mP _ _ (by simp only[rowP,h1,h2,h3])
   ·simp(config := { maxSteps := 3000000 }) [hlt];rw[List.take_of_length_le (by omega),List.take_of_length_le (by omega)]at ht;exact ht
 ·cases h
@[simp] noncomputable def YY:List AV→Option (Prop×AV)|[.pv (.ro a),.pv (.ro b),.bB f []]=>if f=101 then(dec rowP a).bind fun la=>(dec rowP b).map fun lb=>(la.length≤1000000000,.pv (.bool (decide (la=lb)))) else none|_=>none
@[simp] noncomputable def YZ:List AV→Option (Prop×AV)|[.agg [.pv (.ro a)],.agg [.pv (.ro b)]]=>(dec rowP a).bind fun la=>(dec rowP b).map fun lb=>(la.length≤1000000000,.pv (.bool (decide (la=lb))))|_=>none
@[simp] noncomputable def XY:List AV→Option (Prop×AV)|[.agg [.pv (.ro a)]]=>(dec rowP a).map fun l=>(l.length≤100000000,.fr 123 (aD l))|_=>none
@[simp] noncomputable def S6:List AV→Option (Prop×AV)|[.pv (.ro a)]=>(dec rowP a).map fun l=>(l.length≤100000000,.fr 94 (aD l))|_=>none
theorem pR:bn Tryz.prog 78 S6:=by
 intro ys φ r h hφ;unfold S6 at h;split at h;·rename_i ra;obtain⟨a,ha,h⟩:=Option.map_eq_some_iff.1 h;cases h;cases aL ha;refine aB aj (by kernel_rfl) fn78 (by simp) ?_;unfold body78;cases a with|nil=>simp(config := { maxSteps := 3000000 }) [qB]|cons x l=>have hx:aD (x::l)=rowP x::aD l:=rfl;simp(config := { maxSteps := 3000000 }) [hx,aQ];simp only[List.length_cons]at hφ;exact⟨by omega,by omega,rfl,c9 l⟩
 ·cases h
@[simp] noncomputable def YJ:List AV→Option (Prop×AV)|[.agg [.pv (.int .u64 a),.pv (.int .u64 b),.pv (.int .u64 c)],.rp [.int .u64 n]]=>some (True,.pv (.bool (decide (b=n))))|_=>none
@[simp] noncomputable def Oq:List AV→Option (Prop×AV)|[.agg [.pv (.int .u64 a),.pv (.int .u64 b),.pv (.int .u64 c)],.rp [.int .u64 n]]=>some (True,.pv (.bool (decide (a=n))))|_=>none
theorem P5:bn Tryz.prog 130 Oq:=by
 intro ys φ r h hφ;unfold Oq at h;split at h;·cases h;refine aB aj (by kernel_rfl) fn130 (by simp) ?_;unfold body130;simp(config := { maxSteps := 3000000 })
 ·cases h
def K3 (f:FuncId) (n:Int) (e:Pn):Bool:=decide (e.i=n)
def lD (p:Pn→Bool) (l:List Pn):Int:=if l.findIdx p<l.length then(l.findIdx p:Nat) else-1
theorem tS {p:Pn→Bool}{l:List Pn}{i:Nat} (hi:i<l.length) (h:p l[i]=true) (ha:∀e∈l.take i,p e=false):lD p l=(i:Int):=by
 have:l.findIdx p=i:=by rw[List.findIdx_eq hi];refine⟨h,fun j hj=>?_⟩;exact ha l[j] (by rw[List.mem_take_iff_getElem];exact⟨j,by omega,rfl⟩)
 unfold lD;rw[this,if_pos hi]
theorem iC {p:Pn→Bool}{l:List Pn} (ha:∀e∈l,p e=false):lD p l=-1:=by
 have:l.findIdx p=l.length:=by rw[List.findIdx_eq_length];exact ha
 unfold lD;rw[this,if_neg (by omega)]
theorem Ct (p:Pn→Bool) (l:List Pn):(0≤lD p l)=(l.any p=true):=by
 apply propext;by_cases h:l.any p=true
 ·obtain⟨e,he,hr⟩:=List.any_eq_true.1 h;have:l.findIdx p<l.length:=by rw[List.findIdx_lt_length];exact⟨e,he,hr⟩
  unfold lD;rw[if_pos this];simp[h]
 ·have h':l.any p=false:=by simpa using h
  rw[List.any_eq_false]at h';rw[iC fun e he=>by simpa using h' e he];simp[h]
@[simp] noncomputable def X8:List AV→Option (Prop×AV)|[.pv (.ro a),.bB f [.rp [.int .u64 n]]]=>if f=130 then(dec rowP a).map fun l=>(l.length≤1000000000,.pv (.int .i64 (lD (K3 f n) l))) else none|_=>none
theorem Dp:gI Tryz.prog 130=true:=by kernel_rfl
theorem XO:bn Tryz.prog 129 X8:=by
 intro ys φ r h hφ;unfold X8 at h;split at h
 ·rename_i ra f n;split at h
  ·rename_i hf;obtain⟨a,ha,h⟩:=Option.map_eq_some_iff.1 h;cases h;cases aL ha;have hfn:gI Tryz.prog f=true:=by rw[hf];exact Dp
   refine aB (ai P5 aj) (by kernel_rfl) fn129 (by simp) ?_;unfold body129;simp(config := { maxSteps := 3000000 });refine ay (fun i:Nat=>i≤a.length∧∀e∈a.take i,K3 f n e=false) (fun i=>⟨[(0,.pv (.ro (aD a))),(1,.bB f [.rp [.int .u64 n]]),(7,.pv (.int .i64 a.length)),(8,.pv (.int .i64 i))],[]⟩) (fun i=>a.length-i) [] 0 (by simp) ?_ ?_;·simp
   ·rintro i ⟨hi,ht⟩;have w2:IntKind.i64.wrap ((i:Int)+1)=(i:Int)+1:=wrap_i64 (by omega);by_cases hlt:i<a.length
    ·have r1:=cC hlt;have hr:K3 f n a[i]=false→∀e∈a.take (i+1),K3 f n e=false:=by
      intro h0 e he;rw[List.take_succ_eq_append_getElem hlt,List.mem_append]at he;rcases he with he|he;·exact ht e he
      ·rw[List.mem_singleton]at he;rw[he];exact h0
     subst hf;·have hp:K3 130 n a[i]=decide (a[i].i=n):=rfl;simp(config := { maxSteps := 3000000 }) [w2,hlt,r1,hfn];refine⟨fun h=>(tS hlt (by rw[hp];simpa using h) ht).symm,fun h=>⟨i+1,⟨by omega,hr (by rw[hp];simpa using h)⟩,by omega,by omega⟩⟩
    ·simp(config := { maxSteps := 3000000 }) [hlt];rw[List.take_of_length_le (by omega)]at ht;exact(iC ht).symm
  ·cases h
 ·cases h
def dq (n:Int):List PV:=[.int .u64 n]
theorem Cn:∀a b,dq a=dq b→a=b:=by intro a b h;simpa[dq]using h
def bU (l:List Int):List (List PV):=l.map dq
@[simp] theorem Lw:bU []=[]:=rfl
@[simp] theorem Dt (l:List Int):(bU l).length=l.length:=by simp[bU]
theorem l9 (l m:List Int):bU (l++m)=bU l++bU m:=by simp[bU]
theorem eD {l:List Int}{i:Nat} (h:i<l.length):rowAt (bU l) (i:Int)=[.int .u64 l[i]]:=by simp[rowAt,bU,h,dq]
@[simp] theorem zY (l:List Int):dec dq (bU l)=some l:=pb Cn l
theorem dm {rows:List (List PV)}{l:List Int} (h:dec dq rows=some l):rows=bU l:=oW h
theorem H6 (l:List UInt8):bq (bytesRow l):=by intro r hr p hp;simp only[bytesRow,List.mem_map]at hr;obtain⟨c,_,rfl⟩:=hr;simp only[List.mem_singleton]at hp;subst hp;rfl
theorem pQ (l:List Int):bq (bU l):=by intro r hr p hp;simp only[bU,List.mem_map]at hr;obtain⟨c,_,rfl⟩:=hr;simp only[dq,List.mem_singleton]at hp;subst hp;rfl
def cY (n:Int):Prop:=0≤n∧n≤18446744073709551615
def Wd (l:List Int):List UInt8:=l.flatMap me
@[simp] noncomputable def YC:List AV→Option (Prop×AV)|[.pv (.ro a)]=>(dec dq a).map fun l=>(l.length≤1000000∧(∀n∈l,cY n),.fr 5 (bytesRow (Wd l)))|_=>none
def gM (e:Pn):Prop:=cY e.i∧cY e.v∧cY e.u
def XP (e:Pn):List UInt8:=me e.i++(me e.v++me e.u)
def Q9 (l:List Pn):List UInt8:=l.flatMap XP
def GZ (l:List Pn):List UInt8:=me l.length++Q9 l
@[simp] noncomputable def X5:List AV→Option (Prop×AV)|[.agg [.pv (.ro a)]]=>(dec rowP a).map fun l=>(l.length≤1000000∧(∀n∈l,gM n),.fr 5 (bytesRow (GZ l)))|_=>none
@[simp] noncomputable def Ye:List AV→Option (Prop×AV)|[.pv (.ro a)]=>(dec rowP a).map fun l=>(l.length≤1000000∧(∀n∈l,gM n),.fr 5 (bytesRow (GZ l)))|_=>none
def eH (b:List UInt8):Nat→Int→List Int×Int×Int|0,p=>([],p,0)|k+1,p=>if(b8 b p).2.2≠0 then([],0,(b8 b p).2.2) else if(eH b k (b8 b p).2.1).2.2≠0 then([],0,(eH b k (b8 b p).2.1).2.2) else((b8 b p).1::(eH b k (b8 b p).2.1).1,(eH b k (b8 b p).2.1).2.1,0)
def Cg (b:List UInt8) (p:Int) (k:Nat):List Int×Int×Int:=if(eH b k p).2.2≠0 then([],p,(eH b k p).2.2) else eH b k p
def ahead (L:List Int) (q:List Int×Int×Int):List Int×Int×Int:=if q.2.2≠0 then([],0,q.2.2) else(L++q.1,q.2.1,0)
@[simp] noncomputable def YX:List AV→Option (Prop×AV)|[.pv (.ro b),.pv (.int .i64 p),.pv (.int .i64 k)]=>(dec lf b).map fun l=>(l.length≤1000000000∧-9223372036854775808≤p∧p≤9223372036854775807∧0≤k∧k≤1000,.aK [.fr 22 (bU (Cg l p k.toNat).1),.pv (.int .i64 (Cg l p k.toNat).2.1),.pv (.int .i64 (Cg l p k.toNat).2.2)])|_=>none
def XA:List Int→Pn|[a,b,c]=>⟨a,b,c⟩|_=>⟨0,0,0⟩
def j5 (b:List UInt8):Nat→Int→Int→List Pn×Int×Int|0,_,q=>([],q,0)|f+1,n,q=>if n≤0 then([],q,0) else if(eH b 3 q).2.2≠0 then([],0,(eH b 3 q).2.2) else if(j5 b f (n-1) (eH b 3 q).2.1).2.2≠0 then([],0,(j5 b f (n-1) (eH b 3 q).2.1).2.2) else(XA (eH b 3 q).1::(j5 b f (n-1) (eH b 3 q).2.1).1,(j5 b f (n-1) (eH b 3 q).2.1).2.1,0)
def sy (b:List UInt8) (p:Int):List Pn×Int×Int:=if(b8 b p).2.2≠0 then([],p,(b8 b p).2.2) else if(j5 b (b.length+1) (b8 b p).1 (b8 b p).2.1).2.2≠0 then([],p,(j5 b (b.length+1) (b8 b p).1 (b8 b p).2.1).2.2) else if kT (j5 b (b.length+1) (b8 b p).1 (b8 b p).2.1).1=false then([],p,2) else j5 b (b.length+1) (b8 b p).1 (b8 b p).2.1
@[simp] noncomputable def YG:List AV→Option (Prop×AV)|[.pv (.ro b),.pv (.int .i64 p)]=>(dec lf b).map fun l=>(l.length≤100000000∧-9223372036854775808≤p∧p≤9223372036854775807,.aK [.fr 123 (aD (sy l p).1),.pv (.int .i64 (sy l p).2.1),.pv (.int .i64 (sy l p).2.2)])|_=>none
@[simp] noncomputable def YH:List AV→Option (Prop×AV)|[.pv (.ro b),.pv (.int .i64 p)]=>(dec lf b).map fun l=>(l.length≤100000000∧-9223372036854775808≤p∧p≤9223372036854775807,.aK [.agg [.fr 94 (aD (sy l p).1)],.pv (.int .i64 (sy l p).2.1),.pv (.int .i64 (sy l p).2.2)])|_=>none
def j9 (n u s:Int):Bool:=decide (u+s<n)
@[simp] noncomputable def yG:List AV→Option (Prop×AV)|[.pv (.int .u64 n),.pv (.int .u64 u),.pv (.int .u64 s)]=>some (cY n∧cY u∧cY s,.pv (.bool (j9 n u s)))|_=>none
theorem Jj:bn Tryz.prog 133 yG:=by
 intro ys φ r h hφ;unfold yG at h;split at h
 ·rename_i n u s;cases h;obtain⟨⟨n1,n2⟩,⟨u1,u2⟩,⟨s1,s2⟩⟩:=hφ;refine aB aj (by kernel_rfl) fn133 (by simp) ?_;unfold body133;unfold j9;by_cases hc:u+s<18446744073709551616
  ·have e1:(u+s)/18446744073709551616=0:=by omega
   have e2:(u+s)%18446744073709551616=u+s:=by omega
   simp(config := { maxSteps := 3000000 }) [e1,e2,u1,s1]
  ·have e1:(u+s)/18446744073709551616=1:=by omega
   have e2:¬(u+s<n):=by omega
   simp(config := { maxSteps := 3000000 }) [e1,e2,u1,s1]
 ·cases h
theorem EC:bn Tryz.prog 106 yG:=by
 intro ys φ r h hφ;unfold yG at h;split at h
 ·rename_i n u s;cases h;obtain⟨⟨n1,n2⟩,⟨u1,u2⟩,⟨s1,s2⟩⟩:=hφ;refine aB aj (by kernel_rfl) fn106 (by simp) ?_;unfold body106;unfold j9;have w1:IntKind.u64.wrap (18446744073709551615-u)=18446744073709551615-u:=wrap_u64 (by omega);by_cases hc:s≤18446744073709551615-u;·have w2:IntKind.u64.wrap (u+s)=u+s:=wrap_u64 (by omega);simp(config := { maxSteps := 3000000 }) [w1,w2,hc]
  ·have e2:¬(u+s<n):=by omega
   simp(config := { maxSteps := 3000000 }) [w1,hc,e2]
 ·cases h
@[simp] noncomputable def R4:List AV→Option (Prop×AV)|[.agg [.pv (.int .u64 a),.pv (.int .u64 b),.pv (.int .u64 c)],.rp [.int .u64 n],.rp [.int .u64 s]]=>some (cY n∧cY c∧cY s,.pv (.bool (j9 n c s)))|_=>none
theorem G2:bn Tryz.prog 132 R4:=by
 intro ys φ r h hφ;unfold R4 at h;split at h;·cases h;obtain⟨h1,h2,h3⟩:=hφ;refine aB (ai Jj aj) (by kernel_rfl) fn132 (by simp) ?_;unfold body132;simp(config := { maxSteps := 3000000 }) [h1,h2,h3]
 ·cases h
theorem yC:gI Tryz.prog 132=true:=by kernel_rfl
def dY (n s:Int) (e:Pn):Bool:=j9 n e.u s
@[simp] noncomputable def QK:List AV→Option (Prop×AV)|[.pv (.ro a),.bB f [.rp [.int .u64 n],.rp [.int .u64 s]]]=>if f=132 then(dec rowP a).map fun l=>(l.length≤1000000000∧cY n∧cY s∧∀e∈l,cY e.u,.pv (.int .i64 (lD (dY n s) l))) else none|_=>none
theorem OR:bn Tryz.prog 129 QK:=by
 intro ys φ r h hφ;unfold QK at h;split at h
 ·rename_i ra f n s;split at h
  ·rename_i hf;subst hf;obtain⟨a,ha,h⟩:=Option.map_eq_some_iff.1 h;cases h;cases aL ha;obtain⟨hl,o1,o2,o3⟩:=hφ;have hfn:=yC;refine aB (ai G2 aj) (by kernel_rfl) fn129 (by simp) ?_;unfold body129;simp(config := { maxSteps := 3000000 });refine ay (fun i:Nat=>i≤a.length∧∀e∈a.take i,dY n s e=false) (fun i=>⟨[(0,.pv (.ro (aD a))),(1,.bB 132 [.rp [.int .u64 n],.rp [.int .u64 s]]),(7,.pv (.int .i64 a.length)),(8,.pv (.int .i64 i))],[]⟩) (fun i=>a.length-i) [] 0 (by simp) ?_ ?_;·simp
   ·rintro i ⟨hi,ht⟩;have w2:IntKind.i64.wrap ((i:Int)+1)=(i:Int)+1:=wrap_i64 (by omega);by_cases hlt:i<a.length
    ·have r1:=cC hlt;have o4:cY a[i].u:=o3 _ (List.getElem_mem hlt);have hr:dY n s a[i]=false→∀e∈a.take (i+1),dY n s e=false:=by
      intro h0 e he;rw[List.take_succ_eq_append_getElem hlt,List.mem_append]at he;rcases he with he|he;·exact ht e he
      ·rw[List.mem_singleton]at he;rw[he];exact h0
     by_cases hp:dY n s a[i]=true;·have hp':j9 n a[i].u s=true:=hp;simp(config := { maxSteps := 3000000 }) [w2,hlt,r1,hfn,o1,o2,o4,hp'];exact(tS hlt hp ht).symm
     ·have hp0:dY n s a[i]=false:=by simpa using hp
      have hp':j9 n a[i].u s=false:=hp0;simp(config := { maxSteps := 3000000 }) [w2,hlt,r1,hfn,o1,o2,o4,hp'];exact⟨i+1,⟨by omega,hr hp0⟩,by omega,by omega⟩
    ·simp(config := { maxSteps := 3000000 }) [hlt];rw[List.take_of_length_le (by omega)]at ht;exact(iC ht).symm
  ·cases h
 ·cases h
theorem vh {p:Pn→Bool}{l:List Pn}{k:Nat} (h:lD p l=(k:Int)):k<l.length∧(l.take (k+1)).filter (fun e=>!p e)=l.take k:=by
 unfold lD at h;split at h
 ·rename_i hlt;have hk:l.findIdx p=k:=by omega
  rw[hk]at hlt;refine⟨hlt,?_⟩;obtain⟨h1,h2⟩:=(List.findIdx_eq hlt).1 hk;rw[List.take_succ_eq_append_getElem hlt,List.filter_append];have hf:(l.take k).filter (fun e=>!p e)=l.take k:=by rw[List.filter_eq_self];intro e he;rw[List.mem_take_iff_getElem]at he;obtain⟨j,hj,rfl⟩:=he;have:=h2 j (by omega);simpa using this
  rw[hf];simp[h1]
 ·omega
theorem sk (l:List Pn) (i:Nat) (e:Pn):(aD l).set i [.int .u64 e.i,.int .u64 e.v,.int .u64 e.u]=aD (l.set i e):=by unfold aD;rw[List.map_set];rfl
def cU (l:List Pn) (n s:Int):List Pn:=l.filter fun e=>!dY n s e
@[simp] noncomputable def GH:List AV→Option (Prop×AV)|[.fr e a,.bB f [.rp [.int .u64 n],.rp [.int .u64 s]]]=>if e=94∧f=132 then(dec rowP a).map fun l=>(l.length≤1000000∧cY n∧cY s∧∀e∈l,cY e.u,.fr 94 (aD (cU l n s))) else none|_=>none
theorem JT:si Tryz.prog 134 GH:=by
 intro ys φ r h hφ;unfold GH at h;split at h
 ·rename_i e ra f n s;split at h
  ·rename_i hef;obtain⟨rfl,rfl⟩:=hef;obtain⟨a,ha,h⟩:=Option.map_eq_some_iff.1 h;cases h;cases aL ha;obtain⟨hl6,o1,o2,o3⟩:=hφ;refine mr (ai OR (ai G2 aj)) (by kernel_rfl) fn134 (by simp) (by simp[cB,kL,il]) (by simp) ?_;unfold body134;have hl9:a.length≤1000000000:=by omega
   have isfn3:=yC;by_cases hr:a.any (dY n s)=true
   ·have hw:0≤lD (dY n s) a:=by rw[Ct];exact hr
    obtain⟨k,hk⟩:=Int.eq_ofNat_of_zero_le hw;obtain⟨hkl,hkf⟩:=vh hk;have hne:¬((k:Int)=-1):=by omega
    have w1:IntKind.i64.wrap ((k:Int)+1)=(k:Int)+1:=wrap_i64 (by omega);simp(config := { maxSteps := 3000000 }) [hk,hne,w1,hl9,o1,o2];refine⟨o3,?_⟩;refine ay (fun x:Nat×Nat×List Pn=>x.1<x.2.1∧x.2.1≤a.length∧x.2.2.length=a.length∧x.2.2.take x.1=(a.take x.2.1).filter (fun e=>!dY n s e)∧x.2.2.drop x.2.1=a.drop x.2.1) (fun x=>⟨[(0,.own 998),(1,.bB 132 [.rp [.int .u64 n],.rp [.int .u64 s]]),(5,.pv (.int .i64 x.1)),(6,.pv (.int .i64 x.2.1))],[(998,.arr 94 (aD x.2.2))]⟩) (fun x=>a.length-x.2.1) [] (k,k+1,a) ?_ ?_ ?_;·exact⟨by simp,by simp;omega,rfl,by simp[hkf],rfl⟩
    ·simp
    ·rintro⟨i,j,b⟩ ⟨h1,h2,h3,h4,h5⟩;dsimp only at h1 h2 h3 h4 h5;have w2:IntKind.i64.wrap ((j:Int)+1)=(j:Int)+1:=wrap_i64 (by omega);have w3:IntKind.i64.wrap ((i:Int)+1)=(i:Int)+1:=wrap_i64 (by omega);by_cases hlt:j<a.length
     ·have hjb:j<b.length:=by omega
      have hib:i<b.length:=by omega
      have o4:cY a[j].u:=o3 _ (List.getElem_mem hlt);have hbj:b[j]=a[j]:=by have e1:=List.drop_eq_getElem_cons hjb;have e2:=List.drop_eq_getElem_cons hlt;rw[h5,e2]at e1;injection e1 with e1 _;exact e1.symm
      have r1:=cC hjb;rw[hbj]at r1;have r2:=cC hib;have hib':(i:Int)<a.length:=by omega
      have hdrop:∀e,(b.set i e).drop (j+1)=a.drop (j+1):=by
       intro e;rw[List.drop_set_of_lt (by omega)];have e1:(b.drop j).drop 1=(a.drop j).drop 1:=by rw[h5]
       simpa[List.drop_drop]using e1
      by_cases hq:dY n s a[j]=true
      ·have hq':j9 n a[j].u s=true:=hq;simp(config := { maxSteps := 3000000 }) [w2,w3,hlt,hjb,r1,r2,h3,hq',sk,hib',o1,o2,o4,isfn3];refine⟨i,j+1,b,⟨by omega,by omega,h3,?_,?_⟩,⟨⟨rfl,by omega⟩,rfl⟩,by omega⟩;·rw[List.take_succ_eq_append_getElem hlt,List.filter_append,←h4];simp[hq]
       ·have e1:(b.drop j).drop 1=(a.drop j).drop 1:=by rw[h5]
        simpa[List.drop_drop]using e1
      ·have hq0:dY n s a[j]=false:=by simpa using hq
       have hq':j9 n a[j].u s=false:=hq0;simp(config := { maxSteps := 3000000 }) [w2,w3,hlt,hjb,r1,r2,h3,hq',sk,hib',o1,o2,o4,isfn3];refine⟨by omega,i+1,j+1,b.set i a[j],⟨by omega,by omega,by simp[h3],?_,hdrop _⟩,⟨⟨by omega,by omega⟩,rfl⟩,by omega⟩;rw[List.take_succ_eq_append_getElem hlt,List.filter_append,←h4,List.take_succ_eq_append_getElem (by simp;omega)];simp[hq0,List.take_set_of_le]
     ·simp(config := { maxSteps := 3000000 }) [hlt,h3];have hja:j=a.length:=by omega
      subst hja;rw[List.take_length]at h4;have h3r:=c9 b;refine⟨⟨by omega,h3r⟩,⟨by omega,?_⟩,?_⟩
      ·rintro x (hx|⟨_,rfl⟩|hx);·exact h3r x (List.mem_of_mem_take hx)
       ·rfl
       ·exact h3r x (List.mem_of_mem_drop hx)
      ·rw[List.take_append_of_le_length (by simp;omega),List.take_take,Nat.min_self];unfold cU;rw[←h4];simp[aD,List.map_take]
   ·have hw:lD (dY n s) a=-1:=by apply iC;have:=hr;simp only[List.any_eq_true,not_exists,not_and]at this;intro e he;simpa using this e he
    have hfil:cU a n s=a:=by unfold cU;rw[List.filter_eq_self];intro e he;have:=hr;simp only[List.any_eq_true,not_exists,not_and]at this;simpa using this e he
    simp(config := { maxSteps := 3000000 }) [hw,hfil,hl9,o1,o2];exact o3
  ·cases h
 ·cases h
@[simp] noncomputable def Cx:List AV→Option (Prop×AV)|[.agg [.pv (.ro a)],.pv (.int .u64 n),.pv (.int .u64 s)]=>(dec rowP a).map fun l=>(l.length≤1000000∧cY n∧cY s∧∀e∈l,cY e.u,.agg [.fr 94 (aD (cU l n s))])|_=>none
theorem IG:bn Tryz.prog 119 Cx:=by
 intro ys φ r h hφ;unfold Cx at h;split at h
 ·rename_i ra n s;obtain⟨a,ha,h⟩:=Option.map_eq_some_iff.1 h;cases h;cases aL ha;obtain⟨hl6,o1,o2,o3⟩:=hφ;have hl8:a.length≤100000000:=by omega
  refine aB (ai pR (ir (p:=0) (k:=998) JT (by kernel_rfl) aj)) (by kernel_rfl) fn119 (by simp) ?_;unfold body119;simp(config := { maxSteps := 3000000 }) [hl6,hl8,o1,o2];exact⟨o3,aE _⟩
 ·cases h
@[simp] noncomputable def Bu:List AV→Option (Prop×AV)|[.pv (.ro a),.pv (.int .u64 n),.pv (.int .u64 s)]=>(dec rowP a).map fun l=>(l.length≤1000000∧cY n∧cY s∧∀e∈l,cY e.u,.fr 123 (aD (cU l n s)))|_=>none
theorem Es:bn Tryz.prog 75 Bu:=by
 intro ys φ r h hφ;unfold Bu at h;split at h
 ·rename_i ra n s;obtain⟨a,ha,h⟩:=Option.map_eq_some_iff.1 h;cases h;cases aL ha;obtain⟨hl6,o1,o2,o3⟩:=hφ;refine aB (ai EC aj) (by kernel_rfl) fn75 (by simp) ?_;unfold body75;simp(config := { maxSteps := 3000000 });refine ay (fun i:Nat=>i≤a.length) (fun i=>⟨[(0,.pv (.ro (aD a))),(1,.pv (.int .u64 n)),(2,.pv (.int .u64 s)),(7,.own 7),(8,.pv (.int .i64 i))],[(7,.arr 123 (aD (cU (a.take i) n s)))]⟩) (fun i=>a.length-i) [] 0 (by simp) ?_ ?_;·simp[cU]
  ·intro i hi;have w2:IntKind.i64.wrap ((i:Int)+1)=(i:Int)+1:=wrap_i64 (by omega);by_cases hlt:i<a.length
   ·have r1:=cC hlt;have o4:cY a[i].u:=o3 _ (List.getElem_mem hlt);have hln:(cU (a.take i) n s).length≤i:=by unfold cU;have:=List.length_filter_le (fun e=>!dY n s e) (a.take i);simp at this;omega
    have hst:cU (a.take (i+1)) n s=cU (a.take i) n s++(if dY n s a[i]=true then[] else[a[i]]):=by unfold cU;rw[List.take_succ_eq_append_getElem hlt,List.filter_append];cases hp:dY n s a[i]<;>simp[hp]
    by_cases hq:dY n s a[i]=true;·have hq':j9 n a[i].u s=true:=hq;rw[if_pos hq,List.append_nil]at hst;simp(config := { maxSteps := 3000000 }) [w2,hlt,r1,hq',o1,o2,o4];refine⟨i+1,by omega,⟨by omega,by rw[hst]⟩,by omega⟩
    ·have hq0:dY n s a[i]=false:=by simpa using hq
     have hq':j9 n a[i].u s=false:=hq0;rw[if_neg hq]at hst;simp(config := { maxSteps := 3000000 }) [w2,hlt,r1,hq',o1,o2,o4,aQ];refine⟨⟨by omega,by omega⟩,i+1,by omega,⟨by omega,by rw[hst,cD];rfl⟩,by omega⟩
   ·have hia:i=a.length:=by omega
    subst hia;simp(config := { maxSteps := 3000000 })
 ·cases h
def nv (l:List Pn) (e:Pn):List Pn×Int:=if kT (l++[e])=true then(l++[e],0) else([],2)
@[simp] noncomputable def FC:List AV→Option (Prop×AV)|[.agg [.pv (.ro a)],.agg [.pv (.int .u64 x),.pv (.int .u64 y),.pv (.int .u64 z)]]=>(dec rowP a).map fun l=>(l.length≤1000000,.aK [.agg [.fr 94 (aD (nv l ⟨x,y,z⟩).1)],.pv (.int .i64 (nv l ⟨x,y,z⟩).2)])|_=>none
theorem IV:bn Tryz.prog 117 FC:=by
 intro ys φ r h hφ;unfold FC at h;split at h
 ·rename_i ra x y z;obtain⟨a,ha,h⟩:=Option.map_eq_some_iff.1 h;cases h;cases aL ha;have hl8:a.length≤100000000:=by omega
  have hinf:(Tryz.prog.info? 94).isSome=true:=by kernel_rfl
  have hap:aD a++[[PV.int .u64 x,.int .u64 y,.int .u64 z]]=aD (a++[⟨x,y,z⟩]):=by rw[cD];rfl
  refine aB (ai pR (ai Ca aj)) (by kernel_rfl) fn117 (by simp) ?_;unfold body117;unfold nv;by_cases hr:kT (a++[⟨x,y,z⟩])=true;·simp(config := { maxSteps := 3000000 }) [hl8,hr,hap,hinf,aQ];exact⟨⟨by omega,by omega⟩,by omega⟩
  ·simp(config := { maxSteps := 3000000 }) [hl8,hr,hap,hinf,aQ];exact⟨⟨by omega,by omega⟩,by omega⟩
 ·cases h
@[simp] noncomputable def FY:List AV→Option (Prop×AV)|[.pv (.ro a),.agg [.pv (.int .u64 x),.pv (.int .u64 y),.pv (.int .u64 z)]]=>(dec rowP a).map fun l=>(l.length≤1000000,.aK [.fr 123 (aD (nv l ⟨x,y,z⟩).1),.pv (.int .i64 (nv l ⟨x,y,z⟩).2)])|_=>none
theorem Jm:bn Tryz.prog 73 FY:=by
 intro ys φ r h hφ;unfold FY at h;split at h
 ·rename_i ra x y z;obtain⟨a,ha,h⟩:=Option.map_eq_some_iff.1 h;cases h;cases aL ha;have hl8:a.length≤100000000:=by omega
  have h3:=c9 a;have hap:aD a++[[PV.int .u64 x,.int .u64 y,.int .u64 z]]=aD (a++[⟨x,y,z⟩]):=by rw[cD];rfl
  refine aB (ai Cu aj) (by kernel_rfl) fn73 (by simp) ?_;unfold body73;unfold nv;by_cases hr:kT (a++[⟨x,y,z⟩])=true;·simp(config := { maxSteps := 3000000 }) [hl8,hr,hap,aQ];exact⟨⟨by omega,by omega,h3⟩,⟨by omega,by omega⟩,by omega⟩
  ·simp(config := { maxSteps := 3000000 }) [hl8,hr,hap,aQ];exact⟨⟨by omega,by omega,h3⟩,⟨by omega,by omega⟩,by omega⟩
 ·cases h
def jy (n:Int):List Pn→List Pn|[]=>[]|e::l=>if e.i=n then l else e::jy n l
def fM (l:List Pn) (n:Int):Bool:=l.any fun e=>decide (e.i=n)
def nu (l:List Pn) (n:Int):List Pn×Int:=if fM l n=true then(jy n l,0) else([],80)
theorem qn (n:Int):∀l:List Pn,(jy n l).length≤l.length
 |[]=>by simp[jy]|e::l=>by
  have:=qn n l;unfold jy;split;·simp
  ·simp;exact this
theorem sQ (n:Int) (e:Pn):∀l:List Pn,jy n (l++[e])=if fM l n=true then jy n l++[e] else if e.i=n then l else l++[e]
 |[]=>by simp[jy,fM]|x::l=>by
  have ih:=sQ n e l;by_cases hx:x.i=n;·simp[jy,fM,hx]
  ·have:fM (x::l) n=fM l n:=by simp[fM,hx]
   simp only[List.cons_append,jy,if_neg hx,ih,this];split;·rfl
   ·split<;>rfl
theorem s8 {n:Int}:∀{l:List Pn},fM l n=false→jy n l=l|[],_=>rfl|x::l,h=>by simp only[fM,List.any_cons,Bool.or_eq_false_iff,decide_eq_false_iff_not]at h;simp only[jy,if_neg h.1,s8 (n:=n) (l:=l) h.2]
theorem Ai (l:List Pn) (e:Pn) (n:Int):fM (l++[e]) n=(fM l n||decide (e.i=n)):=by simp[fM]
theorem uK (n:Int):∀l:List Pn,fM l n=true→∃k:Nat,lD (fun e=>decide (e.i=n)) l=(k:Int)∧k<l.length∧jy n l=l.take k++l.drop (k+1)
 |[],h=>by simp[fM]at h|x::l,h=>by
  by_cases hx:x.i=n;·refine⟨0,?_,by simp,by simp[jy,hx]⟩;exact tS (i:=0) (by simp) (by simpa using hx) (by simp)
  ·have h':fM l n=true:=by simpa[fM,hx]using h
   obtain⟨k,h1,h2,h3⟩:=uK n l h';refine⟨k+1,?_,by simp;omega,by simp[jy,hx,h3]⟩;unfold lD at h1 ⊢;split at h1
   ·rename_i hlt;have hf:(x::l).findIdx (fun e=>decide (e.i=n))=l.findIdx (fun e=>decide (e.i=n))+1:=by rw[List.findIdx_cons];simp[hx]
    rw[hf,if_pos (by rw[List.length_cons];omega)];omega
   ·omega
@[simp] noncomputable def FB:List AV→Option (Prop×AV)|[.pv .nil,.pv (.int .i64 n)]=>some (0≤n∧n≤1000000,.fr 94 [])|_=>none
theorem Hg:si Tryz.prog 143 FB:=by
 intro ys φ r h hφ;unfold FB at h;split at h
 ·rename_i n;cases h;obtain⟨h1,h2⟩:=hφ;have hinf:(Tryz.prog.info? 94).isSome=true:=by kernel_rfl
  have w0:IntKind.i64.wrap 0=0:=wrap_i64 (by omega);have w1:IntKind.i64.wrap n=n:=wrap_i64 (by omega);refine mr aj (by kernel_rfl) fn143 (by simp) (by simp[cB,kL,il]) (by simp) ?_;unfold body143;have hn0:¬n<0:=by omega
  by_cases h0:0<n;·simp(config := { maxSteps := 3000000 }) [hn0,h0,w0,w1,hinf];exact⟨h1,by omega,by omega⟩
  ·simp(config := { maxSteps := 3000000 }) [hn0,h0,w0,w1,hinf]
 ·cases h
@[simp] noncomputable def NK:List AV→Option (Prop×AV)|[.pv (.ro [[.ro a],[.ro b]])]=>(dec rowP a).bind fun la=>(dec rowP b).map fun lb=>(la.length≤100000∧lb.length≤100000,.fr 94 (aD (la++lb)))|_=>none
theorem Qt:bn Tryz.prog 131 NK:=by
 intro ys φ r h hφ;unfold NK at h;split at h
 ·rename_i ra rb;obtain⟨a,ha,h⟩:=Option.bind_eq_some_iff.1 h;obtain⟨b,hb,h⟩:=Option.map_eq_some_iff.1 h;cases h;cases aL ha;cases aL hb;obtain⟨hla,hlb⟩:=hφ;have h3a:=c9 a;have h3b:=c9 b;have w1:IntKind.i64.wrap 1=1:=wrap_i64 (by omega);have w2:IntKind.i64.wrap 2=2:=wrap_i64 (by omega);have wa:IntKind.i64.wrap (a.length:Int)=a.length:=wrap_i64 (by omega);have wab:IntKind.i64.wrap ((a.length:Int)+(b.length:Int))=(a.length:Int)+(b.length:Int):=wrap_i64 (by omega);have r0:rowAt [[PV.ro (aD a)],[PV.ro (aD b)]] 0=[.ro (aD a)]:=rfl;have r1:rowAt [[PV.ro (aD a)],[PV.ro (aD b)]] 1=[.ro (aD b)]:=rfl;have ga:¬((a.length:Int)<0):=by omega
  have gab:¬((a.length:Int)+(b.length:Int)<0):=by omega
  have gc:(a.length:Int)+(b.length:Int)≤1000000:=by omega
  have gd:(0:Int)≤(a.length:Int)+(b.length:Int):=by omega
  refine aB (ir (p:=0) (k:=997) Hg (by kernel_rfl) aj) (by kernel_rfl) fn131 (by simp) ?_;unfold body131;simp(config := { maxSteps := 3000000 });refine ay (fun i:Nat=>i=0∨i=1∨i=2) (fun i=>⟨[(0,.pv (.ro [[.ro (aD a)],[.ro (aD b)]])),(2,.own 2),(3,.pv (.int .i64 (if i=0 then 0 else if i=1 then(a.length:Int) else(a.length:Int)+(b.length:Int)))),(9,.pv (.ro [[.ro (aD a)],[.ro (aD b)]])),(10,.pv (.int .i64 2)),(11,.pv (.int .i64 i))],[(2,.arr 94 [])]⟩) (fun i=>2-i) [] 0 (by simp) ?_ ?_;·simp
  ·rintro i (rfl|rfl|rfl);·simp(config := { maxSteps := 3000000 }) [r0,wa,ga,w1]
   ·simp(config := { maxSteps := 3000000 }) [r1,wab,gab,w2]
   ·simp(config := { maxSteps := 3000000 }) [gc,gd];refine ay (fun i:Nat=>i=0∨i=1∨i=2) (fun i=>⟨[(0,.pv (.ro [[.ro (aD a)],[.ro (aD b)]])),(2,.own 2),(6,.own 24),(25,.pv (.ro [[.ro (aD a)],[.ro (aD b)]])),(26,.pv (.int .i64 2)),(27,.pv (.int .i64 i))],[(2,.arr 94 []),(24,.arr 94 (if i=0 then[] else if i=1 then aD a else aD (a++b)))]⟩) (fun i=>2-i) [] 0 (by simp) ?_ ?_;·simp
    ·rintro i (rfl|rfl|rfl);·simp(config := { maxSteps := 3000000 }) [r0,w1,aQ];exact⟨by omega,by omega,h3a⟩
     ·simp(config := { maxSteps := 3000000 }) [r1,w2,aQ];exact⟨⟨by omega,by omega,h3b⟩,(cD a b).symm⟩
     ·simp(config := { maxSteps := 3000000 })
 ·cases h
@[simp] noncomputable def Gp:List AV→Option (Prop×AV)|[.agg [.pv (.ro a)],.pv (.int .u64 n)]=>(dec rowP a).map fun l=>(l.length≤100000,.aK [.agg [.fr 94 (aD (nu l n).1)],.pv (.int .i64 (nu l n).2)])|_=>none
theorem kz (l:List Pn) (i j:Int):cut (aD l) i j=aD ((l.take j.toNat).drop i.toNat):=by unfold cut aD;rw[List.map_drop,List.map_take]
theorem JY:bn Tryz.prog 118 Gp:=by
 intro ys φ r h hφ;unfold Gp at h;split at h
 ·rename_i ra n;obtain⟨a,ha,h⟩:=Option.map_eq_some_iff.1 h;cases h;cases aL ha;have hl9:a.length≤1000000000:=by omega
  have hinf:(Tryz.prog.info? 94).isSome=true:=by kernel_rfl
  have h3:=c9 a;have his:K3 130 n=fun e=>decide (e.i=n):=by rfl
  refine aB (ai XO (ai Qt aj)) (by kernel_rfl) fn118 (by simp) ?_;unfold body118;unfold nu;by_cases hh:fM a n=true
  ·obtain⟨k,hk,hkl,hke⟩:=uK n a hh;have hn0:¬((k:Int)<0):=by omega
   have w1:IntKind.i64.wrap ((k:Int)+1)=(k:Int)+1:=wrap_i64 (by omega);have c1:cut (aD a) 0 (k:Int)=aD (a.take k):=by rw[kz];simp
   have c2:cut (aD a) ((k:Int)+1) (a.length:Int)=aD (a.drop (k+1)):=by rw[kz,show((k:Int)+1).toNat=k+1 from by omega];simp
   have hl1:(a.take k).length≤100000:=by rw[List.length_take];omega
   have hl2:(a.drop (k+1)).length≤100000:=by rw[List.length_drop];omega
   have hf:∀l,bq (aD l):=aE;simp(config := { maxSteps := 3000000 }) [hh,hl9,his,hk,hn0,w1,c1,c2,hl1,hl2,hke,hf,hinf];exact⟨⟨by omega,h3⟩,⟨by omega,by omega,h3⟩,by omega,by omega⟩
  ·have hh':fM a n=false:=by simpa using hh
   have hk:lD (fun e=>decide (e.i=n)) a=-1:=by apply iC;intro e he;unfold fM at hh';rw[List.any_eq_false]at hh';simpa using hh' e he
   simp(config := { maxSteps := 3000000 }) [hh,hl9,his,hk,hinf]
 ·cases h
@[simp] noncomputable def Fj:List AV→Option (Prop×AV)|[.pv (.ro a),.pv (.int .u64 n)]=>(dec rowP a).map fun l=>(l.length≤100000,.aK [.fr 123 (aD (nu l n).1),.pv (.int .i64 (nu l n).2)])|_=>none
theorem HM:bn Tryz.prog 74 Fj:=by
 intro ys φ r h hφ;unfold Fj at h;split at h
 ·rename_i ra n;obtain⟨a,ha,h⟩:=Option.map_eq_some_iff.1 h;cases h;cases aL ha;refine aB aj (by kernel_rfl) fn74 (by simp) ?_;unfold body74;simp(config := { maxSteps := 3000000 });refine ay (fun i:Nat=>i≤a.length) (fun i=>⟨[(0,.pv (.ro (aD a))),(1,.pv (.int .u64 n)),(4,.own 4),(6,.own 6),(7,.pv (.bool (fM (a.take i) n))),(8,.pv (.int .i64 i))],[(4,.arr 123 []),(6,.arr 123 (aD (jy n (a.take i))))]⟩) (fun i=>a.length-i) [] 0 (by simp) ?_ ?_;·simp[jy,fM]
  ·intro i hi;have w2:IntKind.i64.wrap ((i:Int)+1)=(i:Int)+1:=wrap_i64 (by omega);by_cases hlt:i<a.length
   ·have r1:=cC hlt;have hs:=sQ n a[i] (a.take i);have ht:=Ai (a.take i) a[i] n;rw[←List.take_succ_eq_append_getElem hlt]at hs ht;have hll:=qn n (a.take i);rw[List.length_take]at hll;have hap:∀m:List Pn,aD m++[[PV.int .u64 a[i].i,.int .u64 a[i].v,.int .u64 a[i].u]]=aD (m++[a[i]]):=fun m=>by rw[cD];rfl
    cases hg:fM (a.take i) n with|true=>
     rw[hg]at hs ht;rw[if_pos rfl]at hs;by_cases he:a[i].i=n;·simp(config := { maxSteps := 3000000 }) [w2,hlt,r1,he,aQ];exact⟨⟨by omega,by omega⟩,i+1,by omega,⟨⟨by simp[ht],by omega⟩,by rw[hs,cD];simp[aD,rowP,he]⟩,by omega⟩
     ·simp(config := { maxSteps := 3000000 }) [w2,hlt,r1,he,aQ];exact⟨⟨by omega,by omega⟩,i+1,by omega,⟨⟨by simp[ht],by omega⟩,by rw[hs,cD];rfl⟩,by omega⟩|false=>
     rw[hg]at hs ht;rw[if_neg (by simp)]at hs;have hrn:=s8 hg;by_cases he:a[i].i=n;·rw[if_pos he]at hs;simp(config := { maxSteps := 3000000 }) [w2,hlt,r1,he];exact⟨i+1,by omega,⟨⟨by simp[ht,he],by omega⟩,by rw[hs,hrn]⟩,by omega⟩
     ·rw[if_neg he]at hs;simp(config := { maxSteps := 3000000 }) [w2,hlt,r1,he,aQ];exact⟨⟨by omega,by omega⟩,i+1,by omega,⟨⟨by simp[ht,he],by omega⟩,by rw[hs,hrn,List.take_succ_eq_append_getElem hlt,cD];rfl⟩,by omega⟩
   ·have hia:i=a.length:=by omega
    subst hia;have hinf:(Tryz.prog.info? 123).isSome=true:=by kernel_rfl
    unfold nu;by_cases hh:fM a n=true;·simp(config := { maxSteps := 3000000 }) [hh]
    ·have hh':fM a n=false:=by simpa using hh
     simp(config := { maxSteps := 3000000 }) [hh',hinf]
 ·cases h
def CT (l:List Pn) (n:Int):Bool:=l.any fun e=>decide (e.v=n)
@[simp] noncomputable def YB:List AV→Option (Prop×AV)|[.agg [.pv (.ro a)],.pv (.int .u64 n)]=>(dec rowP a).map fun l=>(l.length≤1000000000,.pv (.bool (CT l n)))|_=>none
@[simp] noncomputable def QW:List AV→Option (Prop×AV)|[.pv (.ro a),.pv (.int .u64 n)]=>(dec rowP a).map fun l=>(l.length≤1000000000,.pv (.bool (CT l n)))|_=>none
theorem RJ:bn Tryz.prog 111 QW:=by
 intro ys φ r h hφ;unfold QW at h;split at h
 ·rename_i ra n;obtain⟨a,ha,h⟩:=Option.map_eq_some_iff.1 h;cases h;cases aL ha;refine aB aj (by kernel_rfl) fn111 (by simp) ?_;unfold body111;simp(config := { maxSteps := 3000000 });refine ay (fun i:Nat=>i≤a.length∧CT (a.take i) n=false) (fun i=>⟨[(0,.pv (.ro (aD a))),(1,.pv (.int .u64 n)),(4,.pv (.bool false)),(5,.pv (.int .i64 i))],[]⟩) (fun i=>a.length-i) [] 0 (by simp[CT]) ?_ ?_;·simp
  ·rintro i ⟨hi,ht⟩;have w2:IntKind.i64.wrap ((i:Int)+1)=(i:Int)+1:=wrap_i64 (by omega);by_cases hlt:i<a.length
   ·have r1:=cC hlt;by_cases he:a[i].v=n
    ·have hv:CT a n=true:=by unfold CT;rw[List.any_eq_true];exact⟨a[i],List.getElem_mem hlt,by simpa using he⟩
     simp(config := { maxSteps := 3000000 }) [w2,hlt,r1,he,hv]
    ·simp(config := { maxSteps := 3000000 }) [w2,hlt,r1,he];refine⟨i+1,⟨by omega,?_⟩,by omega,by omega⟩;rw[List.take_succ_eq_append_getElem hlt];unfold CT at ht ⊢;rw[List.any_append,ht];simp[he]
   ·rw[List.take_of_length_le (by omega)]at ht;simp(config := { maxSteps := 3000000 }) [hlt,ht]
 ·cases h
end Go.Proofs.YtlmkcmfmfahcfaaGreat.Ab
namespace Go.Proofs.YtlmkcmfmfahcfaaGreat.Ab
open Go Go.RowKit
section
variable{P:Program}{Γ:bI}
theorem aw {α:Type}{o:Option α}{K K':α→Prop} (h:∀x,K x→K' x) (hs:ah o K):ah o K':=by cases o with|none=>exact hs|some x=>exact h x hs
theorem mz {d:Option Nat}{f:FuncId}{xs:List AV}{aa:Nat→Option AO}{C C':bz→Prop} (h:∀e,C e→C' e) (hs:cf P Γ d f xs aa C):cf P Γ d f xs aa C':=by unfold cf at hs ⊢;refine aw (fun d hs=>⟨hs.1,aw (fun ys hs=>aw (fun x hs=>?_) hs) hs.2⟩) hs;exact⟨hs.1,hs.2.1,hs.2.2.1,hs.2.2.2.1,h _ hs.2.2.2.2⟩
theorem kh {i:AI}{K K':St→Prop} (h:∀st,K st→K' st) {st:St} (hs:cw P Γ i K st):cw P Γ i K' st:=by obtain⟨e,he,hk⟩:=b9.1 hs;exact b9.2 ⟨e,he,h _ hk⟩
theorem qe {i:AI}{f:FuncId}{K K':St→Prop} (h:∀st,K st→K' st) {st:St} (hs:kc P Γ i f K st):kc P Γ i f K' st:=by
 unfold kc at hs ⊢;refine aw (fun ys hs=>aw (fun x hs=>?_) hs) hs;split at hs;·rename_i hc;rw[if_pos hc];exact mz (fun e he=>h _ he) hs
 ·rename_i hc;rw[if_neg hc];exact kh h hs
theorem lB {b f:Bool}{A B A' B':Prop} (hA:A→A') (hB:B→B') (h:fL b f A B):fL b f A' B':=by cases b with|false=>exact hA h|true=>cases f with|false=>exact hA h|true=>exact hB h
theorem rh {i:AI}{K K':St→Prop} (h:∀st,K st→K' st) {st:St} (hs:bV P Γ i K st):bV P Γ i K' st:=by
 unfold bV at hs ⊢;split at hs;·exact kh h hs
 ·exact lB (kh h) (h _) hs
theorem og {i:AI}{K K':St→Prop} (h:∀st,K st→K' st) {st:St} (hs:ia P Γ i K st):ia P Γ i K' st:=by
 have hE:∀{st:St}{d:Option Nat}{x:XK}{xs:List AV},aT d x xs K st→aT d x xs K' st:=by
  intro st d x xs hs;unfold aT at hs ⊢;split at hs;·exact aw (fun d hs=>⟨hs.1,h _ hs.2⟩) hs
  ·exact⟨hs.1,aw (fun es hs=>⟨hs.1,hs.2.1,hs.2.2.1,h _ hs.2.2.2⟩) hs.2⟩
  ·exact⟨hs.1,aw (fun es hs=>⟨hs.1,hs.2.1,h _ hs.2.2⟩) hs.2⟩
  ·unfold nU at hs ⊢;split at hs;·exact⟨hs.1,hs.2.1,h _ hs.2.2⟩
   ·exact hs
  ·exact⟨hs.1,aw (fun rows hs b hb=>h _ (hs b hb)) hs.2⟩
  ·exact⟨hs.1,h _ hs.2⟩
  ·unfold jJ at hs ⊢;split at hs;·exact aw (fun d hs=>⟨hs.1,hs.2.1,hs.2.2.1,h _ hs.2.2.2⟩) hs
   ·exact hs
  ·exact aw (fun d hs=>⟨hs.1,hs.2.1,hs.2.2.1,h _ hs.2.2.2⟩) hs
  ·unfold uS at hs ⊢;split at hs;·exact aw (fun d hs=>⟨hs.1,hs.2.1,hs.2.2.1,h _ hs.2.2.2⟩) hs
   ·exact hs
  ·exact⟨hs.1,hs.2.1,hs.2.2.1,hs.2.2.2.1,h _ hs.2.2.2.2⟩
  ·exact⟨hs.1,aw (fun r hs=>⟨hs.1,h _ hs.2⟩) hs.2⟩
  ·unfold rB at hs ⊢;split at hs
   ·unfold sL at hs ⊢;split at hs;·exact⟨hs.1,aw (fun r hs=>⟨hs.1,hs.2.1,h _ hs.2.2⟩) hs.2⟩
    ·exact hs
   ·unfold qN at hs ⊢;split at hs;·exact⟨hs.1,aw (fun r hs=>aw (fun j hs=>aw (fun s hs=>aw (fun ps hs=>h _ hs) hs) hs) hs) hs.2⟩
    ·exact hs
   ·exact aw (fun d hs=>⟨hs.1,h _ hs.2⟩) hs
   ·unfold nT at hs ⊢;split at hs;·exact⟨hs.1,aw (fun r hs=>⟨hs.1,hs.2.1,h _ hs.2.2⟩) hs.2⟩
    ·exact hs
   ·unfold sx at hs ⊢;split at hs;·exact⟨hs.1,aw (fun r hs=>⟨hs.1,hs.2.1,hs.2.2.1,h _ hs.2.2.2⟩) hs.2⟩
    ·exact hs
   ·unfold sD at hs ⊢;split at hs;·exact⟨hs.1,aw (fun r hs=>⟨hs.1,hs.2.1,h _ hs.2.2⟩) hs.2⟩
    ·exact hs
   ·exact⟨hs.1,aw (fun r hs=>h _ hs) hs.2⟩
   ·unfold sO at hs ⊢;split at hs;·exact aw (fun d hs=>⟨hs.1,hs.2.1,h _ hs.2.2⟩) hs
    ·exact hs
   ·unfold sg at hs ⊢;split at hs;·exact⟨hs.1,aw (fun r hs=>⟨fun e=>h _ (hs.1 e),fun e l m q=>h _ (hs.2 e l m q)⟩) hs.2⟩
    ·exact hs
   ·unfold tu at hs ⊢;split at hs;·exact⟨hs.1,aw (fun r hs=>aw (fun e hs=>h _ hs) hs) hs.2⟩
    ·exact hs
   ·exact hs
 unfold ia at hs ⊢;split at hs;·exact hE hs
 ·unfold xo at hs ⊢;refine aw (fun c hs=>?_) hs;split at hs;·rename_i h1;rw[if_pos h1];exact hE hs
  ·rename_i h1;rw[if_neg h1];exact h _ hs
 ·exact rh h hs
 ·rename_i e sz zs e1 e2;unfold mw at hs ⊢;exact⟨hs.1,aw (fun X hs=>aw (fun r hs=>h _ hs) hs) hs.2⟩
 ·unfold yH jT at hs ⊢;split at hs
  ·split at hs
   ·rename_i h0;rw[if_pos h0];refine aw (fun c hs=>?_) hs;split at hs;·rename_i h2;rw[if_pos h2];exact eV h hs
    ·rename_i h2;rw[if_neg h2];exact h _ hs
   ·exact hs.elim
  refine lB (fun hs=>?_) (h _) hs;refine aw (fun c hs=>aw (fun ys hs=>aw (fun x hs=>?_) hs) hs) hs;split at hs
  ·rename_i h1;rw[if_pos h1];split at hs;·rename_i h2;rw[if_pos h2];exact qe h hs
   ·rename_i h2;rw[if_neg h2];exact h _ hs
  ·rename_i h1;rw[if_neg h1];exact kh h hs
 ·unfold eO at hs ⊢;split at hs
  ·refine⟨hs.1,aw (fun x hs=>⟨hs.1,?_⟩) hs.2⟩;have hs:=hs.2;unfold dU at hs ⊢;split at hs
   ·split at hs;·rename_i h1;rw[if_pos h1];exact eV h hs
    ·exact hs.elim
   ·exact mz (fun e he=>h _ he) hs
  ·refine lB (fun hs=>?_) (h _) hs;unfold nn at hs ⊢;refine aw (fun c hs=>aw (fun x hs=>⟨hs.1,?_⟩) hs) hs;have hs:=hs.2;unfold fQ at hs ⊢;split at hs
   ·split at hs
    ·rename_i h1;rw[if_pos h1];split at hs;·rename_i h2;rw[if_pos h2];exact⟨hs.1,eV h hs.2⟩
     ·rename_i h2;rw[if_neg h2];exact h _ hs
    ·exact hs.elim
   unfold wv at hs ⊢;exact aw (fun ys hs=>aw (fun x hs=>⟨hs.1,hs.2.1,hs.2.2.1,hs.2.2.2.1,hs.2.2.2.2.1,h _ hs.2.2.2.2.2⟩) hs) hs
 ·unfold fC at hs ⊢;split at hs
  ·split at hs;·rename_i h1;rw[if_pos h1];unfold vj at hs ⊢;exact aw (fun d hs=>⟨hs.1,aw (fun ys hs=>aw (fun x hs=>⟨hs.1,hs.2.1,hs.2.2.1,hs.2.2.2.1,h _ hs.2.2.2.2⟩) hs) hs.2⟩) hs
   ·rename_i h1;rw[if_neg h1];split at hs;·rename_i h2;rw[if_pos h2];exact eV h hs
    rename_i h2;rw[if_neg h2];unfold jn at hs ⊢;refine aw (fun d hs=>⟨hs.1,aw (fun X hs=>aw (fun T hs=>⟨hs.1,aw (fun ys hs=>aw (fun x hs=>?_) hs) hs.2⟩) hs) hs.2⟩) hs;exact⟨hs.1,hs.2.1,hs.2.2.1,hs.2.2.2.1,h _ hs.2.2.2.2⟩
  ·exact qe h hs
 ·exact kh h hs
 ·exact rh h hs
theorem qm {i:AI}{K K':St→Prop} (h:∀st,K st→K' st) {st:St} (hs:bN P Γ i K st):bN P Γ i K' st:=by
 unfold bN at hs ⊢;split at hs
 ·split at hs;·rename_i h1;rw[if_pos h1];exact⟨hs.1,aw (fun r hs=>⟨hs.1,hs.2.1,h _ hs.2.2⟩) hs.2⟩
  ·rename_i h1;rw[if_neg h1];exact og h hs
 ·exact og h hs
theorem ke {K K':St→Prop} (h:∀st,K st→K' st):∀{is:List AI}{st:St},ct P Γ is K st→ct P Γ is K' st|[],st,hs=>h st hs|i::is,st,hs=>qm (fun st hs=>ke h hs) hs
theorem wg {K K':St→Prop} (h:∀st,K st→K' st):∀{is:List AI}{st:St},steps P Γ is K st→steps P Γ is K' st|[],st,hs=>h st hs|i::is,st,hs=>gv (fun st hs=>wg h hs) hs
theorem ec:∀{a:AC}{K K':St→Prop}{J J':Exit→St→Prop}{st:St},(∀st,K st→K' st)→(∀e st,J e st→J' e st)→fT P Γ a K J st→fT P Γ a K' J' st
 |.skip,_,_,_,_,st,h,_,hs=>h st hs|.ag is d bS,_,_,_,_,st,h,_,hs=>by
  unfold fT at hs ⊢;split at hs;·rename_i hd;rw[if_pos hd];exact wg (fun st hs=>h _ hs) hs
  ·rename_i hd;rw[if_neg hd];exact ke (fun st hs=>h _ hs) hs|.seq a b,_,_,_,_,st,h,hj,hs=>ec (a:=a) (fun st hs=>ec (a:=b) h hj hs) hj hs|.cond x a b,_,_,_,_,st,h,hj,hs=>aw (fun c hs=>⟨fun e=>ec (a:=a) h hj (hs.1 e),fun e=>ec (a:=b) h hj (hs.2 e)⟩) (show ah _ _ from hs)|.block id a,K,K',J,J',st,h,hj,hs=>ec (a:=a) h (fun e st hs=>by cases e with
   |exit id'=>
    simp only[mD]at hs ⊢;split at hs;·rename_i h1;rw[if_pos h1];exact h _ hs
    ·rename_i h1;rw[if_neg h1];exact hj _ _ hs|_=>exact hj _ _ hs) (show fT P Γ a K (mD id K J) st from hs)|.loop a,_,_,_,_,st,h,hj,hs=>by obtain⟨ι,F,μ,ad,shs,i0,hw,hr⟩:=hs;exact⟨ι,F,μ,ad,shs,i0,hw,fun i=>ec (a:=a) (fun st hs=>hs) hj (hr i)⟩|.exit id,_,_,_,_,st,_,hj,hs=>hj _ _ hs|.ret,_,_,_,_,st,_,hj,hs=>hj _ _ hs
theorem af {a b:AC}{K:St→Prop}{J:Exit→St→Prop}{st:St} (vs:List (Nat×AV)) (os:List (Nat×AO)) (h1:fT P Γ a (fun st'=>st'=⟨look vs,ab os⟩) J st) (h2:fT P Γ b K J ⟨look vs,ab os⟩):fT P Γ (.seq a b) K J st:=ec (a:=a) (fun st' (hs:st'=_)=>by rw[hs];exact h2) (fun _ _ h=>h) h1
theorem ie {x:Operand}{a b:AC}{K:St→Prop}{J:Exit→St→Prop}{vs:List (Nat×AV)}{os:List (Nat×AO)} (h:gK (ev (look vs) x)=some true) (h1:fT P Γ a K J ⟨look vs,ab os⟩):fT P Γ (.cond x a b) K J ⟨look vs,ab os⟩:=by rw[R.uN,h];exact⟨fun _=>h1,fun e=>Bool.noConfusion e⟩
theorem tR {x:Operand}{a b:AC}{K:St→Prop}{J:Exit→St→Prop}{vs:List (Nat×AV)}{os:List (Nat×AO)} (h:gK (ev (look vs) x)=some false) (h1:fT P Γ b K J ⟨look vs,ab os⟩):fT P Γ (.cond x a b) K J ⟨look vs,ab os⟩:=by rw[R.uN,h];exact⟨fun e=>Bool.noConfusion e,fun _=>h1⟩
theorem qz {a:AC}{K:St→Prop}{J:Exit→St→Prop}{st:St} (vs:List (Nat×AV)) (os:List (Nat×AO)) (h1:fT P Γ a (fun st'=>st'=⟨look vs,ab os⟩) J st) (h2:K ⟨look vs,ab os⟩):fT P Γ a K J st:=ec (a:=a) (fun st' (hs:st'=_)=>by rw[hs];exact h2) (fun _ _ h=>h) h1
theorem mA {a b:AC}{K:St→Prop}{J:Exit→St→Prop}{st:St} (Q:St→Prop) (h1:fT P Γ a Q J st) (h2:∀st',Q st'→fT P Γ b K J st'):fT P Γ (.seq a b) K J st:=ec (a:=a) (fun st' hs=>h2 st' hs) (fun _ _ h=>h) h1
theorem xy {is js:List AI}{K:St→Prop}{st:St} (vs:List (Nat×AV)) (os:List (Nat×AO)) (h1:ct P Γ is (fun st'=>st'=⟨look vs,ab os⟩) st) (h2:ct P Γ js K ⟨look vs,ab os⟩):ct P Γ (is++js) K st:=by
 have key:∀(is:List AI) (st:St),ct P Γ is (fun st'=>ct P Γ js K st') st→ct P Γ (is++js) K st:=by intro is;induction is with|nil=>exact fun st h=>h|cons i is ih=>exact fun st h=>qm (fun st hs=>ih st hs) h
 exact key is st (ke (fun st' (hs:st'=_)=>by rw[hs];exact h2) h1)
theorem AA (k:Nat) {is:List AI}{K:St→Prop}{st:St} (vs:List (Nat×AV)) (os:List (Nat×AO)) (h1:ct P Γ (is.take k) (fun st'=>st'=⟨look vs,ab os⟩) st) (h2:ct P Γ (is.drop k) K ⟨look vs,ab os⟩):ct P Γ is K st:=by have:=xy vs os h1 h2;rwa[List.take_append_drop]at this
theorem fa (k:Nat) {is l1 l2:List AI}{K:St→Prop}{st:St}{vs:List (Nat×AV)}{os:List (Nat×AO)} (e1:is.take k=l1) (e2:is.drop k=l2) (h1:ct P Γ l1 (fun st'=>st'=⟨look vs,ab os⟩) st) (h2:ct P Γ l2 K ⟨look vs,ab os⟩):ct P Γ is K st:=by subst e1 e2;exact AA k vs os h1 h2
end
end Go.Proofs.YtlmkcmfmfahcfaaGreat.Ab
namespace Go.Proofs.YtlmkcmfmfahcfaaGreat.Ab
open Go Go.RowKit R
structure Vn where
 n:Int
 b:Int
 p:Int
 i:Int
 s:Int
 z:Int
 m:Int
 t:List UInt8
 inl:Bool
 dT:Bool deriving DecidableEq
def v0:Vn:=⟨0,0,0,0,0,0,0,[],false,false⟩
def cF (v:Vn):List PV:=[.int .u64 v.n,.int .u64 v.b,.int .u64 v.p,.int .u64 v.i,.int .u64 v.s,.int .u64 v.z,.int .u64 v.m,.str v.t,.bool v.inl,.bool v.dT]
def bD (v:Vn):List AV:=[.pv (.int .u64 v.n),.pv (.int .u64 v.b),.pv (.int .u64 v.p),.pv (.int .u64 v.i),.pv (.int .u64 v.s),.pv (.int .u64 v.z),.pv (.int .u64 v.m),.pv (.str v.t),.pv (.bool v.inl),.pv (.bool v.dT)]
theorem qX:∀a b,cF a=cF b→a=b:=by intro a b h;cases a;cases b;simpa[cF]using h
def aC (l:List Vn):List (List PV):=l.map cF
@[simp] theorem M4:aC []=[]:=rfl
@[simp] theorem E7 (l:List Vn):(aC l).length=l.length:=by simp[aC]
theorem cr (l m:List Vn):aC (l++m)=aC l++aC m:=by simp[aC]
theorem fV (l:List Vn):∀r∈aC l,r.length=10:=by intro r hr;simp only[aC,List.mem_map]at hr;obtain⟨c,_,rfl⟩:=hr;rfl
theorem bh {l:List Vn}{i:Nat} (h:i<l.length):rowAt (aC l) (i:Int)=[.int .u64 l[i].n,.int .u64 l[i].b,.int .u64 l[i].p,.int .u64 l[i].i,.int .u64 l[i].s,.int .u64 l[i].z,.int .u64 l[i].m,.str l[i].t,.bool l[i].inl,.bool l[i].dT]:=by simp[rowAt,aC,h,cF]
theorem AP (l:List Vn) (i:Nat):cut (aC l) 0 (i:Int)=aC (l.take i):=by simp[cut,aC]
@[simp] theorem AJ (l:List Vn):dec cF (aC l)=some l:=pb qX l
theorem aI {rows:List (List PV)}{l:List Vn} (h:dec cF rows=some l):rows=aC l:=oW h
theorem ax (l:List Vn):bq (aC l):=by intro r hr p hp;simp only[aC,List.mem_map]at hr;obtain⟨c,_,rfl⟩:=hr;simp only[cF,List.mem_cons,List.not_mem_nil,or_false]at hp;rcases hp with rfl|rfl|rfl|rfl|rfl|rfl|rfl|rfl|rfl|rfl<;>rfl
def bH (v:Vn):Int:=if v.inl=true then 0 else v.b
@[simp] def yW:List AV→Option (Prop×AV)|[.agg [.pv (.int .u64 _),.pv (.int .u64 b),.pv (.int .u64 _),.pv (.int .u64 _),.pv (.int .u64 _),.pv (.int .u64 _),.pv (.int .u64 _),.pv (.str _),.pv (.bool inl),.pv (.bool _)]]=>some (True,.pv (.int .u64 (if inl=true then 0 else b)))|_=>none
theorem xS:bn Tryz.prog 122 yW:=by
 intro ys φ r h hφ;unfold yW at h;split at h;·rename_i n b p i s z m t inl dT;cases h;refine aB aj (by kernel_rfl) fn122 (by simp) ?_;unfold body122;cases inl<;>simp(config := { maxSteps := 3000000 })
 ·cases h
def mR (l:List Vn) (n:Int):Int:=if l.findIdx (fun v=>decide (v.n=n))<l.length then(l.findIdx (fun v=>decide (v.n=n)):Int) else-1
theorem tT {l:List Vn}{n:Int}{i:Nat} (h:i<l.length) (hq:l[i].n=n) (ht:∀v∈l.take i,¬v.n=n):mR l n=i:=by
 have hf:l.findIdx (fun v=>decide (v.n=n))=i:=by
  rw[List.findIdx_eq h];refine⟨by simpa using hq,fun j hj=>?_⟩;have:l[j]∈l.take i:=by rw[List.mem_take_iff_getElem];exact⟨j,by omega,rfl⟩
  simpa using ht _ this
 unfold mR;rw[hf,if_pos h]
theorem qf {l:List Vn}{n:Int} (ht:∀v∈l,¬v.n=n):mR l n=-1:=by
 have hf:l.findIdx (fun v=>decide (v.n=n))=l.length:=by rw[List.findIdx_eq_length];intro v hv;simpa using ht v hv
 unfold mR;rw[hf,if_neg (by omega)]
theorem ky (l:List Vn) (n:Int):(∃i,∃h:i<l.length,mR l n=i∧l[i].n=n∧∀v∈l.take i,¬v.n=n)∨(mR l n=-1∧∀v∈l,¬v.n=n):=by
 by_cases h:∃v∈l,v.n=n
 ·left;have hlt:l.findIdx (fun v=>decide (v.n=n))<l.length:=by rw[List.findIdx_lt_length];obtain⟨v,hv,hn⟩:=h;exact⟨v,hv,by simpa using hn⟩
  have h1:l[l.findIdx (fun v=>decide (v.n=n))].n=n:=by have:=List.findIdx_getElem (w:=hlt);simpa using this
  have h2:∀v∈l.take (l.findIdx (fun v=>decide (v.n=n))),¬v.n=n:=by intro v hv;rw[List.mem_take_iff_getElem]at hv;obtain⟨j,hj,rfl⟩:=hv;have:=List.not_of_lt_findIdx (show j<l.findIdx (fun v=>decide (v.n=n)) by omega);simpa using this
  exact⟨_,hlt,tT hlt h1 h2,h1,h2⟩
 ·right;have h':∀v∈l,¬v.n=n:=fun v hv hn=>h ⟨v,hv,hn⟩;exact⟨qf h',h'⟩
@[simp] def OQ:List AV→Option (Prop×AV)|[.agg [.pv (.int .u64 a),.pv (.int .u64 _),.pv (.int .u64 _),.pv (.int .u64 _),.pv (.int .u64 _),.pv (.int .u64 _),.pv (.int .u64 _),.pv (.str _),.pv (.bool _),.pv (.bool _)],.rp [.int .u64 n]]=>some (True,.pv (.bool (decide (a=n))))|_=>none
theorem SD:bn Tryz.prog 142 OQ:=by
 intro ys φ r h hφ;unfold OQ at h;split at h;·cases h;refine aB aj (by kernel_rfl) fn142 (by simp) ?_;unfold body142;simp(config := { maxSteps := 3000000 })
 ·cases h
theorem EA:gI Tryz.prog 142=true:=by kernel_rfl
@[simp] noncomputable def S4:List AV→Option (Prop×AV)|[.pv (.ro a),.bB f [.rp [.int .u64 n]]]=>if f=142 then(dec cF a).map fun l=>(l.length≤1000000000,.pv (.int .i64 (mR l n))) else none|_=>none
theorem PS:bn Tryz.prog 124 S4:=by
 intro ys φ r h hφ;unfold S4 at h;split at h
 ·rename_i ra f n;split at h
  ·rename_i hf;subst hf;obtain⟨a,ha,h⟩:=Option.map_eq_some_iff.1 h;cases h;cases aI ha;refine aB (ai SD aj) (by kernel_rfl) fn124 (by simp) ?_;unfold body124;simp(config := { maxSteps := 3000000 });refine ay (fun i:Nat=>i≤a.length∧∀v∈a.take i,¬v.n=n) (fun i=>⟨[(0,.pv (.ro (aC a))),(1,.bB 142 [.rp [.int .u64 n]]),(7,.pv (.int .i64 a.length)),(8,.pv (.int .i64 i))],[]⟩) (fun i=>a.length-i) [] 0 (by simp) ?_ ?_;·simp
   ·rintro i ⟨hi,ht⟩;have w2:IntKind.i64.wrap ((i:Int)+1)=(i:Int)+1:=wrap_i64 (by omega);by_cases hlt:i<a.length
    ·have r1:=bh hlt;have hr:¬a[i].n=n→∀v∈a.take (i+1),¬v.n=n:=by
      intro h0 e he;rw[List.take_succ_eq_append_getElem hlt,List.mem_append]at he;rcases he with he|he;·exact ht e he
      ·rw[List.mem_singleton]at he;rw[he];exact h0
     simp(config := { maxSteps := 3000000 }) [w2,hlt,r1,EA];refine⟨fun h=>(tT hlt h ht).symm,fun h=>⟨i+1,⟨by omega,hr h⟩,by omega,by omega⟩⟩
    ·simp(config := { maxSteps := 3000000 }) [hlt];rw[List.take_of_length_le (by omega)]at ht;exact(qf ht).symm
  ·cases h
 ·cases h
@[simp] noncomputable def Yb:List AV→Option (Prop×AV)|[.pv (.ro a),.pv (.int .u64 n)]=>(dec cF a).map fun l=>(l.length≤1000000000,.pv (.int .i64 (mR l n)))|_=>none
theorem Iu:bn Tryz.prog 123 Yb:=by
 intro ys φ r h hφ;unfold Yb at h;split at h;·rename_i ra n;obtain⟨a,ha,h⟩:=Option.map_eq_some_iff.1 h;cases h;cases aI ha;refine aB (ai PS aj) (by kernel_rfl) fn123 (by simp) ?_;unfold body123;simp(config := { maxSteps := 3000000 }) [hφ]
 ·cases h
def eR (l:List Vn) (i:Nat):Int:=match i with|0=>0|i+1=>((l[i]?).getD v0).n
def gO (l:List Vn) (i:Nat):Bool:=decide (eR l i<((l[i]?).getD v0).n)&&(decide (bH ((l[i]?).getD v0)=0)||decide (0≤mR (l.take i) (bH ((l[i]?).getD v0))))
def bE (l:List Vn):Bool:=(List.range l.length).all (gO l)
theorem gl (l:List Vn):bE l=true↔∀i,i<l.length→gO l i=true:=by unfold bE;rw[List.all_eq_true];exact⟨fun h i hi=>h i (List.mem_range.2 hi),fun h i hi=>h i (List.mem_range.1 hi)⟩
theorem pY {l:List Vn}{i:Nat} (hi:i<l.length) (h:gO l i=false):bE l=false:=by cases hr:bE l with|false=>rfl|true=>rw[(gl l).1 hr i hi]at h;cases h
@[simp] noncomputable def X0:List AV→Option (Prop×AV)|[.pv (.ro a)]=>(dec cF a).map fun l=>(l.length≤1000000000,.pv (.bool (bE l)))|_=>none
theorem HD:bn Tryz.prog 92 X0:=by
 intro ys φ r h hφ;unfold X0 at h;split at h
 ·rename_i ra;obtain⟨a,ha,h⟩:=Option.map_eq_some_iff.1 h;cases h;cases aI ha;refine aB (ai xS (ai Iu aj)) (by kernel_rfl) fn92 (by simp) ?_;unfold body92;simp(config := { maxSteps := 3000000 });refine ay (fun i:Nat=>i≤a.length∧∀j,j<i→gO a j=true) (fun i=>⟨[(0,.pv (.ro (aC a))),(2,.pv (.bool false)),(3,.pv (.int .u64 (eR a i))),(6,.pv (.ro (aC a))),(7,.pv (.int .i64 a.length)),(8,.pv (.int .i64 i))],[]⟩) (fun i=>a.length-i) [] 0 (by simp) ?_ ?_;·simp[eR]
  ·rintro i ⟨hi,ht⟩;have w2:IntKind.i64.wrap ((i:Int)+1)=(i:Int)+1:=wrap_i64 (by omega);by_cases hlt:i<a.length
   ·have r1:=bh hlt;have hg:(a[i]?).getD v0=a[i]:=by rw[List.getElem?_eq_getElem hlt];rfl
    have hpn:eR a (i+1)=a[i].n:=by simp only[eR];rw[hg]
    have hok:gO a i=(decide (eR a i<a[i].n)&&(decide (bH a[i]=0)||decide (0≤mR (a.take i) (bH a[i])))):=by unfold gO;rw[hg]
    have hnext:gO a i=true→∀j,j<i+1→gO a j=true:=by
     intro h j hj;by_cases hji:j=i;·rw[hji];exact h
     ·exact ht j (by omega)
    have hbad:gO a i=false→bE a=false:=pY hlt;have hcut:=AP a i;have htl:(a.take i).length≤1000000000:=by rw[List.length_take];omega
    have hbv:(if a[i].inl=true then 0 else a[i].b)=bH a[i]:=rfl;have hmin:min i a.length≤1000000000:=by omega
    by_cases h1:a[i].n≤eR a i;·have hb:=hbad (by rw[hok,Bool.and_eq_false_iff];left;simp;omega);simp(config := { maxSteps := 3000000 }) [w2,hlt,r1,h1,hb,hbv,hcut,hmin]
    ·have h1':eR a i<a[i].n:=by omega
     by_cases h2:bH a[i]=0;·simp(config := { maxSteps := 3000000 }) [w2,hlt,r1,h1,h2,hbv,hcut,hmin];exact⟨i+1,⟨by omega,hnext (by rw[hok];simp[h1',h2])⟩,⟨hpn.symm,by omega⟩,by omega⟩
     ·simp(config := { maxSteps := 3000000 }) [w2,hlt,r1,h1,h2,hbv,hcut,hmin];refine⟨⟨hi,fV a⟩,fun h=>hbad (by rw[hok];simp[h1',h2];omega),fun h=>⟨i+1,⟨by omega,hnext (by rw[hok];simp[h1',h2,h])⟩,⟨hpn.symm,by omega⟩,by omega⟩⟩
   ·have:i=a.length:=by omega
    subst this;have hr:bE a=true:=(gl a).2 ht;simp(config := { maxSteps := 3000000 }) [hr]
 ·cases h
def aY (l:List Vn):List Vn:=l.filter fun v=>!v.dT
theorem nC (l:List Vn):(aY l).length≤l.length:=List.length_filter_le _ _
theorem wY {l:List Vn}{i:Nat} (h:i<l.length):aY (l.take (i+1))=if l[i].dT=true then aY (l.take i) else aY (l.take i)++[l[i]]:=by rw[List.take_succ_eq_append_getElem h];unfold aY;rw[List.filter_append];cases hh:l[i].dT<;>simp[hh]
@[simp] noncomputable def GM (e:TypeId):List AV→Option (Prop×AV)|[.pv (.ro a)]=>(dec cF a).map fun l=>(l.length≤1000000,.fr e (aC (aY l)))|_=>none
theorem tF:bn Tryz.prog 23 (GM 73):=by
 intro ys φ r h hφ;unfold GM at h;split at h
 ·rename_i ra;obtain⟨a,ha,h⟩:=Option.map_eq_some_iff.1 h;cases h;cases aI ha;refine aB aj (by kernel_rfl) fn23 (by simp) ?_;unfold body23;simp(config := { maxSteps := 3000000 });refine ay (fun i:Nat=>i≤a.length) (fun i=>⟨[(0,.pv (.ro (aC a))),(2,.own 2),(5,.pv (.ro (aC a))),(6,.pv (.int .i64 a.length)),(7,.pv (.int .i64 i))],[(2,.arr 73 (aC (aY (a.take i))))]⟩) (fun i=>a.length-i) [] 0 (by simp) ?_ ?_;·simp[aY]
  ·intro i hi;have w2:IntKind.i64.wrap ((i:Int)+1)=(i:Int)+1:=wrap_i64 (by omega);by_cases hlt:i<a.length
   ·have r1:=bh hlt;have hs:=wY hlt;have hl:=nC (a.take i);have hl1:(a.take i).length≤1000000:=by rw[List.length_take];omega
    cases hh:a[i].dT with|true=>rw[hh,if_pos rfl]at hs;simp(config := { maxSteps := 3000000 }) [w2,hlt,r1,hh];exact⟨i+1,by omega,⟨by omega,by rw[hs]⟩,by omega⟩|false=>rw[hh,if_neg (by simp)]at hs;simp(config := { maxSteps := 3000000 }) [w2,hlt,r1,hh,aQ];refine⟨⟨by omega,by omega⟩,i+1,by omega,⟨by omega,?_⟩,by omega⟩;rw[hs,cr];simp[aC,cF,hh]
   ·simp(config := { maxSteps := 3000000 }) [hlt];rw[List.take_of_length_le (by omega)]
 ·cases h
def fy (l:List Vn) (n:Int):Option Vn:=(aY l).find? fun v=>decide (v.n=n)
theorem DU {l:List Vn}{n:Int}{i:Nat} (h:i<(aY l).length) (hq:(aY l)[i].n=n) (ht:∀v∈(aY l).take i,¬v.n=n):fy l n=some (aY l)[i]:=by
 unfold fy;rw[List.find?_eq_some_iff_getElem];refine⟨by simpa using hq,i,h,rfl,fun j hj=>?_⟩;have:(aY l)[j]∈(aY l).take i:=by rw[List.mem_take_iff_getElem];exact⟨j,by omega,rfl⟩
 simpa using ht _ this
theorem sJ {l:List Vn}{n:Int} (ht:∀v∈aY l,¬v.n=n):fy l n=none:=by unfold fy;rw[List.find?_eq_none];intro v hv;simpa using ht v hv
@[simp] noncomputable def UR:List AV→Option (Prop×AV)|[.pv (.ro a),.pv (.int .u64 n)]=>(dec cF a).map fun l=>(l.length≤1000000,.aK [.agg (bD ((fy l n).getD v0)),.pv (.bool (fy l n).isSome)])|_=>none
theorem JO:bn Tryz.prog 102 UR:=by
 intro ys φ r h hφ;unfold UR at h;split at h
 ·rename_i ra n;obtain⟨a,ha,h⟩:=Option.map_eq_some_iff.1 h;cases h;cases aI ha;have hs9:(aY a).length≤1000000000:=by have:=nC a;omega
  have fl:∀l,bq (aC l):=ax;refine aB (ai tF (ai Iu aj)) (by kernel_rfl) fn102 (by simp) ?_;unfold body102;rcases ky (aY a) n with⟨i,hi,h1,h2,h3⟩|⟨h1,h2⟩;·have r1:=bh hi;have hg:=DU hi h2 h3;simp(config := { maxSteps := 3000000 }) [hφ,hs9,fl,h1,r1,hi,hg,bD]
  ·have hg:=sJ h2;simp(config := { maxSteps := 3000000 }) [hφ,hs9,fl,h1,hg,bD,v0]
 ·cases h
def lK (l:List Vn):Option Vn:=(aY l).getLast?
@[simp] noncomputable def VD:List AV→Option (Prop×AV)|[.pv (.ro a)]=>(dec cF a).map fun l=>(l.length≤1000000,.aK [.agg (bD ((lK l).getD v0)),.pv (.bool (lK l).isSome)])|_=>none
theorem Wz:bn Tryz.prog 135 VD:=by
 intro ys φ r h hφ;unfold VD at h;split at h
 ·rename_i ra;obtain⟨a,ha,h⟩:=Option.map_eq_some_iff.1 h;cases h;cases aI ha;have hsl:=nC a;have fl:∀l,bq (aC l):=ax;refine aB (ai tF aj) (by kernel_rfl) fn135 (by simp) ?_;unfold body135;by_cases hn:aY a=[]
  ·have hc:lK a=none:=by unfold lK;rw[hn];rfl
   simp(config := { maxSteps := 3000000 }) [hφ,fl,hn,hc,bD,v0]
  ·have hl:0<(aY a).length:=List.length_pos_iff.2 hn;have hlt:(aY a).length-1<(aY a).length:=by omega
   have r1:=bh hlt;have hcast:(((aY a).length-1:Nat):Int)=((aY a).length:Int)-1:=by omega
   rw[hcast]at r1;have hc:lK a=some (aY a)[(aY a).length-1]:=by unfold lK;rw[List.getLast?_eq_getElem?,List.getElem?_eq_getElem hlt]
   have w1:IntKind.i64.wrap (((aY a).length:Int)-1)=((aY a).length:Int)-1:=wrap_i64 (by omega);have hne:¬((aY a).length:Int)=0:=by omega
   have b1:(0:Int)≤((aY a).length:Int)-1:=by omega
   have b2:((aY a).length:Int)-1<(aY a).length:=by omega
   simp(config := { maxSteps := 3000000 }) [hφ,fl,hn,hc,w1,hne,b1,b2,r1,bD];omega
 ·cases h
theorem xG:bn Tryz.prog 105 yW:=by
 intro ys φ r h hφ;unfold yW at h;split at h;·rename_i n b p i s z m t inl dT;cases h;refine aB aj (by kernel_rfl) fn105 (by simp) ?_;unfold body105;cases inl<;>simp(config := { maxSteps := 3000000 })
 ·cases h
@[simp] noncomputable def Gn:List AV→Option (Prop×AV)|[.pv (.ro a),.pv (.int .i64 k),.pv (.int .u64 n)]=>(dec cF a).map fun l=>(l.length≤1000000000∧0≤k∧k≤l.length,.pv (.int .i64 (mR (l.take k.toNat) n)))|_=>none
theorem yc:bn Tryz.prog 109 Gn:=by
 intro ys φ r h hφ;unfold Gn at h;split at h
 ·rename_i ra k n;obtain⟨a,ha,h⟩:=Option.map_eq_some_iff.1 h;cases h;cases aI ha;obtain⟨hl,h0,hk⟩:=hφ;obtain⟨k,rfl⟩:∃q:Nat,k=(q:Int):=⟨k.toNat,by omega⟩;simp only[Int.toNat_natCast];have hk':k≤a.length:=by omega
  refine aB aj (by kernel_rfl) fn109 (by simp) ?_;unfold body109;simp(config := { maxSteps := 3000000 });refine ay (fun i:Nat=>i≤k∧∀v∈a.take i,¬v.n=n) (fun i=>⟨[(0,.pv (.ro (aC a))),(1,.pv (.int .i64 k)),(2,.pv (.int .u64 n)),(7,.pv (.int .i64 i))],[]⟩) (fun i=>k-i) [] 0 (by simp) ?_ ?_;·simp
  ·rintro i ⟨hi,ht⟩;have w2:IntKind.i64.wrap ((i:Int)+1)=(i:Int)+1:=wrap_i64 (by omega);by_cases hik:(i:Int)<k
   ·have hlt:i<a.length:=by omega
    have r1:=bh hlt;by_cases hn:a[i].n=n
    ·have hx:mR (a.take k) n=i:=by refine tT (by rw[List.length_take];omega) (by rw[List.getElem_take];exact hn) ?_;rw[List.take_take,Nat.min_eq_left (by omega)];exact ht
     simp(config := { maxSteps := 3000000 }) [w2,hik,hlt,r1,hn,hx]
    ·simp(config := { maxSteps := 3000000 }) [w2,hik,hlt,r1,hn];refine⟨i+1,⟨by omega,fun v hv=>?_⟩,by omega,by omega⟩;rw[List.take_succ_eq_append_getElem hlt,List.mem_append]at hv;rcases hv with hv|hv;·exact ht v hv
     ·rw[List.mem_singleton]at hv;rw[hv];exact hn
   ·have:i=k:=by omega
    subst this;have hx:mR (a.take i) n=-1:=qf ht;simp(config := { maxSteps := 3000000 }) [hx]
 ·cases h
def gZ (v:Vn):Prop:=0≤v.n∧v.n≤18446744073709551615∧0≤v.b∧v.b≤18446744073709551615
theorem m5 {v:Vn} (h:gZ v):0≤bH v:=by
 unfold bH;split;·omega
 ·exact h.2.2.1
@[simp] noncomputable def Oa:List AV→Option (Prop×AV)|[.pv (.ro a)]=>(dec cF a).map fun l=>(l.length≤1000000000∧∀v∈l,gZ v,.pv (.bool (bE l)))|_=>none
theorem F9:bn Tryz.prog 96 Oa:=by
 intro ys φ r h hφ
 unfold Oa at h
 split at h
 ·rename_i ra
  obtain⟨a,ha,h⟩:=Option.map_eq_some_iff.1 h
  cases h
  cases aI ha
  obtain⟨hl9,hov⟩:=hφ
  refine aB (ai xG (ai yc aj)) (by kernel_rfl) fn96 (by simp) ?_
  unfold body96
  simp (config := { maxSteps := 3000000 })
  refine ay (fun i:Nat=>i≤a.length∧∀j,j < i→gO a j=true) (fun i=>⟨[(0,.pv (.ro (aC a))),(2,.pv (.bool false)),(3,.pv (.int .i64 i))],[]⟩) (fun i=>a.length - i) [] 0 (by simp) ?_ ?_
  ·simp
  ·rintro i ⟨hi,ht⟩
   have w2:IntKind.i64.wrap ((i:Int)+1)=(i:Int)+1:=wrap_i64 (by omega)
   by_cases hlt:i < a.length
   ·have r1:=bh hlt
    have hg:(a[i]?).getD v0=a[i]:=by rw [List.getElem?_eq_getElem hlt];rfl
    have ho:=hov a[i] (List.getElem_mem hlt)
    have hb0:=m5 ho
    have hok:gO a i=(decide (eR a i < a[i].n) && (decide (bH a[i]=0) || decide (0≤mR (a.take i) (bH a[i])))):=by unfold gO;rw [hg]
    have hnext:gO a i=true→∀j,j < i+1→gO a j=true:=by
     intro h j hj
     by_cases hji:j=i
     ·rw [hji];exact h
     ·exact ht j (by omega)
    have hbad:gO a i=false→bE a=false:=pY hlt
    have hbv:(if a[i].inl=true then 0 else a[i].b)=bH a[i]:=rfl
    have hn0:=ho.1
    have him:i - 1 < a.length:=by omega
    have rm:rowAt (aC a) ((i:Int) - 1)=[.int .u64 a[i - 1].n,.int .u64 a[i - 1].b,.int .u64 a[i - 1].p,.int .u64 a[i - 1].i,.int .u64 a[i - 1].s,.int .u64 a[i - 1].z,.int .u64 a[i - 1].m,.str a[i - 1].t,.bool a[i - 1].inl,.bool a[i - 1].dT]:=by
     rw [←bh him]
     unfold rowAt
     congr 1
     omega
    have w1:IntKind.i64.wrap ((i:Int) - 1)=(i:Int) - 1:=wrap_i64 (by omega)
    have hop:=(hov a[i - 1] (List.getElem_mem him)).1
    have hpi : 0 < i→eR a i=a[i - 1].n:=by
     intro h0
     obtain⟨q,rfl⟩:∃q,i=q+1:=⟨i - 1,by omega⟩
     have hq:q < a.length:=by omega
     simp only [eR,Nat.add_sub_cancel]
     rw [List.getElem?_eq_getElem hq];rfl
    have hp0:¬ 0 < i→eR a i=0:=by
     intro h0
     have:i=0:=by omega
     subst this;rfl
    have hmin:min i a.length=i:=by omega
    by_cases h1:a[i].n=0
    ·have hb:=hbad (by
      rw [hok,Bool.and_eq_false_iff];left
      simp only [decide_eq_false_iff_not]
      by_cases h0 : 0 < i
      ·rw [hpi h0];omega
      ·rw [hp0 h0];omega)
     simp (config := { maxSteps := 3000000 }) [w1,w2,hlt,r1,rm,h1,hb,hbv]
    ·by_cases h0 : 0 < i
     ·have hpi':=hpi h0
      have hb1 : 1≤(i:Int):=by omega
      have hb2:(i:Int) - 1 < a.length:=by omega
      have hne:¬ i=0:=by omega
      by_cases h3:a[i].n≤a[i - 1].n
      ·have h3':¬ a[i - 1].n < a[i].n:=by omega
       have hb:=hbad (by rw [hok,Bool.and_eq_false_iff];left;simp;omega)
       simp (config := { maxSteps := 3000000 }) [w1,w2,hlt,r1,rm,h1,h0,hb1,hb2,hne,h3,h3',hb,hbv]
      ·have hlp:eR a i < a[i].n:=by omega
       have h3':a[i - 1].n < a[i].n:=by omega
       by_cases h2:bH a[i]=0
       ·simp (config := { maxSteps := 3000000 }) [w1,w2,hlt,r1,rm,h1,h0,hb1,hb2,hne,h3,h3',h2,hbv]
        exact⟨i+1,⟨by omega,hnext (by rw [hok];simp [hlp,h2])⟩,by omega,by omega⟩
       ·have h2' : 0 < bH a[i]:=by omega
        simp (config := { maxSteps := 3000000 }) [w1,w2,hlt,r1,rm,h1,h0,hb1,hb2,hne,h3,h3',h2,h2',hbv]
        exact⟨⟨hl9,hi⟩,fun h=>hbad (by rw [hok];simp [hlp,h2];omega),fun h=>⟨i+1,⟨by omega,hnext (by rw [hok];simp [hlp,h])⟩,by omega,by omega⟩⟩
     ·have hlp:eR a i < a[i].n:=by rw [hp0 h0];omega
      have hz:(i=0)=True:=by simp;omega
      have h0f:(0 < i)=False:=by simp;omega
      by_cases h2:bH a[i]=0
      ·simp (config := { maxSteps := 3000000 }) [w1,w2,hlt,r1,rm,h1,h0f,hz,h2,hbv]
       exact⟨i+1,⟨by omega,hnext (by rw [hok];simp [hlp,h2])⟩,by omega,by omega⟩
      ·have h2' : 0 < bH a[i]:=by omega
       simp (config := { maxSteps := 3000000 }) [w1,w2,hlt,r1,rm,h1,h0f,hz,h2,h2',hbv]
       exact⟨⟨hl9,hi⟩,fun h=>hbad (by rw [hok];simp [hlp,h2];omega),fun h=>⟨i+1,⟨by omega,hnext (by rw [hok];simp [hlp,h])⟩,by omega,by omega⟩⟩
   ·have:i=a.length:=by omega
    subst this
    have hr:bE a=true:=(gl a).2 ht
    simp (config := { maxSteps := 3000000 }) [hr]
 ·cases h
theorem wR {l:List Vn}{n:Int}{i:Nat} (h:i<l.length) (hq:l[i].n=n) (hh:l[i].dT=false) (ht:∀v∈l.take i,v.dT=true∨¬v.n=n):fy l n=some l[i]:=by
 unfold fy aY;rw[List.find?_filter,List.find?_eq_some_iff_getElem];refine⟨by simp[hh,hq],i,h,rfl,fun j hj=>?_⟩;have:l[j]∈l.take i:=by rw[List.mem_take_iff_getElem];exact⟨j,by omega,rfl⟩
 rcases ht _ this with h1|h1<;>simp[h1]
theorem ui {l:List Vn}{n:Int} (ht:∀v∈l,v.dT=true∨¬v.n=n):fy l n=none:=by
 refine sJ fun v hv hn=>?_;obtain⟨h1,h2⟩:=List.mem_filter.1 hv;rcases ht v h1 with h|h;·simp[h]at h2
 ·exact h hn
theorem Gh:bn Tryz.prog 72 UR:=by
 intro ys φ r h hφ;unfold UR at h;split at h
 ·rename_i ra n;obtain⟨a,ha,h⟩:=Option.map_eq_some_iff.1 h;cases h;cases aI ha;refine aB aj (by kernel_rfl) fn72 (by simp) ?_;unfold body72;simp(config := { maxSteps := 3000000 });refine ay (fun i:Nat=>i≤a.length∧∀v∈a.take i,v.dT=true∨¬v.n=n) (fun i=>⟨[(0,.pv (.ro (aC a))),(1,.pv (.int .u64 n)),(4,.ptr 4 0),(5,.pv (.bool false)),(6,.pv (.int .i64 i))],[(4,.box [.pv (.int .u64 0),.pv (.int .u64 0),.pv (.int .u64 0),.pv (.int .u64 0),.pv (.int .u64 0),.pv (.int .u64 0),.pv (.int .u64 0),.pv (.str []),.pv (.bool false),.pv (.bool false)])]⟩) (fun i=>a.length-i) [] 0 (by simp) ?_ ?_;·simp
  ·rintro i ⟨hi,ht⟩;have w2:IntKind.i64.wrap ((i:Int)+1)=(i:Int)+1:=wrap_i64 (by omega);by_cases hlt:i<a.length
   ·have r1:=bh hlt;have hnext:(a[i].dT=true∨¬a[i].n=n)→∀v∈a.take (i+1),v.dT=true∨¬v.n=n:=by
     intro h v hv;rw[List.take_succ_eq_append_getElem hlt,List.mem_append]at hv;rcases hv with hv|hv;·exact ht v hv
     ·rw[List.mem_singleton]at hv;rw[hv];exact h
    by_cases hn:a[i].n=n;·cases hh:a[i].dT with|true=>simp(config := { maxSteps := 3000000 }) [w2,hlt,r1,hn,hh];exact⟨i+1,⟨by omega,hnext (.inl hh)⟩,by omega,by omega⟩|false=>have hg:=wR hlt hn hh ht;simp(config := { maxSteps := 3000000 }) [w2,hlt,r1,hn,hh,hg,bD]
    ·simp(config := { maxSteps := 3000000 }) [w2,hlt,r1,hn];exact⟨i+1,⟨by omega,hnext (.inr hn)⟩,by omega,by omega⟩
   ·rw[List.take_of_length_le (by omega)]at ht;have hg:=ui ht;simp(config := { maxSteps := 3000000 }) [hlt,hg,bD,v0]
 ·cases h
theorem zZ {l:List Vn}{k:Nat} (h:k<l.length) (hh:l[k].dT=false) (ht:∀v∈l.drop (k+1),v.dT=true):lK l=some l[k]:=by
 unfold lK aY;have hl:l=l.take k++l[k]::l.drop (k+1):=by rw[←List.drop_eq_getElem_cons h,List.take_append_drop]
 have hd:(l.drop (k+1)).filter (fun v=>!v.dT)=[]:=by rw[List.filter_eq_nil_iff];intro v hv;simp[ht v hv]
 conv=>lhs;rw[hl]
 rw[List.filter_append,List.filter_cons,if_pos (by simp[hh]),hd,List.getLast?_append];rfl
theorem uk {l:List Vn} (ht:∀v∈l,v.dT=true):lK l=none:=by
 unfold lK aY;have hd:l.filter (fun v=>!v.dT)=[]:=by rw[List.filter_eq_nil_iff];intro v hv;simp[ht v hv]
 rw[hd];rfl
theorem QM:bn Tryz.prog 107 VD:=by
 intro ys φ r h hφ;unfold VD at h;split at h
 ·rename_i ra;obtain⟨a,ha,h⟩:=Option.map_eq_some_iff.1 h;cases h;cases aI ha;refine aB aj (by kernel_rfl) fn107 (by simp) ?_;unfold body107;have w0:IntKind.i64.wrap ((a.length:Int)-1)=(a.length:Int)-1:=wrap_i64 (by omega);simp(config := { maxSteps := 3000000 }) [w0];refine ay (fun k:Nat=>k≤a.length∧∀v∈a.drop k,v.dT=true) (fun k=>⟨[(0,.pv (.ro (aC a))),(2,.ptr 2 0),(3,.pv (.bool false)),(4,.pv (.int .i64 ((k:Int)-1)))],[(2,.box [.pv (.int .u64 0),.pv (.int .u64 0),.pv (.int .u64 0),.pv (.int .u64 0),.pv (.int .u64 0),.pv (.int .u64 0),.pv (.int .u64 0),.pv (.str []),.pv (.bool false),.pv (.bool false)])]⟩) (fun k=>k) [] a.length (by simp) ?_ ?_;·simp
  ·rintro k ⟨hk,ht⟩;by_cases h0:0<k
   ·obtain⟨q,rfl⟩:∃q,k=q+1:=⟨k-1,by omega⟩;have hlt:q<a.length:=by omega
    have hc:(((q+1:Nat):Int)-1)=(q:Int):=by omega
    have r1:=bh hlt;have w2:IntKind.i64.wrap ((q:Int)-1)=(q:Int)-1:=wrap_i64 (by omega);rw[hc];cases hh:a[q].dT with
    |true=>
     simp(config := { maxSteps := 3000000 }) [w2,hlt,r1,hh];refine⟨q,⟨by omega,fun v hv=>?_⟩,rfl,by omega⟩;rw[List.drop_eq_getElem_cons hlt]at hv;rcases List.mem_cons.1 hv with rfl|hv;·exact hh
     ·exact ht v hv|false=>have hg:=zZ hlt hh ht;simp(config := { maxSteps := 3000000 }) [w2,hlt,r1,hh,hg,bD]
   ·have:k=0:=by omega
    subst this;have hg:=uk (l:=a) (by simpa using ht);simp(config := { maxSteps := 3000000 }) [hg,bD,v0]
 ·cases h
@[simp] def YU:List AV→Option (Prop×AV)|[.agg [.pv (.int .u64 n),.pv (.int .u64 b),.pv (.int .u64 p),.pv (.int .u64 i),.pv (.int .u64 s),.pv (.int .u64 z),.pv (.int .u64 m),.pv (.str t),.pv (.bool inl),.pv (.bool dT)]]=>some (True,.agg [.pv (.int .u64 n),.pv (.int .u64 b),.pv (.int .u64 p),.pv (.int .u64 i),.pv (.int .u64 s),.pv (.int .u64 z),.pv (.int .u64 m),.pv (.str t),.pv (.bool inl),.pv (.bool dT)])|_=>none
@[simp] noncomputable def Yz:List AV→Option (Prop×AV)|[.pv (.ro a)]=>(dec cF a).map fun l=>(l.length≤1000000,.fr 92 (aC l))|_=>none
@[simp] noncomputable def YE:List AV→Option (Prop×AV)|[.pv (.ro a),.pv (.ro b)]=>(dec cF a).bind fun la=>(dec cF b).map fun lb=>(la.length≤1000000,.pv (.bool (decide (la=lb))))|_=>none
def XQ (l:List Vn):Bool:=decide (l.length≤12)&&l.all fun v=>decide (v.t.length≤100)
@[simp] noncomputable def X2:List AV→Option (Prop×AV)|[.pv (.ro a)]=>(dec cF a).map fun l=>(True,.pv (.bool (XQ l)))|_=>none
def JJ (n:Int):List PV:=[.int .i64 n]
def GN (l:List Int):List (List PV):=l.map JJ
@[simp] theorem Kw:GN []=[]:=rfl
def Sn (l:List Vn):List Int:=l.map fun v=>IntKind.i64.wrap v.n
@[simp] noncomputable def Xh:List AV→Option (Prop×AV)|[.pv (.ro a)]=>(dec cF a).map fun l=>(l.length≤1000000,.fr 3 (GN (Sn l)))|_=>none
@[simp] noncomputable def YM:List AV→Option (Prop×AV)|[.pv (.ro a),.pv (.ro b)]=>(dec JJ a).bind fun la=>(dec JJ b).map fun lb=>(la.length≤1000000000,.pv (.bool (decide (la=lb))))|_=>none
structure Ls where
 e:Int
 p:Int
 i:Int
 u:Int
 h:Bool deriving DecidableEq
def cS (l:Ls):List AV:=[.pv (.int .u64 l.e),.pv (.int .u64 l.p),.pv (.int .u64 l.i),.pv (.int .u64 l.u),.pv (.bool l.h)]
def ld:Int:=18446744073709551615
def dc (l:Ls) (p i e:Int):Bool:=l.h&&decide (l.p=p)&&decide (l.i=i)&&decide (l.e=e)
def sA (l:Ls):Int×Int:=if l.e=ld then(0,131) else(l.e+1,0)
def dS (l:Ls) (p i u:Int):Ls×Int:=if l.e=ld then(l,131) else(⟨l.e+1,p,i,u,true⟩,0)
def lO (l:Ls) (u:Int):Ls:=⟨l.e,l.p,l.i,max l.u u,l.h⟩
def iu (l:Ls):Ls:=⟨l.e,l.p,l.i,l.u,false⟩
@[simp] def yK:List AV→Option (Prop×AV)|[.agg [.pv (.int .u64 e),.pv (.int .u64 p),.pv (.int .u64 i),.pv (.int .u64 u),.pv (.bool h)],.pv (.int .u64 q),.pv (.int .u64 j),.pv (.int .u64 f)]=>some (True,.pv (.bool (dc ⟨e,p,i,u,h⟩ q j f)))|_=>none
theorem CK:bn Tryz.prog 26 yK:=by
 intro ys φ r h hφ;unfold yK at h;split at h;·rename_i e p i u h' q j f;cases h;refine aB aj (by kernel_rfl) fn26 (by simp) ?_;unfold body26;cases h' with|false=>simp(config := { maxSteps := 3000000 }) [dc]|true=>
  by_cases h1:p=q
  ·by_cases h2:i=j;·by_cases h3:e=f<;>simp(config := { maxSteps := 3000000 }) [dc,h1,h2,h3]
   ·simp(config := { maxSteps := 3000000 }) [dc,h1,h2]
  ·simp(config := { maxSteps := 3000000 }) [dc,h1]
 ·cases h
@[simp] def FN:List AV→Option (Prop×AV)|[.agg [.pv (.int .u64 e),.pv (.int .u64 p),.pv (.int .u64 i),.pv (.int .u64 u),.pv (.bool h)]]=>some (cY e,.aK [.pv (.int .u64 (sA ⟨e,p,i,u,h⟩).1),.pv (.int .i64 (sA ⟨e,p,i,u,h⟩).2)])|_=>none
theorem Hu:bn Tryz.prog 128 FN:=by
 intro ys φ r h hφ;unfold FN at h;split at h
 ·rename_i e p i u h';cases h;obtain⟨o1,o2⟩:=hφ;refine aB aj (by kernel_rfl) fn128 (by simp) ?_;unfold body128;by_cases h1:e=18446744073709551615;·simp(config := { maxSteps := 3000000 }) [sA,ld,h1]
  ·have w1:IntKind.u64.wrap (e+1)=e+1:=wrap_u64 (by omega);simp(config := { maxSteps := 3000000 }) [sA,ld,h1,w1]
 ·cases h
@[simp] def tN:List AV→Option (Prop×AV)|[.agg [.pv (.int .u64 e),.pv (.int .u64 p),.pv (.int .u64 i),.pv (.int .u64 u),.pv (.bool h)],.pv (.int .u64 q),.pv (.int .u64 j),.pv (.int .u64 v)]=>some (cY e,.aK [.agg (cS (dS ⟨e,p,i,u,h⟩ q j v).1),.pv (.int .i64 (dS ⟨e,p,i,u,h⟩ q j v).2)])|_=>none
theorem DA:bn Tryz.prog 112 tN:=by
 intro ys φ r h hφ;unfold tN at h;split at h
 ·rename_i e p i u h' q j v;cases h;refine aB (ai Hu aj) (by kernel_rfl) fn112 (by simp) ?_;unfold body112;by_cases h1:e=18446744073709551615;·simp(config := { maxSteps := 3000000 }) [sA,dS,ld,cS,h1];exact h1▸hφ
  ·simp(config := { maxSteps := 3000000 }) [sA,dS,ld,cS,h1];exact hφ
 ·cases h
@[simp] def ud:List AV→Option (Prop×AV)|[.agg [.pv (.int .u64 e),.pv (.int .u64 p),.pv (.int .u64 i),.pv (.int .u64 u),.pv (.bool h)],.pv (.int .u64 v)]=>some (True,.agg (cS (lO ⟨e,p,i,u,h⟩ v)))|_=>none
theorem Et:bn Tryz.prog 114 ud:=by
 intro ys φ r h hφ;unfold ud at h;split at h;·cases h;refine aB aj (by kernel_rfl) fn114 (by simp) ?_;unfold body114;simp(config := { maxSteps := 3000000 }) [lO,cS]
 ·cases h
@[simp] def Ej:List AV→Option (Prop×AV)|[.agg [.pv (.int .u64 e),.pv (.int .u64 p),.pv (.int .u64 i),.pv (.int .u64 u),.pv (.bool h)]]=>some (True,.agg (cS (iu ⟨e,p,i,u,h⟩)))|_=>none
theorem P3:bn Tryz.prog 115 Ej:=by
 intro ys φ r h hφ;unfold Ej at h;split at h;·cases h;refine aB aj (by kernel_rfl) fn115 (by simp) ?_;unfold body115;simp(config := { maxSteps := 3000000 }) [iu,cS]
 ·cases h
noncomputable def uF {α:Type} (f:α→AV) (y:AV):Option α:=open Classical in if h:∃p,f p=y then some h.choose else none
theorem eJ {α:Type}{f:α→AV}{y:AV}{p:α} (h:uF f y=some p):y=f p:=by
 unfold uF at h;split at h;·rename_i h';cases h;exact h'.choose_spec.symm
 ·cases h
theorem zw {α:Type}{f:α→AV} (inj:∀p q,f p=f q→p=q) (p:α):uF f (f p)=some p:=by unfold uF;have h:∃q,f q=f p:=⟨p,rfl⟩;rw[dif_pos h];exact congrArg some (inj _ _ h.choose_spec)
structure Rc where
 k:Int
 p:Int
 i:Int
 s:Int
 e:Int
 u:Int
 v:Int
 c:Int
 z:Int
 m:Int
 n:List UInt8
 t:List UInt8 deriving DecidableEq
structure Ap where
 l:Ls
 ps:List Pn
 vs:List Vn
 sl:Bool
 r:Rc
 n:Int
 s:Int
def lA (a:Ap):AV:=.bx [.pv (.int .u64 a.l.e),.pv (.int .u64 a.l.p),.pv (.int .u64 a.l.i),.pv (.int .u64 a.l.u),.pv (.bool a.l.h),.fr 94 (aD a.ps),.fr 73 (aC a.vs),.pv (.bool a.sl),.pv (.int .u8 a.r.k),.pv (.int .u64 a.r.p),.pv (.int .u64 a.r.i),.pv (.int .u64 a.r.s),.pv (.int .u64 a.r.e),.pv (.int .u64 a.r.u),.pv (.int .u64 a.r.v),.pv (.int .u64 a.r.c),.pv (.int .u64 a.r.z),.pv (.int .u64 a.r.m),.pv (.str a.r.n),.pv (.str a.r.t),.pv (.int .u64 a.n),.pv (.int .u64 a.s)]
def L8 (a:Ap):AV:=.rp [.int .u64 a.l.e,.int .u64 a.l.p,.int .u64 a.l.i,.int .u64 a.l.u,.bool a.l.h,.ro (aD a.ps),.ro (aC a.vs),.bool a.sl,.int .u8 a.r.k,.int .u64 a.r.p,.int .u64 a.r.i,.int .u64 a.r.s,.int .u64 a.r.e,.int .u64 a.r.u,.int .u64 a.r.v,.int .u64 a.r.c,.int .u64 a.r.z,.int .u64 a.r.m,.str a.r.n,.str a.r.t,.int .u64 a.n,.int .u64 a.s]
theorem ki {α β:Type}{f:α→β} (hf:∀a b,f a=f b→a=b):∀{l m:List α},l.map f=m.map f→l=m|[],[],_=>rfl|[],_::_,h=>by cases h|_::_,[],h=>by cases h|a::l,b::m,h=>by simp only[List.map_cons,List.cons.injEq]at h;rw[hf _ _ h.1,ki hf h.2]
theorem Ds:∀p q,lA p=lA q→p=q:=by rintro⟨⟨e,p,i,u,h⟩,ps,vs,sl,⟨k,rp,ri,rs,re,ru,rv,rc,rz,rm,rn,rt⟩,n,s⟩ ⟨⟨e',p',i',u',h'⟩,ps',vs',sl',⟨k',rp',ri',rs',re',ru',rv',rc',rz',rm',rn',rt'⟩,n',s'⟩ hh;simp only[lA,AV.bx.injEq,List.cons.injEq,AV.pv.injEq,PV.int.injEq,PV.bool.injEq,PV.str.injEq,AV.fr.injEq,true_and,and_true]at hh;obtain⟨rfl,rfl,rfl,rfl,rfl,h1,h2,rfl,rfl,rfl,rfl,rfl,rfl,rfl,rfl,rfl,rfl,rfl,rfl,rfl,rfl,rfl⟩:=hh;rw[ki mP h1,ki qX h2]
theorem EB:∀p q,L8 p=L8 q→p=q:=by rintro⟨⟨e,p,i,u,h⟩,ps,vs,sl,⟨k,rp,ri,rs,re,ru,rv,rc,rz,rm,rn,rt⟩,n,s⟩ ⟨⟨e',p',i',u',h'⟩,ps',vs',sl',⟨k',rp',ri',rs',re',ru',rv',rc',rz',rm',rn',rt'⟩,n',s'⟩ hh;simp only[L8,AV.rp.injEq,List.cons.injEq,PV.int.injEq,PV.bool.injEq,PV.str.injEq,PV.ro.injEq,true_and,and_true]at hh;obtain⟨rfl,rfl,rfl,rfl,rfl,h1,h2,rfl,rfl,rfl,rfl,rfl,rfl,rfl,rfl,rfl,rfl,rfl,rfl,rfl,rfl,rfl⟩:=hh;rw[ki mP h1,ki qX h2]
@[simp] theorem Px (e p i u:Int) (h:Bool) (ps:List Pn) (vs:List Vn) (sl:Bool) (k rp ri rs re ru rv rc rz rm:Int) (rn rt:List UInt8) (n s:Int):uF lA (.bx [.pv (.int .u64 e),.pv (.int .u64 p),.pv (.int .u64 i),.pv (.int .u64 u),.pv (.bool h),.fr 94 (aD ps),.fr 73 (aC vs),.pv (.bool sl),.pv (.int .u8 k),.pv (.int .u64 rp),.pv (.int .u64 ri),.pv (.int .u64 rs),.pv (.int .u64 re),.pv (.int .u64 ru),.pv (.int .u64 rv),.pv (.int .u64 rc),.pv (.int .u64 rz),.pv (.int .u64 rm),.pv (.str rn),.pv (.str rt),.pv (.int .u64 n),.pv (.int .u64 s)])=some ⟨⟨e,p,i,u,h⟩,ps,vs,sl,⟨k,rp,ri,rs,re,ru,rv,rc,rz,rm,rn,rt⟩,n,s⟩:=zw Ds ⟨⟨e,p,i,u,h⟩,ps,vs,sl,⟨k,rp,ri,rs,re,ru,rv,rc,rz,rm,rn,rt⟩,n,s⟩
@[simp] theorem Pb (e p i u:Int) (h:Bool) (ps:List Pn) (vs:List Vn) (sl:Bool) (k rp ri rs re ru rv rc rz rm:Int) (rn rt:List UInt8) (n s:Int):uF L8 (.rp [.int .u64 e,.int .u64 p,.int .u64 i,.int .u64 u,.bool h,.ro (aD ps),.ro (aC vs),.bool sl,.int .u8 k,.int .u64 rp,.int .u64 ri,.int .u64 rs,.int .u64 re,.int .u64 ru,.int .u64 rv,.int .u64 rc,.int .u64 rz,.int .u64 rm,.str rn,.str rt,.int .u64 n,.int .u64 s])=some ⟨⟨e,p,i,u,h⟩,ps,vs,sl,⟨k,rp,ri,rs,re,ru,rv,rc,rz,rm,rn,rt⟩,n,s⟩:=zw EB ⟨⟨e,p,i,u,h⟩,ps,vs,sl,⟨k,rp,ri,rs,re,ru,rv,rc,rz,rm,rn,rt⟩,n,s⟩
@[simp] noncomputable def Ym:List AV→Option (Prop×AV)|[y]=>(uF L8 y).map fun a=>(True,.pv (.bool (dc a.l a.r.p a.r.i a.r.e)))|_=>none
theorem HE:bn Tryz.prog 113 Ym:=by
 intro ys φ r h hφ;unfold Ym at h;split at h;·obtain⟨a,ha,h⟩:=Option.map_eq_some_iff.1 h;cases h;cases eJ ha;refine aB (ai CK aj) (by kernel_rfl) fn113 (by simp) ?_;unfold body113;simp(config := { maxSteps := 3000000 }) [L8]
 ·cases h
def qv (a:Ap):Ap×Bool:=(⟨a.l,a.ps,a.vs,true,a.r,a.n,a.s⟩,!a.sl&&a.l.h&&decide (a.l.p=a.r.p)&&decide (a.l.i=a.r.i))
def lq (a:Ap):Ap×Bool:=(⟨lO a.l a.r.u,a.ps,a.vs,a.sl,a.r,a.n,a.s⟩,!a.sl&&dc a.l a.r.p a.r.i a.r.e)
def gE (a:Ap):Ap×Bool:=(⟨iu a.l,a.ps,a.vs,a.sl,a.r,a.n,a.s⟩,!a.sl&&dc a.l a.r.p a.r.i a.r.e)
def j7 (a:Ap):Ap×Bool:=(⟨(dS a.l a.r.p a.r.i a.r.u).1,a.ps,a.vs,a.sl,a.r,a.n,a.s⟩,!a.sl&&decide ((dS a.l a.r.p a.r.i a.r.u).2=0)&&decide ((dS a.l a.r.p a.r.i a.r.u).1.e=a.r.e))
@[simp] noncomputable def wD (C:Ap→Prop) (F:Ap→Ap×Bool):List AV→Option (Prop×AV)|[.aK [y]]=>(uF lA y).map fun a=>(C a,.bB 0 [.pv (.bool (F a).2),lA (F a).1])|_=>none
theorem B4:df Tryz.prog 81 (wD (fun _=>True) lq):=by
 intro ys φ r h hφ;unfold wD at h;split at h;·obtain⟨a,ha,h⟩:=Option.map_eq_some_iff.1 h;cases h;cases eJ ha;obtain⟨⟨e,p,i,u,h'⟩,ps,vs,sl,⟨k,rp,ri,rs,re,ru,rv,rc,rz,rm,rn,rt⟩,n,s⟩:=a;refine b5 (ai HE (ai Et aj)) (by kernel_rfl) fn81 (by simp) rfl (by simp[lA]) ?_;unfold body81;cases sl<;>simp(config := { maxSteps := 3000000 }) [lA,lq,cS,lO]
 ·cases h
theorem yr:df Tryz.prog 82 (wD (fun _=>True) gE):=by
 intro ys φ r h hφ;unfold wD at h;split at h;·obtain⟨a,ha,h⟩:=Option.map_eq_some_iff.1 h;cases h;cases eJ ha;obtain⟨⟨e,p,i,u,h'⟩,ps,vs,sl,⟨k,rp,ri,rs,re,ru,rv,rc,rz,rm,rn,rt⟩,n,s⟩:=a;refine b5 (ai HE (ai P3 aj)) (by kernel_rfl) fn82 (by simp) rfl (by simp[lA]) ?_;unfold body82;cases sl<;>simp(config := { maxSteps := 3000000 }) [lA,gE,cS,iu]
 ·cases h
theorem DX:df Tryz.prog 86 (wD (fun _=>True) qv):=by
 intro ys φ r h hφ;unfold wD at h;split at h;·obtain⟨a,ha,h⟩:=Option.map_eq_some_iff.1 h;cases h;cases eJ ha;obtain⟨⟨e,p,i,u,h'⟩,ps,vs,sl,⟨k,rp,ri,rs,re,ru,rv,rc,rz,rm,rn,rt⟩,n,s⟩:=a;refine b5 aj (by kernel_rfl) fn86 (by simp) rfl (by simp[lA]) ?_;unfold body86;cases sl<;>cases h'<;>simp(config := { maxSteps := 3000000 }) [lA,qv,cS]
 ·cases h
theorem Bo:df Tryz.prog 80 (wD (fun a=>cY a.l.e) j7):=by
 intro ys φ r h hφ;unfold wD at h;split at h
 ·obtain⟨a,ha,h⟩:=Option.map_eq_some_iff.1 h;cases h;cases eJ ha;obtain⟨⟨e,p,i,u,h'⟩,ps,vs,sl,⟨k,rp,ri,rs,re,ru,rv,rc,rz,rm,rn,rt⟩,n,s⟩:=a;have oe:cY e:=hφ;refine b5 (ai DA aj) (by kernel_rfl) fn80 (by simp) rfl (by simp[lA]) ?_;unfold body80;by_cases h1:e=ld;·cases sl<;>simp(config := { maxSteps := 3000000 }) [lA,j7,cS,dS,h1,oe];all_goals exact h1▸oe
  ·cases sl<;>simp(config := { maxSteps := 3000000 }) [lA,j7,cS,dS,h1,oe]
 ·cases h
@[simp] noncomputable def Sp:List AV→Option (Prop×AV)|[.pv (.ro a)]=>(dec cF a).map fun l=>(l.length≤1000000,.fr 73 (aC l))|_=>none
theorem BE:bn Tryz.prog 79 Sp:=by
 intro ys φ r h hφ;unfold Sp at h;split at h;·rename_i ra;obtain⟨a,ha,h⟩:=Option.map_eq_some_iff.1 h;cases h;cases aI ha;refine aB aj (by kernel_rfl) fn79 (by simp) ?_;unfold body79;cases a with|nil=>simp(config := { maxSteps := 3000000 }) [qB]|cons x l=>have hx:aC (x::l)=cF x::aC l:=rfl;simp(config := { maxSteps := 3000000 }) [hx,aQ];simp only[List.length_cons]at hφ;exact⟨by omega,by omega,rfl,fV l⟩
 ·cases h
@[simp] def XS:List AV→Option (Prop×AV)|[.pv (.int .u64 n),.pv (.str t)]=>some (True,.agg [.pv (.int .u64 n),.pv (.int .u64 0),.pv (.int .u64 0),.pv (.int .u64 0),.pv (.int .u64 0),.pv (.int .u64 0),.pv (.int .u64 0),.pv (.str t),.pv (.bool true),.pv (.bool false)])|_=>none
def wL (n:Int) (t:List UInt8):Vn:=⟨n,0,0,0,0,0,0,t,true,false⟩
def jm (l:List Vn):Int:=((l.getLast?).getD v0).n
theorem lW {l:List Vn} (hr:bE l=true) {i:Nat} (h:i+1<l.length):l[i].n<l[i+1].n:=by have:=(gl l).1 hr (i+1) h;unfold gO at this;rw[Bool.and_eq_true]at this;have h1:=this.1;simp only[eR,List.getElem?_eq_getElem h,List.getElem?_eq_getElem (show i<l.length by omega),Option.getD_some,decide_eq_true_eq]at h1;exact h1
theorem iU {l:List Vn} (hr:bE l=true) {i:Nat}:∀(d:Nat) (h:i+d<l.length),l[i].n≤l[i+d].n|0,h=>Int.le_refl _|d+1,h=>by have h1:=iU hr d (show i+d<l.length by omega);have h2:=lW hr (i:=i+d) (by omega);have:l[i+(d+1)].n=l[i+d+1].n:=rfl;omega
theorem yz {l:List Vn} (hr:bE l=true) {i:Nat} (h:i<l.length):l[i].n≤jm l:=by
 have hlt:l.length-1<l.length:=by omega
 have:=iU hr (i:=i) (l.length-1-i) (by omega);have he:i+(l.length-1-i)=l.length-1:=by omega
 simp only[he]at this;unfold jm;rw[List.getLast?_eq_getElem?,List.getElem?_eq_getElem hlt];exact this
def CO (s:List UInt8):List PV:=[.str s]
def Hm (l:List (List UInt8)):List (List PV):=l.map CO
@[simp] theorem Iw:Hm []=[]:=rfl
@[simp] noncomputable def Sg:List AV→Option (Prop×AV)|[.agg [.pv (.int .u64 e),.pv (.int .u64 p),.pv (.int .u64 i),.pv (.int .u64 u),.pv (.bool h),.pv (.ro a),.pv (.ro b),.pv (.bool sl)]]=>(dec rowP a).bind fun ps=>(dec cF b).map fun vs=>(ps.length≤100000∧vs.length≤100000,.agg [.pv (.int .u64 e),.pv (.int .u64 p),.pv (.int .u64 i),.pv (.int .u64 u),.pv (.bool h),.fr 94 (aD ps),.fr 73 (aC vs),.pv (.bool sl)])|_=>none
theorem ON:bn Tryz.prog 32 Sg:=by
 intro ys φ r h hφ;unfold Sg at h;split at h
 ·obtain⟨ps,hp,h⟩:=Option.bind_eq_some_iff.1 h;obtain⟨vs,hv,h⟩:=Option.map_eq_some_iff.1 h;cases h;cases aL hp;cases aI hv;obtain⟨h1,h2⟩:=hφ;have h3:ps.length≤100000000:=by omega
  have h4:vs.length≤1000000:=by omega
  refine aB (ai pR (ai BE aj)) (by kernel_rfl) fn32 (by simp) ?_;unfold body32;simp(config := { maxSteps := 3000000 }) [h3,h4]
 ·cases h
def fq (l:List Int):PV:=.ro (l.map fun n=>[.int .u8 n])
def jj:List (PV×PV):=[(.int .u8 1,fq [0,1]),(.int .u8 2,fq [0,1]),(.int .u8 3,fq [0]),(.int .u8 4,fq [0,2,4,5]),(.int .u8 5,fq [2,1]),(.int .u8 6,fq [2]),(.int .u8 7,fq []),(.int .u8 8,fq [3]),(.int .u8 9,fq [6]),(.int .u8 10,fq [6]),(.int .u8 11,fq [6,7])]
def xY:List AV→Option (Prop×AV)|[]=>some (True,.pv (.mv jj))|_=>none
@[simp] theorem Nm:xY []=some (True,.pv (.mv jj)):=rfl
theorem Eh:bn Tryz.prog 88 xY:=by
 intro ys φ r h hφ;unfold xY at h;split at h;·cases h;refine aB aj (by kernel_rfl) fn88 (by simp) ?_;unfold body88;simp(config := { maxSteps := 3000000 }) [jj,fq]
 ·cases h
end Go.Proofs.YtlmkcmfmfahcfaaGreat.Ab
