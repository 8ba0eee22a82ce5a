/- Chapter 14: rows of pins; whether ids rise; whether two are the same; the reference's rows. -/
import Derived.Test.YtifcndkhigakfaaGreatX11
set_option linter.unusedVariables false
set_option linter.unusedSimpArgs false
set_option linter.unnecessarySimpa false
set_option maxHeartbeats 40000000
set_option maxRecDepth 100000
namespace Go.Proofs.YtifcndkhigakfaaGreat.Ab
open Go Go.RowKit R
structure Pn where
 i:Int
 v:Int
 u:Int deriving DecidableEq
def rowP (e:Pn):List PV:=[.int .u64 e.i,.int .u64 e.v,.int .u64 e.u]
theorem lO:∀a b,rowP a=rowP b→a=b:=by rintro⟨k,n,t⟩ ⟨k',n',t'⟩ h;simp only[rowP,List.cons.injEq,PV.int.injEq,true_and,and_true]at h;obtain⟨h1,h2,h3⟩:=h;rw[h1,h2,h3]
def aF (l:List Pn):List (List PV):=l.map rowP
@[simp] theorem RU:aF []=[]:=rfl
@[simp] theorem cL (l:List Pn):(aF l).length=l.length:=by simp[aF]
theorem eH (l m:List Pn):aF (l++m)=aF l++aF m:=by simp[aF]
theorem dk (l:List Pn):∀r∈aF l,r.length=3:=by intro r hr;simp only[aF,List.mem_map]at hr;obtain⟨c,_,rfl⟩:=hr;rfl
theorem bM {l:List Pn}{i:Nat} (h:i<l.length):rowAt (aF l) (i:Int)=[.int .u64 l[i].i,.int .u64 l[i].v,.int .u64 l[i].u]:=by simp[rowAt,aF,h,rowP]
@[simp] theorem Sz (l:List Pn):dec rowP (aF l)=some l:=ld lO l
theorem bf {rows:List (List PV)}{l:List Pn} (h:dec rowP rows=some l):rows=aF l:=kF h
theorem bC (l:List Pn):cT (aF l):=by intro r hr p hp;simp only[aF,List.mem_map]at hr;obtain⟨c,_,rfl⟩:=hr;simp only[rowP,List.mem_cons,List.not_mem_nil,or_false]at hp;rcases hp with rfl|rfl|rfl<;>rfl
def eQ (l:List Pn):Bool:=(List.range (l.length-1)).all fun k=>match l[k]?,l[k+1]? with|some a,some b=>decide (a.i<b.i)|_,_=>true
theorem pE (l:List Pn):eQ l=true↔∀(k:Nat) (h:k+1<l.length),l[k].i<l[k+1].i:=by
 unfold eQ;rw[List.all_eq_true];constructor;·intro h k hk;have:=h k (by rw[List.mem_range];omega);rw[List.getElem?_eq_getElem (by omega),List.getElem?_eq_getElem hk]at this;simpa using this
 ·intro h k hk;rw[List.mem_range]at hk;rw[List.getElem?_eq_getElem (by omega),List.getElem?_eq_getElem (show k+1<l.length by omega)];simpa using h k (by omega)
theorem we {l:List Pn}{k:Nat} (h:k+1<l.length) (hk:l[k+1].i≤l[k].i):eQ l=false:=by cases hr:eQ l with|false=>rfl|true=>have:=(pE l).1 hr k h;omega
@[simp] noncomputable def GpR:List AV→Option (Prop×AV)|[.agg [.pv (.ro a)]]=>(dec rowP a).map fun l=>(l.length≤1000000000,.pv (.bool (eQ l)))|_=>none
@[simp] noncomputable def GrR:List AV→Option (Prop×AV)|[.pv (.ro a)]=>(dec rowP a).map fun l=>(l.length≤1000000000,.pv (.bool (eQ l)))|_=>none
theorem zr:aR Tryz.prog 109 GpR:=by
 intro ys φ r h hφ;unfold GpR at h;split at h
 ·rename_i ra;obtain⟨a,ha,h⟩:=Option.map_eq_some_iff.1 h;cases h;cases bf ha;refine aq aj (by kernel_rfl) (by conv=>lhs;reduce) (by simp) ?_;simp;refine au (fun i:Nat=>i≤a.length∧∀(k:Nat) (h:k+1<a.length),k+1<i→a[k].i<a[k+1].i) (fun i=>⟨[(1,.ptr 1 0),(6,.pv (.int .i64 a.length)),(7,.pv (.int .i64 i))],[(1,.box [.pv (.ro (aF a))])]⟩) (fun i=>a.length-i) [] 0 ?_ ?_ ?_;·exact⟨Nat.zero_le _,fun k h h2=>absurd h2 (by omega)⟩
  ·simp
  ·rintro i ⟨hi,ht⟩;have w2:IntKind.i64.wrap ((i:Int)+1)=(i:Int)+1:=wrap_i64 (by omega);have w3:IntKind.i64.wrap ((i:Int)-1)=(i:Int)-1:=wrap_i64 (by omega);by_cases hlt:i<a.length
   ·have r1:=bM hlt;by_cases h0:i=0;·subst h0;have wm:IntKind.i64.wrap (-1)=-1:=wrap_i64 (by omega);have rm:rowAt (aF a) (-1)=[.int .u64 a[0].i,.int .u64 a[0].v,.int .u64 a[0].u]:=r1;have rz:rowAt (aF a) 0=[.int .u64 a[0].i,.int .u64 a[0].v,.int .u64 a[0].u]:=r1;simp[hlt,rm,rz,wm];exact⟨1,⟨by omega,fun k h h2=>absurd h2 (by omega)⟩,by rw[wrap_i64 (by omega)];rfl,by omega⟩
    ·obtain⟨k,hik⟩:∃k,i=k+1:=⟨i-1,by omega⟩;have hk:k<a.length:=by omega
     have r2:=bM hk;have w3:IntKind.i64.wrap ((i:Int)-1)=(k:Int):=by rw[wrap_i64 (by omega)];omega
     have h0i:0<i:=by omega
     simp[w2,w3,hlt,hk,r1,r2,h0i];subst hik;refine⟨fun h=>we (k:=k) hlt h,fun h=>⟨k+2,⟨by omega,fun j hj h2=>?_⟩,by omega,by omega⟩⟩;by_cases hjk:j=k;·subst hjk;exact h
     ·exact ht j hj (by omega)
   ·simp[hlt];rw[pE];exact fun k h=>ht k h (by omega)
 ·cases h
theorem AD:aR Tryz.prog 72 GrR:=by
 intro ys φ r h hφ;unfold GrR at h;split at h
 ·rename_i ra;obtain⟨a,ha,h⟩:=Option.map_eq_some_iff.1 h;cases h;cases bf ha;refine aq aj (by kernel_rfl) (by conv=>lhs;reduce) (by simp) ?_;simp;refine au (fun i:Nat=>1≤i∧i≤a.length+1∧∀(k:Nat) (h:k+1<a.length),k+1<i→a[k].i<a[k+1].i) (fun i=>⟨[(0,.pv (.ro (aF a))),(3,.pv (.int .i64 i))],[]⟩) (fun i=>a.length+1-i) [] 1 ?_ ?_ ?_;·exact⟨by omega,by omega,fun k h h2=>absurd h2 (by omega)⟩
  ·simp
  ·rintro i ⟨hi1,hi,ht⟩;obtain⟨k,hik⟩:∃k,i=k+1:=⟨i-1,by omega⟩;have w2:IntKind.i64.wrap ((i:Int)+1)=(i:Int)+1:=wrap_i64 (by omega);have w3:IntKind.i64.wrap ((i:Int)-1)=(k:Int):=by rw[wrap_i64 (by omega)];omega
   by_cases hlt:i<a.length
   ·have r1:=bM hlt;have hk:k<a.length:=by omega
    have r2:=bM hk;simp[w2,w3,hlt,hk,r1,r2];subst hik;refine⟨fun h=>we (k:=k) hlt h,fun h=>⟨k+2,⟨by omega,by omega,fun j hj h2=>?_⟩,by omega,by omega⟩⟩;by_cases hjk:j=k;·subst hjk;exact h
    ·exact ht j hj (by omega)
   ·simp[hlt];rw[pE];exact fun k h=>ht k h (by omega)
 ·cases h
@[simp] noncomputable def GS1:List AV→Option (Prop×AV)|[.agg [.pv (.int .u64 a),.pv (.int .u64 b),.pv (.int .u64 c)],.agg [.pv (.int .u64 d),.pv (.int .u64 e),.pv (.int .u64 f)]]=>some (True,.pv (.bool (decide (a=d)&&(decide (b=e)&&decide (c=f)))))|_=>none
theorem c_S1:aR Tryz.prog 137 GS1:=by
 intro ys φ r h hφ;unfold GS1 at h;split at h;·cases h;refine aq aj (by kernel_rfl) (by conv=>lhs;reduce) (by simp) ?_;simp
 ·cases h
@[simp] noncomputable def GrS:List AV→Option (Prop×AV)|[.pv (.ro a),.pv (.ro b)]=>(dec rowP a).bind fun la=>(dec rowP b).map fun lb=>(la.length≤1000000000,.pv (.bool (decide (la=lb))))|_=>none
theorem J1:aR Tryz.prog 75 GrS:=by
 intro ys φ r h hφ;unfold GrS at h;split at h
 ·rename_i ra rb;obtain⟨a,ha,h⟩:=Option.bind_eq_some_iff.1 h;obtain⟨b,hb,h⟩:=Option.map_eq_some_iff.1 h;cases h;cases bf ha;cases bf hb;refine aq aj (by kernel_rfl) (by conv=>lhs;reduce) (by simp) ?_;simp;refine⟨fun hne=>?_,fun hlen=>?_⟩;·intro e;exact hne (by rw[e])
  refine au (fun i:Nat=>i≤a.length∧a.take i=b.take i) (fun i=>⟨[(0,.pv (.ro (aF a))),(1,.pv (.ro (aF b))),(5,.pv (.int .i64 i))],[]⟩) (fun i=>a.length-i) [] 0 (by simp) ?_ ?_;·simp
  ·rintro i ⟨hi,ht⟩;have w2:IntKind.i64.wrap ((i:Int)+1)=(i:Int)+1:=wrap_i64 (by omega);by_cases hlt:i<a.length
   ·have r1:=bM hlt;have hlb:i<b.length:=by omega
    have r2:=bM hlb;simp[w2,hlt,hlb,r1,r2];refine⟨fun hne e=>by subst e;simp at hne,fun h1 h2 h3=>⟨i+1,⟨by omega,?_⟩,by omega,by omega⟩⟩;rw[List.take_succ_eq_append_getElem hlt,List.take_succ_eq_append_getElem hlb,ht];congr 2;exact lO _ _ (by simp only[rowP,h1,h2,h3])
   ·simp[hlt];rw[List.take_of_length_le (by omega),List.take_of_length_le (by omega)]at ht;exact ht
 ·cases h
@[simp] noncomputable def GEq:List AV→Option (Prop×AV)|[.pv (.ro a),.pv (.ro b),.bZ f []]=>if f=137 then(dec rowP a).bind fun la=>(dec rowP b).map fun lb=>(la.length≤1000000000,.pv (.bool (decide (la=lb)))) else none|_=>none
theorem MG:ib Tryz.prog 137=true:=by kernel_rfl
theorem c_Eq:aR Tryz.prog 136 GEq:=by
 intro ys φ r h hφ;unfold GEq at h;split at h
 ·rename_i ra rb f;split at h
  ·rename_i hf;subst hf;obtain⟨a,ha,h⟩:=Option.bind_eq_some_iff.1 h;obtain⟨b,hb,h⟩:=Option.map_eq_some_iff.1 h;cases h;cases bf ha;cases bf hb;refine aq (af c_S1 aj) (by kernel_rfl) (by conv=>lhs;reduce) (by simp) ?_;simp;refine⟨fun hne=>?_,fun hlen=>?_⟩;·intro e;exact hne (by rw[e])
   refine au (fun i:Nat=>i≤a.length∧a.take i=b.take i) (fun i=>⟨[(0,.pv (.ro (aF a))),(1,.pv (.ro (aF b))),(2,.bZ 137 []),(15,.pv (.ro (aF a))),(16,.pv (.int .i64 a.length)),(17,.pv (.int .i64 i))],[]⟩) (fun i=>a.length-i) [] 0 (by simp) ?_ ?_;·simp
   ·rintro i ⟨hi,ht⟩;have w2:IntKind.i64.wrap ((i:Int)+1)=(i:Int)+1:=wrap_i64 (by omega);by_cases hlt:i<a.length
    ·have r1:=bM hlt;have hlb:i<b.length:=by omega
     have r2:=bM hlb;simp[w2,hlt,hlb,r1,r2,MG];refine⟨fun hne e=>by subst e;simp at hne,fun h1 h2 h3=>⟨i+1,⟨by omega,?_⟩,by omega,by omega⟩⟩;rw[List.take_succ_eq_append_getElem hlt,List.take_succ_eq_append_getElem hlb,ht];congr 2;exact lO _ _ (by simp only[rowP,h1,h2,h3])
    ·simp[hlt];rw[List.take_of_length_le (by omega),List.take_of_length_le (by omega)]at ht;exact ht
  ·cases h
 ·cases h
@[simp] noncomputable def GpS:List AV→Option (Prop×AV)|[.agg [.pv (.ro a)],.agg [.pv (.ro b)]]=>(dec rowP a).bind fun la=>(dec rowP b).map fun lb=>(la.length≤1000000000,.pv (.bool (decide (la=lb))))|_=>none
theorem JK:aR Tryz.prog 96 GpS:=by
 intro ys φ r h hφ;unfold GpS at h;split at h;·rename_i ra rb;obtain⟨a,ha,h⟩:=Option.bind_eq_some_iff.1 h;obtain⟨b,hb,h⟩:=Option.map_eq_some_iff.1 h;cases h;cases bf ha;cases bf hb;refine aq (af c_Eq aj) (by kernel_rfl) (by conv=>lhs;reduce) (by simp) ?_;simp;exact hφ
 ·cases h
@[simp] noncomputable def Gpref:List AV→Option (Prop×AV)|[.agg [.pv (.ro a)]]=>(dec rowP a).map fun l=>(l.length≤100000000,.fr 205 (aF l))|_=>none
@[simp] noncomputable def Wo:List AV→Option (Prop×AV)|[.pv (.ro a)]=>(dec rowP a).map fun l=>(l.length≤100000000,.fr 177 (aF l))|_=>none
theorem Hy:aR Tryz.prog 88 Wo:=by
 intro ys φ r h hφ;unfold Wo at h;split at h;·rename_i ra;obtain⟨a,ha,h⟩:=Option.map_eq_some_iff.1 h;cases h;cases bf ha;refine aq aj (by kernel_rfl) (by conv=>lhs;reduce) (by simp) ?_;cases a with|nil=>simp[j7]|cons x l=>have hx:aF (x::l)=rowP x::aF l:=rfl;simp[hx,aw];simp only[List.length_cons]at hφ;exact⟨by omega,by omega,rfl,dk l⟩
 ·cases h
@[simp] noncomputable def GOf1:List AV→Option (Prop×AV)|[.agg [.pv (.int .u64 a),.pv (.int .u64 b),.pv (.int .u64 c)],.rp [.int .u64 n]]=>some (True,.pv (.bool (decide (b=n))))|_=>none
@[simp] noncomputable def GRm1:List AV→Option (Prop×AV)|[.agg [.pv (.int .u64 a),.pv (.int .u64 b),.pv (.int .u64 c)],.rp [.int .u64 n]]=>some (True,.pv (.bool (decide (a=n))))|_=>none
def isP (f:FuncId) (n:Int) (e:Pn):Bool:=decide (e.i=n)
def Yz (p:Pn→Bool) (l:List Pn):Int:=if l.findIdx p<l.length then(l.findIdx p:Nat) else-1
@[simp] noncomputable def GIx:List AV→Option (Prop×AV)|[.pv (.ro a),.bZ f [.rp [.int .u64 n]]]=>if f=232 then(dec rowP a).map fun l=>(l.length≤1000000000,.pv (.int .i64 (Yz (isP f n) l))) else none|_=>none
def mb (n:Int):List PV:=[.int .u64 n]
theorem Ga:∀a b,mb a=mb b→a=b:=by intro a b h;simpa[mb]using h
def bN (l:List Int):List (List PV):=l.map mb
@[simp] theorem RL:bN []=[]:=rfl
@[simp] theorem Kx (l:List Int):(bN l).length=l.length:=by simp[bN]
theorem n7 (l m:List Int):bN (l++m)=bN l++bN m:=by simp[bN]
theorem zT {l:List Int}{i:Nat} (h:i<l.length):rowAt (bN l) (i:Int)=[.int .u64 l[i]]:=by simp[rowAt,bN,h,mb]
@[simp] theorem mQ (l:List Int):dec mb (bN l)=some l:=ld Ga l
theorem ni {rows:List (List PV)}{l:List Int} (h:dec mb rows=some l):rows=bN l:=kF h
theorem bK (l:List UInt8):cT (bytesRow l):=by intro r hr p hp;simp only[bytesRow,List.mem_map]at hr;obtain⟨c,_,rfl⟩:=hr;simp only[List.mem_singleton]at hp;subst hp;rfl
theorem nP (l:List Int):cT (bN l):=by intro r hr p hp;simp only[bN,List.mem_map]at hr;obtain⟨c,_,rfl⟩:=hr;simp only[mb,List.mem_singleton]at hp;subst hp;rfl
def cO (n:Int):Prop:=0≤n∧n≤18446744073709551615
def cI (l:List Int):List UInt8:=l.flatMap bd
theorem eJ {n:Int} (h:cO n):(bd n).length≤10:=by obtain⟨h1,h2⟩:=h;unfold bd;exact sk 9 _ (by omega)
theorem gR:∀{l:List Int},(∀n∈l,cO n)→(cI l).length≤10*l.length|[],_=>by simp[cI]|n::l,h=>by have h1:=eJ (h n (by simp));have h2:=gR (l:=l) fun m hm=>h m (by simp[hm]);unfold cI at h2 ⊢;simp only[List.flatMap_cons,List.length_append,List.length_cons];omega
theorem xx (l:List Int) (n:Int):cI (l++[n])=cI l++bd n:=by simp[cI]
noncomputable def Fb:List AV→Option (Prop×AV)|[.pv (.ro a)]=>(dec mb a).map fun l=>(l.length≤1000000∧(∀n∈l,cO n),.fr 5 (bytesRow (cI l)))|_=>none
@[simp] theorem Ir (a:List (List PV)):Fb [.pv (.ro a)]=(dec mb a).map fun l=>(l.length≤1000000∧(∀n∈l,cO n),.fr 5 (bytesRow (cI l))):=rfl
theorem HX:aR Tryz.prog 33 Fb:=by
 intro ys φ r h hφ;unfold Fb at h;split at h
 ·rename_i ra;obtain⟨a,ha,h⟩:=Option.map_eq_some_iff.1 h;cases h;cases ni ha;obtain⟨hl,hn⟩:=hφ;refine aq (af xw aj) (by kernel_rfl) (by conv=>lhs;reduce) (by simp) ?_;simp;refine au (fun i:Nat=>i≤a.length) (fun i=>⟨[(2,.own 2),(5,.pv (.ro (bN a))),(6,.pv (.int .i64 a.length)),(7,.pv (.int .i64 i))],[(2,.arr 5 (bytesRow (cI (a.take i))))]⟩) (fun i=>a.length-i) [] 0 (by simp) ?_ ?_;·simp[cI]
  ·rintro i hi;have w2:IntKind.i64.wrap ((i:Int)+1)=(i:Int)+1:=wrap_i64 (by omega);by_cases hlt:i<a.length;·have r1:=zT hlt;have ho:=hn _ (List.getElem_mem hlt);have h1:=eJ ho;have h2:=gR (l:=a.take i) fun n h=>hn n (List.mem_of_mem_take h);rw[List.length_take]at h2;obtain⟨o1,o2⟩:=ho;simp[w2,hlt,r1,aw,o1,o2];refine⟨⟨by omega,by omega,aL _⟩,i+1,by omega,⟨by omega,?_⟩,by omega⟩;rw[List.take_succ_eq_append_getElem hlt,xx,aM]
   ·simp[hlt];rw[List.take_of_length_le (by omega)]
 ·cases h
theorem BW:aR Tryz.prog 37 Fb:=by
 intro ys φ r h hφ;unfold Fb at h;split at h
 ·rename_i ra;obtain⟨a,ha,h⟩:=Option.map_eq_some_iff.1 h;cases h;cases ni ha;obtain⟨hl,hn⟩:=hφ;refine aq (af nD aj) (by kernel_rfl) (by conv=>lhs;reduce) (by simp) ?_;simp;refine au (fun i:Nat=>i≤a.length) (fun i=>⟨[(0,.pv (.ro (bN a))),(3,.own 3),(4,.pv (.int .i64 i))],[(3,.arr 5 (bytesRow (cI (a.take i))))]⟩) (fun i=>a.length-i) [] 0 (by simp) ?_ ?_;·simp[cI]
  ·rintro i hi;have w2:IntKind.i64.wrap ((i:Int)+1)=(i:Int)+1:=wrap_i64 (by omega);by_cases hlt:i<a.length;·have r1:=zT hlt;have ho:=hn _ (List.getElem_mem hlt);have h1:=eJ ho;have h2:=gR (l:=a.take i) fun n h=>hn n (List.mem_of_mem_take h);rw[List.length_take]at h2;obtain⟨o1,o2⟩:=ho;simp[w2,hlt,r1,aw,o1,o2];refine⟨⟨by omega,by omega,aL _⟩,i+1,by omega,⟨by omega,?_⟩,by omega⟩;rw[List.take_succ_eq_append_getElem hlt,xx,aM]
   ·simp[hlt];rw[List.take_of_length_le (by omega)]
 ·cases h
def fR (e:Pn):Prop:=cO e.i∧cO e.v∧cO e.u
def Ai (e:Pn):List UInt8:=bd e.i++(bd e.v++bd e.u)
def bg (l:List Pn):List UInt8:=l.flatMap Ai
def lq (l:List Pn):List UInt8:=bd l.length++bg l
theorem j5 (e:Pn):cI [e.i,e.v,e.u]=Ai e:=by simp[cI,Ai]
theorem px {e:Pn} (h:fR e):(Ai e).length≤30:=by have h1:=eJ h.1;have h2:=eJ h.2.1;have h3:=eJ h.2.2;simp[Ai];omega
theorem gp:∀{l:List Pn},(∀n∈l,fR n)→(bg l).length≤30*l.length|[],_=>by simp[bg]|n::l,h=>by have h1:=px (h n (by simp));have h2:=gp (l:=l) fun m hm=>h m (by simp[hm]);unfold bg at h2 ⊢;simp only[List.flatMap_cons,List.length_append,List.length_cons];omega
theorem nV (l:List Pn) (n:Pn):bg (l++[n])=bg l++Ai n:=by simp[bg]
theorem mI (a b c:Int):dec mb [[.int .u64 a],[.int .u64 b],[.int .u64 c]]=some [a,b,c]:=mQ [a,b,c]
@[simp] noncomputable def Lg:List AV→Option (Prop×AV)|[.agg [.pv (.ro a)]]=>(dec rowP a).map fun l=>(l.length≤1000000∧(∀n∈l,fR n),.fr 5 (bytesRow (lq l)))|_=>none
theorem NY:aR Tryz.prog 112 Lg:=by
 intro ys φ r h hφ;unfold Lg at h;split at h
 ·rename_i ra;obtain⟨a,ha,h⟩:=Option.map_eq_some_iff.1 h;cases h;cases bf ha;obtain⟨hl,hn⟩:=hφ;refine aq (af xw (af HX aj)) (by kernel_rfl) (by conv=>lhs;reduce) (by simp) ?_;have wl:IntKind.u64.wrap (a.length:Int)=(a.length:Int):=wrap_u64 (by omega);have l0:(0:Int)≤(a.length:Int):=by omega
  have l1:(a.length:Int)≤18446744073709551615:=by omega
  have hv:=eJ (n:=(a.length:Int)) ⟨by omega,by omega⟩;simp[wl,l0,l1];refine au (fun i:Nat=>i≤a.length) (fun i=>⟨[(1,.ptr 1 0),(3,.own 10),(12,.pv (.ro (aF a))),(13,.pv (.int .i64 a.length)),(14,.pv (.int .i64 i))],[(1,.box [.pv (.ro (aF a))]),(10,.arr 5 (bytesRow (bd a.length++bg (a.take i))))]⟩) (fun i=>a.length-i) [] 0 (by simp) ?_ ?_;·simp[bg]
  ·rintro i hi;have w2:IntKind.i64.wrap ((i:Int)+1)=(i:Int)+1:=wrap_i64 (by omega);by_cases hlt:i<a.length
   ·have r1:=bM hlt;have ho:=hn _ (List.getElem_mem hlt);have h1:=px ho;have h2:=gp (l:=a.take i) fun n h=>hn n (List.mem_of_mem_take h);rw[List.length_take]at h2;obtain⟨o1,o2,o3⟩:=ho;simp[w2,hlt,r1,aw,o1,o2,o3,mI,j5];first|refine⟨bK _,⟨by omega,by omega,aL _⟩,i+1,by omega,⟨by omega,?_⟩,by omega⟩|refine⟨⟨by omega,by omega,aL _⟩,i+1,by omega,⟨by omega,?_⟩,by omega⟩
    rw[List.take_succ_eq_append_getElem hlt,nV,←List.append_assoc,aM (bd _++_)]
   ·simp[hlt];rw[List.take_of_length_le (by omega)];rfl
 ·cases h
@[simp] noncomputable def KG:List AV→Option (Prop×AV)|[.pv (.ro a)]=>(dec rowP a).map fun l=>(l.length≤1000000∧(∀n∈l,fR n),.fr 5 (bytesRow (lq l)))|_=>none
theorem NP:aR Tryz.prog 74 KG:=by
 intro ys φ r h hφ;unfold KG at h;split at h
 ·rename_i ra;obtain⟨a,ha,h⟩:=Option.map_eq_some_iff.1 h;cases h;cases bf ha;obtain⟨hl,hn⟩:=hφ;refine aq (af nD (af BW aj)) (by kernel_rfl) (by conv=>lhs;reduce) (by simp) ?_;have wl:IntKind.u64.wrap (a.length:Int)=(a.length:Int):=wrap_u64 (by omega);have l0:(0:Int)≤(a.length:Int):=by omega
  have l1:(a.length:Int)≤18446744073709551615:=by omega
  have hv:=eJ (n:=(a.length:Int)) ⟨by omega,by omega⟩;simp[wl,l0,l1];refine au (fun i:Nat=>i≤a.length) (fun i=>⟨[(0,.pv (.ro (aF a))),(3,.own 8),(4,.pv (.int .i64 i))],[(8,.arr 5 (bytesRow (bd a.length++bg (a.take i))))]⟩) (fun i=>a.length-i) [] 0 (by simp) ?_ ?_;·simp[bg]
  ·rintro i hi;have w2:IntKind.i64.wrap ((i:Int)+1)=(i:Int)+1:=wrap_i64 (by omega);by_cases hlt:i<a.length
   ·have r1:=bM hlt;have ho:=hn _ (List.getElem_mem hlt);have h1:=px ho;have h2:=gp (l:=a.take i) fun n h=>hn n (List.mem_of_mem_take h);rw[List.length_take]at h2;obtain⟨o1,o2,o3⟩:=ho;simp[w2,hlt,r1,aw,o1,o2,o3,mI,j5];first|refine⟨bK _,⟨by omega,by omega,aL _⟩,i+1,by omega,⟨by omega,?_⟩,by omega⟩|refine⟨⟨by omega,by omega,aL _⟩,i+1,by omega,⟨by omega,?_⟩,by omega⟩
    rw[List.take_succ_eq_append_getElem hlt,nV,←List.append_assoc,aM (bd _++_)]
   ·simp[hlt];rw[List.take_of_length_le (by omega)];rfl
 ·cases h
def ar (b:List UInt8):Nat→Int→List Int×Int×Int|0,p=>([],p,0)|k+1,p=>if(ah b p).2.2≠0 then([],0,(ah b p).2.2) else if(ar b k (ah b p).2.1).2.2≠0 then([],0,(ar b k (ah b p).2.1).2.2) else((ah b p).1::(ar b k (ah b p).2.1).1,(ar b k (ah b p).2.1).2.1,0)
def aQ (b:List UInt8) (p:Int) (k:Nat):List Int×Int×Int:=if(ar b k p).2.2≠0 then([],p,(ar b k p).2.2) else ar b k p
def ahead (L:List Int) (q:List Int×Int×Int):List Int×Int×Int:=if q.2.2≠0 then([],0,q.2.2) else(L++q.1,q.2.1,0)
theorem zP (b:List UInt8):∀(k:Nat) (p:Int),(ar b k p).2.2≠0→ar b k p=([],0,(ar b k p).2.2)
 |0,p,h=>absurd rfl h|k+1,p,h=>by
  unfold ar at h ⊢;split;·rfl
  ·split;·rfl
   ·rename_i h1 h2;rw[if_neg h1,if_neg h2]at h;exact absurd rfl h
theorem dp (b:List UInt8):∀(k:Nat) (p:Int),(ar b k p).2.2=0→(ar b k p).1.length=k∧(∀n∈(ar b k p).1,cO n)∧p+k≤(ar b k p).2.1∧(0<k→0≤p∧(ar b k p).2.1≤b.length)
 |0,p,h=>by refine⟨rfl,fun n hn=>?_,by simp[ar],fun h=>absurd h (by omega)⟩;simp[ar]at hn|k+1,p,h=>by
  unfold ar at h ⊢;split at h;·rename_i h1;exact absurd h h1
  ·rename_i h1;rw[if_neg h1];split at h;·rename_i h2;exact absurd h h2
   ·rename_i h2;rw[if_neg h2];have e1:(ah b p).2.2=0:=by simpa using h1
    have e2:(ar b k (ah b p).2.1).2.2=0:=by simpa using h2
    obtain⟨g1,g2,g3,g4⟩:=dp b k _ e2;obtain⟨o1,o2,o3,_⟩:=bT b p;obtain⟨o1,o4,o5⟩:=o1 e1;refine⟨by simp[g1],fun n hn=>?_,by simp only;omega,fun _=>⟨o1,?_⟩⟩
    ·simp only[List.mem_cons]at hn;rcases hn with rfl|hn;·exact⟨o2,o3⟩
     ·exact g2 n hn
    ·by_cases hk:0<k;·exact(g4 hk).2
     ·have:k=0:=by omega
      subst this;exact o5
theorem vU (b:List UInt8) (k:Nat) (p:Int):ahead [] (ar b k p)=ar b k p:=by
 unfold ahead;split;·rename_i h;exact(zP b k p h).symm
 ·rename_i h;have:(ar b k p).2.2=0:=by simpa using h
  rw[←this];rfl
theorem tW (b:List UInt8) (L:List Int) (k:Nat) (p:Int) (h:(ah b p).2.2=0):ahead L (ar b (k+1) p)=ahead (L++[(ah b p).1]) (ar b k (ah b p).2.1):=by
 rw[ar,if_neg (by simpa using h)];by_cases h2:(ar b k (ah b p).2.1).2.2=0;·rw[if_neg (by simpa using h2)];simp[ahead,h2]
 ·rw[if_pos h2];simp[ahead,h2]
theorem wx (b:List UInt8) (L:List Int) (k:Nat) (p:Int) (h:(ah b p).2.2≠0):ahead L (ar b (k+1) p)=([],0,(ah b p).2.2):=by rw[ar,if_pos h];simp[ahead,h]
@[simp] noncomputable def GtA:List AV→Option (Prop×AV)|[.pv (.ro b),.pv (.int .i64 p),.pv (.int .i64 k)]=>(dec di b).map fun l=>(l.length≤1000000000∧-9223372036854775808≤p∧p≤9223372036854775807∧0≤k∧k≤1000,.aS [.fr 22 (bN (aQ l p k.toNat).1),.pv (.int .i64 (aQ l p k.toNat).2.1),.pv (.int .i64 (aQ l p k.toNat).2.2)])|_=>none
theorem sq:aR Tryz.prog 43 GtA:=by
 intro ys φ r h hφ;unfold GtA at h;split at h
 ·rename_i rb p K;obtain⟨b,hb,h⟩:=Option.map_eq_some_iff.1 h;cases h;cases aE hb;obtain⟨hl,hp1,hp2,hk1,hk2⟩:=hφ;obtain⟨k,rfl⟩:=Int.eq_ofNat_of_zero_le hk1;have hkk:((k:Nat):Int).toNat=k:=by simp
  rw[hkk];have hT:aQ b p k=if(ar b k p).2.2≠0 then([],p,(ar b k p).2.2) else ar b k p:=rfl;generalize aQ b p k=T at*;refine aq (af qi aj) (by kernel_rfl) (by conv=>lhs;reduce) (by simp) ?_;simp;refine au (fun x:Nat×Int×List Int=>x.1≤k∧x.2.2.length=x.1∧-9223372036854775808≤x.2.1∧x.2.1≤9223372036854775807∧ar b k p=ahead x.2.2 (ar b (k-x.1) x.2.1)) (fun x=>⟨[(0,.pv (.ro (bytesRow b))),(1,.pv (.int .i64 p)),(6,.own 6),(7,.pv (.int .i64 x.2.1)),(13,.pv (.int .i64 k)),(14,.pv (.int .i64 x.1))],[(6,.arr 22 (bN x.2.2))]⟩) (fun x=>k-x.1) [] (0,p,[]) ?_ ?_ ?_;·exact⟨Nat.zero_le _,rfl,hp1,hp2,by rw[vU];rfl⟩
  ·simp
  ·rintro⟨i,q,L⟩ ⟨hi,hL,hq1,hq2,hG⟩;dsimp only at hi hL hq1 hq2 hG;have w2:IntKind.i64.wrap ((i:Int)+1)=(i:Int)+1:=wrap_i64 (by omega);by_cases hlt:i<k
   ·have hlti:(i:Int)<(k:Int):=by omega
    obtain⟨m,hm⟩:∃m,k-i=m+1:=⟨k-i-1,by omega⟩;rw[hm]at hG;obtain⟨k1,k2,k3,k4,k5⟩:=bT b q;by_cases he:(ah b q).2.2=0;·obtain⟨j1,j2,j3⟩:=k1 he;rw[tW b L m q he]at hG;simp[w2,hlti,hl,hq1,hq2,he,aw];exact⟨⟨by omega,by omega⟩,i+1,(ah b q).2.1,L++[(ah b q).1],⟨by omega,by simp[hL],by omega,by omega,by rw[hG,show k-(i+1)=m from by omega]⟩,⟨⟨rfl,by omega⟩,by rw[n7];rfl⟩,by omega⟩
    ·rw[wx b L m q he]at hG;have hTe:T=([],p,(ah b q).2.2):=by rw[hT,hG];simp[he]
     simp[w2,hlti,hl,hq1,hq2,he,hTe]
   ·have hltn:¬(i:Int)<(k:Int):=by omega
    have hik:k-i=0:=by omega
    rw[hik]at hG;have hTe:T=(L,q,0):=by rw[hT,hG];simp[ahead,ar]
    simp[hltn,hTe]
 ·cases h
theorem uU:aR Tryz.prog 85 GtA:=by
 intro ys φ r h hφ;unfold GtA at h;split at h
 ·rename_i rb p K;obtain⟨b,hb,h⟩:=Option.map_eq_some_iff.1 h;cases h;cases aE hb;obtain⟨hl,hp1,hp2,hk1,hk2⟩:=hφ;obtain⟨k,rfl⟩:=Int.eq_ofNat_of_zero_le hk1;have hkk:((k:Nat):Int).toNat=k:=by simp
  rw[hkk];have hT:aQ b p k=if(ar b k p).2.2≠0 then([],p,(ar b k p).2.2) else ar b k p:=rfl;generalize aQ b p k=T at*;refine aq (af gz aj) (by kernel_rfl) (by conv=>lhs;reduce) (by simp) ?_;simp;refine au (fun x:Nat×Int×List Int=>x.1≤k∧x.2.2.length=x.1∧-9223372036854775808≤x.2.1∧x.2.1≤9223372036854775807∧ar b k p=ahead x.2.2 (ar b (k-x.1) x.2.1)) (fun x=>⟨[(0,.pv (.ro (bytesRow b))),(1,.pv (.int .i64 p)),(2,.pv (.int .i64 k)),(9,.own 9),(10,.pv (.int .i64 x.2.1)),(11,.pv (.int .i64 x.1))],[(9,.arr 22 (bN x.2.2))]⟩) (fun x=>k-x.1) [] (0,p,[]) ?_ ?_ ?_;·exact⟨Nat.zero_le _,rfl,hp1,hp2,by rw[vU];rfl⟩
  ·simp
  ·rintro⟨i,q,L⟩ ⟨hi,hL,hq1,hq2,hG⟩;dsimp only at hi hL hq1 hq2 hG;have w2:IntKind.i64.wrap ((i:Int)+1)=(i:Int)+1:=wrap_i64 (by omega);by_cases hlt:i<k
   ·have hlti:(i:Int)<(k:Int):=by omega
    obtain⟨m,hm⟩:∃m,k-i=m+1:=⟨k-i-1,by omega⟩;rw[hm]at hG;obtain⟨k1,k2,k3,k4,k5⟩:=bT b q;by_cases he:(ah b q).2.2=0;·obtain⟨j1,j2,j3⟩:=k1 he;rw[tW b L m q he]at hG;simp[w2,hlti,hl,hq1,hq2,he,aw];exact⟨⟨by omega,by omega⟩,i+1,(ah b q).2.1,L++[(ah b q).1],⟨by omega,by simp[hL],by omega,by omega,by rw[hG,show k-(i+1)=m from by omega]⟩,⟨⟨rfl,by omega⟩,by rw[n7];rfl⟩,by omega⟩
    ·rw[wx b L m q he]at hG;have hTe:T=([],p,(ah b q).2.2):=by rw[hT,hG];simp[he]
     simp[w2,hlti,hl,hq1,hq2,he,hTe]
   ·have hltn:¬(i:Int)<(k:Int):=by omega
    have hik:k-i=0:=by omega
    rw[hik]at hG;have hTe:T=(L,q,0):=by rw[hT,hG];simp[ahead,ar]
    simp[hltn,hTe]
 ·cases h
def iD:List Int→Pn|[a,b,c]=>⟨a,b,c⟩|_=>⟨0,0,0⟩
def az (b:List UInt8):Nat→Int→Int→List Pn×Int×Int|0,_,q=>([],q,0)|f+1,n,q=>if n≤0 then([],q,0) else if(ar b 3 q).2.2≠0 then([],0,(ar b 3 q).2.2) else if(az b f (n-1) (ar b 3 q).2.1).2.2≠0 then([],0,(az b f (n-1) (ar b 3 q).2.1).2.2) else(iD (ar b 3 q).1::(az b f (n-1) (ar b 3 q).2.1).1,(az b f (n-1) (ar b 3 q).2.1).2.1,0)
def cm (b:List UInt8) (p:Int):List Pn×Int×Int:=if(ah b p).2.2≠0 then([],p,(ah b p).2.2) else if(az b (b.length+1) (ah b p).1 (ah b p).2.1).2.2≠0 then([],p,(az b (b.length+1) (ah b p).1 (ah b p).2.1).2.2) else if eQ (az b (b.length+1) (ah b p).1 (ah b p).2.1).1=false then([],p,2) else az b (b.length+1) (ah b p).1 (ah b p).2.1
def dM (L:List Pn) (q:List Pn×Int×Int):List Pn×Int×Int:=if q.2.2≠0 then([],0,q.2.2) else(L++q.1,q.2.1,0)
theorem zF (b:List UInt8):∀(k:Nat) (n p:Int),(az b k n p).2.2≠0→az b k n p=([],0,(az b k n p).2.2)
 |0,n,p,h=>absurd rfl h|k+1,n,p,h=>by
  unfold az at h ⊢;split;·rename_i h0;rw[if_pos h0]at h;exact absurd rfl h
  ·rename_i h0;rw[if_neg h0]at h;split;·rfl
   ·split;·rfl
    ·rename_i h1 h2;rw[if_neg h1,if_neg h2]at h;exact absurd rfl h
theorem kr (b:List UInt8) (k:Nat) (n p:Int):dM [] (az b k n p)=az b k n p:=by
 unfold dM;split;·rename_i h;exact(zF b k n p h).symm
 ·rename_i h;have:(az b k n p).2.2=0:=by simpa using h
  rw[←this];rfl
theorem jt (b:List UInt8) (L:List Pn) (k:Nat) (n p:Int) (hn:0<n) (h:(ar b 3 p).2.2=0):dM L (az b (k+1) n p)=dM (L++[iD (ar b 3 p).1]) (az b k (n-1) (ar b 3 p).2.1):=by
 rw[az,if_neg (by omega),if_neg (by simpa using h)];by_cases h2:(az b k (n-1) (ar b 3 p).2.1).2.2=0;·rw[if_neg (by simpa using h2)];simp[dM,h2]
 ·rw[if_pos h2];simp[dM,h2]
theorem kS (b:List UInt8) (L:List Pn) (k:Nat) (n p:Int) (hn:0<n) (h:(ar b 3 p).2.2≠0):dM L (az b (k+1) n p)=([],0,(ar b 3 p).2.2):=by rw[az,if_neg (by omega),if_pos h];simp[dM,h]
theorem kj (b:List UInt8) (L:List Pn) (k:Nat) (n p:Int) (hn:n≤0):dM L (az b k n p)=(L,p,0):=by cases k with|zero=>simp[az,dM]|succ k=>rw[az,if_pos hn];simp[dM]
theorem eB {b:List UInt8}{q:Int} (h:(ar b 3 q).2.2=0):∃x y z,(ar b 3 q).1=[x,y,z]∧cO x∧cO y∧cO z:=by obtain⟨h1,h2,_⟩:=dp b 3 q h;match hl:(ar b 3 q).1,h1 with|[x,y,z],_=>rw[hl]at h2;exact⟨x,y,z,rfl,h2 x (by simp),h2 y (by simp),h2 z (by simp)⟩
@[simp] noncomputable def V9:List AV→Option (Prop×AV)|[.pv (.ro b),.pv (.int .i64 p)]=>(dec di b).map fun l=>(l.length≤100000000∧-9223372036854775808≤p∧p≤9223372036854775807,.aS [.fr 205 (aF (cm l p).1),.pv (.int .i64 (cm l p).2.1),.pv (.int .i64 (cm l p).2.2)])|_=>none
theorem Uu:aR Tryz.prog 124 V9:=by
 intro ys φ r h hφ;unfold V9 at h;split at h
 ·rename_i rb p;obtain⟨b,hb,h⟩:=Option.map_eq_some_iff.1 h;cases h;cases aE hb;obtain⟨hl8,hp1,hp2⟩:=hφ;have hl:b.length≤1000000000:=by omega
  refine aq (af gz (af uU (af AD aj))) (by kernel_rfl) (by conv=>lhs;reduce) (by simp) ?_;by_cases he:(ah b p).2.2=0
  ·have hT:cm b p=if(az b (b.length+1) (ah b p).1 (ah b p).2.1).2.2≠0 then([],p,(az b (b.length+1) (ah b p).1 (ah b p).2.1).2.2) else if eQ (az b (b.length+1) (ah b p).1 (ah b p).2.1).1=false then([],p,2) else az b (b.length+1) (ah b p).1 (ah b p).2.1:=by unfold cm;rw[if_neg (by simpa using he)]
   obtain⟨k1,k2,k3,k4,k5⟩:=bT b p;obtain⟨j1,j2,j3⟩:=k1 he;generalize hP:cm b p=T at*;simp[hl,hp1,hp2,he];generalize(ah b p).1=n at*;generalize(ah b p).2.1=q0 at*;refine au (fun x:Nat×Int×List Pn=>(x.2.2.length:Int)≤n∧0≤x.2.1∧x.2.1≤b.length∧(b.length:Int)<x.1+x.2.1∧x.2.2.length≤x.2.1∧az b (b.length+1) n q0=dM x.2.2 (az b x.1 (n-x.2.2.length) x.2.1)) (fun x=>⟨[(0,.pv (.ro (bytesRow b))),(1,.pv (.int .i64 p)),(7,.pv (.int .u64 n)),(8,.pv (.int .i64 x.2.1)),(10,.own 10)],[(10,.arr 205 (aF x.2.2))]⟩) (fun x=>(b.length-x.2.1).toNat) [] (b.length+1,q0,[]) ?_ ?_ ?_;·exact⟨by simpa using k2,by show 0≤q0;omega,j3,by simp;omega,by simp;omega,by rw[kr];simp⟩
   ·simp
   ·rintro⟨f,q,acc⟩ ⟨hn,hq0,hq1,hf,hacc,hG⟩;dsimp only at hn hq0 hq1 hf hacc hG;have wl:IntKind.u64.wrap (acc.length:Int)=(acc.length:Int):=wrap_u64 (by omega);have hq2:-9223372036854775808≤q:=by omega
    have hq3:q≤9223372036854775807:=by omega
    by_cases hlt:(acc.length:Int)<n
    ·obtain⟨f,rfl⟩:∃g,f=g+1:=⟨f-1,by omega⟩;have h3:(3:Int).toNat=3:=rfl;by_cases h0:(ar b 3 q).2.2=0
     ·obtain⟨x,y,z,hx,o1,o2,o3⟩:=eB h0;obtain⟨_,_,g3,g4⟩:=dp b 3 q h0;have g4:=(g4 (by omega)).2;have hA:aQ b q 3=([x,y,z],(ar b 3 q).2.1,0):=by unfold aQ;rw[if_neg (by simpa using h0),←hx,←h0]
      rw[jt b acc f (n-acc.length) q (by omega) h0,hx]at hG;have hr:bN [x,y,z]=[[.int .u64 x],[.int .u64 y],[.int .u64 z]]:=rfl;have r0:rowAt [[PV.int .u64 x],[.int .u64 y],[.int .u64 z]] 0=[.int .u64 x]:=rfl;have r1:rowAt [[PV.int .u64 x],[.int .u64 y],[.int .u64 z]] 1=[.int .u64 y]:=rfl;have r2:rowAt [[PV.int .u64 x],[.int .u64 y],[.int .u64 z]] 2=[.int .u64 z]:=rfl;simp[wl,hlt,hl,hq2,hq3,h3,hA,hr,aw,r0,r1,r2];refine⟨by omega,f,(ar b 3 q).2.1,acc++[iD [x,y,z]],?_⟩;have hlen:((acc++[iD [x,y,z]]).length:Int)=acc.length+1:=by simp
      have hi:n-((acc++[iD [x,y,z]]).length:Int)=n-acc.length-1:=by omega
      refine⟨⟨by omega,by omega,g4,by omega,by omega,by rw[hi];exact hG⟩,⟨rfl,?_⟩,by omega⟩;rw[eH];rfl
     ·have hA:aQ b q 3=([],q,(ar b 3 q).2.2):=by unfold aQ;rw[if_pos h0]
      rw[kS b acc f _ q (by omega) h0]at hG;have hTe:T=([],p,(ar b 3 q).2.2):=by rw[hT,hG];simp[h0]
      simp[wl,hlt,hl,hq2,hq3,h3,hA,h0,hTe]
    ·have hle:n-acc.length≤0:=by omega
     rw[kj b acc f _ q hle]at hG;have ha9:acc.length≤1000000000:=by omega
     by_cases hrs:eQ acc=false
     ·have hTe:T=([],p,2):=by rw[hT,hG];simp[hrs]
      simp[wl,hlt,ha9,hrs,hTe]
     ·have hrs':eQ acc=true:=by simpa using hrs
      have hTe:T=(acc,q,0):=by rw[hT,hG];simp[hrs']
      simp[wl,hlt,ha9,hrs',hTe]
  ·have hT:cm b p=([],p,(ah b p).2.2):=by unfold cm;rw[if_pos he]
   simp[hl,hp1,hp2,he,hT]
 ·cases h
def FX (p:Int) (R:List Pn×Int×Int):List Pn×Int×Int:=if R.2.2≠0 then([],p,R.2.2) else if eQ R.1=false then([],p,2) else R
theorem EN (b:List UInt8) (p:Int) (h:(ah b p).2.2=0):cm b p=FX p (az b (b.length+1) (ah b p).1 (ah b p).2.1):=by unfold cm;rw[if_neg (by simpa using h)];rfl
def F4:List Pn→List (Nat×AO)|[]=>[(4,.box [.pv .nil])]|x::l=>[(4,.box [.own 44]),(44,.arr 177 (aF (x::l)))]
@[simp] noncomputable def Zt:List AV→Option (Prop×AV)|[.pv (.ro b),.pv (.int .i64 p)]=>(dec di b).map fun l=>(l.length≤100000000∧-9223372036854775808≤p∧p≤9223372036854775807,.aS [.agg [.fr 177 (aF (cm l p).1)],.pv (.int .i64 (cm l p).2.1),.pv (.int .i64 (cm l p).2.2)])|_=>none
theorem XH:aR Tryz.prog 82 Zt:=by
 intro ys φ r h hφ;unfold Zt at h;split at h
 ·rename_i rb p;obtain⟨b,hb,h⟩:=Option.map_eq_some_iff.1 h;cases h;cases aE hb;obtain⟨hl8,hp1,hp2⟩:=hφ;have hl:b.length≤1000000000:=by omega
  refine aq (af qi (af sq (af zr aj))) (by kernel_rfl) (by conv=>lhs;reduce) (by simp) ?_;obtain⟨k1,k2,k3,k4,k5⟩:=bT b p;have hT1:=EN b p;have hT2:(ah b p).2.2≠0→cm b p=([],p,(ah b p).2.2):=fun h=>by unfold cm;rw[if_pos h]
  generalize hP:cm b p=T at*;simp[hl,hp1,hp2];generalize(ah b p).1=n at*;generalize(ah b p).2.1=q0 at*;generalize(ah b p).2.2=e0 at*;have h3:(3:Int).toNat=3:=rfl;have hinf:(Tryz.prog.info? 177).isSome=true:=by kernel_rfl
  refine au (fun x:Nat×Int×List Pn×Int×Int=>0≤x.2.2.2.1∧x.2.2.2.1≤18446744073709551615∧-9223372036854775808≤x.2.1∧x.2.1≤9223372036854775807∧(x.2.2.2.2=0→T=FX p (dM x.2.2.1 (az b x.1 x.2.2.2.1 x.2.1))∧0≤x.2.1∧x.2.1≤b.length∧(b.length:Int)<x.1+x.2.1∧(x.2.2.1.length:Int)≤x.2.1)∧(x.2.2.2.2≠0→T=([],p,x.2.2.2.2))) (fun x=>⟨[(0,.pv (.ro (bytesRow b))),(1,.pv (.int .i64 p)),(4,.ptr 4 0),(5,.pv (.int .i64 x.2.1)),(6,.pv (.int .i64 x.2.2.2.2)),(7,.pv (.int .u64 x.2.2.2.1))],F4 x.2.2.1⟩) (fun x=>if x.2.2.2.2=0 then(b.length-x.2.1).toNat+1 else 0) [] (b.length+1,q0,[],n,e0) ?_ ?_ ?_
  ·refine⟨k2,k3,?_,?_,fun h=>⟨?_,?_⟩,hT2⟩
   ·show-9223372036854775808≤q0;by_cases he:e0=0;·have:=k1 he;omega
    ·have:=k4 he;omega
   ·show q0≤9223372036854775807;by_cases he:e0=0;·have:=k1 he;omega
    ·have:=k4 he;omega
   ·rw[kr];exact hT1 h
   ·have:=k1 h;exact⟨by show 0≤q0;omega,by show q0≤b.length;omega,by show(b.length:Int)<(b.length+1:Nat)+q0;omega,by show(0:Int)≤q0;omega⟩
  ·simp[F4]
  ·rintro⟨f,q,acc,m,e⟩ ⟨hm0,hm1,hq1,hq2,hz,hnz⟩;dsimp only at hm0 hm1 hq1 hq2 hz hnz;by_cases he:e=0
   ·subst he;obtain⟨hG,g1,g2,g3,g4⟩:=hz rfl;clear hz hnz;have hacc:acc.length≤1000000000:=by omega
    by_cases hlt:0<m
    ·obtain⟨f,rfl⟩:∃g,f=g+1:=⟨f-1,by omega⟩;have wl:IntKind.u64.wrap (m-1)=m-1:=wrap_u64 (by omega);by_cases h0:(ar b 3 q).2.2=0
     ·obtain⟨x,y,z,hx,o1,o2,o3⟩:=eB h0;obtain⟨_,_,i3,i4⟩:=dp b 3 q h0;have i4:=(i4 (by omega)).2;have hA:aQ b q 3=([x,y,z],(ar b 3 q).2.1,0):=by unfold aQ;rw[if_neg (by simpa using h0),←hx,←h0]
      rw[jt b acc f m q hlt h0,hx]at hG;have hr:bN [x,y,z]=[[.int .u64 x],[.int .u64 y],[.int .u64 z]]:=rfl;have r0:rowAt [[PV.int .u64 x],[.int .u64 y],[.int .u64 z]] 0=[.int .u64 x]:=rfl;have r1:rowAt [[PV.int .u64 x],[.int .u64 y],[.int .u64 z]] 1=[.int .u64 y]:=rfl;have r2:rowAt [[PV.int .u64 x],[.int .u64 y],[.int .u64 z]] 2=[.int .u64 z]:=rfl;cases acc with
      |nil=>
       simp[wl,hlt,hl,hq1,hq2,h3,hA,hr,aw,r0,r1,r2,hinf,F4];refine⟨f,(ar b 3 q).2.1,[iD [x,y,z]],m-1,0,⟨by omega,by omega,by omega,by omega,fun _=>⟨hG,by omega,i4,by omega,by simp;omega⟩,fun h=>absurd rfl h⟩,⟨⟨?_,rfl,rfl,rfl⟩,?_⟩,?_⟩;·simp
       ·simp[aF,rowP,iD]
       ·rw[if_pos rfl];omega|cons c acc=>
       simp[wl,hlt,hl,hq1,hq2,h3,hA,hr,aw,r0,r1,r2,hinf,F4];simp only[List.length_cons]at hacc g4;refine⟨⟨by omega,by omega⟩,f,(ar b 3 q).2.1,c::(acc++[iD [x,y,z]]),m-1,0,⟨by omega,by omega,by omega,by omega,fun _=>⟨hG,by omega,i4,by omega,by simp;omega⟩,fun h=>absurd rfl h⟩,⟨⟨?_,rfl,rfl,rfl⟩,?_⟩,?_⟩;·simp
       ·simp[aF,rowP,iD]
       ·rw[if_pos rfl];omega
     ·have hA:aQ b q 3=([],q,(ar b 3 q).2.2):=by unfold aQ;rw[if_pos h0]
      rw[kS b acc f m q hlt h0]at hG;have hTe:T=([],p,(ar b 3 q).2.2):=by rw[hG];simp[FX,h0]
      cases acc with|nil=>
       simp[wl,hlt,hl,hq1,hq2,h3,hA,h0,hinf,F4];refine⟨f,q,[],m,(ar b 3 q).2.2,⟨hm0,hm1,hq1,hq2,fun h=>absurd h h0,fun _=>hTe⟩,⟨⟨?_,rfl,rfl,rfl⟩,?_⟩,?_⟩;·simp
       ·simp
       ·rw[if_neg h0];omega|cons c acc=>
       simp[wl,hlt,hl,hq1,hq2,h3,hA,h0,hinf,F4];refine⟨f,q,c::acc,m,(ar b 3 q).2.2,⟨hm0,hm1,hq1,hq2,fun h=>absurd h h0,fun _=>hTe⟩,⟨⟨?_,rfl,rfl,rfl⟩,?_⟩,?_⟩;·simp
       ·simp
       ·rw[if_neg h0];omega
    ·rw[kj b acc f m q (by omega)]at hG;by_cases hrs:eQ acc=false
     ·have hTe:T=([],p,2):=by rw[hG];simp[FX,hrs]
      cases acc with|nil=>cases hrs|cons c acc=>simp[hlt,hacc,hrs,hTe,hinf,F4];simp only[List.length_cons]at hacc;omega
     ·have hrs':eQ acc=true:=by simpa using hrs
      have hTe:T=(acc,q,0):=by rw[hG];simp[FX,hrs']
      cases acc with|nil=>simp[hlt,hacc,hrs',hTe,hinf,F4]|cons c acc=>simp[hlt,hacc,hrs',hTe,hinf,F4];simp only[List.length_cons]at hacc;omega
   ·have hTe:=hnz he;cases acc with|nil=>simp[he,hTe,hinf,F4]|cons c acc=>simp[he,hTe,hinf,F4]
 ·cases h
def GV (n u s:Int):Bool:=decide (u+s<n)
@[simp] noncomputable def GPast:List AV→Option (Prop×AV)|[.pv (.int .u64 n),.pv (.int .u64 u),.pv (.int .u64 s)]=>some (cO n∧cO u∧cO s,.pv (.bool (GV n u s)))|_=>none
@[simp] noncomputable def GLv1:List AV→Option (Prop×AV)|[.agg [.pv (.int .u64 a),.pv (.int .u64 b),.pv (.int .u64 c)],.rp [.int .u64 n],.rp [.int .u64 s]]=>some (cO n∧cO c∧cO s,.pv (.bool (GV n c s)))|_=>none
def Lf (n s:Int) (e:Pn):Bool:=GV n e.u s
@[simp] noncomputable def GIxL:List AV→Option (Prop×AV)|[.pv (.ro a),.bZ f [.rp [.int .u64 n],.rp [.int .u64 s]]]=>if f=234 then(dec rowP a).map fun l=>(l.length≤1000000000∧cO n∧cO s∧∀e∈l,cO e.u,.pv (.int .i64 (Yz (Lf n s) l))) else none|_=>none
def Aq (l:List Pn) (n s:Int):List Pn:=l.filter fun e=>!Lf n s e
@[simp] noncomputable def GdelP:List AV→Option (Prop×AV)|[.fr e a,.bZ f [.rp [.int .u64 n],.rp [.int .u64 s]]]=>if e=177∧f=234 then(dec rowP a).map fun l=>(l.length≤1000000∧cO n∧cO s∧∀e∈l,cO e.u,.fr 177 (aF (Aq l n s))) else none|_=>none
@[simp] noncomputable def GpLive:List AV→Option (Prop×AV)|[.agg [.pv (.ro a)],.pv (.int .u64 n),.pv (.int .u64 s)]=>(dec rowP a).map fun l=>(l.length≤1000000∧cO n∧cO s∧∀e∈l,cO e.u,.agg [.fr 177 (aF (Aq l n s))])|_=>none
@[simp] noncomputable def GrLive:List AV→Option (Prop×AV)|[.pv (.ro a),.pv (.int .u64 n),.pv (.int .u64 s)]=>(dec rowP a).map fun l=>(l.length≤1000000∧cO n∧cO s∧∀e∈l,cO e.u,.fr 205 (aF (Aq l n s)))|_=>none
def Em (l:List Pn) (e:Pn):List Pn×Int:=if eQ (l++[e])=true then(l++[e],0) else([],2)
@[simp] noncomputable def GpAdd:List AV→Option (Prop×AV)|[.agg [.pv (.ro a)],.agg [.pv (.int .u64 x),.pv (.int .u64 y),.pv (.int .u64 z)]]=>(dec rowP a).map fun l=>(l.length≤1000000,.aS [.agg [.fr 177 (aF (Em l ⟨x,y,z⟩).1)],.pv (.int .i64 (Em l ⟨x,y,z⟩).2)])|_=>none
@[simp] noncomputable def GrAdd:List AV→Option (Prop×AV)|[.pv (.ro a),.agg [.pv (.int .u64 x),.pv (.int .u64 y),.pv (.int .u64 z)]]=>(dec rowP a).map fun l=>(l.length≤1000000,.aS [.fr 205 (aF (Em l ⟨x,y,z⟩).1),.pv (.int .i64 (Em l ⟨x,y,z⟩).2)])|_=>none
def TQ (n:Int):List Pn→List Pn|[]=>[]|e::l=>if e.i=n then l else e::TQ n l
def hasI (l:List Pn) (n:Int):Bool:=l.any fun e=>decide (e.i=n)
def El (l:List Pn) (n:Int):List Pn×Int:=if hasI l n=true then(TQ n l,0) else([],80)
@[simp] noncomputable def GGrow:List AV→Option (Prop×AV)|[.pv .nil,.pv (.int .i64 n)]=>some (0≤n∧n≤1000000,.fr 177 [])|_=>none
@[simp] noncomputable def GCat:List AV→Option (Prop×AV)|[.pv (.ro [[.ro a],[.ro b]])]=>(dec rowP a).bind fun la=>(dec rowP b).map fun lb=>(la.length≤100000∧lb.length≤100000,.fr 177 (aF (la++lb)))|_=>none
@[simp] noncomputable def GpRem:List AV→Option (Prop×AV)|[.agg [.pv (.ro a)],.pv (.int .u64 n)]=>(dec rowP a).map fun l=>(l.length≤100000,.aS [.agg [.fr 177 (aF (El l n).1)],.pv (.int .i64 (El l n).2)])|_=>none
@[simp] noncomputable def GrRem:List AV→Option (Prop×AV)|[.pv (.ro a),.pv (.int .u64 n)]=>(dec rowP a).map fun l=>(l.length≤100000,.aS [.fr 205 (aF (El l n).1),.pv (.int .i64 (El l n).2)])|_=>none
def ofP (l:List Pn) (n:Int):Bool:=l.any fun e=>decide (e.v=n)
@[simp] noncomputable def GpOf:List AV→Option (Prop×AV)|[.agg [.pv (.ro a)],.pv (.int .u64 n)]=>(dec rowP a).map fun l=>(l.length≤1000000000,.pv (.bool (ofP l n)))|_=>none
@[simp] noncomputable def GrOf:List AV→Option (Prop×AV)|[.pv (.ro a),.pv (.int .u64 n)]=>(dec rowP a).map fun l=>(l.length≤1000000000,.pv (.bool (ofP l n)))|_=>none
end Go.Proofs.YtifcndkhigakfaaGreat.Ab
namespace Go.Proofs.YtifcndkhigakfaaGreat.Ab
open Go Go.RowKit
section
variable{P:Program}{Γ:bR}
theorem ax {α:Type}{o:Option α}{K K':α→Prop} (h:∀x,K x→K' x) (hs:ai o K):ai o K':=by cases o with|none=>exact hs|some x=>exact h x hs
theorem pA {d:Option Nat}{f:FuncId}{xs:List AV}{aa:Nat→Option AO}{C C':bE→Prop} (h:∀e,C e→C' e) (hs:cH P Γ d f xs aa C):cH P Γ d f xs aa C':=by unfold cH at hs ⊢;refine ax (fun d hs=>⟨hs.1,ax (fun ys hs=>ax (fun x hs=>?_) hs) hs.2⟩) hs;exact⟨hs.1,hs.2.1,hs.2.2.1,hs.2.2.2.1,h _ hs.2.2.2.2⟩
theorem lV {i:AI}{K K':St→Prop} (h:∀st,K st→K' st) {st:St} (hs:cZ P Γ i K st):cZ P Γ i K' st:=by obtain⟨e,he,hk⟩:=cA.1 hs;exact cA.2 ⟨e,he,h _ hk⟩
theorem th {i:AI}{f:FuncId}{K K':St→Prop} (h:∀st,K st→K' st) {st:St} (hs:lI P Γ i f K st):lI P Γ i f K' st:=by
 unfold lI at hs ⊢;refine ax (fun ys hs=>ax (fun x hs=>?_) hs) hs;split at hs;·rename_i hc;rw[if_pos hc];exact pA (fun e he=>h _ he) hs
 ·rename_i hc;rw[if_neg hc];exact lV h hs
theorem nM {b f:Bool}{A B A' B':Prop} (hA:A→A') (hB:B→B') (h:il b f A B):il b f A' B':=by cases b with|false=>exact hA h|true=>cases f with|false=>exact hA h|true=>exact hB h
theorem sF {i:AI}{K K':St→Prop} (h:∀st,K st→K' st) {st:St} (hs:cr P Γ i K st):cr P Γ i K' st:=by
 unfold cr at hs ⊢;split at hs;·exact lV h hs
 ·exact nM (lV h) (h _) hs
theorem rI {i:AI}{K K':St→Prop} (h:∀st,K st→K' st) {st:St} (hs:jI P Γ i K st):jI P Γ i K' st:=by
 have hE:∀{st:St}{d:Option Nat}{x:XK}{xs:List AV},aX d x xs K st→aX d x xs K' st:=by
  intro st d x xs hs;unfold aX at hs ⊢;split at hs;·exact ax (fun d hs=>⟨hs.1,h _ hs.2⟩) hs
  ·exact⟨hs.1,ax (fun es hs=>⟨hs.1,hs.2.1,hs.2.2.1,h _ hs.2.2.2⟩) hs.2⟩
  ·exact⟨hs.1,ax (fun es hs=>⟨hs.1,hs.2.1,h _ hs.2.2⟩) hs.2⟩
  ·unfold vI at hs ⊢;split at hs;·exact⟨hs.1,hs.2.1,h _ hs.2.2⟩
   ·exact hs
  ·exact⟨hs.1,ax (fun rows hs b hb=>h _ (hs b hb)) hs.2⟩
  ·exact⟨hs.1,h _ hs.2⟩
  ·unfold mh at hs ⊢;split at hs;·exact ax (fun d hs=>⟨hs.1,hs.2.1,hs.2.2.1,h _ hs.2.2.2⟩) hs
   ·exact hs
  ·exact ax (fun d hs=>⟨hs.1,hs.2.1,hs.2.2.1,h _ hs.2.2.2⟩) hs
  ·unfold Bd at hs ⊢;split at hs;·exact ax (fun d hs=>⟨hs.1,hs.2.1,hs.2.2.1,h _ hs.2.2.2⟩) hs
   ·exact hs
  ·exact⟨hs.1,hs.2.1,hs.2.2.1,hs.2.2.2.1,h _ hs.2.2.2.2⟩
  ·exact⟨hs.1,ax (fun r hs=>⟨hs.1,h _ hs.2⟩) hs.2⟩
  ·unfold uT at hs ⊢;split at hs
   ·unfold vJ at hs ⊢;split at hs;·exact⟨hs.1,ax (fun r hs=>⟨hs.1,hs.2.1,h _ hs.2.2⟩) hs.2⟩
    ·exact hs
   ·unfold s8 at hs ⊢;split at hs;·exact⟨hs.1,ax (fun r hs=>ax (fun j hs=>ax (fun s hs=>ax (fun ps hs=>h _ hs) hs) hs) hs) hs.2⟩
    ·exact hs
   ·exact ax (fun d hs=>⟨hs.1,h _ hs.2⟩) hs
   ·unfold qH at hs ⊢;split at hs;·exact⟨hs.1,ax (fun r hs=>⟨hs.1,hs.2.1,h _ hs.2.2⟩) hs.2⟩
    ·exact hs
   ·unfold vW at hs ⊢;split at hs;·exact⟨hs.1,ax (fun r hs=>⟨hs.1,hs.2.1,hs.2.2.1,h _ hs.2.2.2⟩) hs.2⟩
    ·exact hs
   ·unfold wH at hs ⊢;split at hs;·exact⟨hs.1,ax (fun r hs=>⟨hs.1,hs.2.1,h _ hs.2.2⟩) hs.2⟩
    ·exact hs
   ·exact⟨hs.1,ax (fun r hs=>h _ hs) hs.2⟩
   ·unfold xj at hs ⊢;split at hs;·exact ax (fun d hs=>⟨hs.1,hs.2.1,h _ hs.2.2⟩) hs
    ·exact hs
   ·unfold vR at hs ⊢;split at hs;·exact⟨hs.1,ax (fun r hs=>⟨fun e=>h _ (hs.1 e),fun e l m q=>h _ (hs.2 e l m q)⟩) hs.2⟩
    ·exact hs
   ·unfold wA at hs ⊢;split at hs;·exact⟨hs.1,ax (fun r hs=>ax (fun e hs=>h _ hs) hs) hs.2⟩
    ·exact hs
   ·unfold qu at hs ⊢;exact ax (fun d hs=>⟨hs.1,ax (fun r hs=>⟨hs.1,hs.2.1,h _ hs.2.2⟩) hs.2⟩) hs
   ·exact hs
 unfold jI at hs ⊢;split at hs;·exact hE hs
 ·unfold Ce at hs ⊢;refine ax (fun c hs=>?_) hs;split at hs;·rename_i h1;rw[if_pos h1];exact hE hs
  ·rename_i h1;rw[if_neg h1];exact h _ hs
 ·exact sF h hs
 ·rename_i e sz zs e1 e2;unfold oH at hs ⊢;exact⟨hs.1,ax (fun X hs=>ax (fun r hs=>h _ hs) hs) hs.2⟩
 ·unfold DM lW at hs ⊢;split at hs
  ·split at hs
   ·rename_i h0;rw[if_pos h0];refine ax (fun c hs=>?_) hs;split at hs;·rename_i h2;rw[if_pos h2];exact gw h hs
    ·rename_i h2;rw[if_neg h2];exact h _ hs
   ·exact hs.elim
  refine nM (fun hs=>?_) (h _) hs;refine ax (fun c hs=>ax (fun ys hs=>ax (fun x hs=>?_) hs) hs) hs;split at hs
  ·rename_i h1;rw[if_pos h1];split at hs;·rename_i h2;rw[if_pos h2];exact th h hs
   ·rename_i h2;rw[if_neg h2];exact h _ hs
  ·rename_i h1;rw[if_neg h1];exact lV h hs
 ·unfold fW at hs ⊢;split at hs
  ·refine⟨hs.1,ax (fun x hs=>⟨hs.1,?_⟩) hs.2⟩;have hs:=hs.2;unfold eT at hs ⊢;split at hs
   ·split at hs;·rename_i h1;rw[if_pos h1];exact gw h hs
    ·exact hs.elim
   ·exact pA (fun e he=>h _ he) hs
  ·refine nM (fun hs=>?_) (h _) hs;unfold pJ at hs ⊢;refine ax (fun c hs=>ax (fun x hs=>⟨hs.1,?_⟩) hs) hs;have hs:=hs.2;unfold iz at hs ⊢;split at hs
   ·split at hs
    ·rename_i h1;rw[if_pos h1];split at hs;·rename_i h2;rw[if_pos h2];exact⟨hs.1,gw h hs.2⟩
     ·rename_i h2;rw[if_neg h2];exact h _ hs
    ·exact hs.elim
   unfold yU at hs ⊢;exact ax (fun ys hs=>ax (fun x hs=>⟨hs.1,hs.2.1,hs.2.2.1,hs.2.2.2.1,hs.2.2.2.2.1,h _ hs.2.2.2.2.2⟩) hs) hs
 ·unfold gZ at hs ⊢;split at hs
  ·split at hs;·rename_i h1;rw[if_pos h1];unfold yR at hs ⊢;exact ax (fun d hs=>⟨hs.1,ax (fun ys hs=>ax (fun x hs=>⟨hs.1,hs.2.1,hs.2.2.1,hs.2.2.2.1,h _ hs.2.2.2.2⟩) hs) hs.2⟩) hs
   ·rename_i h1;rw[if_neg h1];split at hs;·rename_i h2;rw[if_pos h2];exact gw h hs
    rename_i h2;rw[if_neg h2];unfold lp at hs ⊢;refine ax (fun d hs=>⟨hs.1,ax (fun X hs=>ax (fun T hs=>⟨hs.1,ax (fun ys hs=>ax (fun x hs=>?_) hs) hs.2⟩) hs) hs.2⟩) hs;exact⟨hs.1,hs.2.1,hs.2.2.1,hs.2.2.2.1,h _ hs.2.2.2.2⟩
  ·exact th h hs
 ·exact lV h hs
 ·exact sF h hs
theorem uk {i:AI}{K K':St→Prop} (h:∀st,K st→K' st) {st:St} (hs:b9 P Γ i K st):b9 P Γ i K' st:=by
 unfold b9 at hs ⊢;split at hs
 ·split at hs;·rename_i h1;rw[if_pos h1];exact⟨hs.1,ax (fun r hs=>⟨hs.1,hs.2.1,h _ hs.2.2⟩) hs.2⟩
  ·rename_i h1;rw[if_neg h1];exact rI h hs
 ·exact rI h hs
theorem mw {K K':St→Prop} (h:∀st,K st→K' st):∀{is:List AI}{st:St},cW P Γ is K st→cW P Γ is K' st|[],st,hs=>h st hs|i::is,st,hs=>uk (fun st hs=>mw h hs) hs
theorem zL {K K':St→Prop} (h:∀st,K st→K' st):∀{is:List AI}{st:St},steps P Γ is K st→steps P Γ is K' st|[],st,hs=>h st hs|i::is,st,hs=>iW (fun st hs=>zL h hs) hs
theorem fH:∀{a:AC}{K K':St→Prop}{J J':Exit→St→Prop}{st:St},(∀st,K st→K' st)→(∀e st,J e st→J' e st)→iC P Γ a K J st→iC P Γ a K' J' st
 |.skip,_,_,_,_,st,h,_,hs=>h st hs|.Ib is d c7,_,_,_,_,st,h,_,hs=>by
  unfold iC at hs ⊢;split at hs;·rename_i hd;rw[if_pos hd];exact zL (fun st hs=>h _ hs) hs
  ·rename_i hd;rw[if_neg hd];exact mw (fun st hs=>h _ hs) hs|.seq a b,_,_,_,_,st,h,hj,hs=>fH (a:=a) (fun st hs=>fH (a:=b) h hj hs) hj hs|.cond x a b,_,_,_,_,st,h,hj,hs=>ax (fun c hs=>⟨fun e=>fH (a:=a) h hj (hs.1 e),fun e=>fH (a:=b) h hj (hs.2 e)⟩) (show ai _ _ from hs)|.block id a,K,K',J,J',st,h,hj,hs=>fH (a:=a) h (fun e st hs=>by cases e with
   |exit id'=>
    simp only[qY]at hs ⊢;split at hs;·rename_i h1;rw[if_pos h1];exact h _ hs
    ·rename_i h1;rw[if_neg h1];exact hj _ _ hs|_=>exact hj _ _ hs) (show iC P Γ a K (qY id K J) st from hs)|.loop a,_,_,_,_,st,h,hj,hs=>by obtain⟨ι,F,μ,ad,shs,i0,hw,hr⟩:=hs;exact⟨ι,F,μ,ad,shs,i0,hw,fun i=>fH (a:=a) (fun st hs=>hs) hj (hr i)⟩|.exit id,_,_,_,_,st,_,hj,hs=>hj _ _ hs|.ret,_,_,_,_,st,_,hj,hs=>hj _ _ hs
theorem ag {a b:AC}{K:St→Prop}{J:Exit→St→Prop}{st:St} (vs:List (Nat×AV)) (os:List (Nat×AO)) (h1:iC P Γ a (fun st'=>st'=⟨look vs,ab os⟩) J st) (h2:iC P Γ b K J ⟨look vs,ab os⟩):iC P Γ (.seq a b) K J st:=fH (a:=a) (fun st' (hs:st'=_)=>by rw[hs];exact h2) (fun _ _ h=>h) h1
theorem cz {x:Operand}{a b:AC}{K:St→Prop}{J:Exit→St→Prop}{vs:List (Nat×AV)}{os:List (Nat×AO)} (h:ja (ev (look vs) x)=some true) (h1:iC P Γ a K J ⟨look vs,ab os⟩):iC P Γ (.cond x a b) K J ⟨look vs,ab os⟩:=by rw[R.zQ,h];exact⟨fun _=>h1,fun e=>Bool.noConfusion e⟩
theorem c8 {x:Operand}{a b:AC}{K:St→Prop}{J:Exit→St→Prop}{vs:List (Nat×AV)}{os:List (Nat×AO)} (h:ja (ev (look vs) x)=some false) (h1:iC P Γ b K J ⟨look vs,ab os⟩):iC P Γ (.cond x a b) K J ⟨look vs,ab os⟩:=by rw[R.zQ,h];exact⟨fun e=>Bool.noConfusion e,fun _=>h1⟩
theorem Gl {a:AC}{K:St→Prop}{J:Exit→St→Prop}{st:St} (vs:List (Nat×AV)) (os:List (Nat×AO)) (h1:iC P Γ a (fun st'=>st'=⟨look vs,ab os⟩) J st) (h2:K ⟨look vs,ab os⟩):iC P Γ a K J st:=fH (a:=a) (fun st' (hs:st'=_)=>by rw[hs];exact h2) (fun _ _ h=>h) h1
theorem aO {a b:AC}{K:St→Prop}{J:Exit→St→Prop}{st:St} (Q:St→Prop) (h1:iC P Γ a Q J st) (h2:∀st',Q st'→iC P Γ b K J st'):iC P Γ (.seq a b) K J st:=fH (a:=a) (fun st' hs=>h2 st' hs) (fun _ _ h=>h) h1
theorem BG {is js:List AI}{K:St→Prop}{st:St} (vs:List (Nat×AV)) (os:List (Nat×AO)) (h1:cW P Γ is (fun st'=>st'=⟨look vs,ab os⟩) st) (h2:cW P Γ js K ⟨look vs,ab os⟩):cW P Γ (is++js) K st:=by
 have key:∀(is:List AI) (st:St),cW P Γ is (fun st'=>cW P Γ js K st') st→cW P Γ (is++js) K st:=by intro is;induction is with|nil=>exact fun st h=>h|cons i is ih=>exact fun st h=>uk (fun st hs=>ih st hs) h
 exact key is st (mw (fun st' (hs:st'=_)=>by rw[hs];exact h2) h1)
theorem Fp (k:Nat) {is:List AI}{K:St→Prop}{st:St} (vs:List (Nat×AV)) (os:List (Nat×AO)) (h1:cW P Γ (is.take k) (fun st'=>st'=⟨look vs,ab os⟩) st) (h2:cW P Γ (is.drop k) K ⟨look vs,ab os⟩):cW P Γ is K st:=by have:=BG vs os h1 h2;rwa[List.take_append_drop]at this
theorem ji (k:Nat) {is l1 l2:List AI}{K:St→Prop}{st:St}{vs:List (Nat×AV)}{os:List (Nat×AO)} (e1:is.take k=l1) (e2:is.drop k=l2) (h1:cW P Γ l1 (fun st'=>st'=⟨look vs,ab os⟩) st) (h2:cW P Γ l2 K ⟨look vs,ab os⟩):cW P Γ is K st:=by subst e1 e2;exact Fp k vs os h1 h2
theorem Jg {f:FuncId}{args:List AV}{e:TypeId}{rows:List (List PV)} (h:u9 P f [] args [] (.fr e rows)):u9 P f [] args [] (.pv (.ro rows)):=by
 intro w S0 β vals h1 h2 h3 h4 h5;have hno:∀t,bo (ab []) (fun t=>du (cellAt (.pv (.ro rows)) t)) t=none:=by
  intro t;show du (cellAt (.pv (.ro rows)) t)=none;simp only[cellAt,bI];split;·split<;>rfl
  ·rfl
 refine(h w S0 β vals h1 h2 h3 h4 h5).mono ?_;rintro ex w' ⟨v,β',rfl,hF,hH,ho,hv⟩;have hob:(bo (ab []) fun t=>du (cellAt (.fr e rows) t)) 0=some (.arr e rows):=rfl;have hv0:RV P (aU S0 w.heap.size β' (bo (ab []) fun t=>du (cellAt (.fr e rows) t)) w') w' β' (aG (bo (ab []) fun t=>du (cellAt (.fr e rows) t))) v (.own 0):=hv;have hve:=hv0.aT.1;have hh:=hH.holds 0 _ hob;obtain⟨hr,_⟩:=qp (S':=aU S0 w.heap.size β' (bo (ab []) fun t=>du (cellAt (.pv (.ro rows)) t)) w') hh (fun b hb=>⟨hb.1,hb.2.1,fun⟨t,o,hto,_⟩=>by rw[hno]at hto;cases hto⟩) (fun b hb=>⟨.inr ((ho 0 b ⟨_,hob⟩ hb).resolve_right fun⟨t,o,hto,_⟩=>by cases hto),hh.lt b hb,fun⟨t,o,hto,_⟩=>by rw[hno]at hto;cases hto⟩);exact⟨v,β',rfl,hF,⟨(fun t o hto=>by rw[hno]at hto;cases hto),(fun t t' b ⟨o,hto⟩=>by rw[hno]at hto;cases hto)⟩,(fun t b ⟨o,hto⟩=>by rw[hno]at hto;cases hto),.pv _ _ (hve▸hr)⟩
@[simp] def pubA:AV→AV|.fr _ rows=>.pv (.ro rows)|v=>v
@[simp] def VQ (G:List AV→Option (Prop×AV)) (ys:List AV):Option (Prop×AV):=(G ys).map fun x=>(x.1,pubA x.2)
theorem sJ {f:FuncId}{G:List AV→Option (Prop×AV)} (h:R.aR P f G):R.aR P f (VQ G):=by intro ys φ r hg hφ;unfold VQ at hg;obtain⟨⟨φ',r'⟩,hx,he⟩:=Option.map_eq_some_iff.1 hg;cases he;have:=h ys φ' r' hx hφ;cases r'<;>first|exact Jg this|exact this
end
end Go.Proofs.YtifcndkhigakfaaGreat.Ab
namespace Go.Proofs.YtifcndkhigakfaaGreat.Ab
open Go Go.RowKit R
structure Vn where
 n:Int
 b:Int
 p:Int
 i:Int
 s:Int
 z:Int
 m:Int
 t:List UInt8
 inl:Bool
 fU:Bool deriving DecidableEq
def v0:Vn:=⟨0,0,0,0,0,0,0,[],false,false⟩
def dG (v:Vn):List PV:=[.int .u64 v.n,.int .u64 v.b,.int .u64 v.p,.int .u64 v.i,.int .u64 v.s,.int .u64 v.z,.int .u64 v.m,.str v.t,.bool v.inl,.bool v.fU]
def HY (v:Vn):List AV:=[.pv (.int .u64 v.n),.pv (.int .u64 v.b),.pv (.int .u64 v.p),.pv (.int .u64 v.i),.pv (.int .u64 v.s),.pv (.int .u64 v.z),.pv (.int .u64 v.m),.pv (.str v.t),.pv (.bool v.inl),.pv (.bool v.fU)]
theorem Au:∀a b,dG a=dG b→a=b:=by intro a b h;cases a;cases b;simpa[dG]using h
def ba (l:List Vn):List (List PV):=l.map dG
@[simp] theorem Tj:ba []=[]:=rfl
@[simp] theorem Jj (l:List Vn):(ba l).length=l.length:=by simp[ba]
theorem iH (l m:List Vn):ba (l++m)=ba l++ba m:=by simp[ba]
theorem vT (l:List Vn):∀r∈ba l,r.length=10:=by intro r hr;simp only[ba,List.mem_map]at hr;obtain⟨c,_,rfl⟩:=hr;rfl
theorem dI {l:List Vn}{i:Nat} (h:i<l.length):rowAt (ba l) (i:Int)=[.int .u64 l[i].n,.int .u64 l[i].b,.int .u64 l[i].p,.int .u64 l[i].i,.int .u64 l[i].s,.int .u64 l[i].z,.int .u64 l[i].m,.str l[i].t,.bool l[i].inl,.bool l[i].fU]:=by simp[rowAt,ba,h,dG]
theorem EF (l:List Vn) (i:Nat):cut (ba l) 0 (i:Int)=ba (l.take i):=by simp[cut,ba]
@[simp] theorem Qn (l:List Vn):dec dG (ba l)=some l:=ld Au l
theorem bB {rows:List (List PV)}{l:List Vn} (h:dec dG rows=some l):rows=ba l:=kF h
theorem b6 (l:List Vn):cT (ba l):=by intro r hr p hp;simp only[ba,List.mem_map]at hr;obtain⟨c,_,rfl⟩:=hr;simp only[dG,List.mem_cons,List.not_mem_nil,or_false]at hp;rcases hp with rfl|rfl|rfl|rfl|rfl|rfl|rfl|rfl|rfl|rfl<;>rfl
def fE (v:Vn):Int:=if v.inl=true then 0 else v.b
@[simp] def De:List AV→Option (Prop×AV)|[.agg [.pv (.int .u64 _),.pv (.int .u64 b),.pv (.int .u64 _),.pv (.int .u64 _),.pv (.int .u64 _),.pv (.int .u64 _),.pv (.int .u64 _),.pv (.str _),.pv (.bool inl),.pv (.bool _)]]=>some (True,.pv (.int .u64 (if inl=true then 0 else b)))|_=>none
theorem MZ:aR Tryz.prog 161 De:=by
 intro ys φ r h hφ;unfold De at h;split at h;·rename_i n b p i s z m t inl fU;cases h;refine aq aj (by kernel_rfl) (by conv=>lhs;reduce) (by simp) ?_;cases inl<;>simp
 ·cases h
def CG (l:List Vn) (n:Int):Int:=if l.findIdx (fun v=>decide (v.n=n))<l.length then(l.findIdx (fun v=>decide (v.n=n)):Int) else-1
theorem Gw {l:List Vn}{n:Int}{i:Nat} (h:i<l.length) (hq:l[i].n=n) (ht:∀v∈l.take i,¬v.n=n):CG l n=i:=by
 have hf:l.findIdx (fun v=>decide (v.n=n))=i:=by
  rw[List.findIdx_eq h];refine⟨by simpa using hq,fun j hj=>?_⟩;have:l[j]∈l.take i:=by rw[List.mem_take_iff_getElem];exact⟨j,by omega,rfl⟩
  simpa using ht _ this
 unfold CG;rw[hf,if_pos h]
theorem zn {l:List Vn}{n:Int} (ht:∀v∈l,¬v.n=n):CG l n=-1:=by
 have hf:l.findIdx (fun v=>decide (v.n=n))=l.length:=by rw[List.findIdx_eq_length];intro v hv;simpa using ht v hv
 unfold CG;rw[hf,if_neg (by omega)]
@[simp] def Z1:List AV→Option (Prop×AV)|[.agg [.pv (.int .u64 a),.pv (.int .u64 _),.pv (.int .u64 _),.pv (.int .u64 _),.pv (.int .u64 _),.pv (.int .u64 _),.pv (.int .u64 _),.pv (.str _),.pv (.bool _),.pv (.bool _)],.rp [.int .u64 n]]=>some (True,.pv (.bool (decide (a=n))))|_=>none
theorem VJ:aR Tryz.prog 199 Z1:=by
 intro ys φ r h hφ;unfold Z1 at h;split at h;·cases h;refine aq aj (by kernel_rfl) (by conv=>lhs;reduce) (by simp) ?_;simp
 ·cases h
theorem J4:ib Tryz.prog 199=true:=by kernel_rfl
@[simp] noncomputable def Ze:List AV→Option (Prop×AV)|[.pv (.ro a),.bZ f [.rp [.int .u64 n]]]=>if f=199 then(dec dG a).map fun l=>(l.length≤1000000000,.pv (.int .i64 (CG l n))) else none|_=>none
theorem ZF:aR Tryz.prog 197 Ze:=by
 intro ys φ r h hφ;unfold Ze at h;split at h
 ·rename_i ra f n;split at h
  ·rename_i hf;subst hf;obtain⟨a,ha,h⟩:=Option.map_eq_some_iff.1 h;cases h;cases bB ha;refine aq (af VJ aj) (by kernel_rfl) (by conv=>lhs;reduce) (by simp) ?_;simp;refine au (fun i:Nat=>i≤a.length∧∀v∈a.take i,¬v.n=n) (fun i=>⟨[(0,.pv (.ro (ba a))),(1,.bZ 199 [.rp [.int .u64 n]]),(7,.pv (.int .i64 a.length)),(8,.pv (.int .i64 i))],[]⟩) (fun i=>a.length-i) [] 0 (by simp) ?_ ?_;·simp
   ·rintro i ⟨hi,ht⟩;have w2:IntKind.i64.wrap ((i:Int)+1)=(i:Int)+1:=wrap_i64 (by omega);by_cases hlt:i<a.length
    ·have r1:=dI hlt;have hr:¬a[i].n=n→∀v∈a.take (i+1),¬v.n=n:=by
      intro h0 e he;rw[List.take_succ_eq_append_getElem hlt,List.mem_append]at he;rcases he with he|he;·exact ht e he
      ·rw[List.mem_singleton]at he;rw[he];exact h0
     simp[w2,hlt,r1,J4];refine⟨fun h=>(Gw hlt h ht).symm,fun h=>⟨i+1,⟨by omega,hr h⟩,by omega,by omega⟩⟩
    ·simp[hlt];rw[List.take_of_length_le (by omega)]at ht;exact(zn ht).symm
  ·cases h
 ·cases h
@[simp] noncomputable def Gof:List AV→Option (Prop×AV)|[.pv (.ro a),.pv (.int .u64 n)]=>(dec dG a).map fun l=>(l.length≤1000000000,.pv (.int .i64 (CG l n)))|_=>none
theorem c_of:aR Tryz.prog 162 Gof:=by
 intro ys φ r h hφ;unfold Gof at h;split at h;·rename_i ra n;obtain⟨a,ha,h⟩:=Option.map_eq_some_iff.1 h;cases h;cases bB ha;refine aq (af ZF aj) (by kernel_rfl) (by conv=>lhs;reduce) (by simp) ?_;simp[hφ]
 ·cases h
def jD (l:List Vn) (i:Nat):Int:=match i with|0=>0|i+1=>((l[i]?).getD v0).n
def nU (l:List Vn) (i:Nat):Bool:=decide (jD l i<((l[i]?).getD v0).n)&&(decide (fE ((l[i]?).getD v0)=0)||decide (0≤CG (l.take i) (fE ((l[i]?).getD v0))))
def db (l:List Vn):Bool:=(List.range l.length).all (nU l)
theorem nt (l:List Vn):db l=true↔∀i,i<l.length→nU l i=true:=by unfold db;rw[List.all_eq_true];exact⟨fun h i hi=>h i (List.mem_range.2 hi),fun h i hi=>h i (List.mem_range.1 hi)⟩
theorem tp {l:List Vn}{i:Nat} (hi:i<l.length) (h:nU l i=false):db l=false:=by cases hr:db l with|false=>rfl|true=>rw[(nt l).1 hr i hi]at h;cases h
@[simp] noncomputable def GRv:List AV→Option (Prop×AV)|[.pv (.ro a)]=>(dec dG a).map fun l=>(l.length≤1000000000,.pv (.bool (db l)))|_=>none
theorem aaj:aR Tryz.prog 121 GRv:=by
 intro ys φ r h hφ;unfold GRv at h;split at h
 ·rename_i ra;obtain⟨a,ha,h⟩:=Option.map_eq_some_iff.1 h;cases h;cases bB ha;refine aq (af MZ (af c_of aj)) (by kernel_rfl) (by conv=>lhs;reduce) (by simp) ?_;simp;refine au (fun i:Nat=>i≤a.length∧∀j,j<i→nU a j=true) (fun i=>⟨[(0,.pv (.ro (ba a))),(2,.pv (.bool false)),(3,.pv (.int .u64 (jD a i))),(6,.pv (.ro (ba a))),(7,.pv (.int .i64 a.length)),(8,.pv (.int .i64 i))],[]⟩) (fun i=>a.length-i) [] 0 (by simp) ?_ ?_;·simp[jD]
  ·rintro i ⟨hi,ht⟩;have w2:IntKind.i64.wrap ((i:Int)+1)=(i:Int)+1:=wrap_i64 (by omega);by_cases hlt:i<a.length
   ·have r1:=dI hlt;have hg:(a[i]?).getD v0=a[i]:=by rw[List.getElem?_eq_getElem hlt];rfl
    have hpn:jD a (i+1)=a[i].n:=by simp only[jD];rw[hg]
    have hok:nU a i=(decide (jD a i<a[i].n)&&(decide (fE a[i]=0)||decide (0≤CG (a.take i) (fE a[i])))):=by unfold nU;rw[hg]
    have hnext:nU a i=true→∀j,j<i+1→nU a j=true:=by
     intro h j hj;by_cases hji:j=i;·rw[hji];exact h
     ·exact ht j (by omega)
    have hbad:nU a i=false→db a=false:=tp hlt;have hcut:=EF a i;have htl:(a.take i).length≤1000000000:=by rw[List.length_take];omega
    have hbv:(if a[i].inl=true then 0 else a[i].b)=fE a[i]:=rfl;have hmin:min i a.length≤1000000000:=by omega
    by_cases h1:a[i].n≤jD a i;·have hb:=hbad (by rw[hok,Bool.and_eq_false_iff];left;simp;omega);simp[w2,hlt,r1,h1,hb,hbv,hcut,hmin]
    ·have h1':jD a i<a[i].n:=by omega
     by_cases h2:fE a[i]=0;·simp[w2,hlt,r1,h1,h2,hbv,hcut,hmin];exact⟨i+1,⟨by omega,hnext (by rw[hok];simp[h1',h2])⟩,⟨hpn.symm,by omega⟩,by omega⟩
     ·simp[w2,hlt,r1,h1,h2,hbv,hcut,hmin];refine⟨⟨hi,vT a⟩,fun h=>hbad (by rw[hok];simp[h1',h2];omega),fun h=>⟨i+1,⟨by omega,hnext (by rw[hok];simp[h1',h2,h])⟩,⟨hpn.symm,by omega⟩,by omega⟩⟩
   ·have:i=a.length:=by omega
    subst this;have hr:db a=true:=(nt a).2 ht;simp[hr]
 ·cases h
def AR (l:List Vn):List Vn:=l.filter fun v=>!v.fU
@[simp] noncomputable def GSeen (e:TypeId):List AV→Option (Prop×AV)|[.pv (.ro a)]=>(dec dG a).map fun l=>(l.length≤1000000,.fr e (ba (AR l)))|_=>none
def He (l:List Vn) (n:Int):Option Vn:=(AR l).find? fun v=>decide (v.n=n)
@[simp] noncomputable def GGv:List AV→Option (Prop×AV)|[.pv (.ro a),.pv (.int .u64 n)]=>(dec dG a).map fun l=>(l.length≤1000000,.aS [.agg (HY ((He l n).getD v0)),.pv (.bool (He l n).isSome)])|_=>none
def OH (l:List Vn):Option Vn:=(AR l).getLast?
@[simp] noncomputable def GCv:List AV→Option (Prop×AV)|[.pv (.ro a)]=>(dec dG a).map fun l=>(l.length≤1000000,.aS [.agg (HY ((OH l).getD v0)),.pv (.bool (OH l).isSome)])|_=>none
theorem MI:aR Tryz.prog 157 De:=by
 intro ys φ r h hφ;unfold De at h;split at h;·rename_i n b p i s z m t inl fU;cases h;refine aq aj (by kernel_rfl) (by conv=>lhs;reduce) (by simp) ?_;cases inl<;>simp
 ·cases h
@[simp] noncomputable def Mx:List AV→Option (Prop×AV)|[.pv (.ro a),.pv (.int .i64 k),.pv (.int .u64 n)]=>(dec dG a).map fun l=>(l.length≤1000000000∧0≤k∧k≤l.length,.pv (.int .i64 (CG (l.take k.toNat) n)))|_=>none
theorem Pe:aR Tryz.prog 158 Mx:=by
 intro ys φ r h hφ;unfold Mx at h;split at h
 ·rename_i ra k n;obtain⟨a,ha,h⟩:=Option.map_eq_some_iff.1 h;cases h;cases bB ha;obtain⟨hl,h0,hk⟩:=hφ;obtain⟨k,rfl⟩:∃q:Nat,k=(q:Int):=⟨k.toNat,by omega⟩;simp only[Int.toNat_natCast];have hk':k≤a.length:=by omega
  refine aq aj (by kernel_rfl) (by conv=>lhs;reduce) (by simp) ?_;simp;refine au (fun i:Nat=>i≤k∧∀v∈a.take i,¬v.n=n) (fun i=>⟨[(0,.pv (.ro (ba a))),(1,.pv (.int .i64 k)),(2,.pv (.int .u64 n)),(7,.pv (.int .i64 i))],[]⟩) (fun i=>k-i) [] 0 (by simp) ?_ ?_;·simp
  ·rintro i ⟨hi,ht⟩;have w2:IntKind.i64.wrap ((i:Int)+1)=(i:Int)+1:=wrap_i64 (by omega);by_cases hik:(i:Int)<k
   ·have hlt:i<a.length:=by omega
    have r1:=dI hlt;by_cases hn:a[i].n=n
    ·have hx:CG (a.take k) n=i:=by refine Gw (by rw[List.length_take];omega) (by rw[List.getElem_take];exact hn) ?_;rw[List.take_take,Nat.min_eq_left (by omega)];exact ht
     simp[w2,hik,hlt,r1,hn,hx]
    ·simp[w2,hik,hlt,r1,hn];refine⟨i+1,⟨by omega,fun v hv=>?_⟩,by omega,by omega⟩;rw[List.take_succ_eq_append_getElem hlt,List.mem_append]at hv;rcases hv with hv|hv;·exact ht v hv
     ·rw[List.mem_singleton]at hv;rw[hv];exact hn
   ·have:i=k:=by omega
    subst this;have hx:CG (a.take i) n=-1:=zn ht;simp[hx]
 ·cases h
def pD (v:Vn):Prop:=0≤v.n∧v.n≤18446744073709551615∧0≤v.b∧v.b≤18446744073709551615
theorem E1 {v:Vn} (h:pD v):0≤fE v:=by
 unfold fE;split;·omega
 ·exact h.2.2.1
@[simp] noncomputable def Ui:List AV→Option (Prop×AV)|[.pv (.ro a)]=>(dec dG a).map fun l=>(l.length≤1000000000∧∀v∈l,pD v,.pv (.bool (db l)))|_=>none
theorem Ms:aR Tryz.prog 118 Ui:=by
 intro ys φ r h hφ
 unfold Ui at h
 split at h
 ·rename_i ra
  obtain⟨a,ha,h⟩:=Option.map_eq_some_iff.1 h
  cases h
  cases bB ha
  obtain⟨hl9,hov⟩:=hφ
  refine aq (af MI (af Pe aj)) (by kernel_rfl) (by conv=>lhs;reduce) (by simp) ?_
  simp
  refine au (fun i:Nat=>i≤a.length∧∀j,j < i→nU a j=true) (fun i=>⟨[(0,.pv (.ro (ba a))),(2,.pv (.bool false)),(3,.pv (.int .i64 i))],[]⟩) (fun i=>a.length - i) [] 0 (by simp) ?_ ?_
  ·simp
  ·rintro i ⟨hi,ht⟩
   have w2:IntKind.i64.wrap ((i:Int)+1)=(i:Int)+1:=wrap_i64 (by omega)
   by_cases hlt:i < a.length
   ·have r1:=dI hlt
    have hg:(a[i]?).getD v0=a[i]:=by rw [List.getElem?_eq_getElem hlt];rfl
    have ho:=hov a[i] (List.getElem_mem hlt)
    have hb0:=E1 ho
    have hok:nU a i=(decide (jD a i < a[i].n) && (decide (fE a[i]=0) || decide (0≤CG (a.take i) (fE a[i])))):=by unfold nU;rw [hg]
    have hnext:nU a i=true→∀j,j < i+1→nU a j=true:=by
     intro h j hj
     by_cases hji:j=i
     ·rw [hji];exact h
     ·exact ht j (by omega)
    have hbad:nU a i=false→db a=false:=tp hlt
    have hbv:(if a[i].inl=true then 0 else a[i].b)=fE a[i]:=rfl
    have hn0:=ho.1
    have him:i - 1 < a.length:=by omega
    have rm:rowAt (ba a) ((i:Int) - 1)=[.int .u64 a[i - 1].n,.int .u64 a[i - 1].b,.int .u64 a[i - 1].p,.int .u64 a[i - 1].i,.int .u64 a[i - 1].s,.int .u64 a[i - 1].z,.int .u64 a[i - 1].m,.str a[i - 1].t,.bool a[i - 1].inl,.bool a[i - 1].fU]:=by
     rw [←dI him]
     unfold rowAt
     congr 1
     omega
    have w1:IntKind.i64.wrap ((i:Int) - 1)=(i:Int) - 1:=wrap_i64 (by omega)
    have hop:=(hov a[i - 1] (List.getElem_mem him)).1
    have hpi : 0 < i→jD a i=a[i - 1].n:=by
     intro h0
     obtain⟨q,rfl⟩:∃q,i=q+1:=⟨i - 1,by omega⟩
     have hq:q < a.length:=by omega
     simp only [jD,Nat.add_sub_cancel]
     rw [List.getElem?_eq_getElem hq];rfl
    have hp0:¬ 0 < i→jD a i=0:=by
     intro h0
     have:i=0:=by omega
     subst this;rfl
    have hmin:min i a.length=i:=by omega
    by_cases h1:a[i].n=0
    ·have hb:=hbad (by
      rw [hok,Bool.and_eq_false_iff];left
      simp only [decide_eq_false_iff_not]
      by_cases h0 : 0 < i
      ·rw [hpi h0];omega
      ·rw [hp0 h0];omega)
     simp[w1,w2,hlt,r1,rm,h1,hb,hbv]
    ·by_cases h0 : 0 < i
     ·have hpi':=hpi h0
      have hb1 : 1≤(i:Int):=by omega
      have hb2:(i:Int) - 1 < a.length:=by omega
      have hne:¬ i=0:=by omega
      by_cases h3:a[i].n≤a[i - 1].n
      ·have h3':¬ a[i - 1].n < a[i].n:=by omega
       have hb:=hbad (by rw [hok,Bool.and_eq_false_iff];left;simp;omega)
       simp[w1,w2,hlt,r1,rm,h1,h0,hb1,hb2,hne,h3,h3',hb,hbv]
      ·have hlp:jD a i < a[i].n:=by omega
       have h3':a[i - 1].n < a[i].n:=by omega
       by_cases h2:fE a[i]=0
       ·simp[w1,w2,hlt,r1,rm,h1,h0,hb1,hb2,hne,h3,h3',h2,hbv]
        exact⟨i+1,⟨by omega,hnext (by rw [hok];simp[hlp,h2])⟩,by omega,by omega⟩
       ·have h2' : 0 < fE a[i]:=by omega
        simp[w1,w2,hlt,r1,rm,h1,h0,hb1,hb2,hne,h3,h3',h2,h2',hbv]
        exact⟨⟨hl9,hi⟩,fun h=>hbad (by rw [hok];simp[hlp,h2];omega),fun h=>⟨i+1,⟨by omega,hnext (by rw [hok];simp[hlp,h])⟩,by omega,by omega⟩⟩
     ·have hlp:jD a i < a[i].n:=by rw [hp0 h0];omega
      have hz:(i=0)=True:=by simp;omega
      have h0f:(0 < i)=False:=by simp;omega
      by_cases h2:fE a[i]=0
      ·simp[w1,w2,hlt,r1,rm,h1,h0f,hz,h2,hbv]
       exact⟨i+1,⟨by omega,hnext (by rw [hok];simp[hlp,h2])⟩,by omega,by omega⟩
      ·have h2' : 0 < fE a[i]:=by omega
       simp[w1,w2,hlt,r1,rm,h1,h0f,hz,h2,h2',hbv]
       exact⟨⟨hl9,hi⟩,fun h=>hbad (by rw [hok];simp[hlp,h2];omega),fun h=>⟨i+1,⟨by omega,hnext (by rw [hok];simp[hlp,h])⟩,by omega,by omega⟩⟩
   ·have:i=a.length:=by omega
    subst this
    have hr:db a=true:=(nt a).2 ht
    simp[hr]
 ·cases h
@[simp] def Gone:List AV→Option (Prop×AV)|[.agg [.pv (.int .u64 n),.pv (.int .u64 b),.pv (.int .u64 p),.pv (.int .u64 i),.pv (.int .u64 s),.pv (.int .u64 z),.pv (.int .u64 m),.pv (.str t),.pv (.bool inl),.pv (.bool fU)]]=>some (True,.agg [.pv (.int .u64 n),.pv (.int .u64 b),.pv (.int .u64 p),.pv (.int .u64 i),.pv (.int .u64 s),.pv (.int .u64 z),.pv (.int .u64 m),.pv (.str t),.pv (.bool inl),.pv (.bool fU)])|_=>none
@[simp] noncomputable def GRefV:List AV→Option (Prop×AV)|[.pv (.ro a)]=>(dec dG a).map fun l=>(l.length≤1000000,.fr 156 (ba l))|_=>none
theorem Lt {x y:Vn}:(x.n=y.n∧x.b=y.b∧x.p=y.p∧x.i=y.i∧x.s=y.s∧x.z=y.z∧x.m=y.m∧x.t=y.t∧x.inl=y.inl∧x.fU=y.fU)↔x=y:=by cases x;cases y;simp
theorem F6 (x y:Vn):jl [.int .u64 x.n,.int .u64 x.b,.int .u64 x.p,.int .u64 x.i,.int .u64 x.s,.int .u64 x.z,.int .u64 x.m,.str x.t,.bool x.inl,.bool x.fU] [.int .u64 y.n,.int .u64 y.b,.int .u64 y.p,.int .u64 y.i,.int .u64 y.s,.int .u64 y.z,.int .u64 y.m,.str y.t,.bool y.inl,.bool y.fU]=decide (x=y):=by rw[Bool.eq_iff_iff];simp only[jl,m8,Bool.and_eq_true,decide_eq_true_eq,Bool.and_true];rw[←Lt]
@[simp] noncomputable def GSmV:List AV→Option (Prop×AV)|[.pv (.ro a),.pv (.ro b)]=>(dec dG a).bind fun la=>(dec dG b).map fun lb=>(la.length≤1000000,.pv (.bool (decide (la=lb))))|_=>none
def fewV (l:List Vn):Bool:=decide (l.length≤12)&&l.all fun v=>decide (v.t.length≤100)
@[simp] noncomputable def GFewV:List AV→Option (Prop×AV)|[.pv (.ro a)]=>(dec dG a).map fun l=>(True,.pv (.bool (fewV l)))|_=>none
def OS (n:Int):List PV:=[.int .i64 n]
def KL (l:List Int):List (List PV):=l.map OS
@[simp] theorem Rq:KL []=[]:=rfl
def UW (l:List Vn):List Int:=l.map fun v=>IntKind.i64.wrap v.n
@[simp] noncomputable def GnumsV:List AV→Option (Prop×AV)|[.pv (.ro a)]=>(dec dG a).map fun l=>(l.length≤1000000,.fr 3 (KL (UW l)))|_=>none
@[simp] noncomputable def GSmI:List AV→Option (Prop×AV)|[.pv (.ro a),.pv (.ro b)]=>(dec OS a).bind fun la=>(dec OS b).map fun lb=>(la.length≤1000000000,.pv (.bool (decide (la=lb))))|_=>none
structure Ls where
 e:Int
 p:Int
 i:Int
 u:Int
 h:Bool deriving DecidableEq
def BY (l:Ls):List AV:=[.pv (.int .u64 l.e),.pv (.int .u64 l.p),.pv (.int .u64 l.i),.pv (.int .u64 l.u),.pv (.bool l.h)]
def Dr:Int:=18446744073709551615
def AQ (l:Ls) (p i e:Int):Bool:=l.h&&decide (l.p=p)&&decide (l.i=i)&&decide (l.e=e)
def MA (l:Ls):Int×Int:=if l.e=Dr then(0,131) else(l.e+1,0)
def uv (l:Ls) (p i u:Int):Ls×Int:=if l.e=Dr then(l,131) else(⟨l.e+1,p,i,u,true⟩,0)
def Hg (l:Ls) (u:Int):Ls:=⟨l.e,l.p,l.i,max l.u u,l.h⟩
def zb (l:Ls):Ls:=⟨l.e,l.p,l.i,l.u,false⟩
@[simp] def GOwns:List AV→Option (Prop×AV)|[.agg [.pv (.int .u64 e),.pv (.int .u64 p),.pv (.int .u64 i),.pv (.int .u64 u),.pv (.bool h)],.pv (.int .u64 q),.pv (.int .u64 j),.pv (.int .u64 f)]=>some (True,.pv (.bool (AQ ⟨e,p,i,u,h⟩ q j f)))|_=>none
@[simp] def GNext:List AV→Option (Prop×AV)|[.agg [.pv (.int .u64 e),.pv (.int .u64 p),.pv (.int .u64 i),.pv (.int .u64 u),.pv (.bool h)]]=>some (cO e,.aS [.pv (.int .u64 (MA ⟨e,p,i,u,h⟩).1),.pv (.int .i64 (MA ⟨e,p,i,u,h⟩).2)])|_=>none
@[simp] def GGrant:List AV→Option (Prop×AV)|[.agg [.pv (.int .u64 e),.pv (.int .u64 p),.pv (.int .u64 i),.pv (.int .u64 u),.pv (.bool h)],.pv (.int .u64 q),.pv (.int .u64 j),.pv (.int .u64 v)]=>some (cO e,.aS [.agg (BY (uv ⟨e,p,i,u,h⟩ q j v).1),.pv (.int .i64 (uv ⟨e,p,i,u,h⟩ q j v).2)])|_=>none
@[simp] def GRenew:List AV→Option (Prop×AV)|[.agg [.pv (.int .u64 e),.pv (.int .u64 p),.pv (.int .u64 i),.pv (.int .u64 u),.pv (.bool h)],.pv (.int .u64 v)]=>some (True,.agg (BY (Hg ⟨e,p,i,u,h⟩ v)))|_=>none
@[simp] def GRel:List AV→Option (Prop×AV)|[.agg [.pv (.int .u64 e),.pv (.int .u64 p),.pv (.int .u64 i),.pv (.int .u64 u),.pv (.bool h)]]=>some (True,.agg (BY (zb ⟨e,p,i,u,h⟩)))|_=>none
noncomputable def vz {α:Type} (f:α→AV) (y:AV):Option α:=open Classical in if h:∃p,f p=y then some h.choose else none
theorem tm {α:Type}{f:α→AV}{y:AV}{p:α} (h:vz f y=some p):y=f p:=by
 unfold vz at h;split at h;·rename_i h';cases h;exact h'.choose_spec.symm
 ·cases h
theorem Jy {α:Type}{f:α→AV} (inj:∀p q,f p=f q→p=q) (p:α):vz f (f p)=some p:=by unfold vz;have h:∃q,f q=f p:=⟨p,rfl⟩;rw[dif_pos h];exact congrArg some (inj _ _ h.choose_spec)
structure Rc where
 k:Int
 p:Int
 i:Int
 s:Int
 e:Int
 u:Int
 v:Int
 c:Int
 z:Int
 m:Int
 n:List UInt8
 t:List UInt8 deriving DecidableEq
structure Ap where
 l:Ls
 ps:List Pn
 vs:List Vn
 sl:Bool
 r:Rc
 n:Int
 s:Int
def apT (a:Ap):AV:=.bx [.pv (.int .u64 a.l.e),.pv (.int .u64 a.l.p),.pv (.int .u64 a.l.i),.pv (.int .u64 a.l.u),.pv (.bool a.l.h),.fr 177 (aF a.ps),.fr 132 (ba a.vs),.pv (.bool a.sl),.pv (.int .u8 a.r.k),.pv (.int .u64 a.r.p),.pv (.int .u64 a.r.i),.pv (.int .u64 a.r.s),.pv (.int .u64 a.r.e),.pv (.int .u64 a.r.u),.pv (.int .u64 a.r.v),.pv (.int .u64 a.r.c),.pv (.int .u64 a.r.z),.pv (.int .u64 a.r.m),.pv (.str a.r.n),.pv (.str a.r.t),.pv (.int .u64 a.n),.pv (.int .u64 a.s)]
def apR (a:Ap):AV:=.rp [.int .u64 a.l.e,.int .u64 a.l.p,.int .u64 a.l.i,.int .u64 a.l.u,.bool a.l.h,.ro (aF a.ps),.ro (ba a.vs),.bool a.sl,.int .u8 a.r.k,.int .u64 a.r.p,.int .u64 a.r.i,.int .u64 a.r.s,.int .u64 a.r.e,.int .u64 a.r.u,.int .u64 a.r.v,.int .u64 a.r.c,.int .u64 a.r.z,.int .u64 a.r.m,.str a.r.n,.str a.r.t,.int .u64 a.n,.int .u64 a.s]
theorem mC {α β:Type}{f:α→β} (hf:∀a b,f a=f b→a=b):∀{l m:List α},l.map f=m.map f→l=m|[],[],_=>rfl|[],_::_,h=>by cases h|_::_,[],h=>by cases h|a::l,b::m,h=>by simp only[List.map_cons,List.cons.injEq]at h;rw[hf _ _ h.1,mC hf h.2]
@[simp] noncomputable def GOw:List AV→Option (Prop×AV)|[y]=>(vz apR y).map fun a=>(True,.pv (.bool (AQ a.l a.r.p a.r.i a.r.e)))|_=>none
def XW (a:Ap):Ap×Bool:=(⟨a.l,a.ps,a.vs,true,a.r,a.n,a.s⟩,!a.sl&&a.l.h&&decide (a.l.p=a.r.p)&&decide (a.l.i=a.r.i))
def MT (a:Ap):Ap×Bool:=(⟨Hg a.l a.r.u,a.ps,a.vs,a.sl,a.r,a.n,a.s⟩,!a.sl&&AQ a.l a.r.p a.r.i a.r.e)
def GB (a:Ap):Ap×Bool:=(⟨zb a.l,a.ps,a.vs,a.sl,a.r,a.n,a.s⟩,!a.sl&&AQ a.l a.r.p a.r.i a.r.e)
def MS (a:Ap):Ap×Bool:=(⟨(uv a.l a.r.p a.r.i a.r.u).1,a.ps,a.vs,a.sl,a.r,a.n,a.s⟩,!a.sl&&decide ((uv a.l a.r.p a.r.i a.r.u).2=0)&&decide ((uv a.l a.r.p a.r.i a.r.u).1.e=a.r.e))
@[simp] noncomputable def GDo (C:Ap→Prop) (F:Ap→Ap×Bool):List AV→Option (Prop×AV)|[.aS [y]]=>(vz apT y).map fun a=>(C a,.bZ 0 [.pv (.bool (F a).2),apT (F a).1])|_=>none
@[simp] noncomputable def aab:List AV→Option (Prop×AV)|[.pv (.ro a)]=>(dec dG a).map fun l=>(l.length≤1000000,.fr 132 (ba l))|_=>none
theorem Vb:aR Tryz.prog 89 aab:=by
 intro ys φ r h hφ;unfold aab at h;split at h;·rename_i ra;obtain⟨a,ha,h⟩:=Option.map_eq_some_iff.1 h;cases h;cases bB ha;refine aq aj (by kernel_rfl) (by conv=>lhs;reduce) (by simp) ?_;cases a with|nil=>simp[j7]|cons x l=>have hx:ba (x::l)=dG x::ba l:=rfl;simp[hx,aw];simp only[List.length_cons]at hφ;exact⟨by omega,by omega,rfl,vT l⟩
 ·cases h
@[simp] def HS:List AV→Option (Prop×AV)|[.pv (.int .u64 n),.pv (.str t)]=>some (True,.agg [.pv (.int .u64 n),.pv (.int .u64 0),.pv (.int .u64 0),.pv (.int .u64 0),.pv (.int .u64 0),.pv (.int .u64 0),.pv (.int .u64 0),.pv (.str t),.pv (.bool true),.pv (.bool false)])|_=>none
theorem Jc:aR Tryz.prog 138 HS:=by
 intro ys φ r h hφ;unfold HS at h;split at h;·cases h;refine aq aj (by kernel_rfl) (by conv=>lhs;reduce) (by simp) ?_;simp
 ·cases h
def eo (n:Int) (t:List UInt8):Vn:=⟨n,0,0,0,0,0,0,t,true,false⟩
def Zl (l:List Vn):Int:=((l.getLast?).getD v0).n
def G7 (s:List UInt8):List PV:=[.str s]
def O3 (l:List (List UInt8)):List (List PV):=l.map G7
@[simp] theorem NC:O3 []=[]:=rfl
@[simp] noncomputable def GCop:List AV→Option (Prop×AV)|[.agg [.pv (.int .u64 e),.pv (.int .u64 p),.pv (.int .u64 i),.pv (.int .u64 u),.pv (.bool h),.pv (.ro a),.pv (.ro b),.pv (.bool sl)]]=>(dec rowP a).bind fun ps=>(dec dG b).map fun vs=>(ps.length≤100000∧vs.length≤100000,.agg [.pv (.int .u64 e),.pv (.int .u64 p),.pv (.int .u64 i),.pv (.int .u64 u),.pv (.bool h),.fr 177 (aF ps),.fr 132 (ba vs),.pv (.bool sl)])|_=>none
def gU (l:List Int):PV:=.ro (l.map fun n=>[.int .u8 n])
def kq:List (PV×PV):=[(.int .u8 1,gU [0,1]),(.int .u8 2,gU [0,1]),(.int .u8 3,gU [0]),(.int .u8 4,gU [0,2,4,5]),(.int .u8 5,gU [2,1]),(.int .u8 6,gU [2]),(.int .u8 7,gU []),(.int .u8 8,gU [3]),(.int .u8 9,gU [6]),(.int .u8 10,gU [6]),(.int .u8 11,gU [6,7])]
def CS:List AV→Option (Prop×AV)|[]=>some (True,.pv (.mv kq))|_=>none
@[simp] theorem Rm:CS []=some (True,.pv (.mv kq)):=rfl
theorem Jr:aR Tryz.prog 126 CS:=by
 intro ys φ r h hφ;unfold CS at h;split at h;·cases h;refine aq aj (by kernel_rfl) (by conv=>lhs;reduce) (by simp) ?_;simp[kq,gU]
 ·cases h
def Kd (l:List Vn) (v:Vn):List Vn×Int:=if db l=false∨v.fU=true∨v.n=0∨(0<l.length∧v.n≤Zl l) then([],2) else if fE v≠0∧(He l (fE v)).isSome=false then([],150) else(l++[v],0)
@[simp] noncomputable def GAdd (e:TypeId):List AV→Option (Prop×AV)|[.pv (.ro a),.agg [.pv (.int .u64 n),.pv (.int .u64 b),.pv (.int .u64 p),.pv (.int .u64 i),.pv (.int .u64 s),.pv (.int .u64 z),.pv (.int .u64 m),.pv (.str t),.pv (.bool inl),.pv (.bool fU)]]=>(dec dG a).map fun l=>(l.length≤100000∧(∀v∈l,pD v)∧pD ⟨n,b,p,i,s,z,m,t,inl,fU⟩,.aS [.fr e (ba (Kd l ⟨n,b,p,i,s,z,m,t,inl,fU⟩).1),.pv (.int .i64 (Kd l ⟨n,b,p,i,s,z,m,t,inl,fU⟩).2)])|_=>none
def inlV (l:List Vn) (ts:List (List UInt8)):List Vn:=List.zipWith (fun(v:Vn) t=>eo v.n t) l ts
def mr (l:List Vn) (ts:List (List UInt8)):List Vn×Int:=if db l=false∨ts.length≠(AR l).length then([],2) else(inlV (AR l) ts,0)
@[simp] noncomputable def GInl (e:TypeId):List AV→Option (Prop×AV)|[.pv (.ro a),.pv (.ro ts)]=>(dec dG a).bind fun l=>(dec G7 ts).map fun ts=>(l.length≤100000∧(∀v∈l,pD v),.aS [.fr e (ba (mr l ts).1),.pv (.int .i64 (mr l ts).2)])|_=>none
end Go.Proofs.YtifcndkhigakfaaGreat.Ab
