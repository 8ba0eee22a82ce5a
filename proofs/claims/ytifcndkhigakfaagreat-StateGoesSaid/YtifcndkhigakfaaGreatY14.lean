/- Chapter 14: Live, as the program and the reference do it. -/
import Derived.Test.YtifcndkhigakfaaGreatY12
import Derived.Test.YtifcndkhigakfaaGreatY13
set_option linter.unusedVariables false
set_option linter.unusedSimpArgs false
set_option linter.unnecessarySimpa false
set_option maxHeartbeats 40000000
set_option maxRecDepth 100000
set_option linter.defProp false
namespace Go.Proofs.YtifcndkhigakfaaGreat.Ab
open Go Go.RowKit
def q127:=@List.take_append_drop
def q182:=@List.length_filter_le
def q183:=@List.find?_eq_none
def q205:=@List.find?_eq_some_iff_getElem
def q212:=@List.drop_eq_nil_of_le
def q220:=@Bool.and_eq_false_iff
def q235:=@Nat.sub_self
def q271:=@List.getElem_take
def q277:=@List.getLast?_eq_getElem?
end Go.Proofs.YtifcndkhigakfaaGreat.Ab
namespace Go.Proofs.YtifcndkhigakfaaGreat.Ab
open Go Go.RowKit R
variable {α:Type}{f:FuncId}{rows:List (List PV)}{K:St->Prop}{i:Nat}{ts:List (List UInt8)}{J:Exit->St->Prop}{os:List (Nat×AO)}{vs:List (Nat×AV)}{is:List AI}
@[simp] noncomputable def KD:List AV->Option (Prop×AV)|[.agg [.pv (.ro a)],.pv (.int .u64 n),.pv (.int .u64 s)]=>(dec rowP a).map fun l=>(l.length<=1000000/\cg n/\cg s/\∀e∈l,cg e.u,.agg [.fr 177 (ay (iN l n s))])|_=>none
def Tj:aL Tryz.prog 215 KD:=by
 intro ys φ r h hφ;unfold KD at h;split at h
 ·rename_i ra n s;obtain⟨a,ha,h⟩:=q900.1 h;cases h;cases aM ha;obtain⟨hl6,o1,o2,o3⟩:=hφ;have hl8:a.length<=100000000:=by omega
  refine aq (ag rK (ft (p:=0) (k:=998) RD (by kernel_rfl) ah)) (by kernel_rfl) (by conv=>lhs;reduce) (by simp) ?_;simp[hl6,hl8,o1,o2];exact⟨o3,aV _⟩
 ·cases h
@[simp] noncomputable def GrLive:List AV->Option (Prop×AV)|[.pv (.ro a),.pv (.int .u64 n),.pv (.int .u64 s)]=>(dec rowP a).map fun l=>(l.length<=1000000/\cg n/\cg s/\∀e∈l,cg e.u,.fr 205 (ay (iN l n s)))|_=>none
def yD (l:List Pn) (e:Pn):List Pn×Int:=if eD (l++[e])=true then(l++[e],0) else([],2)
@[simp] noncomputable def Pf:List AV->Option (Prop×AV)|[.agg [.pv (.ro a)],.agg [.pv (.int .u64 x),.pv (.int .u64 y),.pv (.int .u64 z)]]=>(dec rowP a).map fun l=>(l.length<=1000000,.aN [.agg [.fr 177 (ay (yD l ⟨x,y,z⟩).1)],.pv (.int .i64 (yD l ⟨x,y,z⟩).2)])|_=>none
def Th:aL Tryz.prog 213 Pf:=by
 intro ys φ r h hφ;unfold Pf at h;split at h
 ·rename_i ra x y z;obtain⟨a,ha,h⟩:=q900.1 h;cases h;cases aM ha;have hl8:a.length<=100000000:=by omega
  have hinf:(Tryz.prog.info? 177).isSome=true:=by kernel_rfl
  have hap:ay a++[[PV.int .u64 x,.int .u64 y,.int .u64 z]]=ay (a++[⟨x,y,z⟩]):=by rw[gN];rfl
  refine aq (ag rK (ag xV ah)) (by kernel_rfl) (by conv=>lhs;reduce) (by simp) ?_;unfold yD;by_cases hr:eD (a++[⟨x,y,z⟩])=true;·simp[hl8,hr,hap,hinf,aF];exact⟨⟨by omega,by omega⟩,by omega⟩
  ·simp[hl8,hr,hap,hinf,aF];exact⟨⟨by omega,by omega⟩,by omega⟩
 ·cases h
@[simp] noncomputable def GrAdd:List AV->Option (Prop×AV)|[.pv (.ro a),.agg [.pv (.int .u64 x),.pv (.int .u64 y),.pv (.int .u64 z)]]=>(dec rowP a).map fun l=>(l.length<=1000000,.aN [.fr 205 (ay (yD l ⟨x,y,z⟩).1),.pv (.int .i64 (yD l ⟨x,y,z⟩).2)])|_=>none
def AW (n:Int):List Pn->List Pn|[]=>[]|e::l=>if e.i=n then l else e::AW n l
def Cv (l:List Pn) (n:Int):Bool:=l.any fun e=>decide (e.i=n)
def yG (l:List Pn) (n:Int):List Pn×Int:=if Cv l n=true then(AW n l,0) else([],80)
def Ct (n:Int):∀l:List Pn,Cv l n=true->∃k:Nat,qq (fun e=>decide (e.i=n)) l=(k:Int)/\k<l.length/\AW n l=l.take k++l.drop (k+1)
 |[],h=>by simp[Cv]at h|x::l,h=>by
  by_cases hx:x.i=n;·refine⟨0,?_,by simp,by simp[AW,hx]⟩;exact AA (i:=0) (by simp) (by simpa using hx) (by simp)
  ·have h':Cv l n=true:=by simpa[Cv,hx]using h
   obtain⟨k,h1,h2,h3⟩:=Ct n l h';refine⟨k+1,?_,by simp;omega,by simp[AW,hx,h3]⟩;unfold qq at h1 |-;split at h1
   ·rename_i hlt;have hf:(x::l).findIdx (fun e=>decide (e.i=n))=l.findIdx (fun e=>decide (e.i=n))+1:=by rw[List.findIdx_cons];simp[hx]
    rw[hf,if_pos (by rw[q70];omega)];omega
   ·omega
@[simp] noncomputable def Py:List AV->Option (Prop×AV)|[.pv .nil,.pv (.int .i64 n)]=>some (0<=n/\n<=1000000,.fr 177 [])|_=>none
def TD:pL Tryz.prog 245 Py:=by
 intro ys φ r h hφ;unfold Py at h;split at h
 ·rename_i n;cases h;obtain⟨h1,h2⟩:=hφ;have hinf:(Tryz.prog.info? 177).isSome=true:=by kernel_rfl
  have w0:IntKind.i64.wrap 0=0:=wrap_i64 (by omega);have w1:IntKind.i64.wrap n=n:=wrap_i64 (by omega);refine oL ah (by kernel_rfl) (by conv=>lhs;reduce) (by simp) (by simp[dv,nL,j5]) (by simp) ?_;have hn0:¬n<0:=by omega
  by_cases h0:0<n;·simp[hn0,h0,w0,w1,hinf];exact⟨h1,by omega,by omega⟩
  ·simp[hn0,h0,w0,w1,hinf]
 ·cases h
@[simp] noncomputable def GCat:List AV->Option (Prop×AV)|[.pv (.ro [[.ro a],[.ro b]])]=>(dec rowP a).bind fun la=>(dec rowP b).map fun lb=>(la.length<=100000/\lb.length<=100000,.fr 177 (ay (la++lb)))|_=>none
def c_Cat:aL Tryz.prog 233 GCat:=by
 intro ys φ r h hφ;unfold GCat at h;split at h
 ·rename_i ra rb;obtain⟨a,ha,h⟩:=qB.1 h;obtain⟨b,hb,h⟩:=q900.1 h;cases h;cases aM ha;cases aM hb;obtain⟨hla,hlb⟩:=hφ;have h3a:=cz a;have h3b:=cz b;have w1:IntKind.i64.wrap 1=1:=wrap_i64 (by omega);have w2:IntKind.i64.wrap 2=2:=wrap_i64 (by omega);have wa:IntKind.i64.wrap (a.length:Int)=a.length:=wrap_i64 (by omega);have wab:IntKind.i64.wrap ((a.length:Int)+(b.length:Int))=(a.length:Int)+(b.length:Int):=wrap_i64 (by omega);have r0:rowAt [[PV.ro (ay a)],[PV.ro (ay b)]] 0=[.ro (ay a)]:=rfl;have r1:rowAt [[PV.ro (ay a)],[PV.ro (ay b)]] 1=[.ro (ay b)]:=rfl;have ga:¬((a.length:Int)<0):=by omega
  have gab:¬((a.length:Int)+(b.length:Int)<0):=by omega
  have gc:(a.length:Int)+(b.length:Int)<=1000000:=by omega
  have gd:(0:Int)<=(a.length:Int)+(b.length:Int):=by omega
  refine aq (ft (p:=0) (k:=997) TD (by kernel_rfl) ah) (by kernel_rfl) (by conv=>lhs;reduce) (by simp) ?_;simp;refine au (fun i:Nat=>i=0\/i=1\/i=2) (fun i=>⟨[(0,.pv (.ro [[.ro (ay a)],[.ro (ay b)]])),(2,.own 2),(3,.pv (.int .i64 (if i=0 then 0 else if i=1 then(a.length:Int) else(a.length:Int)+(b.length:Int)))),(9,.pv (.ro [[.ro (ay a)],[.ro (ay b)]])),(10,.pv (.int .i64 2)),(11,.pv (.int .i64 i))],[(2,.arr 177 [])]⟩) (fun i=>2-i) [] 0 (by simp) ?_ ?_;·simp
  ·rintro i (rfl|rfl|rfl);·simp[r0,wa,ga,w1]
   ·simp[r1,wab,gab,w2]
   ·simp[gc,gd];refine au (fun i:Nat=>i=0\/i=1\/i=2) (fun i=>⟨[(0,.pv (.ro [[.ro (ay a)],[.ro (ay b)]])),(2,.own 2),(6,.own 24),(25,.pv (.ro [[.ro (ay a)],[.ro (ay b)]])),(26,.pv (.int .i64 2)),(27,.pv (.int .i64 i))],[(2,.arr 177 []),(24,.arr 177 (if i=0 then[] else if i=1 then ay a else ay (a++b)))]⟩) (fun i=>2-i) [] 0 (by simp) ?_ ?_;·simp
    ·rintro i (rfl|rfl|rfl);·simp[r0,w1,aF];exact⟨by omega,by omega,h3a⟩
     ·simp[r1,w2,aF];exact⟨⟨by omega,by omega,h3b⟩,(gN a b).symm⟩
     ·simp
 ·cases h
@[simp] noncomputable def Qg:List AV->Option (Prop×AV)|[.agg [.pv (.ro a)],.pv (.int .u64 n)]=>(dec rowP a).map fun l=>(l.length<=100000,.aN [.agg [.fr 177 (ay (yG l n).1)],.pv (.int .i64 (yG l n).2)])|_=>none
def zY (l:List Pn) (i j:Int):cut (ay l) i j=ay ((l.take j.toNat).drop i.toNat):=by unfold cut ay;rw[q189,q161]
def Q9:aL Tryz.prog 214 Qg:=by
 intro ys φ r h hφ;unfold Qg at h;split at h
 ·rename_i ra n;obtain⟨a,ha,h⟩:=q900.1 h;cases h;cases aM ha;have hl9:a.length<=1000000000:=by omega
  have hinf:(Tryz.prog.info? 177).isSome=true:=by kernel_rfl
  have h3:=cz a;have his:WC 232 n=fun e=>decide (e.i=n):=by rfl
  refine aq (ag c_Ix (ag c_Cat ah)) (by kernel_rfl) (by conv=>lhs;reduce) (by simp) ?_;unfold yG;by_cases hh:Cv a n=true
  ·obtain⟨k,hk,hkl,hke⟩:=Ct n a hh;have hn0:¬((k:Int)<0):=by omega
   have w1:IntKind.i64.wrap ((k:Int)+1)=(k:Int)+1:=wrap_i64 (by omega);have c1:cut (ay a) 0 (k:Int)=ay (a.take k):=by rw[zY];simp
   have c2:cut (ay a) ((k:Int)+1) (a.length:Int)=ay (a.drop (k+1)):=by rw[zY,show((k:Int)+1).toNat=k+1 from by omega];simp
   have hl1:(a.take k).length<=100000:=by rw[q68];omega
   have hl2:(a.drop (k+1)).length<=100000:=by rw[q88];omega
   have hf:∀l,bP (ay l):=aV;simp[hh,hl9,his,hk,hn0,w1,c1,c2,hl1,hl2,hke,hf,hinf];exact⟨⟨by omega,h3⟩,⟨by omega,by omega,h3⟩,by omega,by omega⟩
  ·have hh':Cv a n=false:=by simpa using hh
   have hk:qq (fun e=>decide (e.i=n)) a=-1:=by apply kR;intro e he;unfold Cv at hh';rw[q146]at hh';simpa using hh' e he
   simp[hh,hl9,his,hk,hinf]
 ·cases h
@[simp] noncomputable def GrRem:List AV->Option (Prop×AV)|[.pv (.ro a),.pv (.int .u64 n)]=>(dec rowP a).map fun l=>(l.length<=100000,.aN [.fr 205 (ay (yG l n).1),.pv (.int .i64 (yG l n).2)])|_=>none
def ofP (l:List Pn) (n:Int):Bool:=l.any fun e=>decide (e.v=n)
@[simp] noncomputable def GpOf:List AV->Option (Prop×AV)|[.agg [.pv (.ro a)],.pv (.int .u64 n)]=>(dec rowP a).map fun l=>(l.length<=1000000000,.pv (.bool (ofP l n)))|_=>none
@[simp] noncomputable def GrOf:List AV->Option (Prop×AV)|[.pv (.ro a),.pv (.int .u64 n)]=>(dec rowP a).map fun l=>(l.length<=1000000000,.pv (.bool (ofP l n)))|_=>none
end Go.Proofs.YtifcndkhigakfaaGreat.Ab
namespace Go.Proofs.YtifcndkhigakfaaGreat.Ab
open Go Go.RowKit
variable {α:Type}{f:FuncId}{rows:List (List PV)}{K:St->Prop}{i:Nat}{ts:List (List UInt8)}{J:Exit->St->Prop}{os:List (Nat×AO)}{vs:List (Nat×AV)}{is:List AI}
section
variable{P:Program}{Γ:b7}
def ax {o:Option α}{K K':α->Prop} (h:∀x,K x->K' x) (hs:aj o K):aj o K':=by cases o with|none=>exact hs|some x=>exact h x hs
def rS {d:Option Nat}{xs:List AV}{aa:Nat->Option AO}{C C':bR->Prop} (h:∀e,C e->C' e) (hs:cS P Γ d f xs aa C):cS P Γ d f xs aa C':=by unfold cS at hs |-;refine ax (fun d hs=>⟨hs.1,ax (fun ys hs=>ax (fun x hs=>?_) hs) hs.2⟩) hs;exact⟨hs.1,hs.2.1,hs.2.2.1,hs.2.2.2.1,h _ hs.2.2.2.2⟩
def nF {i:AI}{K K':St->Prop} (h:∀st,K st->K' st) {st:St} (hs:dz P Γ i K st):dz P Γ i K' st:=by obtain⟨e,he,hk⟩:=cM.1 hs;exact cM.2 ⟨e,he,h _ hk⟩
def wM {i:AI}{K K':St->Prop} (h:∀st,K st->K' st) {st:St} (hs:nM P Γ i f K st):nM P Γ i f K' st:=by
 unfold nM at hs |-;refine ax (fun ys hs=>ax (fun x hs=>?_) hs) hs;split at hs;·rename_i hc;rw[if_pos hc];exact rS (fun e he=>h _ he) hs
 ·rename_i hc;rw[if_neg hc];exact nF h hs
def pZ {b f:Bool}{A B A' B':Prop} (hA:A->A') (hB:B->B') (h:je b f A B):je b f A' B':=by cases b with|false=>exact hA h|true=>cases f with|false=>exact hA h|true=>exact hB h
def wh {i:AI}{K K':St->Prop} (h:∀st,K st->K' st) {st:St} (hs:cB P Γ i K st):cB P Γ i K' st:=by
 unfold cB at hs |-;split at hs;·exact nF h hs
 ·exact pZ (nF h) (h _) hs
def tW {i:AI}{K K':St->Prop} (h:∀st,K st->K' st) {st:St} (hs:kv P Γ i K st):kv P Γ i K' st:=by
 have hE:∀{st:St}{d:Option Nat}{x:XK}{xs:List AV},bH d x xs K st->bH d x xs K' st:=by
  intro st d x xs hs;unfold bH at hs |-;split at hs;·exact ax (fun d hs=>⟨hs.1,h _ hs.2⟩) hs
  ·exact⟨hs.1,ax (fun es hs=>⟨hs.1,hs.2.1,hs.2.2.1,h _ hs.2.2.2⟩) hs.2⟩
  ·exact⟨hs.1,ax (fun es hs=>⟨hs.1,hs.2.1,h _ hs.2.2⟩) hs.2⟩
  ·unfold tX at hs |-;split at hs;·exact⟨hs.1,hs.2.1,h _ hs.2.2⟩
   ·exact hs
  ·exact⟨hs.1,ax (fun rows hs b hb=>h _ (hs b hb)) hs.2⟩
  ·exact⟨hs.1,h _ hs.2⟩
  ·unfold nu at hs |-;split at hs;·exact ax (fun d hs=>⟨hs.1,hs.2.1,hs.2.2.1,h _ hs.2.2.2⟩) hs
   ·exact hs
  ·exact ax (fun d hs=>⟨hs.1,hs.2.1,hs.2.2.1,h _ hs.2.2.2⟩) hs
  ·unfold tB at hs |-;split at hs;·exact ax (fun d hs=>⟨hs.1,hs.2.1,hs.2.2.1,h _ hs.2.2.2⟩) hs
   ·exact hs
  ·exact⟨hs.1,hs.2.1,hs.2.2.1,hs.2.2.2.1,h _ hs.2.2.2.2⟩
  ·exact⟨hs.1,ax (fun r hs=>⟨hs.1,h _ hs.2⟩) hs.2⟩
  ·unfold tm at hs |-;split at hs
   ·unfold Qe at hs |-;split at hs;·exact⟨hs.1,ax (fun r hs=>⟨hs.1,hs.2.1,h _ hs.2.2⟩) hs.2⟩
    ·exact hs
   ·unfold KH at hs |-;split at hs;·exact⟨hs.1,ax (fun r hs=>ax (fun j hs=>ax (fun s hs=>ax (fun ps hs=>h _ hs) hs) hs) hs) hs.2⟩
    ·exact hs
   ·exact ax (fun d hs=>⟨hs.1,h _ hs.2⟩) hs
   ·unfold tK at hs |-;split at hs;·exact⟨hs.1,ax (fun r hs=>⟨hs.1,hs.2.1,h _ hs.2.2⟩) hs.2⟩
    ·exact hs
   ·unfold zG at hs |-;split at hs;·exact⟨hs.1,ax (fun r hs=>⟨hs.1,hs.2.1,hs.2.2.1,h _ hs.2.2.2⟩) hs.2⟩
    ·exact hs
   ·unfold O3 at hs |-;split at hs;·exact⟨hs.1,ax (fun r hs=>⟨hs.1,hs.2.1,h _ hs.2.2⟩) hs.2⟩
    ·exact hs
   ·exact⟨hs.1,ax (fun r hs=>h _ hs) hs.2⟩
   ·unfold PR at hs |-;split at hs;·exact ax (fun d hs=>⟨hs.1,hs.2.1,h _ hs.2.2⟩) hs
    ·exact hs
   ·unfold Ps at hs |-;split at hs;·exact⟨hs.1,ax (fun r hs=>⟨fun e=>h _ (hs.1 e),fun e l m q=>h _ (hs.2 e l m q)⟩) hs.2⟩
    ·exact hs
   ·unfold PX at hs |-;split at hs;·exact⟨hs.1,ax (fun r hs=>ax (fun e hs=>h _ hs) hs) hs.2⟩
    ·exact hs
   ·unfold sR at hs |-;exact ax (fun d hs=>⟨hs.1,ax (fun r hs=>⟨hs.1,hs.2.1,h _ hs.2.2⟩) hs.2⟩) hs
   ·exact hs
 unfold kv at hs |-;split at hs;·exact hE hs
 ·unfold EL at hs |-;refine ax (fun c hs=>?_) hs;split at hs;·rename_i h1;rw[if_pos h1];exact hE hs
  ·rename_i h1;rw[if_neg h1];exact h _ hs
 ·exact wh h hs
 ·rename_i e sz zs e1 e2;unfold rl at hs |-;exact⟨hs.1,ax (fun X hs=>ax (fun r hs=>h _ hs) hs) hs.2⟩
 ·unfold GB nc at hs |-;split at hs
  ·split at hs
   ·rename_i h0;rw[if_pos h0];refine ax (fun c hs=>?_) hs;split at hs;·rename_i h2;rw[if_pos h2];exact gV h hs
    ·rename_i h2;rw[if_neg h2];exact h _ hs
   ·exact hs.elim
  refine pZ (fun hs=>?_) (h _) hs;refine ax (fun c hs=>ax (fun ys hs=>ax (fun x hs=>?_) hs) hs) hs;split at hs
  ·rename_i h1;rw[if_pos h1];split at hs;·rename_i h2;rw[if_pos h2];exact wM h hs
   ·rename_i h2;rw[if_neg h2];exact h _ hs
  ·rename_i h1;rw[if_neg h1];exact nF h hs
 ·unfold gS at hs |-;split at hs
  ·refine⟨hs.1,ax (fun x hs=>⟨hs.1,?_⟩) hs.2⟩;have hs:=hs.2;unfold fI at hs |-;split at hs
   ·split at hs;·rename_i h1;rw[if_pos h1];exact gV h hs
    ·exact hs.elim
   ·exact rS (fun e he=>h _ he) hs
  ·refine pZ (fun hs=>?_) (h _) hs;unfold tu at hs |-;refine ax (fun c hs=>ax (fun x hs=>⟨hs.1,?_⟩) hs) hs;have hs:=hs.2;unfold jr at hs |-;split at hs
   ·split at hs
    ·rename_i h1;rw[if_pos h1];split at hs;·rename_i h2;rw[if_pos h2];exact⟨hs.1,gV h hs.2⟩
     ·rename_i h2;rw[if_neg h2];exact h _ hs
    ·exact hs.elim
   unfold DR at hs |-;exact ax (fun ys hs=>ax (fun x hs=>⟨hs.1,hs.2.1,hs.2.2.1,hs.2.2.2.1,hs.2.2.2.2.1,h _ hs.2.2.2.2.2⟩) hs) hs
 ·unfold iS at hs |-;split at hs
  ·split at hs;·rename_i h1;rw[if_pos h1];unfold CN at hs |-;exact ax (fun d hs=>⟨hs.1,ax (fun ys hs=>ax (fun x hs=>⟨hs.1,hs.2.1,hs.2.2.1,hs.2.2.2.1,h _ hs.2.2.2.2⟩) hs) hs.2⟩) hs
   ·rename_i h1;rw[if_neg h1];split at hs;·rename_i h2;rw[if_pos h2];exact gV h hs
    rename_i h2;rw[if_neg h2];unfold my at hs |-;refine ax (fun d hs=>⟨hs.1,ax (fun X hs=>ax (fun T hs=>⟨hs.1,ax (fun ys hs=>ax (fun x hs=>?_) hs) hs.2⟩) hs) hs.2⟩) hs;exact⟨hs.1,hs.2.1,hs.2.2.1,hs.2.2.2.1,h _ hs.2.2.2.2⟩
  ·exact wM h hs
 ·exact nF h hs
 ·exact wh h hs
def xR {i:AI}{K K':St->Prop} (h:∀st,K st->K' st) {st:St} (hs:cn P Γ i K st):cn P Γ i K' st:=by
 unfold cn at hs |-;split at hs
 ·split at hs;·rename_i h1;rw[if_pos h1];exact⟨hs.1,ax (fun r hs=>⟨hs.1,hs.2.1,h _ hs.2.2⟩) hs.2⟩
  ·rename_i h1;rw[if_neg h1];exact tW h hs
 ·exact tW h hs
def nI {K K':St->Prop} (h:∀st,K st->K' st):∀{is:List AI}{st:St},dj P Γ is K st->dj P Γ is K' st|[],st,hs=>h st hs|i::is,st,hs=>xR (fun st hs=>nI h hs) hs
def Cd {K K':St->Prop} (h:∀st,K st->K' st):∀{is:List AI}{st:St},steps P Γ is K st->steps P Γ is K' st|[],st,hs=>h st hs|i::is,st,hs=>jY (fun st hs=>Cd h hs) hs
def fP:∀{a:AC}{K K':St->Prop}{J J':Exit->St->Prop}{st:St},(∀st,K st->K' st)->(∀e st,J e st->J' e st)->jn P Γ a K J st->jn P Γ a K' J' st
 |.skip,_,_,_,_,st,h,_,hs=>h st hs|.LZ is d bU,_,_,_,_,st,h,_,hs=>by
  unfold jn at hs |-;split at hs;·rename_i hd;rw[if_pos hd];exact Cd (fun st hs=>h _ hs) hs
  ·rename_i hd;rw[if_neg hd];exact nI (fun st hs=>h _ hs) hs|.seq a b,_,_,_,_,st,h,hj,hs=>fP (a:=a) (fun st hs=>fP (a:=b) h hj hs) hj hs|.cond x a b,_,_,_,_,st,h,hj,hs=>ax (fun c hs=>⟨fun e=>fP (a:=a) h hj (hs.1 e),fun e=>fP (a:=b) h hj (hs.2 e)⟩) (show aj _ _ from hs)|.block id a,K,K',J,J',st,h,hj,hs=>fP (a:=a) h (fun e st hs=>by cases e with
   |exit id'=>
    simp only[qH]at hs |-;split at hs;·rename_i h1;rw[if_pos h1];exact h _ hs
    ·rename_i h1;rw[if_neg h1];exact hj _ _ hs|_=>exact hj _ _ hs) (show jn P Γ a K (qH id K J) st from hs)|.loop a,_,_,_,_,st,h,hj,hs=>by obtain⟨ι,F,μ,ad,shs,i0,hw,hr⟩:=hs;exact⟨ι,F,μ,ad,shs,i0,hw,fun i=>fP (a:=a) (fun st hs=>hs) hj (hr i)⟩|.exit id,_,_,_,_,st,_,hj,hs=>hj _ _ hs|.ret,_,_,_,_,st,_,hj,hs=>hj _ _ hs
def ae {a b:AC}{st:St} (vs:List (Nat×AV)) (os:List (Nat×AO)) (h1:jn P Γ a (fun st'=>st'=⟨look vs,ab os⟩) J st) (h2:jn P Γ b K J ⟨look vs,ab os⟩):jn P Γ (.seq a b) K J st:=fP (a:=a) (fun st' (hs:st'=_)=>by rw[hs];exact h2) (fun _ _ h=>h) h1
def cm {x:Operand}{a b:AC} (h:jX (ev (look vs) x)=some true) (h1:jn P Γ a K J ⟨look vs,ab os⟩):jn P Γ (.cond x a b) K J ⟨look vs,ab os⟩:=by rw[R.BZ,h];exact⟨fun _=>h1,fun e=>Bool.noConfusion e⟩
def cr {x:Operand}{a b:AC} (h:jX (ev (look vs) x)=some false) (h1:jn P Γ b K J ⟨look vs,ab os⟩):jn P Γ (.cond x a b) K J ⟨look vs,ab os⟩:=by rw[R.BZ,h];exact⟨fun e=>Bool.noConfusion e,fun _=>h1⟩
def Au {a:AC}{st:St} (vs:List (Nat×AV)) (os:List (Nat×AO)) (h1:jn P Γ a (fun st'=>st'=⟨look vs,ab os⟩) J st) (h2:K ⟨look vs,ab os⟩):jn P Γ a K J st:=fP (a:=a) (fun st' (hs:st'=_)=>by rw[hs];exact h2) (fun _ _ h=>h) h1
def bB {a b:AC}{st:St} (Q:St->Prop) (h1:jn P Γ a Q J st) (h2:∀st',Q st'->jn P Γ b K J st'):jn P Γ (.seq a b) K J st:=fP (a:=a) (fun st' hs=>h2 st' hs) (fun _ _ h=>h) h1
def EU {is js:List AI}{st:St} (vs:List (Nat×AV)) (os:List (Nat×AO)) (h1:dj P Γ is (fun st'=>st'=⟨look vs,ab os⟩) st) (h2:dj P Γ js K ⟨look vs,ab os⟩):dj P Γ (is++js) K st:=by
 have key:∀(is:List AI) (st:St),dj P Γ is (fun st'=>dj P Γ js K st') st->dj P Γ (is++js) K st:=by intro is;induction is with|nil=>exact fun st h=>h|cons i is ih=>exact fun st h=>xR (fun st hs=>ih st hs) h
 exact key is st (nI (fun st' (hs:st'=_)=>by rw[hs];exact h2) h1)
def Iq (k:Nat) {st:St} (vs:List (Nat×AV)) (os:List (Nat×AO)) (h1:dj P Γ (is.take k) (fun st'=>st'=⟨look vs,ab os⟩) st) (h2:dj P Γ (is.drop k) K ⟨look vs,ab os⟩):dj P Γ is K st:=by have:=EU vs os h1 h2;rwa[q127]at this
def jJ (k:Nat) {is l1 l2:List AI}{st:St} (e1:is.take k=l1) (e2:is.drop k=l2) (h1:dj P Γ l1 (fun st'=>st'=⟨look vs,ab os⟩) st) (h2:dj P Γ l2 K ⟨look vs,ab os⟩):dj P Γ is K st:=by subst e1 e2;exact Iq k vs os h1 h2
def Od {args:List AV}{e:TypeId} (h:yA P f [] args [] (.fr e rows)):yA P f [] args [] (.pv (.ro rows)):=by
 intro w S0 β vals h1 h2 h3 h4 h5;have hno:∀t,bF (ab []) (fun t=>dO (cellAt (.pv (.ro rows)) t)) t=none:=by
  intro t;show dO (cellAt (.pv (.ro rows)) t)=none;simp only[cellAt,bS];split;·split<;>rfl
  ·rfl
 refine(h w S0 β vals h1 h2 h3 h4 h5).mono ?_;rintro ex w' ⟨v,β',rfl,hF,hH,ho,hv⟩;have hob:(bF (ab []) fun t=>dO (cellAt (.fr e rows) t)) 0=some (.arr e rows):=rfl;have hv0:RV P (bn S0 w.heap.size β' (bF (ab []) fun t=>dO (cellAt (.fr e rows) t)) w') w' β' (aE (bF (ab []) fun t=>dO (cellAt (.fr e rows) t))) v (.own 0):=hv;have hve:=hv0.bo.1;have hh:=hH.holds 0 _ hob;obtain⟨hr,_⟩:=Bb (S':=bn S0 w.heap.size β' (bF (ab []) fun t=>dO (cellAt (.pv (.ro rows)) t)) w') hh (fun b hb=>⟨hb.1,hb.2.1,fun⟨t,o,hto,_⟩=>by rw[hno]at hto;cases hto⟩) (fun b hb=>⟨.inr ((ho 0 b ⟨_,hob⟩ hb).resolve_right fun⟨t,o,hto,_⟩=>by cases hto),hh.lt b hb,fun⟨t,o,hto,_⟩=>by rw[hno]at hto;cases hto⟩);exact⟨v,β',rfl,hF,⟨(fun t o hto=>by rw[hno]at hto;cases hto),(fun t t' b ⟨o,hto⟩=>by rw[hno]at hto;cases hto)⟩,(fun t b ⟨o,hto⟩=>by rw[hno]at hto;cases hto),.pv _ _ (hve▸hr)⟩
@[simp] def pubA:AV->AV|.fr _ rows=>.pv (.ro rows)|v=>v
@[simp] def YB (G:List AV->Option (Prop×AV)) (ys:List AV):Option (Prop×AV):=(G ys).map fun x=>(x.1,pubA x.2)
def xI {G:List AV->Option (Prop×AV)} (h:R.aL P f G):R.aL P f (YB G):=by intro ys φ r hg hφ;unfold YB at hg;obtain⟨⟨φ',r'⟩,hx,he⟩:=q900.1 hg;cases he;have:=h ys φ' r' hx hφ;cases r'<;>first|exact Od this|exact this
end
end Go.Proofs.YtifcndkhigakfaaGreat.Ab
namespace Go.Proofs.YtifcndkhigakfaaGreat.Ab
open Go Go.RowKit R
variable {α:Type}{f:FuncId}{rows:List (List PV)}{K:St->Prop}{i:Nat}{ts:List (List UInt8)}{J:Exit->St->Prop}{os:List (Nat×AO)}{vs:List (Nat×AV)}{is:List AI}
structure Vn where
 n:Int
 b:Int
 p:Int
 i:Int
 s:Int
 z:Int
 m:Int
 t:List UInt8
 inl:Bool
 ej:Bool deriving DecidableEq
def v0:Vn:=⟨0,0,0,0,0,0,0,[],false,false⟩
def dt (v:Vn):List PV:=[.int .u64 v.n,.int .u64 v.b,.int .u64 v.p,.int .u64 v.i,.int .u64 v.s,.int .u64 v.z,.int .u64 v.m,.str v.t,.bool v.inl,.bool v.ej]
def dy (v:Vn):List AV:=[.pv (.int .u64 v.n),.pv (.int .u64 v.b),.pv (.int .u64 v.p),.pv (.int .u64 v.i),.pv (.int .u64 v.s),.pv (.int .u64 v.z),.pv (.int .u64 v.m),.pv (.str v.t),.pv (.bool v.inl),.pv (.bool v.ej)]
def qY:∀a b,dt a=dt b->a=b:=by intro a b h;cases a;cases b;simpa[dt]using h
def aI (l:List Vn):List (List PV):=l.map dt
@[simp] def VN:aI []=[]:=rfl
@[simp] def MD (l:List Vn):(aI l).length=l.length:=by simp[aI]
def dC (l m:List Vn):aI (l++m)=aI l++aI m:=by simp[aI]
def sj (l:List Vn):∀r∈aI l,r.length=10:=by intro r hr;simp only[aI,q83]at hr;obtain⟨c,_,rfl⟩:=hr;rfl
def b8 {l:List Vn} (h:i<l.length):rowAt (aI l) (i:Int)=[.int .u64 l[i].n,.int .u64 l[i].b,.int .u64 l[i].p,.int .u64 l[i].i,.int .u64 l[i].s,.int .u64 l[i].z,.int .u64 l[i].m,.str l[i].t,.bool l[i].inl,.bool l[i].ej]:=by simp[rowAt,aI,h,dt]
def Ib (l:List Vn) (i:Nat):cut (aI l) 0 (i:Int)=aI (l.take i):=by simp[cut,aI]
@[simp] def G0 (l:List Vn):dec dt (aI l)=some l:=jl qY l
def aJ {l:List Vn} (h:dec dt rows=some l):rows=aI l:=jq h
def aT (l:List Vn):bP (aI l):=by intro r hr p hp;simp only[aI,q83]at hr;obtain⟨c,_,rfl⟩:=hr;simp only[dt,q78,q102,or_false]at hp;rcases hp with rfl|rfl|rfl|rfl|rfl|rfl|rfl|rfl|rfl|rfl<;>rfl
def bG (v:Vn):Int:=if v.inl=true then 0 else v.b
@[simp] def Gn:List AV->Option (Prop×AV)|[.agg [.pv (.int .u64 _),.pv (.int .u64 b),.pv (.int .u64 _),.pv (.int .u64 _),.pv (.int .u64 _),.pv (.int .u64 _),.pv (.int .u64 _),.pv (.str _),.pv (.bool inl),.pv (.bool _)]]=>some (True,.pv (.int .u64 (if inl=true then 0 else b)))|_=>none
def Fa:aL Tryz.prog 161 Gn:=by
 intro ys φ r h hφ;unfold Gn at h;split at h;·rename_i n b p i s z m t inl ej;cases h;refine aq ah (by kernel_rfl) (by conv=>lhs;reduce) (by simp) ?_;cases inl<;>simp
 ·cases h
def uN (l:List Vn) (n:Int):Int:=if l.findIdx (fun v=>decide (v.n=n))<l.length then(l.findIdx (fun v=>decide (v.n=n)):Int) else-1
def A7 {l:List Vn}{n:Int} (h:i<l.length) (hq:l[i].n=n) (ht:∀v∈l.take i,¬v.n=n):uN l n=i:=by
 have hf:l.findIdx (fun v=>decide (v.n=n))=i:=by
  rw[q173 h];refine⟨by simpa using hq,fun j hj=>?_⟩;have:l[j]∈l.take i:=by rw[q90];exact⟨j,by omega,rfl⟩
  simpa using ht _ this
 unfold uN;rw[hf,if_pos h]
def wB {l:List Vn}{n:Int} (ht:∀v∈l,¬v.n=n):uN l n=-1:=by
 have hf:l.findIdx (fun v=>decide (v.n=n))=l.length:=by rw[q210];intro v hv;simpa using ht v hv
 unfold uN;rw[hf,if_neg (by omega)]
def oN (l:List Vn) (n:Int):(∃i,∃h:i<l.length,uN l n=i/\l[i].n=n/\∀v∈l.take i,¬v.n=n)\/(uN l n=-1/\∀v∈l,¬v.n=n):=by
 by_cases h:∃v∈l,v.n=n
 ·left;have hlt:l.findIdx (fun v=>decide (v.n=n))<l.length:=by rw[q211];obtain⟨v,hv,hn⟩:=h;exact⟨v,hv,by simpa using hn⟩
  have h1:l[l.findIdx (fun v=>decide (v.n=n))].n=n:=by have:=List.findIdx_getElem (w:=hlt);simpa using this
  have h2:∀v∈l.take (l.findIdx (fun v=>decide (v.n=n))),¬v.n=n:=by intro v hv;rw[q90]at hv;obtain⟨j,hj,rfl⟩:=hv;have:=List.not_of_lt_findIdx (show j<l.findIdx (fun v=>decide (v.n=n)) by omega);simpa using this
  exact⟨_,hlt,A7 hlt h1 h2,h1,h2⟩
 ·right;have h':∀v∈l,¬v.n=n:=fun v hv hn=>h ⟨v,hv,hn⟩;exact⟨wB h',h'⟩
@[simp] def YW:List AV->Option (Prop×AV)|[.agg [.pv (.int .u64 a),.pv (.int .u64 _),.pv (.int .u64 _),.pv (.int .u64 _),.pv (.int .u64 _),.pv (.int .u64 _),.pv (.int .u64 _),.pv (.str _),.pv (.bool _),.pv (.bool _)],.rp [.int .u64 n]]=>some (True,.pv (.bool (decide (a=n))))|_=>none
def aa8:aL Tryz.prog 199 YW:=by
 intro ys φ r h hφ;unfold YW at h;split at h;·cases h;refine aq ah (by kernel_rfl) (by conv=>lhs;reduce) (by simp) ?_;simp
 ·cases h
def Me:gz Tryz.prog 199=true:=by kernel_rfl
@[simp] noncomputable def abn:List AV->Option (Prop×AV)|[.pv (.ro a),.bI f [.rp [.int .u64 n]]]=>if f=199 then(dec dt a).map fun l=>(l.length<=1000000000,.pv (.int .i64 (uN l n))) else none|_=>none
def c_ixV:aL Tryz.prog 197 abn:=by
 intro ys φ r h hφ;unfold abn at h;split at h
 ·rename_i ra f n;split at h
  ·rename_i hf;subst hf;obtain⟨a,ha,h⟩:=q900.1 h;cases h;cases aJ ha;refine aq (ag aa8 ah) (by kernel_rfl) (by conv=>lhs;reduce) (by simp) ?_;simp;refine au (fun i:Nat=>i<=a.length/\∀v∈a.take i,¬v.n=n) (fun i=>⟨[(0,.pv (.ro (aI a))),(1,.bI 199 [.rp [.int .u64 n]]),(7,.pv (.int .i64 a.length)),(8,.pv (.int .i64 i))],[]⟩) (fun i=>a.length-i) [] 0 (by simp) ?_ ?_;·simp
   ·rintro i ⟨hi,ht⟩;have w2:IntKind.i64.wrap ((i:Int)+1)=(i:Int)+1:=wrap_i64 (by omega);by_cases hlt:i<a.length
    ·have r1:=b8 hlt;have hr:¬a[i].n=n->∀v∈a.take (i+1),¬v.n=n:=by
      intro h0 e he;rw[q64 hlt,q75]at he;rcases he with he|he;·exact ht e he
      ·rw[q73]at he;rw[he];exact h0
     simp[w2,hlt,r1,Me];refine⟨fun h=>(A7 hlt h ht).symm,fun h=>⟨i+1,⟨by omega,hr h⟩,by omega,by omega⟩⟩
    ·simp[hlt];rw[List.take_of_length_le (by omega)]at ht;exact(wB ht).symm
  ·cases h
 ·cases h
@[simp] noncomputable def Gof:List AV->Option (Prop×AV)|[.pv (.ro a),.pv (.int .u64 n)]=>(dec dt a).map fun l=>(l.length<=1000000000,.pv (.int .i64 (uN l n)))|_=>none
def Tt:aL Tryz.prog 162 Gof:=by
 intro ys φ r h hφ;unfold Gof at h;split at h;·rename_i ra n;obtain⟨a,ha,h⟩:=q900.1 h;cases h;cases aJ ha;refine aq (ag c_ixV ah) (by kernel_rfl) (by conv=>lhs;reduce) (by simp) ?_;simp[hφ]
 ·cases h
def fK (l:List Vn) (i:Nat):Int:=match i with|0=>0|i+1=>((l[i]?).getD v0).n
def iZ (l:List Vn) (i:Nat):Bool:=decide (fK l i<((l[i]?).getD v0).n)&&(decide (bG ((l[i]?).getD v0)=0)||decide (0<=uN (l.take i) (bG ((l[i]?).getD v0))))
def aS (l:List Vn):Bool:=(List.range l.length).all (iZ l)
def eY (l:List Vn):aS l=true↔∀i,i<l.length->iZ l i=true:=by unfold aS;rw[q85];exact⟨fun h i hi=>h i (q142.2 hi),fun h i hi=>h i (q142.1 hi)⟩
def xN {l:List Vn} (hi:i<l.length) (h:iZ l i=false):aS l=false:=by cases hr:aS l with|false=>rfl|true=>rw[(eY l).1 hr i hi]at h;cases h
@[simp] noncomputable def GRv:List AV->Option (Prop×AV)|[.pv (.ro a)]=>(dec dt a).map fun l=>(l.length<=1000000000,.pv (.bool (aS l)))|_=>none
def IC:aL Tryz.prog 121 GRv:=by
 intro ys φ r h hφ;unfold GRv at h;split at h
 ·rename_i ra;obtain⟨a,ha,h⟩:=q900.1 h;cases h;cases aJ ha;refine aq (ag Fa (ag Tt ah)) (by kernel_rfl) (by conv=>lhs;reduce) (by simp) ?_;simp;refine au (fun i:Nat=>i<=a.length/\∀j,j<i->iZ a j=true) (fun i=>⟨[(0,.pv (.ro (aI a))),(2,.pv (.bool false)),(3,.pv (.int .u64 (fK a i))),(6,.pv (.ro (aI a))),(7,.pv (.int .i64 a.length)),(8,.pv (.int .i64 i))],[]⟩) (fun i=>a.length-i) [] 0 (by simp) ?_ ?_;·simp[fK]
  ·rintro i ⟨hi,ht⟩;have w2:IntKind.i64.wrap ((i:Int)+1)=(i:Int)+1:=wrap_i64 (by omega);by_cases hlt:i<a.length
   ·have r1:=b8 hlt;have hg:(a[i]?).getD v0=a[i]:=by rw[q62 hlt];rfl
    have hpn:fK a (i+1)=a[i].n:=by simp only[fK];rw[hg]
    have hok:iZ a i=(decide (fK a i<a[i].n)&&(decide (bG a[i]=0)||decide (0<=uN (a.take i) (bG a[i])))):=by unfold iZ;rw[hg]
    have hnext:iZ a i=true->∀j,j<i+1->iZ a j=true:=by
     intro h j hj;by_cases hji:j=i;·rw[hji];exact h
     ·exact ht j (by omega)
    have hbad:iZ a i=false->aS a=false:=xN hlt;have hcut:=Ib a i;have htl:(a.take i).length<=1000000000:=by rw[q68];omega
    have hbv:(if a[i].inl=true then 0 else a[i].b)=bG a[i]:=rfl;have hmin:min i a.length<=1000000000:=by omega
    by_cases h1:a[i].n<=fK a i;·have hb:=hbad (by rw[hok,q220];left;simp;omega);simp[w2,hlt,r1,h1,hb,hbv,hcut,hmin]
    ·have h1':fK a i<a[i].n:=by omega
     by_cases h2:bG a[i]=0;·simp[w2,hlt,r1,h1,h2,hbv,hcut,hmin];exact⟨i+1,⟨by omega,hnext (by rw[hok];simp[h1',h2])⟩,⟨hpn.symm,by omega⟩,by omega⟩
     ·simp[w2,hlt,r1,h1,h2,hbv,hcut,hmin];refine⟨⟨hi,sj a⟩,fun h=>hbad (by rw[hok];simp[h1',h2];omega),fun h=>⟨i+1,⟨by omega,hnext (by rw[hok];simp[h1',h2,h])⟩,⟨hpn.symm,by omega⟩,by omega⟩⟩
   ·have:i=a.length:=by omega
    subst this;have hr:aS a=true:=(eY a).2 ht;simp[hr]
 ·cases h
def aQ (l:List Vn):List Vn:=l.filter fun v=>!v.ej
def gp (l:List Vn):(aQ l).length<=l.length:=q182 _ _
def vB {l:List Vn} (h:i<l.length):aQ (l.take (i+1))=if l[i].ej=true then aQ (l.take i) else aQ (l.take i)++[l[i]]:=by rw[q64 h];unfold aQ;rw[q165];cases hh:l[i].ej<;>simp[hh]
@[simp] noncomputable def F1 (e:TypeId):List AV->Option (Prop×AV)|[.pv (.ro a)]=>(dec dt a).map fun l=>(l.length<=1000000,.fr e (aI (aQ l)))|_=>none
def vZ:aL Tryz.prog 22 (F1 132):=by
 intro ys φ r h hφ;unfold F1 at h;split at h
 ·rename_i ra;obtain⟨a,ha,h⟩:=q900.1 h;cases h;cases aJ ha;refine aq ah (by kernel_rfl) (by conv=>lhs;reduce) (by simp) ?_;simp;refine au (fun i:Nat=>i<=a.length) (fun i=>⟨[(0,.pv (.ro (aI a))),(2,.own 2),(5,.pv (.ro (aI a))),(6,.pv (.int .i64 a.length)),(7,.pv (.int .i64 i))],[(2,.arr 132 (aI (aQ (a.take i))))]⟩) (fun i=>a.length-i) [] 0 (by simp) ?_ ?_;·simp[aQ]
  ·intro i hi;have w2:IntKind.i64.wrap ((i:Int)+1)=(i:Int)+1:=wrap_i64 (by omega);by_cases hlt:i<a.length
   ·have r1:=b8 hlt;have hs:=vB hlt;have hl:=gp (a.take i);have hl1:(a.take i).length<=1000000:=by rw[q68];omega
    cases hh:a[i].ej with|true=>rw[hh,if_pos rfl]at hs;simp[w2,hlt,r1,hh];exact⟨i+1,by omega,⟨by omega,by rw[hs]⟩,by omega⟩|false=>rw[hh,if_neg (by simp)]at hs;simp[w2,hlt,r1,hh,aF];refine⟨⟨by omega,by omega⟩,i+1,by omega,⟨by omega,?_⟩,by omega⟩;rw[hs,dC];simp[aI,dt,hh]
   ·simp[hlt];rw[List.take_of_length_le (by omega)]
 ·cases h
def iO (l:List Vn) (n:Int):Option Vn:=(aQ l).find? fun v=>decide (v.n=n)
def Ni {l:List Vn}{n:Int} (h:i<(aQ l).length) (hq:(aQ l)[i].n=n) (ht:∀v∈(aQ l).take i,¬v.n=n):iO l n=some (aQ l)[i]:=by
 unfold iO;rw[q205];refine⟨by simpa using hq,i,h,rfl,fun j hj=>?_⟩;have:(aQ l)[j]∈(aQ l).take i:=by rw[q90];exact⟨j,by omega,rfl⟩
 simpa using ht _ this
def IE {l:List Vn}{n:Int} (ht:∀v∈aQ l,¬v.n=n):iO l n=none:=by unfold iO;rw[q183];intro v hv;simpa using ht v hv
@[simp] noncomputable def GGv:List AV->Option (Prop×AV)|[.pv (.ro a),.pv (.int .u64 n)]=>(dec dt a).map fun l=>(l.length<=1000000,.aN [.agg (dy ((iO l n).getD v0)),.pv (.bool (iO l n).isSome)])|_=>none
def Rk:aL Tryz.prog 212 GGv:=by
 intro ys φ r h hφ;unfold GGv at h;split at h
 ·rename_i ra n;obtain⟨a,ha,h⟩:=q900.1 h;cases h;cases aJ ha;have hs9:(aQ a).length<=1000000000:=by have:=gp a;omega
  have fl:∀l,bP (aI l):=aT;refine aq (ag vZ (ag Tt ah)) (by kernel_rfl) (by conv=>lhs;reduce) (by simp) ?_;rcases oN (aQ a) n with⟨i,hi,h1,h2,h3⟩|⟨h1,h2⟩;·have r1:=b8 hi;have hg:=Ni hi h2 h3;simp[hφ,hs9,fl,h1,r1,hi,hg,dy]
  ·have hg:=IE h2;simp[hφ,hs9,fl,h1,hg,dy,v0]
 ·cases h
def A4 (l:List Vn):Option Vn:=(aQ l).getLast?
@[simp] noncomputable def GCv:List AV->Option (Prop×AV)|[.pv (.ro a)]=>(dec dt a).map fun l=>(l.length<=1000000,.aN [.agg (dy ((A4 l).getD v0)),.pv (.bool (A4 l).isSome)])|_=>none
def c_Cv:aL Tryz.prog 237 GCv:=by
 intro ys φ r h hφ;unfold GCv at h;split at h
 ·rename_i ra;obtain⟨a,ha,h⟩:=q900.1 h;cases h;cases aJ ha;have hsl:=gp a;have fl:∀l,bP (aI l):=aT;refine aq (ag vZ ah) (by kernel_rfl) (by conv=>lhs;reduce) (by simp) ?_;by_cases hn:aQ a=[]
  ·have hc:A4 a=none:=by unfold A4;rw[hn];rfl
   simp[hφ,fl,hn,hc,dy,v0]
  ·have hl:0<(aQ a).length:=q202.2 hn;have hlt:(aQ a).length-1<(aQ a).length:=by omega
   have r1:=b8 hlt;have hcast:(((aQ a).length-1:Nat):Int)=((aQ a).length:Int)-1:=by omega
   rw[hcast]at r1;have hc:A4 a=some (aQ a)[(aQ a).length-1]:=by unfold A4;rw[q277,q62 hlt]
   have w1:IntKind.i64.wrap (((aQ a).length:Int)-1)=((aQ a).length:Int)-1:=wrap_i64 (by omega);have hne:¬((aQ a).length:Int)=0:=by omega
   have b1:(0:Int)<=((aQ a).length:Int)-1:=by omega
   have b2:((aQ a).length:Int)-1<(aQ a).length:=by omega
   simp[hφ,fl,hn,hc,w1,hne,b1,b2,r1,dy];omega
 ·cases h
def Uj:aL Tryz.prog 157 Gn:=by
 intro ys φ r h hφ;unfold Gn at h;split at h;·rename_i n b p i s z m t inl ej;cases h;refine aq ah (by kernel_rfl) (by conv=>lhs;reduce) (by simp) ?_;cases inl<;>simp
 ·cases h
@[simp] noncomputable def OG:List AV->Option (Prop×AV)|[.pv (.ro a),.pv (.int .i64 k),.pv (.int .u64 n)]=>(dec dt a).map fun l=>(l.length<=1000000000/\0<=k/\k<=l.length,.pv (.int .i64 (uN (l.take k.toNat) n)))|_=>none
def QY:aL Tryz.prog 158 OG:=by
 intro ys φ r h hφ;unfold OG at h;split at h
 ·rename_i ra k n;obtain⟨a,ha,h⟩:=q900.1 h;cases h;cases aJ ha;obtain⟨hl,h0,hk⟩:=hφ;obtain⟨k,rfl⟩:∃q:Nat,k=(q:Int):=⟨k.toNat,by omega⟩;simp only[q66];have hk':k<=a.length:=by omega
  refine aq ah (by kernel_rfl) (by conv=>lhs;reduce) (by simp) ?_;simp;refine au (fun i:Nat=>i<=k/\∀v∈a.take i,¬v.n=n) (fun i=>⟨[(0,.pv (.ro (aI a))),(1,.pv (.int .i64 k)),(2,.pv (.int .u64 n)),(7,.pv (.int .i64 i))],[]⟩) (fun i=>k-i) [] 0 (by simp) ?_ ?_;·simp
  ·rintro i ⟨hi,ht⟩;have w2:IntKind.i64.wrap ((i:Int)+1)=(i:Int)+1:=wrap_i64 (by omega);by_cases hik:(i:Int)<k
   ·have hlt:i<a.length:=by omega
    have r1:=b8 hlt;by_cases hn:a[i].n=n
    ·have hx:uN (a.take k) n=i:=by refine A7 (by rw[q68];omega) (by rw[q271];exact hn) ?_;rw[q148,q103 (by omega)];exact ht
     simp[w2,hik,hlt,r1,hn,hx]
    ·simp[w2,hik,hlt,r1,hn];refine⟨i+1,⟨by omega,fun v hv=>?_⟩,by omega,by omega⟩;rw[q64 hlt,q75]at hv;rcases hv with hv|hv;·exact ht v hv
     ·rw[q73]at hv;rw[hv];exact hn
   ·have:i=k:=by omega
    subst this;have hx:uN (a.take i) n=-1:=wB ht;simp[hx]
 ·cases h
def kr (v:Vn):Prop:=0<=v.n/\v.n<=18446744073709551615/\0<=v.b/\v.b<=18446744073709551615
def HA {v:Vn} (h:kr v):0<=bG v:=by
 unfold bG;split;·omega
 ·exact h.2.2.1
@[simp] noncomputable def GrRv:List AV->Option (Prop×AV)|[.pv (.ro a)]=>(dec dt a).map fun l=>(l.length<=1000000000/\∀v∈l,kr v,.pv (.bool (aS l)))|_=>none
def Qs:aL Tryz.prog 118 GrRv:=by
 intro ys φ r h hφ
 unfold GrRv at h
 split at h
 ·rename_i ra
  obtain⟨a,ha,h⟩:=q900.1 h
  cases h
  cases aJ ha
  obtain⟨hl9,hov⟩:=hφ
  refine aq (ag Uj (ag QY ah)) (by kernel_rfl) (by conv=>lhs;reduce) (by simp) ?_
  simp
  refine au (fun i:Nat=>i<=a.length/\∀j,j < i->iZ a j=true) (fun i=>⟨[(0,.pv (.ro (aI a))),(2,.pv (.bool false)),(3,.pv (.int .i64 i))],[]⟩) (fun i=>a.length - i) [] 0 (by simp) ?_ ?_
  ·simp
  ·rintro i ⟨hi,ht⟩
   have w2:IntKind.i64.wrap ((i:Int)+1)=(i:Int)+1:=wrap_i64 (by omega)
   by_cases hlt:i < a.length
   ·have r1:=b8 hlt
    have hg:(a[i]?).getD v0=a[i]:=by rw [q62 hlt];rfl
    have ho:=hov a[i] (q84 hlt)
    have hb0:=HA ho
    have hok:iZ a i=(decide (fK a i < a[i].n) && (decide (bG a[i]=0) || decide (0<=uN (a.take i) (bG a[i])))):=by unfold iZ;rw [hg]
    have hnext:iZ a i=true->∀j,j < i+1->iZ a j=true:=by
     intro h j hj
     by_cases hji:j=i
     ·rw [hji];exact h
     ·exact ht j (by omega)
    have hbad:iZ a i=false->aS a=false:=xN hlt
    have hbv:(if a[i].inl=true then 0 else a[i].b)=bG a[i]:=rfl
    have hn0:=ho.1
    have him:i - 1 < a.length:=by omega
    have rm:rowAt (aI a) ((i:Int) - 1)=[.int .u64 a[i - 1].n,.int .u64 a[i - 1].b,.int .u64 a[i - 1].p,.int .u64 a[i - 1].i,.int .u64 a[i - 1].s,.int .u64 a[i - 1].z,.int .u64 a[i - 1].m,.str a[i - 1].t,.bool a[i - 1].inl,.bool a[i - 1].ej]:=by
     rw [<-b8 him]
     unfold rowAt
     congr 1
     omega
    have w1:IntKind.i64.wrap ((i:Int) - 1)=(i:Int) - 1:=wrap_i64 (by omega)
    have hop:=(hov a[i - 1] (q84 him)).1
    have hpi : 0 < i->fK a i=a[i - 1].n:=by
     intro h0
     obtain⟨q,rfl⟩:∃q,i=q+1:=⟨i - 1,by omega⟩
     have hq:q < a.length:=by omega
     simp only [fK,q163]
     rw [q62 hq];rfl
    have hp0:¬ 0 < i->fK a i=0:=by
     intro h0
     have:i=0:=by omega
     subst this;rfl
    have hmin:min i a.length=i:=by omega
    by_cases h1:a[i].n=0
    ·have hb:=hbad (by
      rw [hok,q220];left
      simp only [decide_eq_false_iff_not]
      by_cases h0 : 0 < i
      ·rw [hpi h0];omega
      ·rw [hp0 h0];omega)
     simp[w1,w2,hlt,r1,rm,h1,hb,hbv]
    ·by_cases h0 : 0 < i
     ·have hpi':=hpi h0
      have hb1 : 1<=(i:Int):=by omega
      have hb2:(i:Int) - 1 < a.length:=by omega
      have hne:¬ i=0:=by omega
      by_cases h3:a[i].n<=a[i - 1].n
      ·have h3':¬ a[i - 1].n < a[i].n:=by omega
       have hb:=hbad (by rw [hok,q220];left;simp;omega)
       simp[w1,w2,hlt,r1,rm,h1,h0,hb1,hb2,hne,h3,h3',hb,hbv]
      ·have hlp:fK a i < a[i].n:=by omega
       have h3':a[i - 1].n < a[i].n:=by omega
       by_cases h2:bG a[i]=0
       ·simp[w1,w2,hlt,r1,rm,h1,h0,hb1,hb2,hne,h3,h3',h2,hbv]
        exact⟨i+1,⟨by omega,hnext (by rw [hok];simp[hlp,h2])⟩,by omega,by omega⟩
       ·have h2' : 0 < bG a[i]:=by omega
        simp[w1,w2,hlt,r1,rm,h1,h0,hb1,hb2,hne,h3,h3',h2,h2',hbv]
        exact⟨⟨hl9,hi⟩,fun h=>hbad (by rw [hok];simp[hlp,h2];omega),fun h=>⟨i+1,⟨by omega,hnext (by rw [hok];simp[hlp,h])⟩,by omega,by omega⟩⟩
     ·have hlp:fK a i < a[i].n:=by rw [hp0 h0];omega
      have hz:(i=0)=True:=by simp;omega
      have h0f:(0 < i)=False:=by simp;omega
      by_cases h2:bG a[i]=0
      ·simp[w1,w2,hlt,r1,rm,h1,h0f,hz,h2,hbv]
       exact⟨i+1,⟨by omega,hnext (by rw [hok];simp[hlp,h2])⟩,by omega,by omega⟩
      ·have h2' : 0 < bG a[i]:=by omega
       simp[w1,w2,hlt,r1,rm,h1,h0f,hz,h2,h2',hbv]
       exact⟨⟨hl9,hi⟩,fun h=>hbad (by rw [hok];simp[hlp,h2];omega),fun h=>⟨i+1,⟨by omega,hnext (by rw [hok];simp[hlp,h])⟩,by omega,by omega⟩⟩
   ·have:i=a.length:=by omega
    subst this
    have hr:aS a=true:=(eY a).2 ht
    simp[hr]
 ·cases h
def Oe:aL Tryz.prog 195 (F1 156):=by
 intro ys φ r h hφ;unfold F1 at h;split at h
 ·rename_i ra;obtain⟨a,ha,h⟩:=q900.1 h;cases h;cases aJ ha;refine aq ah (by kernel_rfl) (by conv=>lhs;reduce) (by simp) ?_;simp;refine au (fun i:Nat=>i<=a.length) (fun i=>⟨[(0,.pv (.ro (aI a))),(3,.own 3),(4,.pv (.int .i64 i))],[(3,.arr 156 (aI (aQ (a.take i))))]⟩) (fun i=>a.length-i) [] 0 (by simp) ?_ ?_;·simp[aQ]
  ·intro i hi;have w2:IntKind.i64.wrap ((i:Int)+1)=(i:Int)+1:=wrap_i64 (by omega);by_cases hlt:i<a.length
   ·have r1:=b8 hlt;have hs:=vB hlt;have hl:=gp (a.take i);have hl1:(a.take i).length<=1000000:=by rw[q68];omega
    cases hh:a[i].ej with|true=>rw[hh,if_pos rfl]at hs;simp[w2,hlt,r1,hh];exact⟨i+1,by omega,⟨by omega,by rw[hs]⟩,by omega⟩|false=>rw[hh,if_neg (by simp)]at hs;simp[w2,hlt,r1,hh,aF];refine⟨⟨by omega,by omega⟩,i+1,by omega,⟨by omega,?_⟩,by omega⟩;rw[hs,dC];simp[aI,dt,hh]
   ·simp[hlt];rw[List.take_of_length_le (by omega)]
 ·cases h
@[simp] def Gone:List AV->Option (Prop×AV)|[.agg [.pv (.int .u64 n),.pv (.int .u64 b),.pv (.int .u64 p),.pv (.int .u64 i),.pv (.int .u64 s),.pv (.int .u64 z),.pv (.int .u64 m),.pv (.str t),.pv (.bool inl),.pv (.bool ej)]]=>some (True,.agg [.pv (.int .u64 n),.pv (.int .u64 b),.pv (.int .u64 p),.pv (.int .u64 i),.pv (.int .u64 s),.pv (.int .u64 z),.pv (.int .u64 m),.pv (.str t),.pv (.bool inl),.pv (.bool ej)])|_=>none
@[simp] noncomputable def GRefV:List AV->Option (Prop×AV)|[.pv (.ro a)]=>(dec dt a).map fun l=>(l.length<=1000000,.fr 156 (aI l))|_=>none
def Zh {x y:Vn}:(x.n=y.n/\x.b=y.b/\x.p=y.p/\x.i=y.i/\x.s=y.s/\x.z=y.z/\x.m=y.m/\x.t=y.t/\x.inl=y.inl/\x.ej=y.ej)↔x=y:=by cases x;cases y;simp
def Kb (x y:Vn):kb [.int .u64 x.n,.int .u64 x.b,.int .u64 x.p,.int .u64 x.i,.int .u64 x.s,.int .u64 x.z,.int .u64 x.m,.str x.t,.bool x.inl,.bool x.ej] [.int .u64 y.n,.int .u64 y.b,.int .u64 y.p,.int .u64 y.i,.int .u64 y.s,.int .u64 y.z,.int .u64 y.m,.str y.t,.bool y.inl,.bool y.ej]=decide (x=y):=by rw[q232];simp only[kb,oH,q71,decide_eq_true_eq,Bool.and_true];rw[<-Zh]
@[simp] noncomputable def GSmV:List AV->Option (Prop×AV)|[.pv (.ro a),.pv (.ro b)]=>(dec dt a).bind fun la=>(dec dt b).map fun lb=>(la.length<=1000000,.pv (.bool (decide (la=lb))))|_=>none
def fewV (l:List Vn):Bool:=decide (l.length<=12)&&l.all fun v=>decide (v.t.length<=100)
@[simp] noncomputable def GFewV:List AV->Option (Prop×AV)|[.pv (.ro a)]=>(dec dt a).map fun l=>(True,.pv (.bool (fewV l)))|_=>none
def Rn (n:Int):List PV:=[.int .i64 n]
def OO (l:List Int):List (List PV):=l.map Rn
@[simp] def U1:OO []=[]:=rfl
def aad (l:List Vn):List Int:=l.map fun v=>IntKind.i64.wrap v.n
@[simp] noncomputable def GnumsV:List AV->Option (Prop×AV)|[.pv (.ro a)]=>(dec dt a).map fun l=>(l.length<=1000000,.fr 3 (OO (aad l)))|_=>none
@[simp] noncomputable def GSmI:List AV->Option (Prop×AV)|[.pv (.ro a),.pv (.ro b)]=>(dec Rn a).bind fun la=>(dec Rn b).map fun lb=>(la.length<=1000000000,.pv (.bool (decide (la=lb))))|_=>none
structure Ls where
 e:Int
 p:Int
 i:Int
 u:Int
 h:Bool deriving DecidableEq
def iR (l:Ls):List AV:=[.pv (.int .u64 l.e),.pv (.int .u64 l.p),.pv (.int .u64 l.i),.pv (.int .u64 l.u),.pv (.bool l.h)]
def nS:Int:=18446744073709551615
def qV (l:Ls) (p i e:Int):Bool:=l.h&&decide (l.p=p)&&decide (l.i=i)&&decide (l.e=e)
def zg (l:Ls):Int×Int:=if l.e=nS then(0,131) else(l.e+1,0)
def eZ (l:Ls) (p i u:Int):Ls×Int:=if l.e=nS then(l,131) else(⟨l.e+1,p,i,u,true⟩,0)
def AN (l:Ls) (u:Int):Ls:=⟨l.e,l.p,l.i,max l.u u,l.h⟩
def rR (l:Ls):Ls:=⟨l.e,l.p,l.i,l.u,false⟩
@[simp] def PM:List AV->Option (Prop×AV)|[.agg [.pv (.int .u64 e),.pv (.int .u64 p),.pv (.int .u64 i),.pv (.int .u64 u),.pv (.bool h)],.pv (.int .u64 q),.pv (.int .u64 j),.pv (.int .u64 f)]=>some (True,.pv (.bool (qV ⟨e,p,i,u,h⟩ q j f)))|_=>none
def T7:aL Tryz.prog 230 PM:=by
 intro ys φ r h hφ;unfold PM at h;split at h;·rename_i e p i u h' q j f;cases h;refine aq ah (by kernel_rfl) (by conv=>lhs;reduce) (by simp) ?_;cases h' with|false=>simp[qV]|true=>
  by_cases h1:p=q
  ·by_cases h2:i=j;·by_cases h3:e=f<;>simp[qV,h1,h2,h3]
   ·simp[qV,h1,h2]
  ·simp[qV,h1]
 ·cases h
@[simp] def Ox:List AV->Option (Prop×AV)|[.agg [.pv (.int .u64 e),.pv (.int .u64 p),.pv (.int .u64 i),.pv (.int .u64 u),.pv (.bool h)]]=>some (cg e,.aN [.pv (.int .u64 (zg ⟨e,p,i,u,h⟩).1),.pv (.int .i64 (zg ⟨e,p,i,u,h⟩).2)])|_=>none
def RF:aL Tryz.prog 229 Ox:=by
 intro ys φ r h hφ;unfold Ox at h;split at h
 ·rename_i e p i u h';cases h;obtain⟨o1,o2⟩:=hφ;refine aq ah (by kernel_rfl) (by conv=>lhs;reduce) (by simp) ?_;by_cases h1:e=18446744073709551615;·simp[zg,nS,h1]
  ·have w1:IntKind.u64.wrap (e+1)=e+1:=wrap_u64 (by omega);simp[zg,nS,h1,w1]
 ·cases h
@[simp] def Ks:List AV->Option (Prop×AV)|[.agg [.pv (.int .u64 e),.pv (.int .u64 p),.pv (.int .u64 i),.pv (.int .u64 u),.pv (.bool h)],.pv (.int .u64 q),.pv (.int .u64 j),.pv (.int .u64 v)]=>some (cg e,.aN [.agg (iR (eZ ⟨e,p,i,u,h⟩ q j v).1),.pv (.int .i64 (eZ ⟨e,p,i,u,h⟩ q j v).2)])|_=>none
def My:aL Tryz.prog 207 Ks:=by
 intro ys φ r h hφ;unfold Ks at h;split at h
 ·rename_i e p i u h' q j v;cases h;refine aq (ag RF ah) (by kernel_rfl) (by conv=>lhs;reduce) (by simp) ?_;by_cases h1:e=18446744073709551615;·simp[zg,eZ,nS,iR,h1];exact h1▸hφ
  ·simp[zg,eZ,nS,iR,h1];exact hφ
 ·cases h
@[simp] def Lj:List AV->Option (Prop×AV)|[.agg [.pv (.int .u64 e),.pv (.int .u64 p),.pv (.int .u64 i),.pv (.int .u64 u),.pv (.bool h)],.pv (.int .u64 v)]=>some (True,.agg (iR (AN ⟨e,p,i,u,h⟩ v)))|_=>none
def NS:aL Tryz.prog 209 Lj:=by
 intro ys φ r h hφ;unfold Lj at h;split at h;·cases h;refine aq ah (by kernel_rfl) (by conv=>lhs;reduce) (by simp) ?_;simp[AN,iR]
 ·cases h
@[simp] def GRel:List AV->Option (Prop×AV)|[.agg [.pv (.int .u64 e),.pv (.int .u64 p),.pv (.int .u64 i),.pv (.int .u64 u),.pv (.bool h)]]=>some (True,.agg (iR (rR ⟨e,p,i,u,h⟩)))|_=>none
def c_Rel:aL Tryz.prog 210 GRel:=by
 intro ys φ r h hφ;unfold GRel at h;split at h;·cases h;refine aq ah (by kernel_rfl) (by conv=>lhs;reduce) (by simp) ?_;simp[rR,iR]
 ·cases h
noncomputable def uH (f:α->AV) (y:AV):Option α:=open Classical in if h:∃p,f p=y then some h.choose else none
def eK {f:α->AV}{y:AV}{p:α} (h:uH f y=some p):y=f p:=by
 unfold uH at h;split at h;·rename_i h';cases h;exact h'.choose_spec.symm
 ·cases h
def Bv {f:α->AV} (inj:∀p q,f p=f q->p=q) (p:α):uH f (f p)=some p:=by unfold uH;have h:∃q,f q=f p:=⟨p,rfl⟩;rw[dif_pos h];exact congrArg some (inj _ _ h.choose_spec)
structure Rc where
 k:Int
 p:Int
 i:Int
 s:Int
 e:Int
 u:Int
 v:Int
 c:Int
 z:Int
 m:Int
 n:List UInt8
 t:List UInt8 deriving DecidableEq
structure Ap where
 l:Ls
 ps:List Pn
 vs:List Vn
 sl:Bool
 r:Rc
 n:Int
 s:Int
def qn (a:Ap):AV:=.bx [.pv (.int .u64 a.l.e),.pv (.int .u64 a.l.p),.pv (.int .u64 a.l.i),.pv (.int .u64 a.l.u),.pv (.bool a.l.h),.fr 177 (ay a.ps),.fr 132 (aI a.vs),.pv (.bool a.sl),.pv (.int .u8 a.r.k),.pv (.int .u64 a.r.p),.pv (.int .u64 a.r.i),.pv (.int .u64 a.r.s),.pv (.int .u64 a.r.e),.pv (.int .u64 a.r.u),.pv (.int .u64 a.r.v),.pv (.int .u64 a.r.c),.pv (.int .u64 a.r.z),.pv (.int .u64 a.r.m),.pv (.str a.r.n),.pv (.str a.r.t),.pv (.int .u64 a.n),.pv (.int .u64 a.s)]
def Xb (a:Ap):AV:=.rp [.int .u64 a.l.e,.int .u64 a.l.p,.int .u64 a.l.i,.int .u64 a.l.u,.bool a.l.h,.ro (ay a.ps),.ro (aI a.vs),.bool a.sl,.int .u8 a.r.k,.int .u64 a.r.p,.int .u64 a.r.i,.int .u64 a.r.s,.int .u64 a.r.e,.int .u64 a.r.u,.int .u64 a.r.v,.int .u64 a.r.c,.int .u64 a.r.z,.int .u64 a.r.m,.str a.r.n,.str a.r.t,.int .u64 a.n,.int .u64 a.s]
def gL {α β:Type}{f:α->β} (hf:∀a b,f a=f b->a=b):∀{l m:List α},l.map f=m.map f->l=m|[],[],_=>rfl|[],_::_,h=>by cases h|_::_,[],h=>by cases h|a::l,b::m,h=>by simp only[q74,q112]at h;rw[hf _ _ h.1,gL hf h.2]
def N7:∀p q,qn p=qn q->p=q:=by rintro⟨⟨e,p,i,u,h⟩,ps,vs,sl,⟨k,rp,ri,rs,re,ru,rv,rc,rz,rm,rn,rt⟩,n,s⟩ ⟨⟨e',p',i',u',h'⟩,ps',vs',sl',⟨k',rp',ri',rs',re',ru',rv',rc',rz',rm',rn',rt'⟩,n',s'⟩ hh;simp only[qn,AV.bx.injEq,q112,AV.pv.injEq,PV.int.injEq,PV.bool.injEq,PV.str.injEq,AV.fr.injEq,true_and,and_true]at hh;obtain⟨rfl,rfl,rfl,rfl,rfl,h1,h2,rfl,rfl,rfl,rfl,rfl,rfl,rfl,rfl,rfl,rfl,rfl,rfl,rfl,rfl,rfl⟩:=hh;rw[gL lk h1,gL qY h2]
def NU:∀p q,Xb p=Xb q->p=q:=by rintro⟨⟨e,p,i,u,h⟩,ps,vs,sl,⟨k,rp,ri,rs,re,ru,rv,rc,rz,rm,rn,rt⟩,n,s⟩ ⟨⟨e',p',i',u',h'⟩,ps',vs',sl',⟨k',rp',ri',rs',re',ru',rv',rc',rz',rm',rn',rt'⟩,n',s'⟩ hh;simp only[Xb,AV.rp.injEq,q112,PV.int.injEq,PV.bool.injEq,PV.str.injEq,PV.ro.injEq,true_and,and_true]at hh;obtain⟨rfl,rfl,rfl,rfl,rfl,h1,h2,rfl,rfl,rfl,rfl,rfl,rfl,rfl,rfl,rfl,rfl,rfl,rfl,rfl,rfl,rfl⟩:=hh;rw[gL lk h1,gL qY h2]
@[simp] def Y6 (e p i u:Int) (h:Bool) (ps:List Pn) (vs:List Vn) (sl:Bool) (k rp ri rs re ru rv rc rz rm:Int) (rn rt:List UInt8) (n s:Int):uH qn (.bx [.pv (.int .u64 e),.pv (.int .u64 p),.pv (.int .u64 i),.pv (.int .u64 u),.pv (.bool h),.fr 177 (ay ps),.fr 132 (aI vs),.pv (.bool sl),.pv (.int .u8 k),.pv (.int .u64 rp),.pv (.int .u64 ri),.pv (.int .u64 rs),.pv (.int .u64 re),.pv (.int .u64 ru),.pv (.int .u64 rv),.pv (.int .u64 rc),.pv (.int .u64 rz),.pv (.int .u64 rm),.pv (.str rn),.pv (.str rt),.pv (.int .u64 n),.pv (.int .u64 s)])=some ⟨⟨e,p,i,u,h⟩,ps,vs,sl,⟨k,rp,ri,rs,re,ru,rv,rc,rz,rm,rn,rt⟩,n,s⟩:=Bv N7 ⟨⟨e,p,i,u,h⟩,ps,vs,sl,⟨k,rp,ri,rs,re,ru,rv,rc,rz,rm,rn,rt⟩,n,s⟩
@[simp] def Zr (e p i u:Int) (h:Bool) (ps:List Pn) (vs:List Vn) (sl:Bool) (k rp ri rs re ru rv rc rz rm:Int) (rn rt:List UInt8) (n s:Int):uH Xb (.rp [.int .u64 e,.int .u64 p,.int .u64 i,.int .u64 u,.bool h,.ro (ay ps),.ro (aI vs),.bool sl,.int .u8 k,.int .u64 rp,.int .u64 ri,.int .u64 rs,.int .u64 re,.int .u64 ru,.int .u64 rv,.int .u64 rc,.int .u64 rz,.int .u64 rm,.str rn,.str rt,.int .u64 n,.int .u64 s])=some ⟨⟨e,p,i,u,h⟩,ps,vs,sl,⟨k,rp,ri,rs,re,ru,rv,rc,rz,rm,rn,rt⟩,n,s⟩:=Bv NU ⟨⟨e,p,i,u,h⟩,ps,vs,sl,⟨k,rp,ri,rs,re,ru,rv,rc,rz,rm,rn,rt⟩,n,s⟩
@[simp] noncomputable def GOw:List AV->Option (Prop×AV)|[y]=>(uH Xb y).map fun a=>(True,.pv (.bool (qV a.l a.r.p a.r.i a.r.e)))|_=>none
def QV:aL Tryz.prog 208 GOw:=by
 intro ys φ r h hφ;unfold GOw at h;split at h;·obtain⟨a,ha,h⟩:=q900.1 h;cases h;cases eK ha;refine aq (ag T7 ah) (by kernel_rfl) (by conv=>lhs;reduce) (by simp) ?_;simp[Xb]
 ·cases h
def yR (a:Ap):Ap×Bool:=(⟨a.l,a.ps,a.vs,true,a.r,a.n,a.s⟩,!a.sl&&a.l.h&&decide (a.l.p=a.r.p)&&decide (a.l.i=a.r.i))
def s0 (a:Ap):Ap×Bool:=(⟨AN a.l a.r.u,a.ps,a.vs,a.sl,a.r,a.n,a.s⟩,!a.sl&&qV a.l a.r.p a.r.i a.r.e)
def lH (a:Ap):Ap×Bool:=(⟨rR a.l,a.ps,a.vs,a.sl,a.r,a.n,a.s⟩,!a.sl&&qV a.l a.r.p a.r.i a.r.e)
def kN (a:Ap):Ap×Bool:=(⟨(eZ a.l a.r.p a.r.i a.r.u).1,a.ps,a.vs,a.sl,a.r,a.n,a.s⟩,!a.sl&&decide ((eZ a.l a.r.p a.r.i a.r.u).2=0)&&decide ((eZ a.l a.r.p a.r.i a.r.u).1.e=a.r.e))
@[simp] noncomputable def DW (C:Ap->Prop) (F:Ap->Ap×Bool):List AV->Option (Prop×AV)|[.aN [y]]=>(uH qn y).map fun a=>(C a,.bI 0 [.pv (.bool (F a).2),qn (F a).1])|_=>none
def Lo:eE Tryz.prog 174 (DW (fun _=>True) s0):=by
 intro ys φ r h hφ;unfold DW at h;split at h;·obtain⟨a,ha,h⟩:=q900.1 h;cases h;cases eK ha;obtain⟨⟨e,p,i,u,h'⟩,ps,vs,sl,⟨k,rp,ri,rs,re,ru,rv,rc,rz,rm,rn,rt⟩,n,s⟩:=a;refine cC (ag QV (ag NS ah)) (by kernel_rfl) (by conv=>lhs;reduce) (by simp) rfl (by simp[qn]) ?_;cases sl<;>simp[qn,s0,iR,AN]
 ·cases h
def Fp:eE Tryz.prog 175 (DW (fun _=>True) lH):=by
 intro ys φ r h hφ;unfold DW at h;split at h;·obtain⟨a,ha,h⟩:=q900.1 h;cases h;cases eK ha;obtain⟨⟨e,p,i,u,h'⟩,ps,vs,sl,⟨k,rp,ri,rs,re,ru,rv,rc,rz,rm,rn,rt⟩,n,s⟩:=a;refine cC (ag QV (ag c_Rel ah)) (by kernel_rfl) (by conv=>lhs;reduce) (by simp) rfl (by simp[qn]) ?_;cases sl<;>simp[qn,lH,iR,rR]
 ·cases h
def NB:eE Tryz.prog 179 (DW (fun _=>True) yR):=by
 intro ys φ r h hφ;unfold DW at h;split at h;·obtain⟨a,ha,h⟩:=q900.1 h;cases h;cases eK ha;obtain⟨⟨e,p,i,u,h'⟩,ps,vs,sl,⟨k,rp,ri,rs,re,ru,rv,rc,rz,rm,rn,rt⟩,n,s⟩:=a;refine cC ah (by kernel_rfl) (by conv=>lhs;reduce) (by simp) rfl (by simp[qn]) ?_;cases sl<;>cases h'<;>simp[qn,yR,iR]
 ·cases h
def KP:eE Tryz.prog 173 (DW (fun a=>cg a.l.e) kN):=by
 intro ys φ r h hφ;unfold DW at h;split at h
 ·obtain⟨a,ha,h⟩:=q900.1 h;cases h;cases eK ha;obtain⟨⟨e,p,i,u,h'⟩,ps,vs,sl,⟨k,rp,ri,rs,re,ru,rv,rc,rz,rm,rn,rt⟩,n,s⟩:=a;have oe:cg e:=hφ;refine cC (ag My ah) (by kernel_rfl) (by conv=>lhs;reduce) (by simp) rfl (by simp[qn]) ?_;by_cases h1:e=nS;·cases sl<;>simp[qn,kN,iR,eZ,h1,oe];all_goals exact h1▸oe
  ·cases sl<;>simp[qn,kN,iR,eZ,h1,oe]
 ·cases h
@[simp] noncomputable def GClV:List AV->Option (Prop×AV)|[.pv (.ro a)]=>(dec dt a).map fun l=>(l.length<=1000000,.fr 132 (aI l))|_=>none
def FQ:aL Tryz.prog 89 GClV:=by
 intro ys φ r h hφ;unfold GClV at h;split at h;·rename_i ra;obtain⟨a,ha,h⟩:=q900.1 h;cases h;cases aJ ha;refine aq ah (by kernel_rfl) (by conv=>lhs;reduce) (by simp) ?_;cases a with|nil=>simp[kP]|cons x l=>have hx:aI (x::l)=dt x::aI l:=rfl;simp[hx,aF];simp only[q70]at hφ;exact⟨by omega,by omega,rfl,sj l⟩
 ·cases h
@[simp] def JQ:List AV->Option (Prop×AV)|[.pv (.int .u64 n),.pv (.str t)]=>some (True,.agg [.pv (.int .u64 n),.pv (.int .u64 0),.pv (.int .u64 0),.pv (.int .u64 0),.pv (.int .u64 0),.pv (.int .u64 0),.pv (.int .u64 0),.pv (.str t),.pv (.bool true),.pv (.bool false)])|_=>none
def Gk:aL Tryz.prog 138 JQ:=by
 intro ys φ r h hφ;unfold JQ at h;split at h;·cases h;refine aq ah (by kernel_rfl) (by conv=>lhs;reduce) (by simp) ?_;simp
 ·cases h
def dD (n:Int) (t:List UInt8):Vn:=⟨n,0,0,0,0,0,0,t,true,false⟩
def GI (l:List Vn):Int:=((l.getLast?).getD v0).n
def mh {l:List Vn} (hr:aS l=true) (h:i+1<l.length):l[i].n<l[i+1].n:=by have:=(eY l).1 hr (i+1) h;unfold iZ at this;rw[q71]at this;have h1:=this.1;simp only[fK,q62 h,q62 (show i<l.length by omega),q101,decide_eq_true_eq]at h1;exact h1
def lT {l:List Vn} (hr:aS l=true) {i:Nat}:∀(d:Nat) (h:i+d<l.length),l[i].n<=l[i+d].n|0,h=>q185 _|d+1,h=>by have h1:=lT hr d (show i+d<l.length by omega);have h2:=mh hr (i:=i+d) (by omega);have:l[i+(d+1)].n=l[i+d+1].n:=rfl;omega
def kl (s:List UInt8):List PV:=[.str s]
def HG:∀a b,kl a=kl b->a=b:=by intro a b h;simpa[kl]using h
def fG (l:List (List UInt8)):List (List PV):=l.map kl
@[simp] def Tx:fG []=[]:=rfl
@[simp] def yE (l:List (List UInt8)):(fG l).length=l.length:=by simp[fG]
def tj {l:List (List UInt8)} (h:i<l.length):rowAt (fG l) (i:Int)=[.str l[i]]:=by simp[rowAt,fG,h,kl]
@[simp] def RW (l:List (List UInt8)):dec kl (fG l)=some l:=jl HG l
def gD {l:List (List UInt8)} (h:dec kl rows=some l):rows=fG l:=jq h
@[simp] noncomputable def GCop:List AV->Option (Prop×AV)|[.agg [.pv (.int .u64 e),.pv (.int .u64 p),.pv (.int .u64 i),.pv (.int .u64 u),.pv (.bool h),.pv (.ro a),.pv (.ro b),.pv (.bool sl)]]=>(dec rowP a).bind fun ps=>(dec dt b).map fun vs=>(ps.length<=100000/\vs.length<=100000,.agg [.pv (.int .u64 e),.pv (.int .u64 p),.pv (.int .u64 i),.pv (.int .u64 u),.pv (.bool h),.fr 177 (ay ps),.fr 132 (aI vs),.pv (.bool sl)])|_=>none
def P4:aL Tryz.prog 99 GCop:=by
 intro ys φ r h hφ;unfold GCop at h;split at h
 ·obtain⟨ps,hp,h⟩:=qB.1 h;obtain⟨vs,hv,h⟩:=q900.1 h;cases h;cases aM hp;cases aJ hv;obtain⟨h1,h2⟩:=hφ;have h3:ps.length<=100000000:=by omega
  have h4:vs.length<=1000000:=by omega
  refine aq (ag rK (ag FQ ah)) (by kernel_rfl) (by conv=>lhs;reduce) (by simp) ?_;simp[h3,h4]
 ·cases h
def iI (l:List Int):PV:=.ro (l.map fun n=>[.int .u8 n])
def lS:List (PV×PV):=[(.int .u8 1,iI [0,1]),(.int .u8 2,iI [0,1]),(.int .u8 3,iI [0]),(.int .u8 4,iI [0,2,4,5]),(.int .u8 5,iI [2,1]),(.int .u8 6,iI [2]),(.int .u8 7,iI []),(.int .u8 8,iI [3]),(.int .u8 9,iI [6]),(.int .u8 10,iI [6]),(.int .u8 11,iI [6,7])]
def E5:List AV->Option (Prop×AV)|[]=>some (True,.pv (.mv lS))|_=>none
@[simp] def X9:E5 []=some (True,.pv (.mv lS)):=rfl
def Mt:aL Tryz.prog 126 E5:=by
 intro ys φ r h hφ;unfold E5 at h;split at h;·cases h;refine aq ah (by kernel_rfl) (by conv=>lhs;reduce) (by simp) ?_;simp[lS,iI]
 ·cases h
def gh (l:List Vn) (v:Vn):List Vn×Int:=if aS l=false\/v.ej=true\/v.n=0\/(0<l.length/\v.n<=GI l) then([],2) else if bG v≠0/\(iO l (bG v)).isSome=false then([],150) else(l++[v],0)
@[simp] noncomputable def GAdd (e:TypeId):List AV->Option (Prop×AV)|[.pv (.ro a),.agg [.pv (.int .u64 n),.pv (.int .u64 b),.pv (.int .u64 p),.pv (.int .u64 i),.pv (.int .u64 s),.pv (.int .u64 z),.pv (.int .u64 m),.pv (.str t),.pv (.bool inl),.pv (.bool ej)]]=>(dec dt a).map fun l=>(l.length<=100000/\(∀v∈l,kr v)/\kr ⟨n,b,p,i,s,z,m,t,inl,ej⟩,.aN [.fr e (aI (gh l ⟨n,b,p,i,s,z,m,t,inl,ej⟩).1),.pv (.int .i64 (gh l ⟨n,b,p,i,s,z,m,t,inl,ej⟩).2)])|_=>none
def Tu:aL Tryz.prog 211 (GAdd 132):=by
 intro ys φ r h hφ;unfold GAdd at h;split at h
 ·rename_i ra n b p i s z m t inl ej;obtain⟨a,ha,h⟩:=q900.1 h;cases h;cases aJ ha;obtain⟨hl5,hov,hvv⟩:=hφ;have hl9:a.length<=1000000000:=by omega
  have hl6:a.length<=1000000:=by omega
  have fl:∀l,bP (aI l):=aT;have hbv:(if inl=true then 0 else b)=bG ⟨n,b,p,i,s,z,m,t,inl,ej⟩:=rfl;refine aq (ag IC (ag Fa (ag Rk (ag FQ ah)))) (by kernel_rfl) (by conv=>lhs;reduce) (by simp) ?_;by_cases h0:0<a.length
  ·have w1:IntKind.i64.wrap ((a.length:Int)-1)=(a.length:Int)-1:=wrap_i64 (by omega);have hlt:a.length-1<a.length:=by omega
   have r1:=b8 hlt;rw[show((a.length-1:Nat):Int)=(a.length:Int)-1 from by omega]at r1;have hln:a[a.length-1].n=GI a:=by unfold GI;rw[q277,q62 hlt];rfl
   rw[hln]at r1;have b1:1<=(a.length:Int):=by omega
   have b2:(a.length:Int)-1<a.length:=by omega
   cases hr:aS a with|false=>
    have hi:gh a ⟨n,b,p,i,s,z,m,t,inl,ej⟩=([],2):=by simp[gh,hr]
    simp[hl9,hl6,hr,hi,fl,w1,r1,h0,b1,b2]|true=>cases ej with
   |true=>
    have hi:gh a ⟨n,b,p,i,s,z,m,t,inl,true⟩=([],2):=by simp[gh,hr]
    simp[hl9,hl6,hr,hi,fl,w1,r1,h0,b1,b2]|false=>
   by_cases hn:n=0
   ·have hi:gh a ⟨n,b,p,i,s,z,m,t,inl,false⟩=([],2):=by simp[gh,hr,hn]
    simp[hl9,hl6,hr,hi,fl,w1,r1,h0,b1,b2,hn];try(rw[<-hn];simp[hi])
   by_cases hle:n<=GI a
   ·have hi:gh a ⟨n,b,p,i,s,z,m,t,inl,false⟩=([],2):=by simp[gh,hr,hn,hle,h0]
    simp[hl9,hl6,hr,hi,fl,w1,r1,h0,b1,b2,hn,hle]
   by_cases hb:bG ⟨n,b,p,i,s,z,m,t,inl,false⟩=0
   ·have hi:gh a ⟨n,b,p,i,s,z,m,t,inl,false⟩=(a++[⟨n,b,p,i,s,z,m,t,inl,false⟩],0):=by simp[gh,hr,hn,hle,h0,hb]
    simp[hl9,hl6,hr,fl,w1,r1,h0,b1,b2,hn,hle,hbv,dy,hb,hi,aF];exact⟨⟨by omega,by omega⟩,by rw[dC];rfl⟩
   ·cases hg:(iO a (bG ⟨n,b,p,i,s,z,m,t,inl,false⟩)).isSome with
    |false=>
     have hi:gh a ⟨n,b,p,i,s,z,m,t,inl,false⟩=([],150):=by simp[gh,hr,hn,hle,h0,hb,hg]
     simp[hl9,hl6,hr,fl,w1,r1,h0,b1,b2,hn,hle,hbv,dy,hb,hi,hg]|true=>
     have hi:gh a ⟨n,b,p,i,s,z,m,t,inl,false⟩=(a++[⟨n,b,p,i,s,z,m,t,inl,false⟩],0):=by simp[gh,hr,hn,hle,h0,hb,hg]
     simp[hl9,hl6,hr,fl,w1,r1,h0,b1,b2,hn,hle,hbv,dy,hb,hi,hg,aF];exact⟨⟨by omega,by omega⟩,by rw[dC];rfl⟩
  ·have:a=[]:=q76 (by omega);subst this;have hr:aS []=true:=rfl;have r0:∀k:Int,rowAt [] k=[]:=fun k=>by simp[rowAt]
   have hd0:dec dt []=some []:=G0 [];have hg0:∀q,iO [] q=none:=fun q=>rfl;have f0:bP []:=aT [];cases ej with
   |true=>
    have hi:gh [] ⟨n,b,p,i,s,z,m,t,inl,true⟩=([],2):=by simp[gh,hr]
    simp[hr,hi,r0,hd0,f0]|false=>
   by_cases hn:n=0
   ·have hi:gh [] ⟨n,b,p,i,s,z,m,t,inl,false⟩=([],2):=by simp[gh,hr,hn]
    simp[hr,hi,r0,hd0,f0,hn];try(rw[<-hn];simp[hi])
   by_cases hb:bG ⟨n,b,p,i,s,z,m,t,inl,false⟩=0
   ·have hi:gh [] ⟨n,b,p,i,s,z,m,t,inl,false⟩=([⟨n,b,p,i,s,z,m,t,inl,false⟩],0):=by simp[gh,hr,hn,hb]
    simp[hr,hi,r0,hd0,f0,hg0,hn,hb,hbv,aF,v0,dy];rfl
   ·have hi:gh [] ⟨n,b,p,i,s,z,m,t,inl,false⟩=([],150):=by simp[gh,hr,hn,hb,hg0]
    simp[hr,hi,r0,hd0,f0,hg0,hn,hb,hbv,v0,dy]
 ·cases h
def gF (l:List Vn) (ts:List (List UInt8)):List Vn:=List.zipWith (fun(v:Vn) t=>dD v.n t) l ts
def bX (l:List Vn) (ts:List (List UInt8)):List Vn×Int:=if aS l=false\/ts.length≠(aQ l).length then([],2) else(gF (aQ l) ts,0)
def yX {l:List Vn} (h1:i<l.length) (h2:i<ts.length):gF (l.take (i+1)) (ts.take (i+1))=gF (l.take i) (ts.take i)++[dD l[i].n ts[i]]:=by unfold gF;rw[q64 h1,q64 h2,List.zipWith_append (by simp;omega)];rfl
@[simp] noncomputable def Mw (e:TypeId):List AV->Option (Prop×AV)|[.pv (.ro a),.pv (.ro ts)]=>(dec dt a).bind fun l=>(dec kl ts).map fun ts=>(l.length<=100000/\(∀v∈l,kr v),.aN [.fr e (aI (bX l ts).1),.pv (.int .i64 (bX l ts).2)])|_=>none
def c_rInl:aL Tryz.prog 149 (Mw 156):=by
 intro ys φ r h hφ;unfold Mw at h;split at h
 ·rename_i ra rts;obtain⟨a,ha,h⟩:=qB.1 h;obtain⟨ts,hts,h⟩:=q900.1 h;cases h;cases aJ ha;cases gD hts;obtain⟨hl5,hov⟩:=hφ;have hl9:a.length<=1000000000:=by omega
  have hl6:a.length<=1000000:=by omega
  have hsl:=gp a;have fl:∀l,bP (aI l):=aT;refine aq (ag Oe (ag Qs ah)) (by kernel_rfl) (by conv=>lhs;reduce) (by simp) ?_;cases hr:aS a with
  |false=>
   have hi:bX a ts=([],2):=by simp[bX,hr]
   simp[hl9,hl6,hr,hi,fl];exact hov|true=>
   by_cases hq:ts.length=(aQ a).length
   ·have hi:bX a ts=(gF (aQ a) ts,0):=by simp[bX,hr,hq]
    simp[hl9,hl6,hr,hi,fl,hq];refine⟨hov,?_⟩;refine au (fun i:Nat=>i<=ts.length) (fun i=>⟨[(1,.pv (.ro (fG ts))),(6,.own 10),(7,.own 7),(8,.pv (.int .i64 i))],[(10,.arr 156 (aI (aQ a))),(7,.arr 156 (aI (gF ((aQ a).take i) (ts.take i))))]⟩) (fun i=>ts.length-i) [] 0 (by simp) ?_ ?_;·simp[gF]
    ·intro i hi;have w2:IntKind.i64.wrap ((i:Int)+1)=(i:Int)+1:=wrap_i64 (by omega);by_cases hlt:i<ts.length
     ·have hls:i<(aQ a).length:=by omega
      have r1:=b8 hls;have r2:=tj hlt;have hil:(gF ((aQ a).take i) (ts.take i)).length=i:=by simp[gF];omega
      simp[w2,hlt,hls,r1,r2,aF,hil];refine⟨⟨by omega,by omega⟩,i+1,by omega,⟨by omega,?_⟩,by omega⟩;rw[yX hls hlt,dC];rfl
     ·simp[hlt];refine⟨by omega,fun _=>?_⟩;rw[List.take_of_length_le (by omega),List.take_of_length_le (by omega)]
   ·have hi:bX a ts=([],2):=by simp[bX,hr,hq]
    have hq':¬((aQ a).length:Int)=ts.length:=by omega
    simp[hl9,hl6,hr,hi,fl,hq'];exact hov
 ·cases h
def wv (l:List Vn) (ts:List (List UInt8)) (i:Nat):List Vn:=gF (l.take i) (ts.take i)++l.drop i
def KG {l:List Vn} (h:ts.length=l.length) (hi:i<=l.length):(wv l ts i).length=l.length:=by simp[wv,gF];omega
def N8 {l:List Vn} (h:ts.length=l.length) (hi:i<l.length):rowAt (aI (wv l ts i)) (i:Int)=dt l[i]:=by
 have hlen:(gF (l.take i) (ts.take i)).length=i:=by simp[gF];omega
 have hm:(wv l ts i)[i]?=some l[i]:=by unfold wv;rw[q98 (by omega),hlen,q235,q89,q167,q62 hi]
 simp[rowAt,aI,hm]
def Js {l:List Vn} (h:ts.length=l.length) (hi:i<l.length):(aI (wv l ts i)).set i (dt (dD l[i].n (ts[i]'(by omega))))=aI (wv l ts (i+1)):=by
 have hlen:(gF (l.take i) (ts.take i)).length=i:=by simp[gF];omega
 have hts:i<ts.length:=by omega
 unfold wv;rw[yX hi hts,q93 hi];simp only[aI,q162,q74,q119];rw[List.set_append_right _ _ (by simp[hlen])];simp[hlen]
def c_Inl:aL Tryz.prog 98 (Mw 132):=by
 intro ys φ r h hφ;unfold Mw at h;split at h
 ·rename_i ra rts;obtain⟨a,ha,h⟩:=qB.1 h;obtain⟨ts,hts,h⟩:=q900.1 h;cases h;cases aJ ha;cases gD hts;obtain⟨hl5,hov⟩:=hφ;have hl9:a.length<=1000000000:=by omega
  have hl6:a.length<=1000000:=by omega
  have hsl:=gp a;have fl:∀l,bP (aI l):=aT;refine aq (ag vZ (ag IC (ag Gk ah))) (by kernel_rfl) (by conv=>lhs;reduce) (by simp) ?_;cases hr:aS a with
  |false=>
   have hi:bX a ts=([],2):=by simp[bX,hr]
   simp[hl9,hl6,hr,hi,fl]|true=>
   by_cases hq:ts.length=(aQ a).length
   ·have hi:bX a ts=(gF (aQ a) ts,0):=by simp[bX,hr,hq]
    simp[hl9,hl6,hr,hi,fl,hq];refine au (fun i:Nat=>i<=(aQ a).length) (fun i=>⟨[(1,.pv (.ro (fG ts))),(6,.own 10),(21,.own 10),(22,.pv (.int .i64 (aQ a).length)),(23,.pv (.int .i64 i))],[(10,.arr 132 (aI (wv (aQ a) ts i)))]⟩) (fun i=>(aQ a).length-i) [] 0 (by simp) ?_ ?_;·simp[wv,gF]
    ·intro i hi;have w2:IntKind.i64.wrap ((i:Int)+1)=(i:Int)+1:=wrap_i64 (by omega);have hml:=KG (i:=i) hq hi;by_cases hlt:i<(aQ a).length
     ·have hls:i<ts.length:=by omega
      have r1:=N8 hq hlt;have r2:=tj hls;have hset:=Js hq hlt;simp only[dt,dD]at r1 hset;simp[w2,hlt,hls,r1,r2,hml];exact⟨i+1,by omega,⟨by omega,hset⟩,by omega⟩
     ·simp[hlt,hml];unfold wv;rw[List.take_of_length_le (by omega),List.take_of_length_le (by omega),q212 (by omega),q130]
   ·have hi:bX a ts=([],2):=by simp[bX,hr,hq]
    have hq':¬(ts.length:Int)=(aQ a).length:=by omega
    simp[hl9,hl6,hr,hi,fl,hq']
 ·cases h
end Go.Proofs.YtifcndkhigakfaaGreat.Ab
