/- Chapter 16: documents that are few, the same, written over. -/
import Derived.Test.YtifcndkhigakfaaGreatY13
import Derived.Test.YtifcndkhigakfaaGreatY14
import Derived.Test.YtifcndkhigakfaaGreatY12
import Derived.Test.YtifcndkhigakfaaGreatY17
import Derived.Test.YtifcndkhigakfaaGreatY16
import Derived.Test.YtifcndkhigakfaaGreatY19
import Derived.Test.YtifcndkhigakfaaGreatY15
import Derived.Test.YtifcndkhigakfaaGreatChecked
import Derived.RangeFuncBox
import Derived.RangeFuncLeaves
import Derived.Shelf.Abstract
import Derived.WalkKit
import Derived.OwnWalkIn
import Derived.TacticsInMore
import Derived.LoopNIn
import Derived.LoopIn
import Derived.Maps.AppendAt
set_option linter.unusedVariables false
set_option linter.unusedSimpArgs false
set_option linter.unnecessarySimpa false
set_option maxHeartbeats 40000000
set_option maxRecDepth 100000
set_option linter.defProp false
namespace Go.Proofs.YtifcndkhigakfaaGreat.Ab
open Go Go.RowKit
def q144:=@Nat.mod_two_eq_zero_or_one
def q201:=@List.findIdx_lt_length_of_exists
def q225:=@Array.replicate_succ
def q226:=@Array.replicate_zero
def q227:=@World.alloc_heap_new
def q228:=@Nat.xor_assoc
def q231:=@List.append_toArray
def q241:=@List.push_toArray
def q264:=@Nat.lt_of_le_of_lt
def q288:=@Nat.xor_zero
def q296:=@Nat.zero_ne_one
end Go.Proofs.YtifcndkhigakfaaGreat.Ab
namespace Go.Proofs.YtifcndkhigakfaaGreat.Ab
open Go Go.RowKit R
def FH (n t:List UInt8):Bool:=decide (n.length<=100)&&decide (t.length<=100)
@[simp] def PL:List AV->Option (Prop×AV)|[.agg [.pv (.int .u8 k),.pv (.int .u64 p),.pv (.int .u64 i),.pv (.int .u64 s),.pv (.int .u64 e),.pv (.int .u64 u),.pv (.int .u64 v),.pv (.int .u64 c),.pv (.int .u64 z),.pv (.int .u64 m),.pv (.str n),.pv (.str t)]]=>some (True,.pv (.bool (FH n t)))|_=>none
def Rd:aL Tryz.prog 18 PL:=by
 intro ys φ r h hφ;unfold PL at h;split at h;·rename_i k p i s e u v c z m n t;cases h;refine aq ah (by kernel_rfl) (by conv=>lhs;reduce) (by simp) ?_;have e1:∀l:List UInt8,decide ((l.length:Int)<=100)=decide (l.length<=100):=fun l=>decide_eq_decide.2 (by omega);have e2:∀l:List UInt8,((l.length:Int)<=100)=(l.length<=100):=fun l=>propext (by omega);by_cases h1:n.length<=100<;>simp[FH,h1,e1,e2]
 ·cases h
def Hz (d:Dc):Bool:=d.vs.all (fun v=>decide (v.t.length<=100))&&decide (d.ps.length<=20)&&decide (d.vs.length<=20)
@[simp] noncomputable def GFewD:List AV->Option (Prop×AV)|[.agg ys]=>pC ys fun d=>some (d.vs.length<=maxLen,.pv (.bool (Hz d)))|_=>none
def OB {a b:Vn}:a=b↔a.n=b.n/\a.b=b.b/\a.p=b.p/\a.i=b.i/\a.s=b.s/\a.z=b.z/\a.m=b.m/\a.t=b.t/\a.inl=b.inl/\a.ej=b.ej:=by cases a;cases b;simp
@[simp] noncomputable def GEqV:List AV->Option (Prop×AV)|[.pv (.ro a),.pv (.ro b)]=>(dec dt a).bind fun a=>(dec dt b).map fun b=>(a.length<=1000000000,.pv (.bool (decide (a=b))))|_=>none
def c_EqV:aL Tryz.prog 97 GEqV:=by
 intro ys φ r h hφ;unfold GEqV at h;split at h
 ·obtain⟨a,ha,h1⟩:=qB.1 h;obtain⟨b,hb,h2⟩:=q900.1 h1;clear h h1;cases h2;cases aJ ha;cases aJ hb;have hl:a.length<=1000000000:=hφ;refine aq ah (by kernel_rfl) (by conv=>lhs;reduce) (by simp) ?_;simp;refine⟨fun hne=>?_,fun hlen=>?_⟩;·intro e;exact hne (by rw[e])
  refine au (fun i:Nat=>i<=a.length/\a.take i=b.take i) (fun i=>⟨[(0,.pv (.ro (aI a))),(1,.pv (.ro (aI b))),(12,.pv (.int .i64 a.length)),(13,.pv (.int .i64 i))],[]⟩) (fun i=>a.length-i) [] 0 (by simp) ?_ ?_;·simp
  ·rintro i ⟨hi,ht⟩;have w2:IntKind.i64.wrap ((i:Int)+1)=(i:Int)+1:=wrap_i64 (by omega);by_cases hlt:i<a.length
   ·have r1:=b8 hlt;have hlb:i<b.length:=by omega
    have r2:=b8 hlb;by_cases he:a[i]=b[i];·obtain⟨f1,f2,f3,f4,f5,f6,f7,f8,f9,f10⟩:=OB.1 he;simp[w2,hlt,hlb,r1,r2,f1,f2,f3,f4,f5,f6,f7,f8,f9,f10];refine⟨i+1,⟨by omega,?_⟩,by omega,by omega⟩;rw[q64 hlt,q64 hlb,ht,he]
    ·have hn:¬a=b:=fun e=>he (by subst e;rfl);simp[w2,hlt,hlb,r1,r2,hn];exact fun f1 f2 f3 f4 f5 f6 f7 f8 f9 f10=>absurd (OB.2 ⟨f1,f2,f3,f4,f5,f6,f7,f8,f9,f10⟩) he
   ·simp[hlt];rw[List.take_of_length_le (by omega),List.take_of_length_le (by omega)]at ht;exact ht
 ·cases h
@[simp] noncomputable def GSD:List AV->Option (Prop×AV)|[.agg xs,.agg ys]=>pC xs fun a=>pC ys fun b=>some (a.ps.length<=1000000000/\a.vs.length<=1000000000,.pv (.bool (decide (a=b))))|_=>none
def c_SD:aL Tryz.prog 51 GSD:=by
 intro ys φ r h hφ;unfold GSD at h;split at h
 ·obtain⟨a,ha,h1⟩:=oD h;obtain⟨b,hb,h2⟩:=oD h1;subst ha hb;clear h h1;cases h2;obtain⟨⟨e,p,i,u,h'⟩,ps,vs,sl⟩:=a;obtain⟨⟨e2,p2,i2,u2,h2'⟩,ps2,vs2,sl2⟩:=b;obtain⟨h1,h2⟩:=hφ;have h1:ps.length<=1000000000:=h1;have h2:vs.length<=1000000000:=h2;refine aq (ag Nv (ag c_EqV ah)) (by kernel_rfl) (by conv=>lhs;reduce) (by simp) ?_;have hs:(sl==sl2)=decide (sl=sl2):=by cases sl<;>cases sl2<;>rfl
  simp[cellsD,h1,h2];rw[hs];ac_rfl
 ·cases h
@[simp] def GSpD (e1 e2:TypeId):List AV->Option (Prop×AV)|[.agg [.pv (.int .u64 e),.pv (.int .u64 p),.pv (.int .u64 i),.pv (.int .u64 u),.pv (.bool h),.fr x ra,.fr y rb,.pv (.bool sl)]]=>if x=e1/\y=e2 then some (ra.length<=1000000/\rb.length<=1000000/\(∀r∈ra,r.length=3)/\∀r∈rb,r.length=10,.bI 0 [.aN []]) else none|_=>none
@[simp] def GApp_eq (e p i u:Int) (h:Bool) (a b:List (List PV)) (sl:Bool) (k rp ri rs re ru rv rc rz rm:Int) (rn rt:List UInt8) (n s:Int):TP [.agg [.pv (.int .u64 e),.pv (.int .u64 p),.pv (.int .u64 i),.pv (.int .u64 u),.pv (.bool h),.pv (.ro a),.pv (.ro b),.pv (.bool sl)],.agg [.pv (.int .u8 k),.pv (.int .u64 rp),.pv (.int .u64 ri),.pv (.int .u64 rs),.pv (.int .u64 re),.pv (.int .u64 ru),.pv (.int .u64 rv),.pv (.int .u64 rc),.pv (.int .u64 rz),.pv (.int .u64 rm),.pv (.str rn),.pv (.str rt)],.pv (.int .u64 n),.pv (.int .u64 s)]=(dec rowP a).bind fun ps=>(dec dt b).map fun vs=>(XZ ⟨⟨e,p,i,u,h⟩,ps,vs,sl,⟨k,rp,ri,rs,re,ru,rv,rc,rz,rm,rn,rt⟩,n,s⟩,.aN [.agg (ck (cL ⟨⟨e,p,i,u,h⟩,ps,vs,sl,⟨k,rp,ri,rs,re,ru,rv,rc,rz,rm,rn,rt⟩,n,s⟩).1),.pv (.int .i64 (cL ⟨⟨e,p,i,u,h⟩,ps,vs,sl,⟨k,rp,ri,rs,re,ru,rv,rc,rz,rm,rn,rt⟩,n,s⟩).2)]):=rfl
def p3:Pn:=⟨3,2,5⟩
def x2:Vn:=⟨2,0,7,1,0,0,0,[],false,false⟩
def x4:Vn:=⟨4,2,7,1,0,0,0,[],false,false⟩
def kA:cL ⟨⟨0,0,0,0,false⟩,[],[],false,⟨1,7,1,0,1,9,0,0,0,0,[],[]⟩,1,0⟩=(⟨⟨1,7,1,9,true⟩,[],[],false,⟨1,7,1,0,1,9,0,0,0,0,[],[]⟩,1,0⟩,0):=by kernel_rfl
def kB:cL ⟨⟨1,7,1,9,true⟩,[],[],false,⟨4,7,1,0,1,0,0,0,0,0,[],[]⟩,2,0⟩=(⟨⟨1,7,1,9,true⟩,[],[x2],false,⟨4,7,1,0,1,0,0,0,0,0,[],[]⟩,2,0⟩,0):=by kernel_rfl
def oB:XZ ⟨⟨1,7,1,9,true⟩,[],[],false,⟨4,7,1,0,1,0,0,0,0,0,[],[]⟩,2,0⟩:=by simp[XZ,cg,iV,kr,m0,p3,x2,x4]
def kC:cL ⟨⟨1,7,1,9,true⟩,[],[x2],false,⟨5,0,0,0,0,5,2,0,0,0,[],[]⟩,3,0⟩=(⟨⟨1,7,1,9,true⟩,[p3],[x2],false,⟨5,0,0,0,0,5,2,0,0,0,[],[]⟩,3,0⟩,0):=by kernel_rfl
def fN:bP []:=fun _ h=>by cases h
noncomputable def GWkD:List AV->Option (Prop×AV)|[]=>some (True,.pv (.bool true))|_=>none
@[simp] def GWkD_eq:GWkD []=some (True,.pv (.bool true)):=rfl
structure Sc where
 c:Int
 t:Int
 d:Dc
 cs:List En
 ws:List Pn deriving DecidableEq
def aZ (x:Sc):List AV:=[.pv (.int .u64 x.c),.pv (.int .u64 x.t),.pv (.int .u64 x.d.l.e),.pv (.int .u64 x.d.l.p),.pv (.int .u64 x.d.l.i),.pv (.int .u64 x.d.l.u),.pv (.bool x.d.l.h),.pv (.ro (ay x.d.ps)),.pv (.ro (aI x.d.vs)),.pv (.bool x.d.sl),.pv (.ro (bg x.cs)),.pv (.ro (ay x.ws))]
def bA (t1 t2 t3 t4:TypeId) (x:Sc):List AV:=[.pv (.int .u64 x.c),.pv (.int .u64 x.t),.pv (.int .u64 x.d.l.e),.pv (.int .u64 x.d.l.p),.pv (.int .u64 x.d.l.i),.pv (.int .u64 x.d.l.u),.pv (.bool x.d.l.h),.fr t1 (ay x.d.ps),.fr t2 (aI x.d.vs),.pv (.bool x.d.sl),.fr t3 (bg x.cs),.fr t4 (ay x.ws)]
@[simp] noncomputable def mG (ys:List AV) (K:Sc->Option (Prop×AV)):Option (Prop×AV):=match ys with|[.pv (.int .u64 c),.pv (.int .u64 t),.pv (.int .u64 e),.pv (.int .u64 p),.pv (.int .u64 i),.pv (.int .u64 u),.pv (.bool h),.pv (.ro a),.pv (.ro b),.pv (.bool sl),.pv (.ro x),.pv (.ro y)]=>(dec rowP a).bind fun ps=>(dec dt b).bind fun vs=>(dec fH x).bind fun cs=>(dec rowP y).bind fun ws=>K ⟨c,t,⟨⟨e,p,i,u,h⟩,ps,vs,sl⟩,cs,ws⟩|_=>none
def eQ {ys:List AV}{K:Sc->Option (Prop×AV)}{x:Prop×AV} (h:mG ys K=some x):∃d,ys=aZ d/\K d=some x:=by
 unfold mG at h;split at h;·obtain⟨ps,hp,h1⟩:=qB.1 h;obtain⟨vs,hv,h2⟩:=qB.1 h1;obtain⟨cs,hc,h3⟩:=qB.1 h2;obtain⟨ws,hw,h4⟩:=qB.1 h3;rw[aM hp,aJ hv,bm hc,aM hw];exact⟨_,rfl,h4⟩
 ·cases h
def rY (x:Sc):AV:=.bx (bA 177 132 86 84 x)
def MN:∀p q,rY p=rY q->p=q:=by rintro⟨c,t,⟨⟨e,p,i,u,h⟩,ps,vs,sl⟩,cs,ws⟩ ⟨c',t',⟨⟨e',p',i',u',h'⟩,ps',vs',sl'⟩,cs',ws'⟩ hh;simp only[rY,bA,AV.bx.injEq,q112,AV.pv.injEq,PV.int.injEq,PV.bool.injEq,AV.fr.injEq,true_and,and_true]at hh;obtain⟨rfl,rfl,rfl,rfl,rfl,rfl,rfl,h1,h2,rfl,h3,h4⟩:=hh;rw[gL lk h1,gL qY h2,gL CR h3,gL lk h4]
@[simp] def aaA (c t e p i u:Int) (h sl:Bool) (ps ws:List Pn) (vs:List Vn) (cs:List En):uH rY (.bx [.pv (.int .u64 c),.pv (.int .u64 t),.pv (.int .u64 e),.pv (.int .u64 p),.pv (.int .u64 i),.pv (.int .u64 u),.pv (.bool h),.fr 177 (ay ps),.fr 132 (aI vs),.pv (.bool sl),.fr 86 (bg cs),.fr 84 (ay ws)])=some ⟨c,t,⟨⟨e,p,i,u,h⟩,ps,vs,sl⟩,cs,ws⟩:=Bv MN ⟨c,t,⟨⟨e,p,i,u,h⟩,ps,vs,sl⟩,cs,ws⟩
def dY (l:List Pn) (w:Pn):List Pn×Bool:=match l.find? (kI w) with|some x=>(l.set (l.findIdx (kI w)) w,decide (x.u<w.u))|none=>(Br l (l.findIdx (nX w)) w,true)
def Cz {l:List Pn}{w:Pn} (h:l.any (kI w)=true):∃hi:l.findIdx (kI w)<l.length,dY l w=(l.set (l.findIdx (kI w)) w,decide (l[l.findIdx (kI w)].u<w.u)):=by
 have hi:l.findIdx (kI w)<l.length:=by obtain⟨x,hx,he⟩:=q133.1 h;exact q201 ⟨x,hx,he⟩
 refine⟨hi,?_⟩;have hf:l.find? (kI w)=some l[l.findIdx (kI w)]:=by rw[List.find?_eq_getElem?_findIdx,q62 hi]
 unfold dY;rw[hf]
def zq {l:List Pn}{w:Pn} (h:l.any (kI w)=false):dY l w=(Br l (l.findIdx (nX w)) w,true):=by
 have hf:l.find? (kI w)=none:=by rw[q183];exact fun x hx=>by simpa using q146.1 h x hx
 unfold dY;rw[hf]
def Ij (l:List Pn) (w:Pn):(dY l w).1.length<=l.length+1:=by
 unfold dY;split;·simp
 ·simp[Br];omega
@[simp] noncomputable def OR:List AV->Option (Prop×AV)|[.aN [y],.agg [.pv (.int .u64 p),.pv (.int .u64 i),.pv (.int .u64 s)]]=>(uH rY y).map fun g=>(g.ws.length<=1000000,.bI 0 [.pv (.bool (dY g.ws ⟨p,i,s⟩).2),rY ⟨g.c,g.t,g.d,g.cs,(dY g.ws ⟨p,i,s⟩).1⟩])|_=>none
def Sw:eE Tryz.prog 93 OR:=by
 intro ys φ r h hφ;unfold OR at h;split at h
 ·rename_i y wp wi wu;obtain⟨g,hg,h⟩:=q900.1 h;cases h;cases eK hg;obtain⟨c,t,⟨⟨e,p,i,u,h'⟩,ps,vs,sl⟩,cs,ws⟩:=g;have h6:ws.length<=1000000:=hφ;have h9:ws.length<=1000000000:=by omega
  refine cC (ag aac (ft (p:=0) (k:=998) Td (by kernel_rfl) ah)) (by kernel_rfl) (by conv=>lhs;reduce) (by simp) rfl (by simp[rY,bA]) ?_;cases ha:ws.any (kI ⟨wp,wi,wu⟩) with
  |true=>
   obtain⟨hi,hn⟩:=Cz ha;have hix:Km (kI ⟨wp,wi,wu⟩) ws=(ws.findIdx (kI ⟨wp,wi,wu⟩):Int):=by unfold Km;rw[if_pos ha]
   generalize ws.findIdx (kI ⟨wp,wi,wu⟩)=k at*;have r1:=dq hi;have hs:ay (ws.set k ⟨wp,wi,wu⟩)=(ay ws).set k [.int .u64 wp,.int .u64 wi,.int .u64 wu]:=by simp[ay,q219,rowP]
   simp[rY,bA,h9,clW,hix,hi,hn,r1,hs]|false=>
   have hn:=zq ha;have hix:Km (kI ⟨wp,wi,wu⟩) ws=-1:=by unfold Km;rw[if_neg (by simp[ha])]
   cases hb:ws.any (nX ⟨wp,wi,wu⟩) with|true=>
    have hi:ws.findIdx (nX ⟨wp,wi,wu⟩)<ws.length:=by obtain⟨x,hx,he⟩:=q133.1 hb;exact q201 ⟨x,hx,he⟩
    have hiy:Km (nX ⟨wp,wi,wu⟩) ws=(ws.findIdx (nX ⟨wp,wi,wu⟩):Int):=by unfold Km;rw[if_pos hb]
    generalize ws.findIdx (nX ⟨wp,wi,wu⟩)=k at*;have hk:k<=ws.length:=by omega
    simp[rY,bA,h9,h6,clW,hix,hiy,hk,hn];exact⟨fun h=>by omega,aV _⟩|false=>
    have hi:ws.findIdx (nX ⟨wp,wi,wu⟩)=ws.length:=List.findIdx_eq_length_of_false fun x hx=>by simpa using q146.1 hb x hx
    have hiy:Km (nX ⟨wp,wi,wu⟩) ws=-1:=by unfold Km;rw[if_neg (by simp[hb])]
    rw[hi]at hn;simp[rY,bA,h9,h6,clW,hix,hiy,hn];exact aV _
 ·cases h
def mT (cs:List En) (r:Rc) (n:Int):List En×Int:=if r.k=9 then dK cs r.n n else if r.k=10 then mM cs r.n else if r.k=11 then fA cs r.n r.t else if r.k=8 then(cs,0) else(cs,2)
@[simp] noncomputable def abe:List AV->Option (Prop×AV)|[.aN [y],.agg ys]=>vu ys fun r=>(uH rY y).map fun g=>(g.cs.length<=100000,.bI 0 [.pv (.int .i64 (mT g.cs r g.t).2),rY ⟨g.c,g.t,g.d,(mT g.cs r g.t).1,g.ws⟩])|_=>none
def c_Ctl:eE Tryz.prog 94 abe:=by
 intro ys φ r h hφ;unfold abe at h;split at h
 ·rename_i y zs;obtain⟨r,rfl,h1⟩:=pO h;clear h;obtain⟨g,hg,h⟩:=q900.1 h1;clear h1;cases h;cases eK hg;obtain⟨c,t,⟨⟨e,p,i,u,h'⟩,ps,vs,sl⟩,cs,ws⟩:=g;obtain⟨k,rp,ri,rs,re,ru,rv,rc,rz,rm,rn,rt⟩:=r;have h5:cs.length<=100000:=hφ;refine cC (ag Ll (ag Qu (ag ZT ah))) (by kernel_rfl) (by conv=>lhs;reduce) (by simp) rfl (by simp[rY,bA,gG]) ?_;by_cases k9:k=9;·simp[rY,bA,gG,h5,mT,k9,aW]
  ·by_cases k10:k=10;·simp[rY,bA,gG,h5,mT,k10,aW]
   ·by_cases k11:k=11;·simp[rY,bA,gG,h5,mT,k11,aW]
    ·by_cases k8:k=8<;>simp[rY,bA,gG,h5,mT,k8,k9,k10,k11]
 ·cases h
def mJ (r:Rc):Pn:=⟨r.p,r.i,r.s⟩
noncomputable def pE (x:Sc) (r:Rc) (s:Int):Sc×Bool:=if cF r=true/\x.t≠nS then if(dY x.ws (mJ r)).2=true then if x.c=0 then(⟨x.c,x.t+1,x.d,(mT x.cs r (x.t+1)).1,(dY x.ws (mJ r)).1⟩,decide ((mT x.cs r (x.t+1)).2=0)) else(⟨x.c,x.t+1,dcA (cL ⟨x.d.l,x.d.ps,x.d.vs,x.d.sl,r,x.t+1,s⟩).1,x.cs,(dY x.ws (mJ r)).1⟩,decide ((cL ⟨x.d.l,x.d.ps,x.d.vs,x.d.sl,r,x.t+1,s⟩).2=0)) else(⟨x.c,x.t,x.d,x.cs,(dY x.ws (mJ r)).1⟩,false) else(x,false)
def uJ (x:Sc) (r:Rc) (s:Int):Prop:=cg x.t/\x.ws.length<=100000/\x.cs.length<=100000/\cg x.d.l.e/\x.d.ps.length<50/\x.d.vs.length<=100000/\(∀e∈x.d.ps,iV e)/\(∀v∈x.d.vs,kr v)/\cg r.c/\cg s/\cg r.v
@[simp] noncomputable def aaM:List AV->Option (Prop×AV)|[.aN [y],.agg ys,.pv (.int .u64 s)]=>vu ys fun r=>(uH rY y).map fun x=>(uJ x r s,.bI 0 [.pv (.bool (pE x r s).2),rY (pE x r s).1])|_=>none
def c_DoS:eE Tryz.prog 50 aaM:=by
 intro ys φ r h hφ;unfold aaM at h;split at h
 ·rename_i y zs s;obtain⟨r,rfl,h1⟩:=pO h;clear h;obtain⟨x,hx,h⟩:=q900.1 h1;clear h1;cases h;cases eK hx;obtain⟨c,t,⟨⟨e,p,i,u,h'⟩,ps,vs,sl⟩,cs,ws⟩:=x;obtain⟨k,rp,ri,rs,re,ru,rv,rc,rz,rm,rn,rt⟩:=r;obtain⟨o1,o2,o3,o4,o5,o6,o7,o8,o9,o10,o11⟩:=hφ;have o1:cg t:=o1;have o2:ws.length<=100000:=o2;have o3:cs.length<=100000:=o3;have o2':ws.length<=1000000:=by omega
  refine cC (ag F8 (bq (ks:=[2,0]) Sw (by kernel_rfl) (bq (ks:=[2,0]) c_Ctl (by kernel_rfl) (ag c_App ah)))) (by kernel_rfl) (by conv=>lhs;reduce) (by simp) rfl (by simp[rY,bA,gG]) ?_;apply ae;·simp[rY,bA,gG];exact⟨rfl,rfl⟩
  cases hR:cF ⟨k,rp,ri,rs,re,ru,rv,rc,rz,rm,rn,rt⟩ with
  |false=>
   refine bB (fun _=>False) ?_ (fun _ h=>h.elim);apply ae;·simp[hR];exact⟨rfl,rfl⟩
   apply cm rfl;simp[hR,pE,rY,bA]|true=>
   by_cases ht:t=18446744073709551615
   ·refine bB (fun _=>False) ?_ (fun _ h=>h.elim);apply ae;·simp[hR,ht];exact⟨rfl,rfl⟩
    apply cm rfl;simp[hR,ht,pE,nS,rY,bA]
   ·have w1:IntKind.u64.wrap (t+1)=t+1:=wrap_u64 (by have:=o1.1;have:=o1.2;omega);have hdo:pE ⟨c,t,⟨⟨e,p,i,u,h'⟩,ps,vs,sl⟩,cs,ws⟩ ⟨k,rp,ri,rs,re,ru,rv,rc,rz,rm,rn,rt⟩ s=if(dY ws ⟨rp,ri,rs⟩).2=true then if c=0 then(⟨c,t+1,⟨⟨e,p,i,u,h'⟩,ps,vs,sl⟩,(mT cs ⟨k,rp,ri,rs,re,ru,rv,rc,rz,rm,rn,rt⟩ (t+1)).1,(dY ws ⟨rp,ri,rs⟩).1⟩,decide ((mT cs ⟨k,rp,ri,rs,re,ru,rv,rc,rz,rm,rn,rt⟩ (t+1)).2=0)) else(⟨c,t+1,dcA (cL ⟨⟨e,p,i,u,h'⟩,ps,vs,sl,⟨k,rp,ri,rs,re,ru,rv,rc,rz,rm,rn,rt⟩,t+1,s⟩).1,cs,(dY ws ⟨rp,ri,rs⟩).1⟩,decide ((cL ⟨⟨e,p,i,u,h'⟩,ps,vs,sl,⟨k,rp,ri,rs,re,ru,rv,rc,rz,rm,rn,rt⟩,t+1,s⟩).2=0)) else(⟨c,t,⟨⟨e,p,i,u,h'⟩,ps,vs,sl⟩,cs,(dY ws ⟨rp,ri,rs⟩).1⟩,false):=by unfold pE;rw[if_pos ⟨hR,ht⟩];rfl
    rw[hdo];generalize hx:dY ws ⟨rp,ri,rs⟩=x;obtain⟨ws',b⟩:=x;rw[bh];apply ae;·simp[hR,ht,o2',hx,rY,bA];exact⟨rfl,rfl⟩
    cases b with|false=>apply cm rfl;simp[rY,bA]|true=>
     apply cr rfl;apply ae;·simp[w1];exact⟨rfl,rfl⟩
     have n1:0<=t+1:=by have:=o1.1;omega
     have n2:t+1<=18446744073709551615:=by have:=o1.2;omega
     have hok:XZ ⟨⟨e,p,i,u,h'⟩,ps,vs,sl,⟨k,rp,ri,rs,re,ru,rv,rc,rz,rm,rn,rt⟩,t+1,s⟩:=⟨o4,o5,o6,o7,o8,o9,o10,n1,n2,o11.1,o11.2⟩;generalize hA:cL ⟨⟨e,p,i,u,h'⟩,ps,vs,sl,⟨k,rp,ri,rs,re,ru,rv,rc,rz,rm,rn,rt⟩,t+1,s⟩=q;obtain⟨⟨⟨xe,xp,xi,xu,xh⟩,xps,xvs,xsl,ar,an,asl⟩,e2⟩:=q;generalize hY:mT cs ⟨k,rp,ri,rs,re,ru,rv,rc,rz,rm,rn,rt⟩ (t+1)=y;obtain⟨cs',e1⟩:=y;by_cases hc:c=0
     ·refine bB (fun _=>False) ?_ (fun _ h=>h.elim);apply ae;·simp[hc];exact⟨rfl,rfl⟩
      apply cm rfl;simp[o3,hY,hc,rY,bA,gG]
     ·rw[bh];apply ae;·simp[hc];exact⟨rfl,rfl⟩
      apply cr rfl;apply ae;·simp[hok,hA,ck,gG,aV,aT];exact⟨rfl,rfl⟩
      simp[hc,rY,bA,dcA]
 ·cases h
def E4 (e:En):Prop:=0<=e.i/\e.i<=18446744073709551615
def oS (e:En):List UInt8:=cH e.n++bk e.i
def fe (l:List En):List UInt8:=l.flatMap oS
def vh (l:List En):List UInt8:=bk l.length++fe l
def jZ (l:List En):List UInt8×Int:=if aP l then(vh l,0) else([],2)
def qg {n:Int} (h:0<=n/\n<=18446744073709551615):(bk n).length<=10:=fp (by omega)
def B4 {e:En} (h:E4 e) (hn:e.n.length<=64):(oS e).length<=84:=by have h1:=qg h;have h2:=fp (n:=e.n.length) (by omega);simp only[oS,cH,q65];omega
def sX:∀{l:List En},(∀e∈l,E4 e/\e.n.length<=64)->(fe l).length<=84*l.length|[],_=>by simp[fe]|n::l,h=>by have h1:=B4 (h n (by simp)).1 (h n (by simp)).2;have h2:=sX (l:=l) fun m hm=>h m (by simp[hm]);unfold fe at h2 |-;simp only[q99,q65,q70];omega
def E3 (l:List En) (e:En):fe (l++[e])=fe l++oS e:=by simp[fe]
def qF {l:List En} (h:aP l=true):∀e∈l,e.n.length<=64:=by intro e he;have:=(((eH l).1 h).1 e he).1;simp only[dL,q71,decide_eq_true_eq]at this;exact this.2
@[simp] noncomputable def OJ:List AV->Option (Prop×AV)|[.pv (.ro a)]=>(dec fH a).map fun l=>(l.length<=1000000/\(∀e∈l,E4 e),.aN [.fr 5 (bytesRow (jZ l).1),.pv (.int .i64 (jZ l).2)])|_=>none
def TS:aL Tryz.prog 62 OJ:=by
 intro ys φ r h hφ;unfold OJ at h;split at h
 ·rename_i ra;obtain⟨a,ha,h⟩:=q900.1 h;cases h;cases bm ha;obtain⟨hl,hn⟩:=hφ;refine aq (ag TT (ag zL (ag Fy ah))) (by kernel_rfl) (by conv=>lhs;reduce) (by simp) ?_;have hl9:a.length<=1000000000:=by omega
  cases hr:aP a with
  |false=>
   have hp:jZ a=([],2):=by simp[jZ,hr]
   simp[hl9,hr,hp]|true=>
  have hp:jZ a=(vh a,0):=by simp[jZ,hr]
  have hnm:=qF hr;have wl:IntKind.u64.wrap (a.length:Int)=(a.length:Int):=wrap_u64 (by omega);have l0:(0:Int)<=(a.length:Int):=by omega
  have l1:(a.length:Int)<=18446744073709551615:=by omega
  have hv:=qg (n:=(a.length:Int)) ⟨by omega,by omega⟩;simp[wl,l0,l1,hl9,hr,hp];refine au (fun i:Nat=>i<=a.length) (fun i=>⟨[(4,.own 13),(14,.pv (.ro (bg a))),(15,.pv (.int .i64 a.length)),(16,.pv (.int .i64 i))],[(13,.arr 5 (bytesRow (bk a.length++fe (a.take i))))]⟩) (fun i=>a.length-i) [] 0 (by simp) ?_ ?_;·simp[fe]
  ·rintro i hi;have w2:IntKind.i64.wrap ((i:Int)+1)=(i:Int)+1:=wrap_i64 (by omega);by_cases hlt:i<a.length
   ·have r1:=fg hlt;have ho:=hn _ (q84 hlt);have hm:=hnm _ (q84 hlt);have h1:=B4 ho hm;have h2:=sX (l:=a.take i) fun n h=>⟨hn n (q96 h),hnm n (q96 h)⟩;rw[q68]at h2;have h3:(oS a[i]).length=(cH a[i].n).length+(bk a[i].i).length:=by simp[oS]
    have hm6:a[i].n.length<=1000000:=by omega
    obtain⟨o1,o2⟩:=ho;simp[w2,hlt,r1,aF,o1,o2,hm6];refine⟨⟨by omega,by omega,bV _⟩,⟨by omega,by omega,bV _⟩,i+1,by omega,⟨by omega,?_⟩,by omega⟩;rw[q64 hlt,E3];simp only[bY,oS,q77]
   ·simp[hlt];rw[List.take_of_length_le (by omega)];rfl
 ·cases h
def yf (r:Rc):Prop:=cg r.p/\cg r.i/\cg r.s/\cg r.e/\cg r.u/\cg r.v/\cg r.c/\cg r.z/\cg r.m
def np (r:Rc):List PV:=[.int .u8 r.k,.int .u64 r.p,.int .u64 r.i,.int .u64 r.s,.int .u64 r.e,.int .u64 r.u,.int .u64 r.v,.int .u64 r.c,.int .u64 r.z,.int .u64 r.m,.str r.n,.str r.t]
def Ma {n:Nat}{row:List PV} (h:sa Tryz.prog (n+2) 71 row):∃r,row=np r/\yf r/\0<=r.k:=by
 unfold sa at h;rw[Tryz.underlying71]at h;have c0:Tryz.prog.cellsOf 71=12:=by kernel_rfl
 have c1:Tryz.prog.cellsOf 22=1:=by kernel_rfl
 have c2:Tryz.prog.cellsOf 5=1:=by kernel_rfl
 have c3:Tryz.prog.cellsOf 9=1:=by kernel_rfl
 simp only[c0,q78,q102,or_false,forall_eq_or_imp,forall_eq,c1,c2,c3]at h;obtain⟨hl,h0,h1,h2,h3,h4,h5,h6,h7,h8,h9,h10,h11⟩:=h;match row,hl with|[a0,a1,a2,a3,a4,a5,a6,a7,a8,a9,a10,a11],_=>obtain⟨x0,e0,o0⟩:=Ta h0;obtain⟨x1,e1,o1⟩:=gI h1;obtain⟨x2,e2,o2⟩:=gI h2;obtain⟨x3,e3,o3⟩:=gI h3;obtain⟨x4,e4,o4⟩:=gI h4;obtain⟨x5,e5,o5⟩:=gI h5;obtain⟨x6,e6,o6⟩:=gI h6;obtain⟨x7,e7,o7⟩:=gI h7;obtain⟨x8,e8,o8⟩:=gI h8;obtain⟨x9,e9,o9⟩:=gI h9;obtain⟨x10,e10⟩:=GD h10;obtain⟨x11,e11⟩:=GD h11;simp at e0 e1 e2 e3 e4 e5 e6 e7 e8 e9 e10 e11;subst e0 e1 e2 e3 e4 e5 e6 e7 e8 e9 e10 e11;exact⟨⟨x0,x1,x2,x3,x4,x5,x6,x7,x8,x9,x10,x11⟩,rfl,⟨o1,o2,o3,o4,o5,o6,o7,o8,o9⟩,o0⟩
def okSt (x:Sc):Prop:=cg x.t/\x.cs.length<=maxLen/\okDc x.d
def Pz (x:Sc):Prop:=okSt x/\cg x.c/\(∀e∈x.cs,E4 e)/\∀w∈x.ws,iV w
def SH:uG Tryz.prog 22=false:=by unfold uG;rw[Tryz.underlying22]
def Jc:Tryz.prog.readableRec 22=true:=by kernel_rfl
@[simp] noncomputable def Ou:List AV->Option (Prop×AV)|[.agg ys]=>mG ys fun x=>some ((x.d.ps.length<=100000/\x.d.vs.length<=100000)/\x.cs.length<=100000/\x.ws.length<=100000,.agg (bA 177 132 86 84 x))|_=>none
def Lp:aL Tryz.prog 49 Ou:=by
 intro ys φ r h hφ;unfold Ou at h;split at h
 ·obtain⟨x,rfl,h2⟩:=eQ h;clear h;cases h2;obtain⟨c,t,⟨⟨e,p,i,u,h'⟩,ps,vs,sl⟩,cs,ws⟩:=x;obtain⟨⟨h1,h2⟩,h3,h4⟩:=hφ;have h1:ps.length<=100000:=h1;have h2:vs.length<=100000:=h2;have h3:cs.length<=100000:=h3;have h4:ws.length<=100000:=h4;have h5:ps.length<=100000000:=by omega
  have h6:vs.length<=1000000:=by omega
  have h7:cs.length<=100000000:=by omega
  have h8:ws.length<=100000000:=by omega
  refine aq (ag rK (ag FQ (ag Tk (ag Zi ah)))) (by kernel_rfl) (by conv=>lhs;reduce) (by simp) ?_;apply ae;·simp[aZ];exact⟨rfl,rfl⟩
  apply ae;·simp[h5,h6];exact⟨rfl,rfl⟩
  apply ae;·simp[h7,h8];exact⟨rfl,rfl⟩
  simp[bA,aV,aT,aW]
 ·cases h
noncomputable def fF (x:Sc) (r:Rc) (s:Int):Sc×Int:=if(pE x r s).2=true then((pE x r s).1,0) else(x,220)
@[simp] noncomputable def Zg:List AV->Option (Prop×AV)|[.agg xs,.agg ys,.pv (.int .u64 s)]=>mG xs fun x=>vu ys fun r=>some (uJ x r s,.aN [.agg (bA 177 132 86 84 (fF x r s).1),.pv (.int .i64 (fF x r s).2)])|_=>none
def PH:aL Tryz.prog 19 Zg:=by
 intro ys φ r h hφ;unfold Zg at h;split at h
 ·rename_i xs zs s;obtain⟨x,rfl,h1⟩:=eQ h;obtain⟨r,rfl,h2⟩:=pO h1;clear h h1;cases h2;have hok:uJ x r s:=hφ;obtain⟨o1,o2,o3,o4,o5,o6,o7,o8,o9,o10,o11⟩:=hφ;obtain⟨c,t,⟨⟨e,p,i,u,h'⟩,ps,vs,sl⟩,cs,ws⟩:=x;obtain⟨k,rp,ri,rs,re,ru,rv,rc,rz,rm,rn,rt⟩:=r;have o2:ws.length<=100000:=o2;have o3:cs.length<=100000:=o3;have o5:ps.length<50:=o5;have o5':ps.length<=100000:=by omega
  have o6:vs.length<=100000:=o6;refine aq (ag Lp (bq (ks:=[2,0,0]) c_DoS (by kernel_rfl) ah)) (by kernel_rfl) (by conv=>lhs;reduce) (by simp) ?_;apply ae;·simp[aZ,gG];exact⟨rfl,rfl⟩
  apply ae;·simp[o2,o3,o5',o6,bA];exact⟨rfl,rfl⟩
  unfold fF;generalize hx:pE ⟨c,t,⟨⟨e,p,i,u,h'⟩,ps,vs,sl⟩,cs,ws⟩ ⟨k,rp,ri,rs,re,ru,rv,rc,rz,rm,rn,rt⟩ s=q;obtain⟨⟨xc,xt,⟨⟨xe,xp,xi,xu,xh⟩,xps,xvs,xsl⟩,xcs,xws⟩,b⟩:=q;rw[bh];apply ae;·simp[hok,hx,rY,bA,aV,aT,aW];exact⟨rfl,rfl⟩
  cases b with|false=>apply cm rfl;simp[o2,o3,o5',o6,bA,aV,aT,aW]|true=>apply cr rfl;simp[bA,aV,aT,aW]
 ·cases h
def oq (a b:Int):yx a b=0↔a=b:=by
 unfold yx;split;·exact⟨fun h=>by simp at h,fun h=>by omega⟩
 ·split;·exact⟨fun h=>by simp at h,fun h=>by omega⟩
  ·exact⟨fun _=>by omega,fun _=>rfl⟩
def B3 (a b:Int):0<yx a b↔b<a:=by
 unfold yx;split;·exact⟨fun h=>by simp at h,fun h=>by omega⟩
 ·split;·exact⟨fun _=>by assumption,fun _=>by simp⟩
  ·exact⟨fun h=>by simp at h,fun h=>by omega⟩
def jj (w e:Pn):kI w e=true↔e.i=w.i/\e.v=w.v:=by
 unfold kI uA;rw[decide_eq_true_eq];split;·rename_i h;rw[oq]at h |-;exact⟨fun h2=>⟨h,h2⟩,fun h2=>h2.2⟩
 ·rename_i h;exact⟨fun h2=>absurd h2 h,fun h2=>absurd ((oq _ _).2 h2.1) h⟩
def qW (w e:Pn):nX w e=true↔w.i<e.i\/(w.i=e.i/\w.v<e.v):=by
 unfold nX uA;rw[decide_eq_true_eq];split;·rename_i h;rw[oq]at h;rw[B3];exact⟨fun h2=>.inr ⟨h.symm,h2⟩,fun h2=>h2.elim (fun h3=>by omega) fun h3=>h3.2⟩
 ·rename_i h;rw[oq]at h;rw[B3];exact⟨fun h2=>.inl h2,fun h2=>h2.elim id fun h3=>absurd h3.1.symm h⟩
def lK (l:List Pn) (p i:Int):Int×Bool:=match l.find? (kI ⟨p,i,0⟩) with|some e=>(e.u,true)|none=>(0,false)
def Z6 (p i u u':Int):kI ⟨p,i,u⟩=kI ⟨p,i,u'⟩:=by funext e;rw[q232,jj,jj]
def JZ (l:List Pn) (p i s:Int):(dY l ⟨p,i,s⟩).2=!((lK l p i).2&&decide (s<=(lK l p i).1)):=by unfold dY lK;rw[Z6 p i s 0];cases l.find? (kI ⟨p,i,0⟩) with|none=>rfl|some x=>show decide (x.u<s)=!(true&&decide (s<=x.u));rw[q265,q232];simp
def K7 {l:List Pn}{p i:Int}{j:Nat} (h:j<l.length) (ht:∀e∈l.take j,¬(e.i=p/\e.v=i)) (he:l[j].i=p/\l[j].v=i):lK l p i=(l[j].u,true):=by
 have hf:l.find? (kI ⟨p,i,0⟩)=some l[j]:=by rw[q205];refine⟨(jj _ _).2 he,j,h,rfl,fun k hk=>?_⟩;have:=ht l[k] (by rw[q90];exact⟨k,by omega,rfl⟩);rw[<-jj ⟨p,i,0⟩]at this;simpa using this
 unfold lK;rw[hf]
def Tw {l:List Pn}{p i:Int} (ht:∀e∈l,¬(e.i=p/\e.v=i)):lK l p i=(0,false):=by
 have hf:l.find? (kI ⟨p,i,0⟩)=none:=by rw[q183];intro e he hq;exact ht e he ((jj _ _).1 hq)
 unfold lK;rw[hf]
@[simp] noncomputable def Y5:List AV->Option (Prop×AV)|[.agg ys,.pv (.int .u64 p),.pv (.int .u64 i)]=>mG ys fun x=>some (x.ws.length<=1000000000,.aN [.pv (.int .u64 (lK x.ws p i).1),.pv (.bool (lK x.ws p i).2)])|_=>none
def PG:aL Tryz.prog 21 Y5:=by
 intro ys φ r h hφ;unfold Y5 at h;split at h
 ·rename_i ys q j;obtain⟨x,rfl,h2⟩:=eQ h;clear h;cases h2;obtain⟨c,t,⟨⟨e,p,i,u,h'⟩,ps,vs,sl⟩,cs,ws⟩:=x;have hl:ws.length<=1000000000:=hφ;refine aq ah (by kernel_rfl) (by conv=>lhs;reduce) (by simp) ?_;simp[aZ];refine au (fun k:Nat=>k<=ws.length/\∀e∈ws.take k,¬(e.i=q/\e.v=j)) (fun k=>⟨[(1,.pv (.int .u64 q)),(2,.pv (.int .u64 j)),(3,.ptr 3 0),(6,.pv (.int .u64 0)),(7,.pv (.bool false)),(11,.pv (.ro (ay ws))),(12,.pv (.int .i64 ws.length)),(13,.pv (.int .i64 (k:Int)))],[(3,.box (aZ ⟨c,t,⟨⟨e,p,i,u,h'⟩,ps,vs,sl⟩,cs,ws⟩))]⟩) (fun k=>ws.length-k) [] 0 (by simp) ?_ ?_;·simp[aZ]
  ·rintro k ⟨hk,ht⟩;have w2:IntKind.i64.wrap ((k:Int)+1)=(k:Int)+1:=wrap_i64 (by omega);by_cases hlt:k<ws.length
   ·have r1:=dq hlt;by_cases he:ws[k].i=q/\ws[k].v=j;·have hs:=K7 hlt ht he;obtain⟨e1,e2⟩:=he;simp[w2,hlt,r1,e1,e2,hs]
    ·have hn:k+1<=ws.length/\∀e∈ws.take (k+1),¬(e.i=q/\e.v=j):=by
      refine⟨by omega,fun e hm=>?_⟩;rw[q64 hlt,q75,q73]at hm;rcases hm with hm|rfl;·exact ht e hm
      ·exact he
     by_cases e1:ws[k].i=q;·have e2:¬ws[k].v=j:=fun h=>he ⟨e1,h⟩;simp[w2,hlt,r1,e1,e2,aZ];exact⟨k+1,by simpa using hn,by omega,by omega⟩
     ·simp[w2,hlt,r1,e1,aZ];exact⟨k+1,by simpa using hn,by omega,by omega⟩
   ·rw[List.take_of_length_le (by omega)]at ht;simp[hlt,Tw ht]
 ·cases h
def Ii (l:List Pn) (w:Pn):Bool:=l.any (kI w)
def Eu (l:List Pn) (w:Pn):Nat:=if Ii l w=true then l.findIdx (kI w) else l.findIdx (nX w)
def M1 (l:List Pn) (w:Pn):Nat:=if Ii l w=true then 1 else 0
def Ax (l:List Pn) (w:Pn):(dY l w).1=l.take (Eu l w)++w::l.drop (Eu l w+M1 l w):=by unfold Eu M1;cases ha:Ii l w with|true=>obtain⟨hi,hn⟩:=Cz ha;rw[hn,if_pos rfl,if_pos rfl];exact List.set_eq_take_append_cons_drop.trans (if_pos hi)|false=>rw[zq ha,if_neg (by simp),if_neg (by simp)];rfl
def at_le (l:List Pn) (w:Pn):Eu l w<=l.length:=by unfold Eu;split<;>exact q299
end Go.Proofs.YtifcndkhigakfaaGreat.Ab
namespace Go.Proofs.YtifcndkhigakfaaGreat.Ab
open Go Go.RowKit Go.Shelf
attribute[local go_sem] Oper.semAt_some
set_option maxHeartbeats 1000000 in def EP (F:Fence) (n:Nat) (hF:F.fn 66) (hro:F.round=none) (hn:1<=n) (l Bn n₀:Nat) (A:Option Addr) (k c:Nat) (hk:k<=65535) (J Jx:List Unit->World->Prop) (hY:∀pre x W,J pre W->pre.length<1->YieldAt F (n-1) Tryz.prog l #[.slice A k c] W fun e W'=>(e=.returned (.bool true)/\J (pre++[x]) W'/\Below n₀ W W')\/(e=.returned (.bool false)/\Jx (pre++[x]) W')) (W:World) (hBn:W.cell? ⟨Bn,0,none⟩=some (.slice A k c)) (h0:J [] W):CallsIn F n Tryz.prog 66 #[.func (.yield l) #[] #[],.pointer (some ⟨Bn,0,none⟩)] W fun e W'=>(∃v,e=.returned v)/\((∃ys,ys=[()]/\J ys W')\/(∃pre,pre<+:[()]/\Jx pre W')):=by
 refine callsIn_of_wp Tryz.func66 rfl hF ?_ hro;simp only[Tryz.ntmps66,q107,q70,q91,Nat.reduceAdd,Nat.reduceSub,q225,q226,q241,q231,q153,q137];gi_wp2;gi_loopw[] (fun wr=>wr=W) (fun wr=>0);case atStart=>rfl
 case round=>
  subst hrel;have hk2:¬(65535:Int)<(k:Int):=by omega
  obtain⟨fn,tmps,assign,body,hy,hR⟩:=hY [] () wr h0 (by simp);gi_wp2;refine hR.mono ?_;rintro e W3 (⟨rfl,hJ3,hk3⟩|⟨rfl,hJx3⟩);·gi_wp2;go_end0;exact⟨⟨_,rfl⟩,.inl ⟨_,rfl,hJ3⟩⟩
  ·gi_wp2;go_end0;exact⟨⟨_,rfl⟩,.inr ⟨_,List.prefix_refl _,hJx3⟩⟩
set_option maxHeartbeats 1000000 in def Hc (F:Fence) (n:Nat) (hF:F.fn 34) (hro:F.round=none) (V:Value) (w:World) (hV:V.oneCell'=true):CallsIn F n Tryz.prog 34 #[V] w fun e w'=>e=.returned (.func (.func 66) #[] #[.pointer (some ⟨w.heap.size,0,none⟩)])/\w'=w.alloc (.cells #[V] 37):=by refine callsIn_of_wp Tryz.func34 rfl hF ?_ hro;simp only[Tryz.ntmps34,List.size_toArray,List.length_cons,List.length_nil,Nat.reduceAdd,Nat.reduceSub,Array.replicate_succ,Array.replicate_zero,List.push_toArray,List.append_toArray,List.nil_append,List.cons_append];gi_wp2;go_ret;exact⟨rfl,rfl⟩
def A9 (F:Fence) (n:Nat) (hF:F.fn 66) (hro:F.round=none) (hn:1<=n) (Bn n₀:Nat) (A:Option Addr) (k c:Nat) (hk:k<=65535) (w:World) (hBn:Bn<w.heap.size) (hn₀:n₀<=w.heap.size) (hc:w.cell? ⟨Bn,0,none⟩=some (.slice A k c)):SeqStopsK F n Tryz.prog 66 #[.pointer (some ⟨Bn,0,none⟩)] (fun _:Unit=>#[.slice A k c]) (Below n₀) (fun ys=>ys=[()]) (fun pre=>pre<+:[()]) 1 w:=fun l J Jx W hW _ _ hY h0=>EP F n hF hro hn l Bn n₀ A k c hk J Jx hY W ((hW.cell (p:=⟨Bn,0,none⟩) hBn).trans hc) h0
attribute[local go_sem] Oper.semAt_some
def dW (l:List UInt8):List Value:=l.map fun c=>.int .u8 (c.toNat:Int)
def JX:(Tryz.prog.info? 97).map (fun i=>(i.zero,i.size,i.bytes))=some (some (.agg #[.int .u8 0,.slice none 0 0]),2,32):=by kernel_rfl
def Ay:(Tryz.prog.info? 5).map (fun i=>(i.zero,i.size,i.bytes))=some (some (.int .u8 0),1,1):=by kernel_rfl
def uR {W:World}{b:Nat}{ty:TypeId}{v0 v1 v2 v3 v4 v5 v6 v7 v8 v9 v10 v11:Value} (h:W.heap[b]?=some (.cells #[v0,v1,v2,v3,v4,v5,v6,v7,v8,v9,v10,v11] ty (0,0))):W.cell? ⟨b,0,none⟩=some v0/\W.cell? ⟨b,1,none⟩=some v1/\W.cell? ⟨b,2,none⟩=some v2/\W.cell? ⟨b,3,none⟩=some v3/\W.cell? ⟨b,4,none⟩=some v4/\W.cell? ⟨b,5,none⟩=some v5/\W.cell? ⟨b,6,none⟩=some v6/\W.cell? ⟨b,7,none⟩=some v7/\W.cell? ⟨b,8,none⟩=some v8/\W.cell? ⟨b,9,none⟩=some v9/\W.cell? ⟨b,10,none⟩=some v10/\W.cell? ⟨b,11,none⟩=some v11:=by simp[World.cell?,h]
def CB {β:Type} (n₀:Nat) (e:TypeId) (size:Nat) (V:Value) (k:Nat) (cs:List Value):Own (fun(_:β) W=>W.ownsRow n₀ e size V k cs):=by
 rintro s X Y row hr hg hrow;refine hr.kept hg ?_;rcases hr.2 with⟨rfl,_⟩|⟨g,cap,cur,rfl,_,hgb,_⟩;·exact .inl rfl
 ·refine .inr fun e'=>?_;obtain⟨o,ho,hc⟩:=hrow g (by simpa[Value.ownBlock]using e'.symm);rw[hgb]at ho;cases ho;cases hc
def cell_two_new (w:World) (x y:Value) (t:TypeId):∀j u,[x,y][j]?=some u->(w.alloc (.cells #[x,y] t)).cell? ((⟨w.heap.size,0,none⟩:Addr).add j)=some u:=by
 have h:(w.alloc (.cells #[x,y] t)).heap[w.heap.size]?=some (.cells #[x,y] t (0,0)):=q227 w _;have hcl:∀i,(w.alloc (.cells #[x,y] t)).cell? ⟨w.heap.size,i,none⟩=#[x,y][i]?:=fun i=>by unfold World.cell?;rw[h];rfl
 intro j u hj;rw[q100,hcl];simpa using hj
def HR {W W':World}{b b':Nat}{e e':TypeId}{s s':Nat}{V V':Value}{k k':Nat}{xs ys:List Value} (h:W.ownsRow b e s V k xs) (h':W.ownsRow b' e' s' V' k' ys) (hne:e≠e') (hg:W.grownBy W' V'.ownBlock):W'.ownsRow b e s V k xs:=by
 refine h.kept hg ?_;rcases h.2 with⟨hv,h0⟩|⟨g,cap,cur,rfl,_,hgb,_⟩;·exact .inl (by rw[hv];rfl)
 ·refine .inr ?_;rcases h'.2 with⟨rfl,_⟩|⟨g',cap',cur',rfl,_,hg',_⟩;·simp[Value.ownBlock]
  ·intro he;have:g=g':=by simpa[Value.ownBlock]using he
   subst this;rw[hgb]at hg';cases hg';exact hne rfl
def HH {W:World}{B:Nat}{t:TypeId}{u:Value} (hb:Boxed W B t u) {b:Nat}{e:TypeId}{s:Nat}{V:Value}{k:Nat}{xs:List Value} (h:W.ownsRow b e s V k xs) (hne:t≠e) (v':Value):(W.setCell ⟨B,0,none⟩ v').ownsRow b e s V k xs:=h.kept (grownBy_setCell' W B v') (.inr (hb.not_row hne h).symm)
def rJ {W:World}{b:Nat}{e:TypeId}{s:Nat}{V:Value}{k:Nat}{xs:List Value} (h:W.ownsRow b e s V k xs):W.ownsRow 0 e s V k xs:=by
 refine⟨h.1,?_⟩;rcases h.2 with h|⟨g,cap,cur,h1,h2,h3⟩;·exact .inl h
 ·exact .inr ⟨g,cap,cur,h1,q95 _,h3⟩
end Go.Proofs.YtifcndkhigakfaaGreat.Ab
namespace Go.Proofs.YtifcndkhigakfaaGreat.Ab
open Go Go.RowKit
def uU {P:Program}{S:Nat->Prop}{w:World}{β:Nat->Value}{D:Nat->Prop}{t n0:Nat}{L:List UInt8}{e:TypeId} (hsz:∀inf,P.info? e=some inf->inf.size=1) (h:bE P S w β D t (.arr e (bytesRow L))) (hb:∀b,cI (β t)=some b->n0<=b):w.ownsRow n0 e 1 (β t) L.length (dW L):=by
 obtain⟨inf,us,hi,hown,_,hus⟩:=h;have h1:=hsz inf hi;rw[h1]at hown;have hlen:(bytesRow L).length=L.length:=by simp[bytesRow]
 rw[hlen]at hown;have hu:us=dW L:=by
  apply q213;intro j;rcases q141 j L.length with hj|hj
  ·have hr:(bytesRow L)[j]?=some [.int .u8 (L[j].toNat:Int)]:=by simp[bytesRow,hj]
   obtain⟨u,hu,_,hv⟩:=hus j 0 _ _ hr rfl;rw[h1,q206,q167]at hu;rw[hu,hv.aG];simp[dW,hj]
  ·have h1:=hown.1;rw[q134 (by omega),q134 (by simp[dW];omega)]
 subst hu;refine⟨hown.1,?_⟩;rcases hown.2 with h|⟨g,cap,cur,hv,_,h3⟩;·exact .inl h
 ·exact .inr ⟨g,cap,cur,hv,hb g (by rw[hv];rfl),h3⟩
def Bi {P:Program}{w:World}{V:Value}{L:List UInt8}{n0:Nat}{e:TypeId}{S:Nat->Prop} (h:w.ownsRow n0 e 1 V L.length (dW L)) (hS:∀b,n0<=b->b<w.heap.size->S b):dA S w V (.ro (bytesRow L)):=by
 have hlen:(bytesRow L).length=L.length:=by simp[bytesRow]
 rcases h.2 with⟨rfl,h0⟩|⟨g,cap,cur,rfl,hb,hg,hnc,hcm,hcs,htk⟩;·have:L=[]:=q76 h0;subst this;exact .zk none 0
 ·have hgl:g<w.heap.size:=(q67.1 hg).1;have hcell:∀j,j<L.length->w.cell? ⟨g,j,none⟩=(dW L)[j]?:=fun j hj=>by rw[<-htk,q81,if_pos (by omega)];unfold World.cell?;rw[hg];simp
  rw[<-hlen]at hnc |-;refine .ro ⟨g,0,none⟩ cap (bytesRow L) 1 (fun i _=>.int .u8 ((L.getD i 0).toNat:Int)) (hS g hb hgl) hnc (fun r hr=>?_) (fun i j hi hj=>?_) (fun i j r p hr hp=>rfl) (fun i j r p hr hp=>?_);·simp only[bytesRow,q83]at hr;obtain⟨c,_,rfl⟩:=hr;rfl
  ·rw[hlen]at hi;obtain rfl:j=0:=by omega
   rw[q100];simp only[q126,q206,q167];rw[hcell i hi];simp[dW,hi]
  ·have hi:i<L.length:=by have:=(q63.1 hr).1;omega
   simp only[bytesRow,q79,q62 hi,q121,qr]at hr;subst hr;match j,hp with|0,hp=>simp only[q72,qr]at hp;subst hp;simp only[q80,q62 hi,q101];exact .int _ _|j+1,hp=>simp at hp
def kc {P:Program}{f:FuncId}{ys:List AV}{r:AV} (h:yA P f [] ys [] r) {W:World}{S:Nat->Prop}{vals:List Value} (hl:vals.length=ys.length) (hS:∀b,S b->b<W.heap.size) (hv:∀(i:Nat) (v:Value) (x:AV),vals[i]?=some v->ys[i]?=some x->RV P S W (fun _=>.nilIface) (fun _=>False) v x):Calls P f vals.toArray W fun e w'=>∃v β',e=.returned v/\Below W.heap.size W w'/\Heap P (bn S W.heap.size β' (bF (ab []) fun t=>dO (cellAt r t)) w') w' β' (bF (ab []) fun t=>dO (cellAt r t))/\(∀t b,aE (bF (ab []) fun t=>dO (cellAt r t)) t->cI (β' t)=some b->W.heap.size<=b)/\RV P (bn S W.heap.size β' (bF (ab []) fun t=>dO (cellAt r t)) w') w' β' (aE (bF (ab []) fun t=>dO (cellAt r t))) v (dn LD r):=by
 have h2:=h W S (fun _=>.nilIface) vals hS (fun t b ⟨o,ho⟩=>by simp[ab]at ho) ⟨fun t o ho=>by simp[ab]at ho,fun t t' b ⟨o,ho⟩=>by simp[ab]at ho⟩ hl fun i v x hi hx=>(hv i v x hi hx).mono (fun b hb=>⟨⟨.inl hb,hS b hb,fun⟨t,o,ho,_⟩=>by simp[ab]at ho⟩,rfl⟩) (fun t ht=>ht.elim);refine h2.mono ?_;rintro e w' ⟨v,β',rfl,hf,hh,hb,hr⟩;refine⟨v,β',rfl,⟨hf.os,hf.tape,hf.output,hf.size,fun k hk=>hf.block k hk fun⟨t,o,ho,_⟩=>by simp[ab]at ho⟩,hh,fun t b hd hbk=>?_,hr⟩;rcases hb t b hd hbk with h|⟨t',o,ho,_⟩;·exact h
 ·simp[ab]at ho
def Bz:∀inf,Tryz.prog.info? 5=some inf->inf.size=1:=by intro inf hi;obtain⟨iu,hiu,_,hu1,_⟩:=info_parts Ay;rw[hiu]at hi;cases hi;exact hu1
def lP (p q:PV) (t:Nat):bF (ab []) (fun t=>dO (cellAt (.aN [.pv p,.pv q]) t)) t=none:=by
 show dO (cellAt (.aN [.pv p,.pv q]) t)=none;simp only[cellAt];rcases(show t%1000=0\/t%1000=1\/2<=t%1000 by omega) with h|h|h;·rw[h];simp only[q72,q131,bS];split<;>rfl
 ·rw[h];simp only[q177,q72,q131,bS];split<;>rfl
 ·rw[q134 (by simpa using h)];rfl
end Go.Proofs.YtifcndkhigakfaaGreat.Ab
namespace Go.Proofs.YtifcndkhigakfaaGreat.Ab
open Go Go.RowKit R
def S1 (n:Nat):Nat:=n/2^^^(if n%2=1 then 2197175160 else 0)
def S8 (n:Nat):Nat:=S1 (S1 (S1 (S1 (S1 (S1 (S1 (S1 n)))))))
def IN:Nat->Nat->Nat|0,n=>n|k+1,n=>S1 (IN k n)
def Oy (n:Nat):IN 8 n=S8 n:=rfl
def KM (a b:Nat):(a^^^b)/2=a/2^^^b/2:=by apply Nat.eq_of_testBit_eq;intro i;simp[Nat.testBit_div_two,Nat.testBit_xor]
def JG (a b:Nat):(a^^^b)%2=(a%2+b%2)%2:=by rcases q144 a with ha|ha<;>rcases q144 b with hb|hb<;>(have h:=Nat.testBit_xor (x:=a) (y:=b) (i:=0);simp only[Nat.testBit_zero,ha,hb]at h;rcases q144 (a^^^b) with hc|hc<;>simp_all)
def JI (a b:Nat):S1 (a^^^b)=S1 a^^^S1 b:=by
 unfold S1;rw[KM,JG];rcases q144 a with ha|ha<;>rcases q144 b with hb|hb<;>simp only[ha,hb];·simp
 ·simp[q228]
 ·simp only[Nat.reduceAdd,Nat.reduceMod,if_true,if_false,q296,q288];rw[q228,q228,Nat.xor_comm 2197175160]
 ·simp only[Nat.reduceAdd,Nat.reduceMod,if_true,if_false,q296,q288];rw[q228,Nat.xor_comm 2197175160,q228,Nat.xor_self,q288]
def Jm (a b:Nat):S8 (a^^^b)=S8 a^^^S8 b:=by unfold S8;simp only[JI]
def RI (m:Nat):S1 (2*m)=m:=by unfold S1;simp
def Uq (m:Nat):S8 (256*m)=m:=by
 have:256*m=2*(2*(2*(2*(2*(2*(2*(2*m))))))):=by omega
 unfold S8;rw[this];simp only[RI]
def pJ {n:Nat} (h:n<4294967296):S1 n<4294967296:=by unfold S1;apply Nat.xor_lt_two_pow (n:=32) (by omega);split<;>decide
def QF {n:Nat} (h:n<4294967296):S8 n<4294967296:=by unfold S8;exact pJ (pJ (pJ (pJ (pJ (pJ (pJ (pJ h)))))))
def Kn {n:Nat} (h:n<4294967296):∀k,IN k n<4294967296|0=>h|k+1=>pJ (Kn h k)
def Sx (n:Nat):n=(n%256)^^^(256*(n/256)):=by
 apply Nat.eq_of_testBit_eq;intro i;rw[Nat.testBit_xor,show(256:Nat)=2^8 from rfl,Nat.testBit_mod_two_pow,Nat.testBit_two_pow_mul,Nat.testBit_div_two_pow];by_cases h:i<8;·simp[h,show¬8<=i from by omega]
 ·simp[h,show 8<=i from by omega,show i-8+8=i from by omega]
def Fc (a b:Nat):(a^^^b)%256=a%256^^^b%256:=by rw[show(256:Nat)=2^8 from rfl,Nat.xor_mod_two_pow]
def Fl (a b:Nat):(a^^^b)/256=a/256^^^b/256:=by rw[show(256:Nat)=2^8 from rfl,Nat.xor_div_two_pow]
def Pm (c x:Nat):Nat:=S8 (c%256^^^x)^^^c/256
def Lk {c x:Nat} (h:x<256):Pm c x=S8 (c^^^x):=by have e:=Sx (c^^^x);rw[e,Jm,Uq,Fc,Fl,q109 h,Nat.div_eq_of_lt h,q288];rfl
def Ro {c x:Nat} (hc:c<4294967296) (h:x<256):Pm c x<4294967296:=by rw[Lk h];exact QF (Nat.xor_lt_two_pow (n:=32) (by omega) (by omega))
def GX (c x:Nat):Nat->Nat|0=>c|k+1=>S1 (GX c x k^^^(x/2^k)%2)
def Kj {c x:Nat} (hc:c<4294967296):∀k,GX c x k<4294967296|0=>hc|k+1=>pJ (Nat.xor_lt_two_pow (n:=32) (Kj hc k) (by omega))
def Ga (c x:Nat):∀k,GX c x k=IN k c^^^GX 0 x k|0=>by simp[GX,IN]|k+1=>by simp only[GX,IN];rw[Ga c x k,q228,JI]
def Lw:∀x,x<256->GX 0 x 8=S8 x:=by decide
def R8 {c x:Nat} (h:x<256):GX c x 8=Pm c x:=by rw[Ga,Oy,Lw x h,<-Jm,Lk h]
def mc (c:Nat) (l:List UInt8):Nat:=l.foldl (fun c x=>Pm c x.toNat) c
def zH (c:Nat) (l:List UInt8) (x:UInt8):mc c (l++[x])=Pm (mc c l) x.toNat:=by simp[mc]
def qI {c:Nat} (h:c<4294967296):∀l:List UInt8,mc c l<4294967296:=by intro l;induction l generalizing c with|nil=>exact h|cons x l ih=>exact ih (Ro h (by have:=x.toNat_lt;omega))
def yz (c:Nat) (l:List UInt8):Nat:=mc (c^^^4294967295) l^^^4294967295
def NI {c:Nat} (h:c<4294967296) (l:List UInt8):yz c l<4294967296:=Nat.xor_lt_two_pow (n:=32) (qI (Nat.xor_lt_two_pow (n:=32) h (by omega)) l) (by omega)
def j8 (l:List UInt8):Nat:=yz 0 l
def wrap_u32 {n:Int} (h:0<=n) (h':n<4294967296):IntKind.u32.wrap n=n:=by simp only[IntKind.wrap,IntKind.bits,IntKind.signed];simp;omega
def jy (w a:Nat) (h:a<2^w):(BitVec.ofInt w (a:Int)).toNat=a:=by rw[q176,q181,q109 h]
def kh {a b:Nat} (ha:a<4294967296) (hb:b<4294967296):fE .xor .u32 (a:Int) (b:Int)=.int .u32 ((a^^^b:Nat):Int):=by
 have hx:a^^^b<4294967296:=Nat.xor_lt_two_pow (n:=32) ha hb;have h4:(BitVec.ofInt IntKind.u32.bits (a:Int)^^^BitVec.ofInt IntKind.u32.bits (b:Int)).toNat=a^^^b:=by show(BitVec.ofInt 32 (a:Int)^^^BitVec.ofInt 32 (b:Int)).toNat=_;rw[q286,jy 32 a ha,jy 32 b hb]
 unfold fE;simp only[h4];exact congrArg _ (wrap_u32 (by omega) (by omega))
def AF {a b:Nat} (ha:a<4294967296) (hb:b<4294967296):fE .and .u32 (a:Int) (b:Int)=.int .u32 ((a&&&b:Nat):Int):=by
 have hx:a&&&b<4294967296:=q264 Nat.and_le_left ha;have h4:(BitVec.ofInt IntKind.u32.bits (a:Int)&&&BitVec.ofInt IntKind.u32.bits (b:Int)).toNat=a&&&b:=by show(BitVec.ofInt 32 (a:Int)&&&BitVec.ofInt 32 (b:Int)).toNat=_;rw[BitVec.toNat_and,jy 32 a ha,jy 32 b hb]
 unfold fE;simp only[h4];exact congrArg _ (wrap_u32 (by omega) (by omega))
def Uc {a b:Nat} (ha:a<256) (hb:b<256):fE .xor .u8 (a:Int) (b:Int)=.int .u8 ((a^^^b:Nat):Int):=by
 have hx:a^^^b<256:=Nat.xor_lt_two_pow (n:=8) ha hb;have h4:(BitVec.ofInt IntKind.u8.bits (a:Int)^^^BitVec.ofInt IntKind.u8.bits (b:Int)).toNat=a^^^b:=by show(BitVec.ofInt 8 (a:Int)^^^BitVec.ofInt 8 (b:Int)).toNat=_;rw[q286,jy 8 a ha,jy 8 b hb]
 unfold fE;simp only[h4];exact congrArg _ ((wrap_u8 _).trans (by omega))
def dQ (l:List Int):List AV:=l.map fun n=>.pv (.int .u32 n)
def Bq (l:List Int):List PV:=l.map fun n=>.int .u32 n
@[simp] def K5 (l:List Int):(dQ l).length=l.length:=by simp[dQ]
@[simp] def u32A_set (l:List Int) (i:Nat) (n:Int):(dQ l).set i (.pv (.int .u32 n))=dQ (l.set i n):=by simp[dQ,q219]
@[simp] def Uw (l:List Int) (n:Nat):(dQ l).take n=dQ (l.take n):=by simp[dQ,q161]
@[simp] def Xl (l:List Int) (n:Nat):(dQ l).drop n=dQ (l.drop n):=by simp[dQ,q189]
@[simp] def HV:∀l:List Int,gP (dQ l)=true|[]=>rfl|n::l=>by have:=HV l;unfold dQ at this |-;simp only[q74,gP,fk,q265];exact this
def tI {l m:List Int} (h:l.length<=m.length):cd (dQ l) 0 (dQ m)=dQ m:=by simp[cd,q212,K5,h]
@[simp] def Ft:∀l:List Int,mZ (dQ l)=true|[]=>rfl|n::l=>by have:=Ft l;unfold dQ at this |-;simp only[q74,mZ,j5,q265];exact this
@[simp] def Hu (d:Nat):∀(l:List Int) (j:Nat),gQ (mX d) j (dQ l)=dQ l|[],_=>rfl|n::l,j=>by have:=Hu d l (j+1);unfold dQ at this |-;simp only[q74,gQ,this];rfl
@[simp] def JU:∀(l:List Int) (j:Nat),gR j (dQ l)=[]|[],_=>rfl|n::l,j=>JU l (j+1)
@[simp] def F2 (P:Program) (aa:Nat->Option AO):∀l:List Int,Bc P aa (dQ l) (dQ l)|[]=>trivial|n::l=>⟨⟨rfl,rfl⟩,F2 P aa l⟩
@[simp] def Jk:∀l m:List Int,wW (dQ l) (dQ m)=[]|[],[]=>rfl|[],_::_=>rfl|_::_,[]=>rfl|n::l,k::m=>Jk l m
@[simp] def MS:∀(l:List Int) (j:Nat),sG j (dQ l)=[]|[],_=>rfl|n::l,j=>MS l (j+1)
@[simp] def K3 (aa:Nat->Option AO):∀l:List Int,ja aa (dQ l)=some (Bq l)|[]=>rfl|n::l=>by have:=K3 aa l;unfold dQ at this |-;simp only[q74,ja,eU,this];rfl
@[simp] def G1 (os:List (Nat×AO)):∀l:List Int,iq os (dQ l)|[]=>trivial|n::l=>⟨trivial,G1 os l⟩
def zc:Value:=.int .u32 0
def J0 (n:Nat):(List.replicate n (Value.int .u32 0)).all (·.oneCell')=true:=by rw[q85];intro v hv;rw[q200 hv];rfl
def Lv (n:Nat):(List.replicate n (Value.int .u32 0)).map cv=dQ (List.replicate n 0):=by simp only[List.map_replicate,dQ];rfl
def pY (i:Nat):List Int:=(List.range 256).map fun j=>if j<i then((S8 j:Nat):Int) else 0
@[simp] def K4 (i:Nat):(pY i).length=256:=by simp[pY]
def tc:pY 0=List.replicate 256 0:=by
 apply q224;·simp
 ·intro k h1 h2;rw[List.getElem_replicate];simp[pY]
def KT {i:Nat} (h:i<256):(pY i).set i ((S8 i:Nat):Int)=pY (i+1):=by
 apply q224;·simp
 ·intro k h1 h2;rw[q287];simp only[pY,List.getElem_map,List.getElem_range];by_cases hk:i=k;·subst hk;simp
  ·rw[if_neg hk];by_cases hl:k<i;·simp[hl,show k<i+1 from by omega]
   ·simp[hl,show¬k<i+1 from by omega]
def tab:List Int:=pY 256
def MO:tab.length=256:=K4 256
def Uh {j:Nat} (h:j<256):(Bq tab).drop j=.int .u32 ((S8 j:Nat):Int)::Bq (tab.drop (j+1)):=by
 have hl:j<(Bq tab).length:=by simp[Bq,tab];exact h
 rw[q93 hl];congr 1;·simp[Bq,tab,pY,h]
 ·simp[Bq,q189]
def Rv:List AV->Option (Prop×AV)|[]=>some (True,.agg (dQ tab))|_=>none
@[simp] def GTab_eq:Rv []=some (True,.agg (dQ tab)):=rfl
def Nr (n:Nat) (h:n<4294967296):fE .and .u32 (n:Int) 1=.int .u32 ((n%2:Nat):Int):=by have:=AF (a:=n) (b:=1) h (by omega);rw[Nat.and_one_is_mod]at this;exact this
def mB (n:Nat):Nat:=if n%2=1 then 4294967295 else 0
def pB (n:Nat):Nat:=if n%2=1 then 2197175160 else 0
def NC (n:Nat):IntKind.u32.wrap (-((n:Int)%2))=((mB n:Nat):Int):=by
 unfold mB;have e:((n:Int)%2)=((n%2:Nat):Int):=by omega
 rw[e];rcases q144 n with h|h<;>rw[h]<;>decide
def J6 (n:Nat):fE .and .u32 2197175160 ((mB n:Nat):Int)=.int .u32 ((pB n:Nat):Int):=by
 unfold mB pB;rcases q144 n with h|h<;>rw[h];·exact AF (a:=2197175160) (b:=0) (by omega) (by omega)
 ·exact(AF (a:=2197175160) (b:=4294967295) (by omega) (by omega)).trans (congrArg _ (by decide))
def SJ (n:Nat):(n:Int).fdiv (2^min 1 IntKind.u32.bits)=(n:Int)/2:=by show(n:Int).fdiv 2=_;exact q143 _ (by omega)
def I1 (n:Nat):(n:Int).fdiv (2^min 8 IntKind.u32.bits)=(n:Int)/256:=by show(n:Int).fdiv 256=_;exact q143 _ (by omega)
def Tr (n:Nat) {k:Nat} (hk:k<=8):(n:Int).fdiv (2^min k IntKind.u8.bits)=((n/2^k:Nat):Int):=by have hp:(0:Int)<=2^k:=Int.le_of_lt (Int.pow_pos (by omega));rw[show min k IntKind.u8.bits=k from q103 hk,q143 _ hp];simp
def aaK:aL Tryz.prog 224 Rv:=by
 intro ys φ r h hφ;unfold Rv at h;split at h
 ·cases h;refine aq ah (by kernel_rfl) (by conv=>lhs;reduce) (by simp) ?_;have hz1:=J0 256;have hz2:=Lv 256;generalize List.replicate 256 (Value.int .u32 0)=R at hz1 hz2;rw[<-tc]at hz2;simp[hz1,hz2];refine au (fun i:Nat=>i<=256) (fun i=>⟨[(0,.ptr 0 0),(1,.ptr 1 0),(4,.pv (.int .i64 i))],[(0,.box (dQ (pY 0))),(1,.box (dQ (pY i)))]⟩) (fun i=>256-i) [] 0 (by simp) ?_ ?_;·simp;rw[tc];rfl
  ·rintro i hi;have w2:IntKind.i64.wrap ((i:Int)+1)=(i:Int)+1:=wrap_i64 (by omega);by_cases hlt:i<256
   ·have hlt':(i:Int)<256:=by omega
    have w3:IntKind.u32.wrap (i:Int)=(i:Int):=wrap_u32 (by omega) (by omega);simp[w2,w3,hlt,hlt'];refine au (fun k:Nat=>k<=8) (fun k=>⟨[(0,.ptr 0 0),(1,.ptr 1 0),(2,.pv (.int .i64 i)),(3,.pv (.int .u32 ((IN k i:Nat):Int))),(4,.pv (.int .i64 i)),(9,.pv (.int .i64 k))],[(0,.box (dQ (pY 0))),(1,.box (dQ (pY i)))]⟩) (fun k=>8-k) [] 0 (by simp) ?_ ?_;·simp[IN]
    ·rintro k hk;have w4:IntKind.i64.wrap ((k:Int)+1)=(k:Int)+1:=wrap_i64 (by omega);by_cases hkl:k<8
     ·have hkl':(k:Int)<8:=by omega
      have hs:IN k i<4294967296:=Kn (by omega) k;generalize hc:IN k i=c at hs;have f1:=Nr c hs;have f2:=NC c;have f3:=J6 c;have f5:=SJ c;have f4:fE .xor .u32 ((c:Int)/2) ((pB c:Nat):Int)=.int .u32 ((S1 c:Nat):Int):=kh (a:=c/2) (b:=pB c) (by omega) (by unfold pB;split<;>omega);simp[w4,hkl',f1,f2,f3,f4,f5];exact⟨k+1,by omega,⟨by simp only[IN,hc],by omega⟩,by omega⟩
     ·have hk8:k=8:=by omega
      subst hk8;have hS:IN 8 i=S8 i:=Oy i;simp[w2,hlt',hS,KT hlt];rw[if_pos hlt];exact⟨trivial,i+1,by omega,⟨by omega,⟨fun h=>absurd h q296,rfl⟩⟩,by omega⟩
   ·have hi6:i=256:=by omega
    subst hi6;simp[tI];have ht:(pY 256).take 256=tab:=List.take_of_length_le (by simp);rw[ht];exact F2 _ _ _
 ·cases h
@[simp] def aaG:List AV->Option (Prop×AV)|[.rp ps,.pv (.int .u32 c),.pv (.ro b)]=>(bytesOf b).map fun l=>(ps=Bq tab/\0<=c/\c<4294967296/\l.length<=1000000000,.pv (.int .u32 ((yz c.toNat l:Nat):Int)))|_=>none
def iM:∀{rows:List (List PV)}{l:List UInt8},bytesOf rows=some l->rows=bytesRow l
 |[],l,h=>by simp[bytesOf]at h;subst h;rfl|r::rows,l,h=>by
  simp only[bytesOf,qB,q900]at h;obtain⟨c,hc,m,hm,rfl⟩:=h;have ih:=iM hm;unfold byteOf at hc;split at hc
  ·rename_i n;split at hc
   ·rename_i hn;simp only[qr]at hc;subst hc;have e:((UInt8.ofNat n.toNat).toNat:Int)=n:=by rw[UInt8.toNat_ofNat'];omega
    rw[ih];simp only[bytesRow,q74,e]
   ·cases hc
  ·cases hc
def bytes_at {l:List UInt8}{i:Nat} (h:i<l.length):rowAt (bytesRow l) (i:Int)=[.int .u8 ((l[i].toNat:Nat):Int)]:=by simp[rowAt,bytesRow,h]
def c_upd:aL Tryz.prog 225 aaG:=by
 intro ys φ r h hφ;unfold aaG at h;split at h
 ·rename_i ps c0 rb;obtain⟨b,hb,h⟩:=q900.1 h;cases h;obtain⟨rfl,hc0,hc1,hbl⟩:=hφ;cases iM hb;obtain⟨c0,rfl⟩:∃m:Nat,c0=(m:Int):=⟨c0.toNat,by omega⟩;rw[q66];have hc2:c0<4294967296:=by omega
  refine aq ah (by kernel_rfl) (by conv=>lhs;reduce) (by simp) ?_;have x1:=kh (a:=c0) (b:=4294967295) hc2 (by omega);have x1':fE .xor .u32 (c0:Int) 4294967295=.int .u32 ((c0^^^4294967295:Nat):Int):=x1;have hq:c0^^^4294967295<4294967296:=Nat.xor_lt_two_pow (n:=32) hc2 (by omega);generalize hC:c0^^^4294967295=C at x1' hq;simp[x1'];refine au (fun i:Nat=>i<=b.length) (fun i=>⟨[(0,.rp (Bq tab)),(1,.pv (.int .u32 ((mc C (b.take i):Nat):Int))),(11,.pv (.ro (bytesRow b))),(12,.pv (.int .i64 b.length)),(13,.pv (.int .i64 i))],[]⟩) (fun i=>b.length-i) [] 0 (by simp) ?_ ?_;·simp[mc]
  ·rintro i hi;have w2:IntKind.i64.wrap ((i:Int)+1)=(i:Int)+1:=wrap_i64 (by omega);have hlt4:=qI hq (b.take i);by_cases hlt:i<b.length
   ·have hlt':(i:Int)<(b.length:Int):=by omega
    have r1:=bytes_at hlt;have hs:mc C (b.take (i+1))=Pm (mc C (b.take i)) b[i].toNat:=by rw[q64 hlt,zH]
    generalize mc C (b.take i)=c at hlt4 hs;have hx:b[i].toNat<256:=b[i].toNat_lt;generalize b[i].toNat=x at hx r1 hs;have w3:IntKind.u8.wrap (c:Int)=((c%256:Nat):Int):=(wrap_u8 _).trans (by omega);have w3':IntKind.u8.wrap (c:Int)=(c:Int)%256:=wrap_u8 _;have x2:fE .xor .u8 ((c:Int)%256) (x:Int)=.int .u8 ((c%256^^^x:Nat):Int):=Uc (a:=c%256) (b:=x) (by omega) hx;have hj:c%256^^^x<256:=Nat.xor_lt_two_pow (n:=8) (by omega) hx;have x4:fE .xor .u32 ((S8 (c%256^^^x):Nat):Int) ((c:Int)/256)=.int .u32 ((Pm c x:Nat):Int):=kh (a:=S8 (c%256^^^x)) (b:=c/256) (QF (by omega)) (by omega);generalize hJ:c%256^^^x=j at x2 hj x4;have hj':(j:Int)<256:=by omega
    have t1:=Uh hj;have f5:=I1 c;simp[w2,w3',hlt',r1,x2,hj',t1,f5,x4];exact⟨i+1,by omega,⟨by rw[hs],by omega⟩,by omega⟩
   ·have:i=b.length:=by omega
    subst this;have x3:fE .xor .u32 ((mc C b:Nat):Int) 4294967295=.int .u32 ((yz c0 b:Nat):Int):=by unfold yz;rw[hC];exact kh (a:=mc C b) (b:=4294967295) (qI hq b) (by omega)
    simp[x3,q155]
 ·cases h
def c_Stp (c:Nat) (hc:c<4294967296):yA Tryz.prog 196 [] [.pv (.int .u32 c)] [] (.pv (.int .u32 ((S1 c:Nat):Int))):=by
 refine aq ah (by kernel_rfl) (by conv=>lhs;reduce) (by simp) ?_;rcases q144 c with h|h
 ·have e:(c:Int).tmod 2=0:=by rw[q169 (by omega)];omega
  have q:(c:Int).tdiv 2=(c:Int)/2:=q152 (by omega);have q1:((S1 c:Nat):Int)=(c:Int)/2:=by unfold S1;rw[h];simp
  have w:=wrap_u32 (n:=(c:Int)/2) (by omega) (by omega);simp[e,q,q1,w]
 ·have e:(c:Int).tmod 2=1:=by rw[q169 (by omega)];omega
  have q:(c:Int).tdiv 2=(c:Int)/2:=q152 (by omega);have w:=wrap_u32 (n:=(c:Int)/2) (by omega) (by omega);have x1:fE .xor .u32 ((c:Int)/2) 2197175160=.int .u32 ((S1 c:Nat):Int):=by unfold S1;rw[h,if_pos rfl];exact kh (a:=c/2) (b:=2197175160) (by omega) (by omega)
  simp[e,q,w,x1]
@[simp] def GStp:List AV->Option (Prop×AV)|[.pv (.int .u32 c)]=>some (0<=c/\c<4294967296,.pv (.int .u32 ((S1 c.toNat:Nat):Int)))|_=>none
def SC:aL Tryz.prog 196 GStp:=by
 intro ys φ r h hφ;unfold GStp at h;split at h;·rename_i c;cases h;obtain⟨c,rfl⟩:∃m:Nat,c=(m:Int):=⟨c.toNat,by omega⟩;rw[q66];exact c_Stp c (by omega)
 ·cases h
@[simp] def Ov:List AV->Option (Prop×AV)|[.pv (.int .u32 c),.pv (.ro b)]=>(bytesOf b).map fun l=>(0<=c/\c<4294967296/\l.length<=1000000000,.pv (.int .u32 ((yz c.toNat l:Nat):Int)))|_=>none
def SW:aL Tryz.prog 150 Ov:=by
 intro ys φ r h hφ;unfold Ov at h;split at h
 ·rename_i c0 rb;obtain⟨b,hb,h⟩:=q900.1 h;cases h;obtain⟨hc0,hc1,hbl⟩:=hφ;cases iM hb;obtain⟨c0,rfl⟩:∃m:Nat,c0=(m:Int):=⟨c0.toNat,by omega⟩;rw[q66];have hc2:c0<4294967296:=by omega
  refine aq (ag SC ah) (by kernel_rfl) (by conv=>lhs;reduce) (by simp) ?_;have x1:fE .xor .u32 (c0:Int) 4294967295=.int .u32 ((c0^^^4294967295:Nat):Int):=kh (a:=c0) (b:=4294967295) hc2 (by omega);have hq:c0^^^4294967295<4294967296:=Nat.xor_lt_two_pow (n:=32) hc2 (by omega);generalize hC:c0^^^4294967295=C at x1 hq;simp[x1];refine au (fun i:Nat=>i<=b.length) (fun i=>⟨[(0,.pv (.int .u32 ((mc C (b.take i):Nat):Int))),(1,.pv (.ro (bytesRow b))),(5,.pv (.int .i64 i))],[]⟩) (fun i=>b.length-i) [] 0 (by simp) ?_ ?_;·simp[mc]
  ·rintro i hi;have w2:IntKind.i64.wrap ((i:Int)+1)=(i:Int)+1:=wrap_i64 (by omega);have hlt4:=qI hq (b.take i);by_cases hlt:i<b.length
   ·have hlt':(i:Int)<(b.length:Int):=by omega
    have r1:=bytes_at hlt;have hs:mc C (b.take (i+1))=Pm (mc C (b.take i)) b[i].toNat:=by rw[q64 hlt,zH]
    generalize mc C (b.take i)=c at hlt4 hs;have hx:b[i].toNat<256:=b[i].toNat_lt;generalize b[i].toNat=x at hx r1 hs;simp[hlt'];refine au (fun k:Nat=>k<=8) (fun k=>⟨[(0,.pv (.int .u32 ((GX c x k:Nat):Int))),(1,.pv (.ro (bytesRow b))),(5,.pv (.int .i64 i)),(6,.pv (.int .i64 k))],[]⟩) (fun k=>8-k) [] 0 (by simp) ?_ ?_;·simp[GX]
    ·rintro k hk;have w4:IntKind.i64.wrap ((k:Int)+1)=(k:Int)+1:=wrap_i64 (by omega);by_cases hkl:k<8
     ·have hkl':(k:Int)<8:=by omega
      have hd:=Kj (x:=x) hlt4 k;have he:GX c x (k+1)=S1 (GX c x k^^^(x/2^k)%2):=rfl;have hD:x/2^k<256:=q264 (Nat.div_le_self _ _) hx;have hf:=Tr x (k:=k) (by omega);generalize x/2^k=D at hf hD he;have w5:IntKind.u32.wrap (D:Int)=(D:Int):=wrap_u32 (by omega) (by omega);have w6:(D:Int).tmod 2=((D%2:Nat):Int):=by rw[q169 (by omega)];omega
      have hE:D%2<2:=by omega
      generalize D%2=E at w6 hE he;generalize GX c x k=y at hd he;have x2:=kh (a:=y) (b:=E) hd (by omega);have hz:y^^^E<4294967296:=Nat.xor_lt_two_pow (n:=32) hd (by omega);generalize y^^^E=z at x2 hz he;have hz':(z:Int)<4294967296:=by omega
      have hk0:(0:Int)<=(k:Int):=by omega
      simp[w4,hkl',hlt',r1,hf,w5,w6,x2,hz',hz,hk0];exact⟨k+1,by omega,⟨by rw[he],by omega⟩,by omega⟩
     ·have hk8:k=8:=by omega
      subst hk8;simp[w2];exact⟨i+1,by omega,⟨by rw[hs,R8 hx],by omega⟩,by omega⟩
   ·have:i=b.length:=by omega
    subst this;have x3:fE .xor .u32 ((mc C b:Nat):Int) 4294967295=.int .u32 ((yz c0 b:Nat):Int):=by unfold yz;rw[hC];exact kh (a:=mc C b) (b:=4294967295) (qI hq b) (by omega)
    simp[x3,q155]
 ·cases h
def HN:List AV->Option (Prop×AV)|[.pv (.ro [[.ro b]])]=>(bytesOf b).map fun l=>(l.length<=1000000000,.pv (.int .u32 ((j8 l:Nat):Int)))|_=>none
@[simp] def Of (b:List (List PV)):HN [.pv (.ro [[.ro b]])]=(bytesOf b).map fun l=>(l.length<=1000000000,.pv (.int .u32 ((j8 l:Nat):Int))):=rfl
def MQ (l:List UInt8):j8 l<4294967296:=NI (by omega) l
def dH:∀l:List UInt8,bytesOf (bytesRow l)=some l|[]=>rfl|c::l=>by have ih:=dH l;have h:=c.toNat_lt;simp only[bytesRow,q74]at ih |-;simp only[bytesOf,ih,byteOf];rw[if_pos (by omega)];simp
def YM:aL Tryz.prog 198 HN:=by
 intro ys φ r h hφ;unfold HN at h;split at h
 ·rename_i rb;obtain⟨b,hb,h⟩:=q900.1 h;cases h;cases iM hb;have hbb:=dH b;refine aq (ag aaK (ag c_upd ah)) (by kernel_rfl) (by conv=>lhs;reduce) (by simp) ?_;have hz1:=J0 256;have hz2:=Lv 256;generalize List.replicate 256 (Value.int .u32 0)=R at hz1 hz2;rw[<-tc]at hz2;have hsp:cd (dQ (pY 0)) 0 (dQ tab)=dQ tab:=tI (by simp[tab]);have ht:=MO;have htr:Jf (.agg (dQ tab))=false:=by rw[GK,q146];intro x hx;simp only[dQ,q83]at hx;obtain⟨n,_,rfl⟩:=hx;simp
  simp[-GK,htr,hz1,hz2,hsp,ht];refine au (fun i:Nat=>i<=1) (fun i=>⟨[(3,.ptr 3 0),(4,.pv (.int .u32 (if i=0 then 0 else((j8 b:Nat):Int)))),(8,.pv (.ro [[.ro (bytesRow b)]])),(9,.pv (.int .i64 1)),(10,.pv (.int .i64 i))],[(3,.box (dQ tab))]⟩) (fun i=>1-i) [] 0 (by simp) ?_ ?_;·simp
  ·rintro i hi;by_cases h0:i=0;·subst h0;have hr:rowAt [[PV.ro (bytesRow b)]] 0=[.ro (bytesRow b)]:=rfl;have hs:yz 0 b=j8 b:=rfl;simp[hr,hbb,hφ,hs];exact⟨1,by omega,⟨fun h=>absurd h (by omega),by decide⟩,by omega⟩
   ·have:i=1:=by omega
    subst this;simp
 ·cases h
def Ty:aL Tryz.prog 106 HN:=by
 intro ys φ r h hφ;unfold HN at h;split at h
 ·rename_i rb;obtain⟨b,hb,h⟩:=q900.1 h;cases h;cases iM hb;have hbb:=dH b;refine aq (ag SW ah) (by kernel_rfl) (by conv=>lhs;reduce) (by simp) ?_;simp;refine au (fun i:Nat=>i<=1) (fun i=>⟨[(0,.pv (.ro [[.ro (bytesRow b)]])),(3,.own 3),(4,.pv (.int .i64 i))],[(3,.arr 5 (if i=0 then[] else bytesRow b))]⟩) (fun i=>1-i) [] 0 (by simp) ?_ ?_;·simp
  ·rintro i hi;by_cases h0:i=0;·subst h0;have hr:rowAt [[PV.ro (bytesRow b)]] 0=[.ro (bytesRow b)]:=rfl;simp[hr,aF];refine⟨⟨by omega,by omega,?_⟩,1,by omega,⟨by decide,fun h=>absurd h (by omega)⟩,by omega⟩;intro q hq;simp only[bytesRow,q83]at hq;obtain⟨c,_,rfl⟩:=hq;rfl
   ·have:i=1:=by omega
    subst this;have hs:yz 0 b=j8 b:=rfl;simp[hbb,hφ,hs]
 ·cases h
@[simp] def GOf:List AV->Option (Prop×AV)|[.pv (.ro b)]=>(bytesOf b).map fun l=>(l.length<=1000000000,.agg [.pv (.int .u64 l.length),.pv (.int .u64 ((j8 l:Nat):Int))])|_=>none
def fZ (s:Nat):List UInt8:=[s.toUInt8,(s/256).toUInt8,(s/65536).toUInt8,(s/16777216).toUInt8]
def wU (k:UInt8) (b:List UInt8):List UInt8:=k::bk (b.length:Int)++b
def mO (k:UInt8) (b:List UInt8):List UInt8:=wU k b++fZ (j8 (wU k b))
def w8 (n:Nat):IntKind.u8.wrap (n:Int)=(n.toUInt8.toNat:Int):=by rw[wrap_u8];simp
def Om (b:List UInt8):∀r∈bytesRow b,r.length=1:=by intro r hr;simp only[bytesRow,q83]at hr;obtain⟨c,_,rfl⟩:=hr;rfl
def As (b:List UInt8) (h:b.length<=65535):(bk (b.length:Int)).length<=10:=by
 show(bj b.length).length<=10;by_cases h1:b.length<128;·rw[cy h1];simp
 ·rw[fW h1];by_cases h2:b.length/128<128;·rw[cy h2];simp
  ·rw[fW h2,cy (by omega)];simp
def uY (k:UInt8) (b:List UInt8) (h:b.length<=65535):(wU k b).length<=b.length+11:=by have:=As b h;simp only[wU,q65,q70];omega
@[simp] noncomputable def YC:List AV->Option (Prop×AV)|[.pv (.ro b)]=>(dec dZ b).map fun l=>(l.length<=1000000000,.fr 5 (bytesRow (fZ (j8 l))))|_=>none
def PJ:aL Tryz.prog 156 YC:=by
 intro ys φ r h hφ;unfold YC at h;split at h
 ·obtain⟨b,hb,h⟩:=q900.1 h;cases h;cases aK hb;refine aq (ag YM ah) (by kernel_rfl) (by conv=>lhs;reduce) (by simp) ?_;have hbb:=dH b;have hl:b.length<=1000000000:=hφ;generalize hs:j8 b=s;have f1:(s:Int).fdiv (2^min 8 IntKind.u32.bits)=((s/256:Nat):Int):=by rw[I1];simp
  have f2:(s:Int).fdiv (2^min 16 IntKind.u32.bits)=((s/65536:Nat):Int):=by show(s:Int).fdiv 65536=_;rw[q143 _ (by omega)];simp
  have f3:(s:Int).fdiv (2^min 24 IntKind.u32.bits)=((s/16777216:Nat):Int):=by show(s:Int).fdiv 16777216=_;rw[q143 _ (by omega)];simp
  simp[hbb,hl,hs];rw[f1,f2,f3,w8,w8,w8,w8];rfl
 ·cases h
structure Fm where
 k:UInt8
 b:List UInt8
def oU (f:Fm):List PV:=[.int .u8 (f.k.toNat:Int),.ro (bytesRow f.b)]
def bytes_inj {a b:List UInt8} (h:bytesRow a=bytesRow b):a=b:=by have h1:=dH a;rw[h,dH]at h1;cases h1;rfl
def Kf:∀a b,oU a=oU b->a=b:=by rintro⟨k,b⟩ ⟨k',b'⟩ h;simp only[oU,q112,PV.int.injEq,PV.ro.injEq,true_and,and_true]at h;have hk:k=k':=q192.1 (by omega);rw[hk,bytes_inj h.2]
def gu (l:List Fm):List (List PV):=l.map oU
@[simp] def ME (l:List Fm):(gu l).length=l.length:=by simp[gu]
def Dg {l:List Fm}{i:Nat} (h:i<l.length):rowAt (gu l) (i:Int)=[.int .u8 (l[i].k.toNat:Int),.ro (bytesRow l[i].b)]:=by simp[rowAt,gu,h,oU]
@[simp] def sy (l:List Fm):dec oU (gu l)=some l:=jl Kf l
def pH {rows:List (List PV)}{l:List Fm} (h:dec oU rows=some l):rows=gu l:=jq h
@[simp] def dec_F1 (k:UInt8) (b:List UInt8):dec oU [[.int .u8 (k.toNat:Int),.ro (bytesRow b)]]=some [⟨k,b⟩]:=sy [⟨k,b⟩]
@[simp] noncomputable def Gfr (F:UInt8->List UInt8->List UInt8):List AV->Option (Prop×AV)|[.agg [.pv k,.pv b]]=>(dec oU [[k,b]]).map fun l=>(((l.map Fm.b).getD 0 []).length<=65535,.fr 5 (bytesRow (l.flatMap fun f=>F f.k f.b)))|_=>none
def lf {k b:PV}{l:List Fm} (h:dec oU [[k,b]]=some l):∃f:Fm,l=[f]/\k=.int .u8 (f.k.toNat:Int)/\b=.ro (bytesRow f.b):=by have h2:=pH h;match l,h2 with|[f],h2=>simp only[gu,q74,q119,q112,and_true,oU]at h2;exact⟨f,rfl,h2.1,h2.2⟩
def c_hd3:aL Tryz.prog 155 (Gfr fun k b=>k::bk (b.length:Int)):=by
 intro ys φ r h hφ;unfold Gfr at h;split at h;·obtain⟨l,hk,h⟩:=q900.1 h;cases h;obtain⟨⟨k,b⟩,rfl,rfl,rfl⟩:=lf hk;have hl:b.length<=65535:=hφ;have hv:=As b hl;refine aq (ag zL ah) (by kernel_rfl) (by conv=>lhs;reduce) (by simp) ?_;have w:IntKind.u64.wrap (b.length:Int)=(b.length:Int):=wrap_u64 (by omega);simp[w,aF];refine⟨by omega,⟨by omega,by omega,Om _⟩,rfl⟩
 ·cases h
def Z0:aL Tryz.prog 115 (Gfr mO):=by
 intro ys φ r h hφ;unfold Gfr at h;split at h
 ·obtain⟨l,hk,h⟩:=q900.1 h;cases h;obtain⟨⟨k,b⟩,rfl,rfl,rfl⟩:=lf hk;have hl:b.length<=65535:=hφ;have hv:=As b hl;refine aq (ag c_hd3 (ag PJ ah)) (by kernel_rfl) (by conv=>lhs;reduce) (by simp) ?_;have hf:=uY k b hl;have j1:bytesRow (k::bk (b.length:Int))++bytesRow b=bytesRow (wU k b):=by simp[bytesRow,wU]
  have j2:bytesRow (wU k b)++bytesRow (fZ (j8 (wU k b)))=bytesRow (mO k b):=by simp[bytesRow,mO]
  have hl2:(wU k b).length<=1000000000:=by omega
  have h4:∀s,(fZ s).length=4:=fun s=>rfl;simp[hl,j1,j2,hl2,h4,aF];exact⟨⟨by omega,by omega,Om _⟩,by simp[fZ,bytesRow,bP,jg],by omega,by omega,Om _⟩
 ·cases h
@[simp] noncomputable def GfP:List AV->Option (Prop×AV)|[.agg [.pv k,.pv b]]=>(dec oU [[k,b]]).map fun l=>(((l.map Fm.b).getD 0 []).length<=65535,.aN [.fr 5 (bytesRow (l.flatMap fun f=>mO f.k f.b)),.pv (.int .i64 0)])|_=>none
def c_fP:aL Tryz.prog 67 GfP:=by
 intro ys φ r h hφ;unfold GfP at h;split at h
 ·obtain⟨l,hk,h⟩:=q900.1 h;cases h;obtain⟨⟨k,b⟩,rfl,rfl,rfl⟩:=lf hk;have hl:b.length<=65535:=hφ;have hl2:¬(65535:Int)<(b.length:Int):=by omega
  have hl3:(b.length:Int)<=65535:=by omega
  refine aq (ag Z0 ah) (by kernel_rfl) (by conv=>lhs;reduce) (by simp) ?_;simp[hl,hl2,hl3]
 ·cases h
def pc (l:List Fm):List UInt8:=l.flatMap fun f=>mO f.k f.b
def AB (k:UInt8) (b:List UInt8) (h:b.length<=65535):(mO k b).length<=66000:=by have:=uY k b h;show(wU k b++fZ _).length<=_;rw[q65];show _+4<=_;omega
def Cy:∀(l:List Fm),(∀f∈l,f.b.length<=65535)->(pc l).length<=l.length*66000|[],_=>by simp[pc]|f::l,h=>by have ih:=Cy l fun g hg=>h g (by simp[hg]);have h1:=AB f.k f.b (h f (by simp));simp only[pc,q99,q65,q70]at ih |-;omega
@[simp] noncomputable def GfJ:List AV->Option (Prop×AV)|[.pv (.ro a)]=>(dec oU a).map fun l=>(l.length<=1000/\(∀f∈l,f.b.length<=65535),.aN [.fr 5 (bytesRow (pc l)),.pv (.int .i64 0)])|_=>none
def c_fJ:aL Tryz.prog 35 GfJ:=by
 intro ys φ r h hφ;unfold GfJ at h;split at h
 ·obtain⟨l,hk,h⟩:=q900.1 h;cases h;cases pH hk;obtain⟨hn,hb⟩:=hφ;refine aq (ag c_fP ah) (by kernel_rfl) (by conv=>lhs;reduce) (by simp) ?_;simp;refine au (fun i:Nat=>i<=l.length) (fun i=>⟨[(0,.pv (.ro (gu l))),(2,.own 2),(3,.pv (.int .i64 0)),(4,.own 4),(9,.pv (.ro (gu l))),(10,.pv (.int .i64 l.length)),(11,.pv (.int .i64 (i:Int)))],[(2,.arr 5 []),(4,.arr 5 (bytesRow (pc (l.take i))))]⟩) (fun i=>l.length-i) [] 0 (by simp) ?_ ?_;·simp[pc,bytesRow]
  ·intro i hi;have w2:IntKind.i64.wrap ((i:Int)+1)=(i:Int)+1:=wrap_i64 (by omega);by_cases hlt:i<l.length
   ·have r1:=Dg hlt;have h1:=hb l[i] (q84 hlt);have h2:=AB l[i].k l[i].b h1;have h3:=Cy (l.take i) fun f hf=>hb f (q96 hf);have h4:(l.take i).length<=1000:=by rw[q68];omega
    have j1:bytesRow (pc (l.take i))++bytesRow (mO l[i].k l[i].b)=bytesRow (pc (l.take (i+1))):=by rw[q64 hlt];simp only[pc,List.flatMap_append,q99,q244,q130,bytesRow,q162]
    simp[w2,hlt,r1,h1,j1,aF];exact⟨⟨by omega,by omega,Om _⟩,i+1,by omega,⟨by omega,rfl⟩,by omega⟩
   ·simp[hlt];rw[List.take_of_length_le (by omega)]
 ·cases h
end Go.Proofs.YtifcndkhigakfaaGreat.Ab
