/- Chapter 16: the reference applies a record. -/
import Derived.Test.YtlicclncicbajaaGreatX13
import Derived.Test.YtlicclncicbajaaGreatChecked
import Derived.RangeFuncBox
import Derived.RangeFuncLeaves
import Derived.Shelf.Abstract
import Derived.WalkKit
import Derived.OwnWalkIn
import Derived.TacticsInMore
import Derived.LoopNIn
import Derived.LoopIn
import Derived.Maps.AppendAt
set_option linter.unusedVariables false
set_option linter.unusedSimpArgs false
set_option linter.unnecessarySimpa false
set_option maxHeartbeats 40000000
set_option maxRecDepth 100000
set_option linter.defProp false
namespace Go.Proofs.YtlicclncicbajaaGreat.Ab
open Go Go.RowKit
def q203:=@Nat.le_of_lt
def q235:=@List.findIdx_lt_length_of_exists
def q248:=@Array.replicate_succ
def q249:=@Array.replicate_zero
def q250:=@World.alloc_heap_new
def q256:=@List.append_toArray
def q259:=@Prod.mk.inj
def q268:=@List.push_toArray
end Go.Proofs.YtlicclncicbajaaGreat.Ab
namespace Go.Proofs.YtlicclncicbajaaGreat.Ab
open Go Go.RowKit R
@[simp] def Nh:List AV→Option (Prop×AV)|[]=>some (True,.pv (.int .u64 18446744073709551615))|_=>none
theorem PK:aJ Tryz.prog 124 Nh:=by
 intro ys φ r h hφ;unfold Nh at h;split at h;·cases h;refine ak ah (by kernel_rfl) (by conv=>lhs;reduce) (by simp) ?_;simp(config := { maxSteps := 3000000 })
 ·cases h
theorem Lt:aJ Tryz.prog 85 Dj:=by
 intro ys φ r h hφ;unfold Dj at h;split at h;·rename_i e p i u h' q j f;cases h;refine ak ah (by kernel_rfl) (by conv=>lhs;reduce) (by simp) ?_;cases h' with|false=>simp(config := { maxSteps := 3000000 }) [fV]|true=>
  by_cases h1:p=q
  ·by_cases h2:i=j;·by_cases h3:e=f<;>simp(config := { maxSteps := 3000000 }) [fV,h1,h2,h3]
   ·simp(config := { maxSteps := 3000000 }) [fV,h1,h2]
  ·simp(config := { maxSteps := 3000000 }) [fV,h1]
 ·cases h
theorem IX:aJ Tryz.prog 84 yW:=by
 intro ys φ r h hφ;unfold yW at h;split at h
 ·rename_i e p i u h' q j v;cases h;obtain⟨o1,o2⟩:=hφ;refine ak (ag PK ah) (by kernel_rfl) (by conv=>lhs;reduce) (by simp) ?_;by_cases h1:e=18446744073709551615;·simp(config := { maxSteps := 3000000 }) [eV,jI,dN,h1]
  ·have w1:IntKind.u64.wrap (e+1)=e+1:=wrap_u64 (by omega);simp(config := { maxSteps := 3000000 }) [eV,jI,dN,h1,w1]
 ·cases h
theorem Hs:aJ Tryz.prog 86 yK:=by
 intro ys φ r h hφ;unfold yK at h;split at h
 ·rename_i e p i u h' v;cases h;refine ak ah (by kernel_rfl) (by conv=>lhs;reduce) (by simp) ?_;by_cases h1:v<u
  ·have h2:max u v=u:=by omega
   simp(config := { maxSteps := 3000000 }) [oJ,dN,h1,h2]
  ·have h2:max u v=v:=by omega
   simp(config := { maxSteps := 3000000 }) [oJ,dN,h1,h2]
 ·cases h
theorem Rp:aJ Tryz.prog 87 JI:=by
 intro ys φ r h hφ;unfold JI at h;split at h;·cases h;refine ak ah (by kernel_rfl) (by conv=>lhs;reduce) (by simp) ?_;simp(config := { maxSteps := 3000000 }) [jU,dN]
 ·cases h
def kg (a:Ap):Dc×Bool:=if a.r.k=1 then(⟨(eV a.l a.r.p a.r.i a.r.u).1,a.ps,a.vs,a.sl⟩,decide ((eV a.l a.r.p a.r.i a.r.u).2=0)&&decide ((eV a.l a.r.p a.r.i a.r.u).1.e=a.r.e)) else if a.r.k=7 then(⟨a.l,a.ps,a.vs,true⟩,a.l.h&&decide (a.l.p=a.r.p)&&decide (a.l.i=a.r.i)) else if fV a.l a.r.p a.r.i a.r.e=false then(⟨a.l,a.ps,a.vs,a.sl⟩,false) else if a.r.k=2 then(⟨oJ a.l a.r.u,a.ps,a.vs,a.sl⟩,true) else if a.r.k=3 then(⟨jU a.l,a.ps,a.vs,a.sl⟩,true) else(⟨a.l,a.ps,(dD a.vs (lz a)).1,a.sl⟩,decide ((dD a.vs (lz a)).2=0))
@[simp] noncomputable def Mn:List AV→Option (Prop×AV)|[.agg ys,.agg zs,.pv (.int .u64 n)]=>jZ ys fun d=>fo zs fun r=>some (cy d.l.e∧d.vs.length≤100000∧(∀v∈d.vs,lg v)∧lg (lz ⟨d.l,d.ps,d.vs,d.sl,r,n,0⟩),.aO [.agg (cellsD (kg ⟨d.l,d.ps,d.vs,d.sl,r,n,0⟩).1),.pv (.bool (kg ⟨d.l,d.ps,d.vs,d.sl,r,n,0⟩).2)])|_=>none
theorem QY:aJ Tryz.prog 55 Mn:=by
 intro ys φ r h hφ;unfold Mn at h;split at h
 ·rename_i ys zs n;obtain⟨d,rfl,h1⟩:=eo h;obtain⟨r,rfl,h2⟩:=cL h1;clear h h1;cases h2;obtain⟨⟨e,p,i,u,h'⟩,ps,vs,sl⟩:=d;obtain⟨k,rp,ri,rs,re,ru,rv,rc,rz,rm,rn,rt⟩:=r;obtain⟨o1,l1,o2,o3⟩:=hφ;have o1:cy e:=o1;have l1:vs.length≤100000:=l1;have o2:(∀v∈vs,lg v)=True:=eq_true o2;have o3:lg ⟨n,rv,rp,ri,rs,rz,rm,[],false,false⟩:=o3;refine ak (ag IX (ag Lt (ag Hs (ag Rp (ag Ks ah))))) (by kernel_rfl) (by conv=>lhs;reduce) (by simp) ?_;unfold kg;apply af;·simp(config := { maxSteps := 3000000 }) [cellsD,aP];exact⟨rfl,rfl⟩
  apply af;·simp(config := { maxSteps := 3000000 });exact⟨rfl,rfl⟩
  by_cases k1:k=1;·subst k1;simp(config := { maxSteps := 3000000 }) [o1,dN,cellsD,aF,aE]
  by_cases k7:k=7;·subst k7;simp(config := { maxSteps := 3000000 }) [dN,cellsD,aF,aE]
  apply af;·simp(config := { maxSteps := 3000000 }) [k1,k7];exact⟨rfl,rfl⟩
  cases ho:fV ⟨e,p,i,u,h'⟩ rp ri re with|false=>simp(config := { maxSteps := 3000000 }) [k1,k7,ho,cellsD,aF,aE]|true=>
   apply af;·simp(config := { maxSteps := 3000000 }) [ho];exact⟨rfl,rfl⟩
   by_cases k2:k=2;·subst k2;simp(config := { maxSteps := 3000000 }) [ho,dN,cellsD,aF,aE]
   by_cases k3:k=3;·subst k3;simp(config := { maxSteps := 3000000 }) [ho,dN,cellsD,aF,aE]
   simp(config := { maxSteps := 3000000 }) [k1,k2,k3,k7,ho,l1,o2,o3,lz,cellsD,aF,aE];exact decide_eq_decide.2 Iff.rfl
 ·cases h
noncomputable def gV (a:Ap):Dc×Bool:=if a.r.k=5 then(⟨a.l,(qn a.ps ⟨a.n,a.r.v,a.r.u⟩).1,a.vs,a.sl⟩,(iw a.vs a.r.v).isSome&&decide ((qn a.ps ⟨a.n,a.r.v,a.r.u⟩).2=0)) else if a.r.k=6 then(⟨a.l,(rh a.ps a.r.v).1,a.vs,a.sl⟩,decide ((rh a.ps a.r.v).2=0)) else if a.r.k=8 then(⟨a.l,dP a.ps a.r.c a.s,eL a.vs (nG ((dP a.ps a.r.c a.s).map Pn.v)),a.sl⟩,true) else(⟨a.l,a.ps,a.vs,a.sl⟩,false)
@[simp] noncomputable def Ic:List AV→Option (Prop×AV)|[.agg ys,.agg zs,.pv (.int .u64 n),.pv (.int .u64 s)]=>jZ ys fun d=>fo zs fun r=>some (d.ps.length<50∧d.vs.length≤100000∧(∀e∈d.ps,ki e)∧(∀v∈d.vs,lg v)∧cy r.c∧cy s,.aO [.agg (cellsD (gV ⟨d.l,d.ps,d.vs,d.sl,r,n,s⟩).1),.pv (.bool (gV ⟨d.l,d.ps,d.vs,d.sl,r,n,s⟩).2)])|_=>none
theorem JD:aJ Tryz.prog 56 Ic:=by
 intro ys φ r h hφ;unfold Ic at h;split at h
 ·rename_i ys zs n s;obtain⟨d,rfl,h1⟩:=eo h;obtain⟨r,rfl,h2⟩:=cL h1;clear h h1;cases h2;obtain⟨⟨e,p,i,u,h'⟩,ps,vs,sl⟩:=d;obtain⟨k,rp,ri,rs,re,ru,rv,rc,rz,rm,rn,rt⟩:=r;obtain⟨l1,l2,o1,o2,o3,o4⟩:=hφ;have l1:ps.length<50:=l1;have l2:vs.length≤100000:=l2;have l3:ps.length≤1000000:=by omega
  have l4:vs.length≤1000000:=by omega
  have l5:ps.length≤100000:=by omega
  have o3:cy rc:=o3;have l6:(dP ps rc s).length<50:=by have:=q144 (fun e=>!fg rc s e) ps;unfold dP;omega
  have l7:(nG ((dP ps rc s).map Pn.v)).length≤1000000:=by have:=wF ((dP ps rc s).map Pn.v);rw[List.length_map]at this;omega
  have l8:(dP ps rc s).length≤1000000:=by omega
  have hU:∀l:List Int,cm l=iN l:=fun _=>rfl;have fU:∀l:List Int,bp (iN l):=uC;have o5:∀e∈ps,cy e.u:=fun e he=>(o1 e he).2.2;have o6:(∀e∈ps,cy e.u)=True:=eq_true o5;have o7:(∀v∈vs,lg v)=True:=eq_true o2;refine ak (ag Mu (ag PN (ag O0 (ag Lk (ag c_rV (ag Fu ah)))))) (by kernel_rfl) (by conv=>lhs;reduce) (by simp) ?_;unfold gV;apply af;·simp(config := { maxSteps := 3000000 }) [cellsD,aP];exact⟨rfl,rfl⟩
  apply af;·simp(config := { maxSteps := 3000000 });exact⟨rfl,rfl⟩
  by_cases k5:k=5;·subst k5;simp(config := { maxSteps := 3000000 }) [l3,l4,bP,cellsD,aF,aE]
  by_cases k6:k=6;·subst k6;simp(config := { maxSteps := 3000000 }) [l5,cellsD,aF,aE]
  by_cases k8:k=8;·subst k8;simp(config := { maxSteps := 3000000 }) [l1,l2,l3,l6,l7,l8,o3,o4,o6,o7,hU,fU,cellsD,aF,aE]
  simp(config := { maxSteps := 3000000 }) [k5,k6,k8,cellsD,aF,aE]
 ·cases h
theorem DO {r:Rc} (h:bn r=true):1≤r.k∧r.k≤11:=by
 by_cases h1:r.k<1∨11<r.k;·rw[ql h1]at h;cases h
 ·omega
def pE (a:Ap):Dc:=⟨a.l,a.ps,a.vs,a.sl⟩
theorem Ki {a:Ap} (h:bn a.r=false):bh a=(a,220):=by
 unfold bh;split;·rfl
 ·rw[h,if_neg (by simp)]
theorem H0 {a:Ap} (h:bn a.r=true) (hk:a.r.k≤4∨a.r.k=7):(pE (bh a).1,(bh a).2)=if(kg a).2=true∧a.sl=false then((kg a).1,0) else(pE a,220):=by
 obtain⟨h1,h2⟩:=DO h;have hk:a.r.k=1∨a.r.k=2∨a.r.k=3∨a.r.k=4∨a.r.k=7:=by omega
 rcases hk with hk|hk|hk|hk|hk;·cases hs:a.sl<;>cases hq:decide ((eV a.l a.r.p a.r.i a.r.u).2=0)<;>cases hq2:decide ((eV a.l a.r.p a.r.i a.r.u).1.e=a.r.e)<;>simp[bh,CD,kg,hk,h,mC,hs,hq,hq2,pE]
 ·cases hs:a.sl<;>cases ho:fV a.l a.r.p a.r.i a.r.e<;>simp[bh,CD,kg,hk,h,nZ,hs,ho,pE]
 ·cases hs:a.sl<;>cases ho:fV a.l a.r.p a.r.i a.r.e<;>simp[bh,CD,kg,hk,h,iW,hs,ho,pE]
 ·cases hs:a.sl<;>cases ho:fV a.l a.r.p a.r.i a.r.e<;>cases hq:decide ((dD a.vs (lz a)).2=0)<;>simp[bh,CD,kg,hk,h,kV,hs,ho,hq,pE]
 ·cases hs:a.sl<;>cases hq:(a.l.h&&decide (a.l.p=a.r.p)&&decide (a.l.i=a.r.i))<;>simp[bh,CD,kg,hk,h,ui,hs,hq,pE]
theorem EX {a:Ap} (h:bn a.r=true) (hk:¬(a.r.k≤4∨a.r.k=7)):(pE (bh a).1,(bh a).2)=if(gV a).2=true then((gV a).1,0) else(pE a,220):=by
 obtain⟨h1,h2⟩:=DO h;have hk:a.r.k=5∨a.r.k=6∨a.r.k=8∨a.r.k=9∨a.r.k=10∨a.r.k=11:=by omega
 rcases hk with hk|hk|hk|hk|hk|hk;·cases hq:((iw a.vs a.r.v).isSome&&decide ((qn a.ps ⟨a.n,a.r.v,a.r.u⟩).2=0))<;>simp[bh,CD,gV,hk,h,C8,hq,pE]
 ·cases hq:decide ((rh a.ps a.r.v).2=0)<;>simp[bh,CD,gV,hk,h,oF,hq,pE]
 ·simp[bh,CD,gV,hk,h,iZ,pE]
 ·simp[bh,CD,gV,hk,h,pE]
 ·simp[bh,CD,gV,hk,h,pE]
 ·simp[bh,CD,gV,hk,h,pE]
def CV (n t:List UInt8):Bool:=decide (n.length≤100)&&decide (t.length≤100)
@[simp] def MM:List AV→Option (Prop×AV)|[.agg [.pv (.int .u8 k),.pv (.int .u64 p),.pv (.int .u64 i),.pv (.int .u64 s),.pv (.int .u64 e),.pv (.int .u64 u),.pv (.int .u64 v),.pv (.int .u64 c),.pv (.int .u64 z),.pv (.int .u64 m),.pv (.str n),.pv (.str t)]]=>some (True,.pv (.bool (CV n t)))|_=>none
theorem OI:aJ Tryz.prog 6 MM:=by
 intro ys φ r h hφ;unfold MM at h;split at h;·rename_i k p i s e u v c z m n t;cases h;refine ak ah (by kernel_rfl) (by conv=>lhs;reduce) (by simp) ?_;have e1:∀l:List UInt8,decide ((l.length:Int)≤100)=decide (l.length≤100):=fun l=>decide_eq_decide.2 (by omega);have e2:∀l:List UInt8,((l.length:Int)≤100)=(l.length≤100):=fun l=>propext (by omega);by_cases h1:n.length≤100<;>simp(config := { maxSteps := 3000000 }) [CV,h1,e1,e2]
 ·cases h
def yR (d:Dc):Bool:=d.vs.all (fun v=>decide (v.t.length≤100))&&decide (d.ps.length≤20)&&decide (d.vs.length≤20)
@[simp] noncomputable def N3:List AV→Option (Prop×AV)|[.agg ys]=>jZ ys fun d=>some (d.vs.length≤maxLen,.pv (.bool (yR d)))|_=>none
theorem Q7:aJ Tryz.prog 19 N3:=by
 intro ys φ r h hφ;unfold N3 at h;split at h
 ·obtain⟨d,hd,h2⟩:=eo h;subst hd;clear h;cases h2;obtain⟨⟨e,p,i,u,h'⟩,ps,vs,sl⟩:=d;have hl:vs.length≤maxLen:=hφ;rw[ax]at hl;refine ak ah (by kernel_rfl) (by conv=>lhs;reduce) (by simp) ?_;simp(config := { maxSteps := 3000000 }) [cellsD];refine aj (fun i:Nat=>i≤vs.length∧∀v∈vs.take i,v.t.length≤100) (fun j=>⟨[(1,.ptr 1 0),(2,.pv (.bool false)),(3,.pv (.int .i64 j))],[(1,.box [.pv (.int .u64 e),.pv (.int .u64 p),.pv (.int .u64 i),.pv (.int .u64 u),.pv (.bool h'),.pv (.ro (au ps)),.pv (.ro (aH vs)),.pv (.bool sl)])]⟩) (fun i=>vs.length-i) [] 0 (by simp) ?_ ?_;·simp
  ·rintro j ⟨hj,ht⟩;by_cases hlt:j<vs.length
   ·have r1:=bj hlt;have w2:IntKind.i64.wrap ((j:Int)+1)=(j:Int)+1:=wrap_i64 (by omega);by_cases h1:(100:Int)<vs[j].t.length
    ·have hf:yR ⟨⟨e,p,i,u,h'⟩,ps,vs,sl⟩=false:=by
      unfold yR;have:(vs.all fun v=>decide (v.t.length≤100))=false:=by rw[q231];exact⟨vs[j],q82 hlt,by simp;omega⟩
      simp[this]
     simp(config := { maxSteps := 3000000 }) [w2,hlt,r1,h1,hf]
    ·have h1':(vs[j].t.length:Int)≤100:=by omega
     simp(config := { maxSteps := 3000000 }) [w2,hlt,r1,h1,h1'];refine⟨j+1,⟨by omega,fun v hv=>?_⟩,by omega,by omega⟩;rw[q62 hlt,q80]at hv;rcases hv with hv|hv;·exact ht v hv
     ·simp only[q75]at hv;subst hv;omega
   ·rw[List.take_of_length_le (by omega)]at ht;have hf:yR ⟨⟨e,p,i,u,h'⟩,ps,vs,sl⟩=(decide (ps.length≤20)&&decide (vs.length≤20)):=by
     unfold yR;have:(vs.all fun v=>decide (v.t.length≤100))=true:=by rw[q90];exact fun v hv=>decide_eq_true (ht v hv)
     simp[this]
    have e1:∀n:Nat,decide ((n:Int)≤20)=decide (n≤20):=fun n=>decide_eq_decide.2 (by omega);by_cases h2:(ps.length:Int)≤20<;>simp(config := { maxSteps := 3000000 }) [hlt,hf,h2,←e1]
 ·cases h
theorem Dm {a b:Vn}:a=b↔a.n=b.n∧a.b=b.b∧a.p=b.p∧a.i=b.i∧a.s=b.s∧a.z=b.z∧a.m=b.m∧a.t=b.t∧a.inl=b.inl∧a.dm=b.dm:=by cases a;cases b;simp
@[simp] noncomputable def aae:List AV→Option (Prop×AV)|[.pv (.ro a),.pv (.ro b)]=>(dec dj a).bind fun a=>(dec dj b).map fun b=>(a.length≤1000000000,.pv (.bool (decide (a=b))))|_=>none
theorem Zy:aJ Tryz.prog 70 aae:=by
 intro ys φ r h hφ;unfold aae at h;split at h
 ·obtain⟨a,ha,h1⟩:=q63.1 h;obtain⟨b,hb,h2⟩:=q0.1 h1;clear h h1;cases h2;cases aI ha;cases aI hb;have hl:a.length≤1000000000:=hφ;refine ak ah (by kernel_rfl) (by conv=>lhs;reduce) (by simp) ?_;simp(config := { maxSteps := 3000000 });refine⟨fun hne=>?_,fun hlen=>?_⟩;·intro e;exact hne (by rw[e])
  refine aj (fun i:Nat=>i≤a.length∧a.take i=b.take i) (fun i=>⟨[(0,.pv (.ro (aH a))),(1,.pv (.ro (aH b))),(12,.pv (.int .i64 a.length)),(13,.pv (.int .i64 i))],[]⟩) (fun i=>a.length-i) [] 0 (by simp) ?_ ?_;·simp
  ·rintro i ⟨hi,ht⟩;have w2:IntKind.i64.wrap ((i:Int)+1)=(i:Int)+1:=wrap_i64 (by omega);by_cases hlt:i<a.length
   ·have r1:=bj hlt;have hlb:i<b.length:=by omega
    have r2:=bj hlb;by_cases he:a[i]=b[i];·obtain⟨f1,f2,f3,f4,f5,f6,f7,f8,f9,f10⟩:=Dm.1 he;simp(config := { maxSteps := 3000000 }) [w2,hlt,hlb,r1,r2,f1,f2,f3,f4,f5,f6,f7,f8,f9,f10];refine⟨i+1,⟨by omega,?_⟩,by omega,by omega⟩;rw[q62 hlt,q62 hlb,ht,he]
    ·have hn:¬a=b:=fun e=>he (by subst e;rfl);simp(config := { maxSteps := 3000000 }) [w2,hlt,hlb,r1,r2,hn];exact fun f1 f2 f3 f4 f5 f6 f7 f8 f9 f10=>absurd (Dm.2 ⟨f1,f2,f3,f4,f5,f6,f7,f8,f9,f10⟩) he
   ·simp(config := { maxSteps := 3000000 }) [hlt];rw[List.take_of_length_le (by omega),List.take_of_length_le (by omega)]at ht;exact ht
 ·cases h
@[simp] noncomputable def GSD:List AV→Option (Prop×AV)|[.agg xs,.agg ys]=>jZ xs fun a=>jZ ys fun b=>some (a.ps.length≤1000000000∧a.vs.length≤1000000000,.pv (.bool (decide (a=b))))|_=>none
theorem c_SD:aJ Tryz.prog 35 GSD:=by
 intro ys φ r h hφ;unfold GSD at h;split at h
 ·obtain⟨a,ha,h1⟩:=eo h;obtain⟨b,hb,h2⟩:=eo h1;subst ha hb;clear h h1;cases h2;obtain⟨⟨e,p,i,u,h'⟩,ps,vs,sl⟩:=a;obtain⟨⟨e2,p2,i2,u2,h2'⟩,ps2,vs2,sl2⟩:=b;obtain⟨h1,h2⟩:=hφ;have h1:ps.length≤1000000000:=h1;have h2:vs.length≤1000000000:=h2;refine ak (ag Jg (ag Zy ah)) (by kernel_rfl) (by conv=>lhs;reduce) (by simp) ?_;have hs:(sl==sl2)=decide (sl=sl2):=by cases sl<;>cases sl2<;>rfl
  simp(config := { maxSteps := 3000000 }) [cellsD,h1,h2];rw[hs];ac_rfl
 ·cases h
theorem c_rSD:aJ Tryz.prog 31 GSD:=by
 intro ys φ r h hφ;unfold GSD at h;split at h
 ·obtain⟨a,ha,h1⟩:=eo h;obtain⟨b,hb,h2⟩:=eo h1;subst ha hb;clear h h1;cases h2;obtain⟨⟨e,p,i,u,h'⟩,ps,vs,sl⟩:=a;obtain⟨⟨e2,p2,i2,u2,h2'⟩,ps2,vs2,sl2⟩:=b;obtain⟨h1,h2⟩:=hφ;have h1:ps.length≤1000000000:=h1;have h2:vs.length≤1000000000:=h2;refine ak (ag LO ah) (by kernel_rfl) (by conv=>lhs;reduce) (by simp) ?_;apply af;·simp(config := { maxSteps := 3000000 }) [cellsD];exact⟨rfl,rfl⟩
  rw[aL];simp(config := { maxSteps := 3000000 }) [h1];refine⟨fun hx a1 a2 a3 a4 a5 a6 a7 a8=>?_,?_⟩;·subst a1 a2 a3 a4 a5 a6 a7 a8;simp at hx
  ·rintro rfl rfl rfl rfl rfl rfl rfl hlen;have hlen:vs.length=vs2.length:=by omega
   refine aj (fun i:Nat=>i≤vs.length∧vs.take i=vs2.take i) (fun j=>⟨[(2,.ptr 2 0),(3,.ptr 3 0),(5,.pv (.int .i64 j))],[(2,.box [.pv (.int .u64 e),.pv (.int .u64 p),.pv (.int .u64 i),.pv (.int .u64 u),.pv (.bool h'),.pv (.ro (au ps)),.pv (.ro (aH vs)),.pv (.bool sl)]),(3,.box [.pv (.int .u64 e),.pv (.int .u64 p),.pv (.int .u64 i),.pv (.int .u64 u),.pv (.bool h'),.pv (.ro (au ps)),.pv (.ro (aH vs2)),.pv (.bool sl)])]⟩) (fun i=>vs.length-i) [] 0 (by simp) ?_ ?_;·simp
   ·rintro j ⟨hj,ht⟩;have w2:IntKind.i64.wrap ((j:Int)+1)=(j:Int)+1:=wrap_i64 (by omega);by_cases hlt:j<vs.length
    ·have r1:=bj hlt;have hlb:j<vs2.length:=by omega
     have r2:=bj hlb;by_cases he:vs[j]=vs2[j];·obtain⟨f1,f2,f3,f4,f5,f6,f7,f8,f9,f10⟩:=Dm.1 he;simp(config := { maxSteps := 3000000 }) [w2,hlt,hlb,r1,r2,f1,f2,f3,f4,f5,f6,f7,f8,f9,f10];refine⟨j+1,⟨by omega,?_⟩,by omega,by omega⟩;rw[q62 hlt,q62 hlb,ht,he]
     ·have hn:¬vs=vs2:=fun e=>he (by subst e;rfl);simp(config := { maxSteps := 3000000 }) [w2,hlt,hlb,r1,r2,hn];exact fun f1 f2 f3 f4 f5 f6 f7 f8 f9 f10=>absurd (Dm.2 ⟨f1,f2,f3,f4,f5,f6,f7,f8,f9,f10⟩) he
    ·simp(config := { maxSteps := 3000000 }) [hlt];rw[List.take_of_length_le (by omega),List.take_of_length_le (by omega)]at ht;exact ht
 ·cases h
@[simp] def ZN (e1 e2:TypeId):List AV→Option (Prop×AV)|[.agg [.pv (.int .u64 e),.pv (.int .u64 p),.pv (.int .u64 i),.pv (.int .u64 u),.pv (.bool h),.fr x ra,.fr y rb,.pv (.bool sl)]]=>if x=e1∧y=e2 then some (ra.length≤1000000∧rb.length≤1000000∧(∀r∈ra,r.length=3)∧∀r∈rb,r.length=10,.bE 0 [.aO []]) else none|_=>none
theorem c_SpD:dI Tryz.prog 32 (ZN 134 108):=by
 intro ys φ r h hφ;unfold ZN at h;split at h
 ·rename_i e p i u h' x ra y rb sl;split at h
  ·rename_i hxy;obtain⟨rfl,rfl⟩:=hxy;cases h;obtain⟨l1,l2,l3,l4⟩:=hφ;refine cf ah (by kernel_rfl) (by conv=>lhs;reduce) (by simp) rfl (by simp) ?_;apply af;·simp(config := { maxSteps := 3000000 });exact⟨rfl,rfl⟩
   rw[aL];apply af;·simp(config := { maxSteps := 3000000 });exact⟨rfl,rfl⟩
   rw[aW];refine aj (fun x:Nat×List (List PV)=>x.1≤ra.length∧x.2.length=ra.length∧∀r∈x.2,r.length=3) (fun x=>⟨[(1,.ptr 1 0),(2,.pv (.int .i64 (x.1:Int)))],[(1,.box [.pv (.int .u64 e),.pv (.int .u64 p),.pv (.int .u64 i),.pv (.int .u64 u),.pv (.bool h'),.own 998,.own 1998,.pv (.bool sl)]),(998,.arr 134 x.2),(1998,.arr 108 rb)]⟩) (fun x=>ra.length-x.1) [] (0,ra) ⟨by simp,rfl,l3⟩ ?_ ?_;·simp
   ·rintro⟨j,b⟩ ⟨hj,hb,hr⟩;have hj:j≤ra.length:=hj;have hb:b.length=ra.length:=hb;have hr:∀r∈b,r.length=3:=hr;have w2:IntKind.i64.wrap ((j:Int)+1)=(j:Int)+1:=wrap_i64 (by omega);by_cases hlt:j<ra.length
    ·have r1:(rowAt b (j:Int)).length=3:=by simp only[rowAt,q68,q78,q64 (show j<b.length by omega),q98];exact hr _ (q82 _)
     have r2:(rowAt b (j:Int)).drop 3=[]:=q163 (by omega);simp(config := { maxSteps := 3000000 }) [w2,hlt,r1,r2,hb];exact⟨j+1,_,⟨by omega,by rw[q186];exact hb,fun r hr'=>(q183 hr').elim (hr r) fun e=>by rw[e];rfl⟩,⟨by omega,rfl⟩,by omega⟩
    ·have hja:j=ra.length:=by omega
     subst hja;simp(config := { maxSteps := 3000000 }) [hb];refine aj (fun x:Nat×List (List PV)=>x.1≤rb.length∧x.2.length=rb.length∧∀r∈x.2,r.length=10) (fun x=>⟨[(1,.ptr 1 0),(3,.pv (.int .i64 (x.1:Int)))],[(1,.box [.pv (.int .u64 e),.pv (.int .u64 p),.pv (.int .u64 i),.pv (.int .u64 u),.pv (.bool h'),.own 998,.own 1998,.pv (.bool sl)]),(998,.arr 134 b),(1998,.arr 108 x.2)]⟩) (fun x=>rb.length-x.1) [] (0,rb) ⟨by simp,rfl,l4⟩ ?_ ?_;·simp
     ·rintro⟨j,c⟩ ⟨hj,hc,hr⟩;have hj:j≤rb.length:=hj;have hc:c.length=rb.length:=hc;have hr:∀r∈c,r.length=10:=hr;have w2:IntKind.i64.wrap ((j:Int)+1)=(j:Int)+1:=wrap_i64 (by omega);by_cases hlt:j<rb.length
      ·have r1:(rowAt c (j:Int)).length=10:=by simp only[rowAt,q68,q78,q64 (show j<c.length by omega),q98];exact hr _ (q82 _)
       have r2:(rowAt c (j:Int)).drop 10=[]:=q163 (by omega);simp(config := { maxSteps := 3000000 }) [w2,hlt,r1,r2,hc];exact⟨j+1,_,⟨by omega,by rw[q186];exact hc,fun r hr'=>(q183 hr').elim (hr r) fun e=>by rw[e];rfl⟩,⟨by omega,rfl⟩,by omega⟩
      ·simp(config := { maxSteps := 3000000 }) [hlt,hc]
  ·cases h
 ·cases h
@[simp] theorem GApp_eq (e p i u:Int) (h:Bool) (a b:List (List PV)) (sl:Bool) (k rp ri rs re ru rv rc rz rm:Int) (rn rt:List UInt8) (n s:Int):RZ [.agg [.pv (.int .u64 e),.pv (.int .u64 p),.pv (.int .u64 i),.pv (.int .u64 u),.pv (.bool h),.pv (.ro a),.pv (.ro b),.pv (.bool sl)],.agg [.pv (.int .u8 k),.pv (.int .u64 rp),.pv (.int .u64 ri),.pv (.int .u64 rs),.pv (.int .u64 re),.pv (.int .u64 ru),.pv (.int .u64 rv),.pv (.int .u64 rc),.pv (.int .u64 rz),.pv (.int .u64 rm),.pv (.str rn),.pv (.str rt)],.pv (.int .u64 n),.pv (.int .u64 s)]=(dec rowP a).bind fun ps=>(dec dj b).map fun vs=>(XP ⟨⟨e,p,i,u,h⟩,ps,vs,sl,⟨k,rp,ri,rs,re,ru,rv,rc,rz,rm,rn,rt⟩,n,s⟩,.aO [.agg (cd (bh ⟨⟨e,p,i,u,h⟩,ps,vs,sl,⟨k,rp,ri,rs,re,ru,rv,rc,rz,rm,rn,rt⟩,n,s⟩).1),.pv (.int .i64 (bh ⟨⟨e,p,i,u,h⟩,ps,vs,sl,⟨k,rp,ri,rs,re,ru,rv,rc,rz,rm,rn,rt⟩,n,s⟩).2)]):=rfl
def p3:Pn:=⟨3,2,5⟩
def x2:Vn:=⟨2,0,7,1,0,0,0,[],false,false⟩
def x4:Vn:=⟨4,2,7,1,0,0,0,[],false,false⟩
theorem kA:bh ⟨⟨0,0,0,0,false⟩,[],[],false,⟨1,7,1,0,1,9,0,0,0,0,[],[]⟩,1,0⟩=(⟨⟨1,7,1,9,true⟩,[],[],false,⟨1,7,1,0,1,9,0,0,0,0,[],[]⟩,1,0⟩,0):=by kernel_rfl
theorem kB:bh ⟨⟨1,7,1,9,true⟩,[],[],false,⟨4,7,1,0,1,0,0,0,0,0,[],[]⟩,2,0⟩=(⟨⟨1,7,1,9,true⟩,[],[x2],false,⟨4,7,1,0,1,0,0,0,0,0,[],[]⟩,2,0⟩,0):=by kernel_rfl
theorem kC:bh ⟨⟨1,7,1,9,true⟩,[],[x2],false,⟨5,0,0,0,0,5,2,0,0,0,[],[]⟩,3,0⟩=(⟨⟨1,7,1,9,true⟩,[p3],[x2],false,⟨5,0,0,0,0,5,2,0,0,0,[],[]⟩,3,0⟩,0):=by kernel_rfl
theorem fN:bp []:=fun _ h=>by cases h
noncomputable def GWkD:List AV→Option (Prop×AV)|[]=>some (True,.pv (.bool true))|_=>none
@[simp] theorem GWkD_eq:GWkD []=some (True,.pv (.bool true)):=rfl
structure Sc where
 c:Int
 t:Int
 d:Dc
 cs:List En
 ws:List Pn deriving DecidableEq
def aS (x:Sc):List AV:=[.pv (.int .u64 x.c),.pv (.int .u64 x.t),.pv (.int .u64 x.d.l.e),.pv (.int .u64 x.d.l.p),.pv (.int .u64 x.d.l.i),.pv (.int .u64 x.d.l.u),.pv (.bool x.d.l.h),.pv (.ro (au x.d.ps)),.pv (.ro (aH x.d.vs)),.pv (.bool x.d.sl),.pv (.ro (aM x.cs)),.pv (.ro (au x.ws))]
def bF (t1 t2 t3 t4:TypeId) (x:Sc):List AV:=[.pv (.int .u64 x.c),.pv (.int .u64 x.t),.pv (.int .u64 x.d.l.e),.pv (.int .u64 x.d.l.p),.pv (.int .u64 x.d.l.i),.pv (.int .u64 x.d.l.u),.pv (.bool x.d.l.h),.fr t1 (au x.d.ps),.fr t2 (aH x.d.vs),.pv (.bool x.d.sl),.fr t3 (aM x.cs),.fr t4 (au x.ws)]
@[simp] noncomputable def lx (ys:List AV) (K:Sc→Option (Prop×AV)):Option (Prop×AV):=match ys with|[.pv (.int .u64 c),.pv (.int .u64 t),.pv (.int .u64 e),.pv (.int .u64 p),.pv (.int .u64 i),.pv (.int .u64 u),.pv (.bool h),.pv (.ro a),.pv (.ro b),.pv (.bool sl),.pv (.ro x),.pv (.ro y)]=>(dec rowP a).bind fun ps=>(dec dj b).bind fun vs=>(dec ff x).bind fun cs=>(dec rowP y).bind fun ws=>K ⟨c,t,⟨⟨e,p,i,u,h⟩,ps,vs,sl⟩,cs,ws⟩|_=>none
theorem dU {ys:List AV}{K:Sc→Option (Prop×AV)}{x:Prop×AV} (h:lx ys K=some x):∃d,ys=aS d∧K d=some x:=by
 unfold lx at h;split at h;·obtain⟨ps,hp,h1⟩:=q63.1 h;obtain⟨vs,hv,h2⟩:=q63.1 h1;obtain⟨cs,hc,h3⟩:=q63.1 h2;obtain⟨ws,hw,h4⟩:=q63.1 h3;rw[az hp,aI hv,aV hc,az hw];exact⟨_,rfl,h4⟩
 ·cases h
def pY (x:Sc):AV:=.bx (bF 134 108 71 84 x)
theorem Jj:∀p q,pY p=pY q→p=q:=by rintro⟨c,t,⟨⟨e,p,i,u,h⟩,ps,vs,sl⟩,cs,ws⟩ ⟨c',t',⟨⟨e',p',i',u',h'⟩,ps',vs',sl'⟩,cs',ws'⟩ hh;simp only[pY,bF,AV.bx.injEq,q110,AV.pv.injEq,PV.int.injEq,PV.bool.injEq,AV.fr.injEq,true_and,and_true]at hh;obtain⟨rfl,rfl,rfl,rfl,rfl,rfl,rfl,h1,h2,rfl,h3,h4⟩:=hh;rw[fE iM h1,fE oQ h2,fE zo h3,fE iM h4]
@[simp] theorem Yb (c t e p i u:Int) (h sl:Bool) (ps ws:List Pn) (vs:List Vn) (cs:List En):sI pY (.bx [.pv (.int .u64 c),.pv (.int .u64 t),.pv (.int .u64 e),.pv (.int .u64 p),.pv (.int .u64 i),.pv (.int .u64 u),.pv (.bool h),.fr 134 (au ps),.fr 108 (aH vs),.pv (.bool sl),.fr 71 (aM cs),.fr 84 (au ws)])=some ⟨c,t,⟨⟨e,p,i,u,h⟩,ps,vs,sl⟩,cs,ws⟩:=zd Jj ⟨c,t,⟨⟨e,p,i,u,h⟩,ps,vs,sl⟩,cs,ws⟩
def dk (l:List Pn) (w:Pn):List Pn×Bool:=match l.find? (m0 w) with|some x=>(l.set (l.findIdx (m0 w)) w,decide (x.u<w.u))|none=>(yB l (l.findIdx (vx w)) w,true)
theorem zB {l:List Pn}{w:Pn} (h:l.any (m0 w)=true):∃hi:l.findIdx (m0 w)<l.length,dk l w=(l.set (l.findIdx (m0 w)) w,decide (l[l.findIdx (m0 w)].u<w.u)):=by
 have hi:l.findIdx (m0 w)<l.length:=by obtain⟨x,hx,he⟩:=q112.1 h;exact q235 ⟨x,hx,he⟩
 refine⟨hi,?_⟩;have hf:l.find? (m0 w)=some l[l.findIdx (m0 w)]:=by rw[List.find?_eq_getElem?_findIdx,q64 hi]
 unfold dk;rw[hf]
theorem vZ {l:List Pn}{w:Pn} (h:l.any (m0 w)=false):dk l w=(yB l (l.findIdx (vx w)) w,true):=by
 have hf:l.find? (m0 w)=none:=by rw[q181];exact fun x hx=>by simpa using q141.1 h x hx
 unfold dk;rw[hf]
theorem qL (l:List Pn) (w:Pn):(dk l w).1.length≤l.length+1:=by
 unfold dk;split;·simp
 ·simp[yB];omega
@[simp] noncomputable def MY:List AV→Option (Prop×AV)|[.aO [y],.agg [.pv (.int .u64 p),.pv (.int .u64 i),.pv (.int .u64 s)]]=>(sI pY y).map fun g=>(g.ws.length≤1000000,.bE 0 [.pv (.bool (dk g.ws ⟨p,i,s⟩).2),pY ⟨g.c,g.t,g.d,g.cs,(dk g.ws ⟨p,i,s⟩).1⟩])|_=>none
theorem P5:dI Tryz.prog 62 MY:=by
 intro ys φ r h hφ;unfold MY at h;split at h
 ·rename_i y wp wi wu;obtain⟨g,hg,h⟩:=q0.1 h;cases h;cases ef hg;obtain⟨c,t,⟨⟨e,p,i,u,h'⟩,ps,vs,sl⟩,cs,ws⟩:=g;have h6:ws.length≤1000000:=hφ;have h9:ws.length≤1000000000:=by omega
  refine cf (ag c_IxW (eQ (p:=0) (k:=998) Qi (by kernel_rfl) ah)) (by kernel_rfl) (by conv=>lhs;reduce) (by simp) rfl (by simp[pY,bF]) ?_;cases ha:ws.any (m0 ⟨wp,wi,wu⟩) with
  |true=>
   obtain⟨hi,hn⟩:=zB ha;have hix:GU (m0 ⟨wp,wi,wu⟩) ws=(ws.findIdx (m0 ⟨wp,wi,wu⟩):Int):=by unfold GU;rw[if_pos ha]
   generalize ws.findIdx (m0 ⟨wp,wi,wu⟩)=k at*;have r1:=bo hi;have hs:au (ws.set k ⟨wp,wi,wu⟩)=(au ws).set k [.int .u64 wp,.int .u64 wi,.int .u64 wu]:=by simp[au,q217,rowP]
   simp(config := { maxSteps := 3000000 }) [pY,bF,h9,clW,hix,hi,hn,r1,hs]|false=>
   have hn:=vZ ha;have hix:GU (m0 ⟨wp,wi,wu⟩) ws=-1:=by unfold GU;rw[if_neg (by simp[ha])]
   cases hb:ws.any (vx ⟨wp,wi,wu⟩) with|true=>
    have hi:ws.findIdx (vx ⟨wp,wi,wu⟩)<ws.length:=by obtain⟨x,hx,he⟩:=q112.1 hb;exact q235 ⟨x,hx,he⟩
    have hiy:GU (vx ⟨wp,wi,wu⟩) ws=(ws.findIdx (vx ⟨wp,wi,wu⟩):Int):=by unfold GU;rw[if_pos hb]
    generalize ws.findIdx (vx ⟨wp,wi,wu⟩)=k at*;have hk:k≤ws.length:=by omega
    simp(config := { maxSteps := 3000000 }) [pY,bF,h9,h6,clW,hix,hiy,hk,hn];exact⟨fun h=>by omega,aF _⟩|false=>
    have hi:ws.findIdx (vx ⟨wp,wi,wu⟩)=ws.length:=List.findIdx_eq_length_of_false fun x hx=>by simpa using q141.1 hb x hx
    have hiy:GU (vx ⟨wp,wi,wu⟩) ws=-1:=by unfold GU;rw[if_neg (by simp[hb])]
    rw[hi]at hn;simp(config := { maxSteps := 3000000 }) [pY,bF,h9,h6,clW,hix,hiy,hn];exact aF _
 ·cases h
def gU (cs:List En) (r:Rc) (n:Int):List En×Int:=if r.k=9 then dg cs r.n n else if r.k=10 then jT cs r.n else if r.k=11 then eD cs r.n r.t else if r.k=8 then(cs,0) else(cs,2)
@[simp] noncomputable def GCtl:List AV→Option (Prop×AV)|[.aO [y],.agg ys]=>fo ys fun r=>(sI pY y).map fun g=>(g.cs.length≤100000,.bE 0 [.pv (.int .i64 (gU g.cs r g.t).2),pY ⟨g.c,g.t,g.d,(gU g.cs r g.t).1,g.ws⟩])|_=>none
theorem Zl:dI Tryz.prog 63 GCtl:=by
 intro ys φ r h hφ;unfold GCtl at h;split at h
 ·rename_i y zs;obtain⟨r,rfl,h1⟩:=cL h;clear h;obtain⟨g,hg,h⟩:=q0.1 h1;clear h1;cases h;cases ef hg;obtain⟨c,t,⟨⟨e,p,i,u,h'⟩,ps,vs,sl⟩,cs,ws⟩:=g;obtain⟨k,rp,ri,rs,re,ru,rv,rc,rz,rm,rn,rt⟩:=r;have h5:cs.length≤100000:=hφ;refine cf (ag Gx (ag Mj (ag WG ah))) (by kernel_rfl) (by conv=>lhs;reduce) (by simp) rfl (by simp[pY,bF,aP]) ?_;by_cases k9:k=9;·simp(config := { maxSteps := 3000000 }) [pY,bF,aP,h5,gU,k9,aU]
  ·by_cases k10:k=10;·simp(config := { maxSteps := 3000000 }) [pY,bF,aP,h5,gU,k10,aU]
   ·by_cases k11:k=11;·simp(config := { maxSteps := 3000000 }) [pY,bF,aP,h5,gU,k11,aU]
    ·by_cases k8:k=8<;>simp(config := { maxSteps := 3000000 }) [pY,bF,aP,h5,gU,k8,k9,k10,k11]
 ·cases h
def jh (r:Rc):Pn:=⟨r.p,r.i,r.s⟩
noncomputable def ib (x:Sc) (r:Rc) (s:Int):Sc×Bool:=if bn r=true∧x.t≠jI then if(dk x.ws (jh r)).2=true then if x.c=0 then(⟨x.c,x.t+1,x.d,(gU x.cs r (x.t+1)).1,(dk x.ws (jh r)).1⟩,decide ((gU x.cs r (x.t+1)).2=0)) else(⟨x.c,x.t+1,pE (bh ⟨x.d.l,x.d.ps,x.d.vs,x.d.sl,r,x.t+1,s⟩).1,x.cs,(dk x.ws (jh r)).1⟩,decide ((bh ⟨x.d.l,x.d.ps,x.d.vs,x.d.sl,r,x.t+1,s⟩).2=0)) else(⟨x.c,x.t,x.d,x.cs,(dk x.ws (jh r)).1⟩,false) else(x,false)
def uD (x:Sc) (r:Rc) (s:Int):Prop:=cy x.t∧x.ws.length≤100000∧x.cs.length≤100000∧cy x.d.l.e∧x.d.ps.length<50∧x.d.vs.length≤100000∧(∀e∈x.d.ps,ki e)∧(∀v∈x.d.vs,lg v)∧cy r.c∧cy s∧cy r.v
@[simp] noncomputable def ZZ:List AV→Option (Prop×AV)|[.aO [y],.agg ys,.pv (.int .u64 s)]=>fo ys fun r=>(sI pY y).map fun x=>(uD x r s,.bE 0 [.pv (.bool (ib x r s).2),pY (ib x r s).1])|_=>none
theorem Xo:dI Tryz.prog 30 ZZ:=by
 intro ys φ r h hφ;unfold ZZ at h;split at h
 ·rename_i y zs s;obtain⟨r,rfl,h1⟩:=cL h;clear h;obtain⟨x,hx,h⟩:=q0.1 h1;clear h1;cases h;cases ef hx;obtain⟨c,t,⟨⟨e,p,i,u,h'⟩,ps,vs,sl⟩,cs,ws⟩:=x;obtain⟨k,rp,ri,rs,re,ru,rv,rc,rz,rm,rn,rt⟩:=r;obtain⟨o1,o2,o3,o4,o5,o6,o7,o8,o9,o10,o11⟩:=hφ;have o1:cy t:=o1;have o2:ws.length≤100000:=o2;have o3:cs.length≤100000:=o3;have o2':ws.length≤1000000:=by omega
  refine cf (ag Dn (bg (ks:=[2,0]) P5 (by kernel_rfl) (bg (ks:=[2,0]) Zl (by kernel_rfl) (ag XJ ah)))) (by kernel_rfl) (by conv=>lhs;reduce) (by simp) rfl (by simp[pY,bF,aP]) ?_;apply af;·simp(config := { maxSteps := 3000000 }) [pY,bF,aP];exact⟨rfl,rfl⟩
  cases hR:bn ⟨k,rp,ri,rs,re,ru,rv,rc,rz,rm,rn,rt⟩ with|false=>
   refine bA (fun _=>False) ?_ (fun _ h=>h.elim);apply af;·simp(config := { maxSteps := 3000000 }) [hR];exact⟨rfl,rfl⟩
   apply bJ rfl;simp(config := { maxSteps := 3000000 }) [hR,ib,pY,bF]|true=>
   by_cases ht:t=18446744073709551615
   ·refine bA (fun _=>False) ?_ (fun _ h=>h.elim);apply af;·simp(config := { maxSteps := 3000000 }) [hR,ht];exact⟨rfl,rfl⟩
    apply bJ rfl;simp(config := { maxSteps := 3000000 }) [hR,ht,ib,jI,pY,bF]
   ·have w1:IntKind.u64.wrap (t+1)=t+1:=wrap_u64 (by have:=o1.1;have:=o1.2;omega);have hdo:ib ⟨c,t,⟨⟨e,p,i,u,h'⟩,ps,vs,sl⟩,cs,ws⟩ ⟨k,rp,ri,rs,re,ru,rv,rc,rz,rm,rn,rt⟩ s=if(dk ws ⟨rp,ri,rs⟩).2=true then if c=0 then(⟨c,t+1,⟨⟨e,p,i,u,h'⟩,ps,vs,sl⟩,(gU cs ⟨k,rp,ri,rs,re,ru,rv,rc,rz,rm,rn,rt⟩ (t+1)).1,(dk ws ⟨rp,ri,rs⟩).1⟩,decide ((gU cs ⟨k,rp,ri,rs,re,ru,rv,rc,rz,rm,rn,rt⟩ (t+1)).2=0)) else(⟨c,t+1,pE (bh ⟨⟨e,p,i,u,h'⟩,ps,vs,sl,⟨k,rp,ri,rs,re,ru,rv,rc,rz,rm,rn,rt⟩,t+1,s⟩).1,cs,(dk ws ⟨rp,ri,rs⟩).1⟩,decide ((bh ⟨⟨e,p,i,u,h'⟩,ps,vs,sl,⟨k,rp,ri,rs,re,ru,rv,rc,rz,rm,rn,rt⟩,t+1,s⟩).2=0)) else(⟨c,t,⟨⟨e,p,i,u,h'⟩,ps,vs,sl⟩,cs,(dk ws ⟨rp,ri,rs⟩).1⟩,false):=by unfold ib;rw[if_pos ⟨hR,ht⟩];rfl
    rw[hdo];generalize hx:dk ws ⟨rp,ri,rs⟩=x;obtain⟨ws',b⟩:=x;rw[aL];apply af;·simp(config := { maxSteps := 3000000 }) [hR,ht,o2',hx,pY,bF];exact⟨rfl,rfl⟩
    cases b with|false=>apply bJ rfl;simp(config := { maxSteps := 3000000 }) [pY,bF]|true=>
     apply cM rfl;apply af;·simp(config := { maxSteps := 3000000 }) [w1];exact⟨rfl,rfl⟩
     have n1:0≤t+1:=by have:=o1.1;omega
     have n2:t+1≤18446744073709551615:=by have:=o1.2;omega
     have hok:XP ⟨⟨e,p,i,u,h'⟩,ps,vs,sl,⟨k,rp,ri,rs,re,ru,rv,rc,rz,rm,rn,rt⟩,t+1,s⟩:=⟨o4,o5,o6,o7,o8,o9,o10,n1,n2,o11.1,o11.2⟩;generalize hA:bh ⟨⟨e,p,i,u,h'⟩,ps,vs,sl,⟨k,rp,ri,rs,re,ru,rv,rc,rz,rm,rn,rt⟩,t+1,s⟩=q;obtain⟨⟨⟨xe,xp,xi,xu,xh⟩,xps,xvs,xsl,ar,an,asl⟩,e2⟩:=q;generalize hY:gU cs ⟨k,rp,ri,rs,re,ru,rv,rc,rz,rm,rn,rt⟩ (t+1)=y;obtain⟨cs',e1⟩:=y;by_cases hc:c=0
     ·refine bA (fun _=>False) ?_ (fun _ h=>h.elim);apply af;·simp(config := { maxSteps := 3000000 }) [hc];exact⟨rfl,rfl⟩
      apply bJ rfl;simp(config := { maxSteps := 3000000 }) [o3,hY,hc,pY,bF,aP]
     ·rw[aL];apply af;·simp(config := { maxSteps := 3000000 }) [hc];exact⟨rfl,rfl⟩
      apply cM rfl;apply af;·simp(config := { maxSteps := 3000000 }) [hok,hA,cd,aP,aF,aE];exact⟨rfl,rfl⟩
      simp(config := { maxSteps := 3000000 }) [hc,pY,bF,pE]
 ·cases h
@[simp] noncomputable def Mr:List AV→Option (Prop×AV)|[.agg ys]=>lx ys fun x=>some ((x.d.ps.length≤100000∧x.d.vs.length≤100000)∧x.cs.length≤100000∧x.ws.length≤100000,.agg (bF 134 108 71 84 x))|_=>none
theorem RT:aJ Tryz.prog 29 Mr:=by
 intro ys φ r h hφ;unfold Mr at h;split at h
 ·obtain⟨x,rfl,h2⟩:=dU h;clear h;cases h2;obtain⟨c,t,⟨⟨e,p,i,u,h'⟩,ps,vs,sl⟩,cs,ws⟩:=x;obtain⟨⟨h1,h2⟩,h3,h4⟩:=hφ;have h1:ps.length≤100000:=h1;have h2:vs.length≤100000:=h2;have h3:cs.length≤100000:=h3;have h4:ws.length≤100000:=h4;have h5:ps.length≤100000000:=by omega
  have h6:vs.length≤1000000:=by omega
  have h7:cs.length≤100000000:=by omega
  have h8:ws.length≤100000000:=by omega
  refine ak (ag pT (ag Ed (ag PL (ag Yh ah)))) (by kernel_rfl) (by conv=>lhs;reduce) (by simp) ?_;apply af;·simp(config := { maxSteps := 3000000 }) [aS];exact⟨rfl,rfl⟩
  apply af;·simp(config := { maxSteps := 3000000 }) [h5,h6];exact⟨rfl,rfl⟩
  apply af;·simp(config := { maxSteps := 3000000 }) [h7,h8];exact⟨rfl,rfl⟩
  simp(config := { maxSteps := 3000000 }) [bF,aF,aE,aU]
 ·cases h
noncomputable def dn (x:Sc) (r:Rc) (s:Int):Sc×Int:=if(ib x r s).2=true then((ib x r s).1,0) else(x,220)
@[simp] noncomputable def Wp:List AV→Option (Prop×AV)|[.agg xs,.agg ys,.pv (.int .u64 s)]=>lx xs fun x=>fo ys fun r=>some (uD x r s,.aO [.agg (bF 134 108 71 84 (dn x r s).1),.pv (.int .i64 (dn x r s).2)])|_=>none
theorem Nd:aJ Tryz.prog 13 Wp:=by
 intro ys φ r h hφ;unfold Wp at h;split at h
 ·rename_i xs zs s;obtain⟨x,rfl,h1⟩:=dU h;obtain⟨r,rfl,h2⟩:=cL h1;clear h h1;cases h2;have hok:uD x r s:=hφ;obtain⟨o1,o2,o3,o4,o5,o6,o7,o8,o9,o10,o11⟩:=hφ;obtain⟨c,t,⟨⟨e,p,i,u,h'⟩,ps,vs,sl⟩,cs,ws⟩:=x;obtain⟨k,rp,ri,rs,re,ru,rv,rc,rz,rm,rn,rt⟩:=r;have o2:ws.length≤100000:=o2;have o3:cs.length≤100000:=o3;have o5:ps.length<50:=o5;have o5':ps.length≤100000:=by omega
  have o6:vs.length≤100000:=o6;refine ak (ag RT (bg (ks:=[2,0,0]) Xo (by kernel_rfl) ah)) (by kernel_rfl) (by conv=>lhs;reduce) (by simp) ?_;apply af;·simp(config := { maxSteps := 3000000 }) [aS,aP];exact⟨rfl,rfl⟩
  apply af;·simp(config := { maxSteps := 3000000 }) [o2,o3,o5',o6,bF];exact⟨rfl,rfl⟩
  unfold dn;generalize hx:ib ⟨c,t,⟨⟨e,p,i,u,h'⟩,ps,vs,sl⟩,cs,ws⟩ ⟨k,rp,ri,rs,re,ru,rv,rc,rz,rm,rn,rt⟩ s=q;obtain⟨⟨xc,xt,⟨⟨xe,xp,xi,xu,xh⟩,xps,xvs,xsl⟩,xcs,xws⟩,b⟩:=q;rw[aL];apply af;·simp(config := { maxSteps := 3000000 }) [hok,hx,pY,bF,aF,aE,aU];exact⟨rfl,rfl⟩
  cases b with|false=>apply bJ rfl;simp(config := { maxSteps := 3000000 }) [o2,o3,o5',o6,bF,aF,aE,aU]|true=>apply cM rfl;simp(config := { maxSteps := 3000000 }) [bF,aF,aE,aU]
 ·cases h
theorem nc (a b:Int):yC a b=0↔a=b:=by
 unfold yC;split;·exact⟨fun h=>by simp at h,fun h=>by omega⟩
 ·split;·exact⟨fun h=>by simp at h,fun h=>by omega⟩
  ·exact⟨fun _=>by omega,fun _=>rfl⟩
theorem At (a b:Int):0<yC a b↔b<a:=by
 unfold yC;split;·exact⟨fun h=>by simp at h,fun h=>by omega⟩
 ·split;·exact⟨fun _=>by assumption,fun _=>by simp⟩
  ·exact⟨fun h=>by simp at h,fun h=>by omega⟩
theorem mZ (w e:Pn):m0 w e=true↔e.i=w.i∧e.v=w.v:=by
 unfold m0 Fo;rw[decide_eq_true_eq];split;·rename_i h;rw[nc]at h ⊢;exact⟨fun h2=>⟨h,h2⟩,fun h2=>h2.2⟩
 ·rename_i h;exact⟨fun h2=>absurd h2 h,fun h2=>absurd ((nc _ _).2 h2.1) h⟩
theorem J3 (w e:Pn):vx w e=true↔w.i<e.i∨(w.i=e.i∧w.v<e.v):=by
 unfold vx Fo;rw[decide_eq_true_eq];split;·rename_i h;rw[nc]at h;rw[At];exact⟨fun h2=>.inr ⟨h.symm,h2⟩,fun h2=>h2.elim (fun h3=>by omega) fun h3=>h3.2⟩
 ·rename_i h;rw[nc]at h;rw[At];exact⟨fun h2=>.inl h2,fun h2=>h2.elim id fun h3=>absurd h3.1.symm h⟩
def sx (l:List Pn) (p i:Int):Int×Bool:=match l.find? (m0 ⟨p,i,0⟩) with|some e=>(e.u,true)|none=>(0,false)
theorem aaN (p i u u':Int):m0 ⟨p,i,u⟩=m0 ⟨p,i,u'⟩:=by funext e;rw[q194,mZ,mZ]
theorem Hy (l:List Pn) (p i s:Int):(dk l ⟨p,i,s⟩).2=!((sx l p i).2&&decide (s≤(sx l p i).1)):=by unfold dk sx;rw[aaN p i s 0];cases l.find? (m0 ⟨p,i,0⟩) with|none=>rfl|some x=>show decide (x.u<s)=!(true&&decide (s≤x.u));rw[q264,q194];simp
theorem IJ {l:List Pn}{p i:Int}{j:Nat} (h:j<l.length) (ht:∀e∈l.take j,¬(e.i=p∧e.v=i)) (he:l[j].i=p∧l[j].v=i):sx l p i=(l[j].u,true):=by
 have hf:l.find? (m0 ⟨p,i,0⟩)=some l[j]:=by rw[q167];refine⟨(mZ _ _).2 he,j,h,rfl,fun k hk=>?_⟩;have:=ht l[k] (by rw[q91];exact⟨k,by omega,rfl⟩);rw[←mZ ⟨p,i,0⟩]at this;simpa using this
 unfold sx;rw[hf]
theorem HZ {l:List Pn}{p i:Int} (ht:∀e∈l,¬(e.i=p∧e.v=i)):sx l p i=(0,false):=by
 have hf:l.find? (m0 ⟨p,i,0⟩)=none:=by rw[q181];intro e he hq;exact ht e he ((mZ _ _).1 hq)
 unfold sx;rw[hf]
@[simp] noncomputable def K3:List AV→Option (Prop×AV)|[.agg ys,.pv (.int .u64 p),.pv (.int .u64 i)]=>lx ys fun x=>some (x.ws.length≤1000000000,.aO [.pv (.int .u64 (sx x.ws p i).1),.pv (.bool (sx x.ws p i).2)])|_=>none
theorem Mx:aJ Tryz.prog 12 K3:=by
 intro ys φ r h hφ;unfold K3 at h;split at h
 ·rename_i ys q j;obtain⟨x,rfl,h2⟩:=dU h;clear h;cases h2;obtain⟨c,t,⟨⟨e,p,i,u,h'⟩,ps,vs,sl⟩,cs,ws⟩:=x;have hl:ws.length≤1000000000:=hφ;refine ak ah (by kernel_rfl) (by conv=>lhs;reduce) (by simp) ?_;simp(config := { maxSteps := 3000000 }) [aS];refine aj (fun k:Nat=>k≤ws.length∧∀e∈ws.take k,¬(e.i=q∧e.v=j)) (fun k=>⟨[(1,.pv (.int .u64 q)),(2,.pv (.int .u64 j)),(3,.ptr 3 0),(6,.pv (.int .u64 0)),(7,.pv (.bool false)),(11,.pv (.ro (au ws))),(12,.pv (.int .i64 ws.length)),(13,.pv (.int .i64 (k:Int)))],[(3,.box (aS ⟨c,t,⟨⟨e,p,i,u,h'⟩,ps,vs,sl⟩,cs,ws⟩))]⟩) (fun k=>ws.length-k) [] 0 (by simp) ?_ ?_;·simp[aS]
  ·rintro k ⟨hk,ht⟩;have w2:IntKind.i64.wrap ((k:Int)+1)=(k:Int)+1:=wrap_i64 (by omega);by_cases hlt:k<ws.length
   ·have r1:=bo hlt;by_cases he:ws[k].i=q∧ws[k].v=j;·have hs:=IJ hlt ht he;obtain⟨e1,e2⟩:=he;simp(config := { maxSteps := 3000000 }) [w2,hlt,r1,e1,e2,hs]
    ·have hn:k+1≤ws.length∧∀e∈ws.take (k+1),¬(e.i=q∧e.v=j):=by
      refine⟨by omega,fun e hm=>?_⟩;rw[q62 hlt,q80,q75]at hm;rcases hm with hm|rfl;·exact ht e hm
      ·exact he
     by_cases e1:ws[k].i=q;·have e2:¬ws[k].v=j:=fun h=>he ⟨e1,h⟩;simp(config := { maxSteps := 3000000 }) [w2,hlt,r1,e1,e2,aS];exact⟨k+1,by simpa using hn,by omega,by omega⟩
     ·simp(config := { maxSteps := 3000000 }) [w2,hlt,r1,e1,aS];exact⟨k+1,by simpa using hn,by omega,by omega⟩
   ·rw[List.take_of_length_le (by omega)]at ht;simp(config := { maxSteps := 3000000 }) [hlt,HZ ht]
 ·cases h
theorem IQ:aJ Tryz.prog 11 K3:=by
 intro ys φ r h hφ;unfold K3 at h;split at h
 ·rename_i ys q j;obtain⟨x,rfl,h2⟩:=dU h;clear h;cases h2;obtain⟨c,t,⟨⟨e,p,i,u,h'⟩,ps,vs,sl⟩,cs,ws⟩:=x;have hl:ws.length≤1000000000:=hφ;refine ak ah (by kernel_rfl) (by conv=>lhs;reduce) (by simp) ?_;simp(config := { maxSteps := 3000000 }) [aS];refine aj (fun k:Nat=>k≤ws.length∧∀e∈ws.take k,¬(e.i=q∧e.v=j)) (fun k=>⟨[(1,.pv (.int .u64 q)),(2,.pv (.int .u64 j)),(3,.ptr 3 0),(6,.pv (.int .u64 0)),(7,.pv (.bool false)),(8,.pv (.int .i64 (k:Int)))],[(3,.box (aS ⟨c,t,⟨⟨e,p,i,u,h'⟩,ps,vs,sl⟩,cs,ws⟩))]⟩) (fun k=>ws.length-k) [] 0 (by simp) ?_ ?_;·simp[aS]
  ·rintro k ⟨hk,ht⟩;have w2:IntKind.i64.wrap ((k:Int)+1)=(k:Int)+1:=wrap_i64 (by omega);by_cases hlt:k<ws.length
   ·have r1:=bo hlt;by_cases he:ws[k].i=q∧ws[k].v=j;·have hs:=IJ hlt ht he;obtain⟨e1,e2⟩:=he;simp(config := { maxSteps := 3000000 }) [w2,hlt,r1,e1,e2,hs,aS]
    ·have hn:k+1≤ws.length∧∀e∈ws.take (k+1),¬(e.i=q∧e.v=j):=by
      refine⟨by omega,fun e hm=>?_⟩;rw[q62 hlt,q80,q75]at hm;rcases hm with hm|rfl;·exact ht e hm
      ·exact he
     by_cases e1:ws[k].i=q;·have e2:¬ws[k].v=j:=fun h=>he ⟨e1,h⟩;simp(config := { maxSteps := 3000000 }) [w2,hlt,r1,e1,e2,aS];exact⟨k+1,by simpa using hn,by omega,by omega⟩
     ·simp(config := { maxSteps := 3000000 }) [w2,hlt,r1,e1,aS];exact⟨k+1,by simpa using hn,by omega,by omega⟩
   ·rw[List.take_of_length_le (by omega)]at ht;simp(config := { maxSteps := 3000000 }) [hlt,HZ ht,aS]
 ·cases h
@[simp] def IH:List AV→Option (Prop×AV)|[.agg [.pv (.int .u64 p),.pv (.int .u64 i),.pv (.int .u64 s)],.agg [.pv (.int .u64 p'),.pv (.int .u64 i'),.pv (.int .u64 s')]]=>some (True,.pv (.bool (vx ⟨p,i,s⟩ ⟨p',i',s'⟩)))|_=>none
theorem Ho (w e:Pn):vx w e=(decide (w.i<e.i)||(decide (w.i=e.i)&&decide (w.v<e.v))):=by rw[q194,J3];simp
theorem Ko:aJ Tryz.prog 51 IH:=by
 intro ys φ r h hφ;unfold IH at h;split at h
 ·rename_i p i s p' i' s';cases h;refine ak ah (by kernel_rfl) (by conv=>lhs;reduce) (by simp) ?_;by_cases h1:p<p';·simp(config := { maxSteps := 3000000 }) [Ho,h1]
  ·by_cases h2:p=p'<;>simp(config := { maxSteps := 3000000 }) [Ho,h1,h2]
 ·cases h
@[simp] noncomputable def GdDr:List AV→Option (Prop×AV)|[.agg ys]=>jZ ys fun d=>some (d.ps.length≤100000∧d.vs.length≤100000,.bE 0 [.agg (cellsD d)])|_=>none
@[simp] noncomputable def MQ:List AV→Option (Prop×AV)|[.agg ys,.agg zs,.pv (.int .u64 n),.pv (.int .u64 s)]=>jZ ys fun d=>fo zs fun r=>some (XP ⟨d.l,d.ps,d.vs,d.sl,r,n,s⟩∧0≤r.k,.aO [.agg (cellsD (pE (bh ⟨d.l,d.ps,d.vs,d.sl,r,n,s⟩).1)),.pv (.int .i64 (bh ⟨d.l,d.ps,d.vs,d.sl,r,n,s⟩).2)])|_=>none
theorem Rj:aJ Tryz.prog 28 MQ:=by
 intro ys φ r h hφ;unfold MQ at h;split at h
 ·rename_i ys zs n s;obtain⟨d,rfl,h1⟩:=eo h;obtain⟨r,rfl,h2⟩:=cL h1;clear h h1;cases h2;obtain⟨⟨o1,o2,o3,o4,o5,o6,o7,o8⟩,hk⟩:=hφ;obtain⟨⟨e,p,i,u,h'⟩,ps,vs,sl⟩:=d;obtain⟨k,rp,ri,rs,re,ru,rv,rc,rz,rm,rn,rt⟩:=r;have o1:cy e:=o1;have o2:ps.length<50:=o2;have o3:vs.length≤100000:=o3;have o4:(∀e∈ps,ki e)=True:=eq_true o4;have o5:(∀v∈vs,lg v)=True:=eq_true o5;have o6:cy rc:=o6;have o7:cy s:=o7;have o8:lg (lz ⟨⟨e,p,i,u,h'⟩,ps,vs,sl,⟨k,rp,ri,rs,re,ru,rv,rc,rz,rm,rn,rt⟩,n,0⟩):=o8;refine ak (ag Bl (ag QY (ag JD ah))) (by kernel_rfl) (by conv=>lhs;reduce) (by simp) ?_;apply af;·simp(config := { maxSteps := 3000000 }) [cellsD,aP];exact⟨rfl,rfl⟩
  cases hR:bn ⟨k,rp,ri,rs,re,ru,rv,rc,rz,rm,rn,rt⟩ with|false=>
   have hb:bh ⟨⟨e,p,i,u,h'⟩,ps,vs,sl,⟨k,rp,ri,rs,re,ru,rv,rc,rz,rm,rn,rt⟩,n,s⟩=_:=Ki hR;rw[hb];rw[aL];apply af;·simp(config := { maxSteps := 3000000 }) [hR];exact⟨rfl,rfl⟩
   apply bJ rfl;simp(config := { maxSteps := 3000000 }) [pE,cellsD,aF,aE]|true=>
   apply af;·simp(config := { maxSteps := 3000000 }) [hR];exact⟨rfl,rfl⟩
   apply af;·simp(config := { maxSteps := 3000000 });exact⟨rfl,rfl⟩
   by_cases hk1:k≤4∨k=7
   ·have ha:=H0 (a:=⟨⟨e,p,i,u,h'⟩,ps,vs,sl,⟨k,rp,ri,rs,re,ru,rv,rc,rz,rm,rn,rt⟩,n,s⟩) hR hk1;have hh:kg ⟨⟨e,p,i,u,h'⟩,ps,vs,sl,⟨k,rp,ri,rs,re,ru,rv,rc,rz,rm,rn,rt⟩,n,s⟩=kg ⟨⟨e,p,i,u,h'⟩,ps,vs,sl,⟨k,rp,ri,rs,re,ru,rv,rc,rz,rm,rn,rt⟩,n,0⟩:=rfl;rw[hh]at ha;generalize bh ⟨⟨e,p,i,u,h'⟩,ps,vs,sl,⟨k,rp,ri,rs,re,ru,rv,rc,rz,rm,rn,rt⟩,n,s⟩=q at*;generalize hx:kg ⟨⟨e,p,i,u,h'⟩,ps,vs,sl,⟨k,rp,ri,rs,re,ru,rv,rc,rz,rm,rn,rt⟩,n,0⟩=x at*;obtain⟨⟨⟨xe,xp,xi,xu,xh⟩,xps,xvs,xsl⟩,b⟩:=x;rw[aL,aL];apply og
    ·by_cases h4:k≤4;·simp(config := { maxSteps := 3000000 }) [h4];exact⟨rfl,rfl⟩
     ·have h7:k=7:=by omega
      simp(config := { maxSteps := 3000000 }) [h4,h7]
    apply bJ rfl;apply af;·simp(config := { maxSteps := 3000000 }) [o1,o3,o5,o8,hx,cellsD,aF,aE];exact⟨rfl,rfl⟩
    cases b with|false=>rw[if_neg (by simp)]at ha;obtain⟨ha1,ha2⟩:=q259 ha;rw[ha1,ha2];simp(config := { maxSteps := 3000000 }) [pE,cellsD,aF,aE]|true=>cases sl with|true=>rw[if_neg (by simp)]at ha;obtain⟨ha1,ha2⟩:=q259 ha;rw[ha1,ha2];simp(config := { maxSteps := 3000000 }) [pE,cellsD,aF,aE]|false=>rw[if_pos ⟨rfl,rfl⟩]at ha;obtain⟨ha1,ha2⟩:=q259 ha;rw[ha1,ha2];simp(config := { maxSteps := 3000000 }) [pE,cellsD,aF,aE]
   ·have ha:=EX (a:=⟨⟨e,p,i,u,h'⟩,ps,vs,sl,⟨k,rp,ri,rs,re,ru,rv,rc,rz,rm,rn,rt⟩,n,s⟩) hR hk1;generalize bh ⟨⟨e,p,i,u,h'⟩,ps,vs,sl,⟨k,rp,ri,rs,re,ru,rv,rc,rz,rm,rn,rt⟩,n,s⟩=q at*;generalize hx:gV ⟨⟨e,p,i,u,h'⟩,ps,vs,sl,⟨k,rp,ri,rs,re,ru,rv,rc,rz,rm,rn,rt⟩,n,s⟩=x at*;obtain⟨⟨⟨xe,xp,xi,xu,xh⟩,xps,xvs,xsl⟩,b⟩:=x;have h4:¬k≤4:=fun h=>hk1 (Or.inl h);have h7:¬k=7:=fun h=>hk1 (Or.inr h);rw[aL,aL];apply og;·simp(config := { maxSteps := 3000000 }) [h4,h7];exact⟨rfl,rfl⟩
    apply cM rfl;apply og;·simp(config := { maxSteps := 3000000 }) [o2,o3,o4,o5,o6,o7,hx,cellsD,aF,aE];exact⟨rfl,rfl⟩
    cases b with|false=>rw[if_neg (by simp)]at ha;obtain⟨ha1,ha2⟩:=q259 ha;rw[ha1,ha2];simp(config := { maxSteps := 3000000 }) [pE,cellsD,aF,aE]|true=>rw[if_pos rfl]at ha;obtain⟨ha1,ha2⟩:=q259 ha;rw[ha1,ha2];simp(config := { maxSteps := 3000000 }) [pE,cellsD,aF,aE]
 ·cases h
def mb (l:List Pn) (w:Pn):Bool:=l.any (m0 w)
def sN (l:List Pn) (w:Pn):Nat:=if mb l w=true then l.findIdx (m0 w) else l.findIdx (vx w)
def skW (l:List Pn) (w:Pn):Nat:=if mb l w=true then 1 else 0
theorem KO (l:List Pn) (w:Pn):(dk l w).1=l.take (sN l w)++w::l.drop (sN l w+skW l w):=by unfold sN skW;cases ha:mb l w with|true=>obtain⟨hi,hn⟩:=zB ha;rw[hn,if_pos rfl,if_pos rfl];exact List.set_eq_take_append_cons_drop.trans (if_pos hi)|false=>rw[vZ ha,if_neg (by simp),if_neg (by simp)];rfl
theorem YM (l:List Pn) (w:Pn):sN l w≤l.length:=by unfold sN;split<;>exact q294
def ze (l:List Pn) (w:Pn) (i:Nat):List Pn:=if sN l w<i then l.take (sN l w)++w::(l.take i).drop (sN l w+skW l w) else l.take i
theorem KQ {l:List Pn}{w:Pn}{i:Nat} (h:i<l.length):(mb l w=true→i<sN l w→m0 w l[i]=false)∧(mb l w=true→i=sN l w→m0 w l[i]=true)∧(mb l w=false→m0 w l[i]=false∧(i<sN l w→vx w l[i]=false)∧(i=sN l w→vx w l[i]=true))∧(ze l w (i+1)=if i<sN l w then l.take i++[l[i]] else if i=sN l w then(if mb l w=true then l.take i++[w] else l.take i++[w]++[l[i]]) else ze l w i++[l[i]]):=by
 refine⟨fun ha hi=>?_,fun ha hi=>?_,fun ha=>⟨?_,fun hi=>?_,fun hi=>?_⟩,?_⟩;·unfold sN at hi;rw[if_pos ha]at hi;simpa using q210 hi
 ·unfold sN at hi;rw[if_pos ha]at hi;subst hi;exact List.findIdx_getElem
 ·simpa using q141.1 ha l[i] (q82 h)
 ·unfold sN at hi;rw[if_neg (by simp[ha])]at hi;simpa using q210 hi
 ·unfold sN at hi;rw[if_neg (by simp[ha])]at hi;subst hi;exact List.findIdx_getElem
 ·have htk:l.take (i+1)=l.take i++[l[i]]:=q62 h;have hlen:(l.take i).length=i:=by rw[q67];omega
  rcases q212 i (sN l w) with h1|h1|h1;·rw[if_pos h1];unfold ze;rw[if_neg (by omega),htk]
  ·rw[if_neg (by omega),if_pos h1];unfold ze;rw[if_pos (by omega),htk,←h1];unfold skW;split;·rw[q177 (by simp;omega)]
   ·rw[q190 (by omega),q177 (by omega)];simp
  ·rw[if_neg (by omega),if_neg (by omega)];unfold ze;rw[if_pos (by omega),if_pos h1,htk,q190 (by unfold skW;split<;>omega)];simp
@[simp] noncomputable def Io:List AV→Option (Prop×AV)|[.pv (.ro a),.agg [.pv (.int .u64 p),.pv (.int .u64 i),.pv (.int .u64 s)]]=>(dec rowP a).map fun l=>(l.length≤1000000,.fr 85 (au (dk l ⟨p,i,s⟩).1))|_=>none
theorem Q1:aJ Tryz.prog 26 Io:=by
 intro ys φ r h hφ;unfold Io at h;split at h
 ·rename_i ra wp wi wu;obtain⟨l,hl,h⟩:=q0.1 h;cases h;cases az hl;have hl6:l.length≤1000000:=hφ;refine ak (ag Ko ah) (by kernel_rfl) (by conv=>lhs;reduce) (by simp) ?_;simp(config := { maxSteps := 3000000 });obtain⟨w,hw⟩:∃w:Pn,w=⟨wp,wi,wu⟩:=⟨_,rfl⟩;rw[←hw];have hst:∀e:Pn,m0 w e=(decide (e.i=wp)&&decide (e.v=wi)):=by intro e;rw[q194,mZ,hw];simp
  refine aj (fun i:Nat=>i≤l.length) (fun i=>⟨[(0,.pv (.ro (au l))),(3,.ptr 3 0),(4,.own 4),(5,.own 5),(6,.pv (.bool (mb (l.take i) w))),(7,.pv (.int .i64 (i:Int)))],[(3,.box [.pv (.int .u64 wp),.pv (.int .u64 wi),.pv (.int .u64 wu)]),(4,.arr 85 []),(5,.arr 85 [])]⟩) (fun i=>l.length-i) [] 0 (by simp) ?_ ?_;·simp[mb]
  ·intro i hi;have w2:IntKind.i64.wrap ((i:Int)+1)=(i:Int)+1:=wrap_i64 (by omega);by_cases hlt:i<l.length
   ·have r1:=bo hlt;have ht:mb (l.take (i+1)) w=(mb (l.take i) w||(decide (l[i].i=wp)&&decide (l[i].v=wi))):=by unfold mb;rw[q62 hlt,q225,←hst];simp
    cases ha:mb (l.take i) w with|true=>simp(config := { maxSteps := 3000000 }) [w2,hlt,r1,ha];exact⟨i+1,by omega,⟨by rw[ht,ha];rfl,by omega⟩,by omega⟩|false=>
     by_cases e1:l[i].i=wp
     ·by_cases e2:l[i].v=wi;·simp(config := { maxSteps := 3000000 }) [w2,hlt,r1,ha,e1,e2];exact⟨i+1,by omega,⟨by rw[ht,ha];simp[e1,e2],by omega⟩,by omega⟩
      ·simp(config := { maxSteps := 3000000 }) [w2,hlt,r1,ha,e1,e2];exact⟨i+1,by omega,⟨by rw[ht,ha];simp[e1,e2],by omega⟩,by omega⟩
     ·simp(config := { maxSteps := 3000000 }) [w2,hlt,r1,ha,e1];exact⟨i+1,by omega,⟨by rw[ht,ha];simp[e1],by omega⟩,by omega⟩
   ·rw[List.take_of_length_le (by omega)];simp(config := { maxSteps := 3000000 }) [hlt];have hla:∀m:List Pn,au m++[[PV.int .u64 wp,.int .u64 wi,.int .u64 wu]]=au (m++[w]):=fun m=>by rw[bQ,hw];rfl
    have hlb:∀(m:List Pn) (e:Pn),au m++[[PV.int .u64 e.i,.int .u64 e.v,.int .u64 e.u]]=au (m++[e]):=fun m e=>by rw[bQ];rfl
    refine aj (fun i:Nat=>i≤l.length) (fun i=>⟨[(0,.pv (.ro (au l))),(3,.ptr 3 0),(4,.own 4),(5,.own 5),(6,.pv (.bool (mb l w))),(8,.pv (.bool (decide (sN l w<i)))),(9,.pv (.int .i64 (i:Int)))],[(3,.box [.pv (.int .u64 wp),.pv (.int .u64 wi),.pv (.int .u64 wu)]),(4,.arr 85 []),(5,.arr 85 (au (ze l w i)))]⟩) (fun i=>l.length-i) [] 0 (by simp) ?_ ?_;·simp[ze]
    ·intro i hi;have w2:IntKind.i64.wrap ((i:Int)+1)=(i:Int)+1:=wrap_i64 (by omega);by_cases hlt:i<l.length
     ·have r1:=bo hlt;have hwl:(ze l w i).length≤i+1:=by unfold ze;split<;>simp<;>omega
      obtain⟨s1,s2,s3,s4⟩:=KQ hlt (w:=w);have hv':=hst l[i];rcases q212 i (sN l w) with h|h|h
      ·have c1:¬sN l w<i:=by omega
       have hwi:ze l w i=l.take i:=by unfold ze;rw[if_neg c1]
       have s4:ze l w (i+1)=ze l w i++[l[i]]:=by rw[s4,if_pos h,hwi]
       cases hany:mb l w with|true=>
        rw[s1 hany h]at hv';by_cases e1:l[i].i=wp
        ·have e2:¬l[i].v=wi:=fun e2=>by rw[e1,e2]at hv';simp at hv'
         have hlc:∀m:List Pn,au m++[[PV.int .u64 wp,.int .u64 l[i].v,.int .u64 l[i].u]]=au (m++[l[i]]):=fun m=>by rw[←e1];exact hlb m _
         simp(config := { maxSteps := 3000000 }) [w2,hlt,r1,hany,c1,e1,e2,hlc,ax];exact⟨⟨by omega,by omega⟩,i+1,by omega,⟨⟨by omega,by omega⟩,by rw[s4]⟩,by omega⟩
        ·simp(config := { maxSteps := 3000000 }) [w2,hlt,r1,hany,c1,e1,hlb,ax];exact⟨⟨by omega,by omega⟩,i+1,by omega,⟨⟨by omega,by omega⟩,by rw[s4]⟩,by omega⟩|false=>
        have hg:vx ⟨wp,wi,wu⟩ ⟨l[i].i,l[i].v,l[i].u⟩=false:=by rw[←hw];exact(s3 hany).2.1 h
        simp(config := { maxSteps := 3000000 }) [w2,hlt,r1,hany,c1,hg,hlb,ax];exact⟨⟨by omega,by omega⟩,i+1,by omega,⟨⟨by omega,by omega⟩,by rw[s4]⟩,by omega⟩
      ·have c1:¬sN l w<i:=by omega
       have hwi:ze l w i=l.take i:=by unfold ze;rw[if_neg c1]
       rw[if_neg (by omega),if_pos h,←hwi]at s4;cases hany:mb l w with|true=>rw[s2 hany h]at hv';simp only[Bool.true_eq,q73,decide_eq_true_eq]at hv';obtain⟨e1,e2⟩:=hv';rw[if_pos hany]at s4;simp(config := { maxSteps := 3000000 }) [w2,hlt,r1,hany,c1,e1,e2,hla,ax];exact⟨⟨by omega,by omega⟩,i+1,by omega,⟨⟨by omega,by omega⟩,by rw[s4]⟩,by omega⟩|false=>
        have hg:vx ⟨wp,wi,wu⟩ ⟨l[i].i,l[i].v,l[i].u⟩=true:=by rw[←hw];exact(s3 hany).2.2 h
        rw[if_neg (by simp[hany])]at s4;simp(config := { maxSteps := 3000000 }) [w2,hlt,r1,hany,c1,hg,hla,hlb,ax];exact⟨⟨by omega,by omega⟩,⟨by omega,by omega⟩,i+1,by omega,⟨⟨by omega,by omega⟩,by rw[s4];simp⟩,by omega⟩
      ·rw[if_neg (by omega),if_neg (by omega)]at s4;cases hany:mb l w with|true=>simp(config := { maxSteps := 3000000 }) [w2,hlt,r1,hany,h,hlb,ax];exact⟨⟨by omega,by omega⟩,i+1,by omega,⟨⟨by omega,by omega⟩,by rw[s4]⟩,by omega⟩|false=>simp(config := { maxSteps := 3000000 }) [w2,hlt,r1,hany,h,hlb,ax];exact⟨⟨by omega,by omega⟩,i+1,by omega,⟨⟨by omega,by omega⟩,by rw[s4]⟩,by omega⟩
     ·have hil:i=l.length:=by omega
      subst hil;have hnt:=KO l w;have hal:=YM l w;by_cases h:sN l w<l.length
      ·have hwe:ze l w l.length=(dk l w).1:=by rw[hnt];unfold ze;rw[if_pos h,q104]
       simp(config := { maxSteps := 3000000 }) [hlt,h,hwe]
      ·have hwe:ze l w l.length=l:=by unfold ze;rw[if_neg h,q104]
       have hne:l++[w]=(dk l w).1:=by rw[hnt,List.take_of_length_le (by omega),q177 (by omega)]
       simp(config := { maxSteps := 3000000 }) [hlt,h,hwe,hla,hne,ax];omega
 ·cases h
@[simp] noncomputable def MD:List AV→Option (Prop×AV)|[.pv (.ro a),.agg ys,.pv (.int .u64 n)]=>(dec ff a).bind fun cs=>fo ys fun r=>some (cs.length≤100000,.aO [.pv (.ro (aM (gU cs r n).1)),.pv (.int .i64 (gU cs r n).2)])|_=>none
theorem Qt:aJ Tryz.prog 27 MD:=by
 intro ys φ r h hφ;unfold MD at h;split at h
 ·rename_i ra zs n;obtain⟨cs,hcs,h1⟩:=q63.1 h;obtain⟨r,rfl,h2⟩:=cL h1;clear h h1;cases h2;cases aV hcs;obtain⟨k,rp,ri,rs,re,ru,rv,rc,rz,rm,rn,rt⟩:=r;have h5:cs.length≤100000:=hφ;refine ak (ag KP (ag PQ (ag Pr ah))) (by kernel_rfl) (by conv=>lhs;reduce) (by simp) ?_;by_cases k8:k=8;·simp(config := { maxSteps := 3000000 }) [aP,gU,k8]
  ·by_cases k9:k=9;·simp(config := { maxSteps := 3000000 }) [aP,h5,gU,k9,aU]
   ·by_cases k10:k=10;·simp(config := { maxSteps := 3000000 }) [aP,h5,gU,k10,aU]
    ·by_cases k11:k=11;·simp(config := { maxSteps := 3000000 }) [aP,h5,gU,k11,aU]
     ·simp(config := { maxSteps := 3000000 }) [aP,gU,k8,k9,k10,k11]
 ·cases h
theorem CH {x:Sc}{r:Rc}{s:Int} (h:bn r=false∨x.t=jI∨(dk x.ws (jh r)).2=false):dn x r s=(x,220):=by
 have hd:(ib x r s).2=false:=by
  unfold ib;rcases h with h|h|h;·rw[if_neg (fun h2=>by rw[h]at h2;exact absurd h2.1 (by simp))]
  ·rw[if_neg (fun h2=>h2.2 h)]
  ·split;·rw[if_neg (by simp[h])]
   ·rfl
 unfold dn;rw[if_neg (by simp[hd])]
theorem RN {x:Sc}{r:Rc}{s:Int} (h1:bn r=true) (h2:x.t≠jI) (h3:(dk x.ws (jh r)).2=true) (h4:x.c=0):dn x r s=if(gU x.cs r (x.t+1)).2=0 then(⟨x.c,x.t+1,x.d,(gU x.cs r (x.t+1)).1,(dk x.ws (jh r)).1⟩,0) else(x,220):=by
 have hd:ib x r s=(⟨x.c,x.t+1,x.d,(gU x.cs r (x.t+1)).1,(dk x.ws (jh r)).1⟩,decide ((gU x.cs r (x.t+1)).2=0)):=by unfold ib;rw[if_pos ⟨h1,h2⟩,if_pos h3,if_pos h4]
 unfold dn;rw[hd];simp only[decide_eq_true_eq]
theorem RK {x:Sc}{r:Rc}{s:Int} (h1:bn r=true) (h2:x.t≠jI) (h3:(dk x.ws (jh r)).2=true) (h4:x.c≠0):dn x r s=if(bh ⟨x.d.l,x.d.ps,x.d.vs,x.d.sl,r,x.t+1,s⟩).2=0 then(⟨x.c,x.t+1,pE (bh ⟨x.d.l,x.d.ps,x.d.vs,x.d.sl,r,x.t+1,s⟩).1,x.cs,(dk x.ws (jh r)).1⟩,0) else(x,220):=by
 have hd:ib x r s=(⟨x.c,x.t+1,pE (bh ⟨x.d.l,x.d.ps,x.d.vs,x.d.sl,r,x.t+1,s⟩).1,x.cs,(dk x.ws (jh r)).1⟩,decide ((bh ⟨x.d.l,x.d.ps,x.d.vs,x.d.sl,r,x.t+1,s⟩).2=0)):=by unfold ib;rw[if_pos ⟨h1,h2⟩,if_pos h3,if_neg h4]
 unfold dn;rw[hd];simp only[decide_eq_true_eq]
@[simp] noncomputable def Og:List AV→Option (Prop×AV)|[.agg xs,.agg ys,.pv (.int .u64 s)]=>lx xs fun x=>fo ys fun r=>some (uD x r s∧0≤r.k,.aO [.agg (aS (dn x r s).1),.pv (.int .i64 (dn x r s).2)])|_=>none
theorem Ra:aJ Tryz.prog 9 Og:=by
 intro ys φ r h hφ;unfold Og at h;split at h
 ·rename_i xs zs s;obtain⟨x,rfl,h1⟩:=dU h;obtain⟨r,rfl,h2⟩:=cL h1;clear h h1;cases h2;obtain⟨⟨o1,o2,o3,o4,o5,o6,o7,o8,o9,o10,o11⟩,hk⟩:=hφ;obtain⟨c,t,⟨⟨e,p,i,u,h'⟩,ps,vs,sl⟩,cs,ws⟩:=x;obtain⟨k,rp,ri,rs,re,ru,rv,rc,rz,rm,rn,rt⟩:=r;have o1:cy t:=o1;have o2:ws.length≤100000:=o2;have o2':ws.length≤1000000:=by omega
  have o2'':ws.length≤1000000000:=by omega
  have o3:cs.length≤100000:=o3;have hk:0≤k:=hk;refine ak (ag IQ (ag Bl (ag Q1 (ag Qt (ag Rj ah))))) (by kernel_rfl) (by conv=>lhs;reduce) (by simp) ?_;have hns:=Hy ws rp ri rs;generalize hq:sx ws rp ri=q at hns;obtain⟨was,ok⟩:=q;apply af;·simp(config := { maxSteps := 3000000 }) [aS,aP];exact⟨rfl,rfl⟩
  apply af;·simp(config := { maxSteps := 3000000 }) [o2'',hq];exact⟨rfl,rfl⟩
  cases hR:bn ⟨k,rp,ri,rs,re,ru,rv,rc,rz,rm,rn,rt⟩ with|false=>
   have ha:dn ⟨c,t,⟨⟨e,p,i,u,h'⟩,ps,vs,sl⟩,cs,ws⟩ ⟨k,rp,ri,rs,re,ru,rv,rc,rz,rm,rn,rt⟩ s=_:=CH (.inl hR);rw[ha];refine bA (fun _=>False) ?_ (fun _ h=>h.elim);apply af;·simp(config := { maxSteps := 3000000 }) [hR];exact⟨rfl,rfl⟩
   apply bJ rfl;simp(config := { maxSteps := 3000000 }) [aS]|true=>
   by_cases ht:t=18446744073709551615
   ·have ha:dn ⟨c,t,⟨⟨e,p,i,u,h'⟩,ps,vs,sl⟩,cs,ws⟩ ⟨k,rp,ri,rs,re,ru,rv,rc,rz,rm,rn,rt⟩ s=_:=CH (.inr (.inl ht));rw[ha];refine bA (fun _=>False) ?_ (fun _ h=>h.elim);apply af;·simp(config := { maxSteps := 3000000 }) [hR,ht];exact⟨rfl,rfl⟩
    apply bJ rfl;simp(config := { maxSteps := 3000000 }) [aS,ht]
   ·cases hb:(dk ws ⟨rp,ri,rs⟩).2 with|false=>
     have ha:dn ⟨c,t,⟨⟨e,p,i,u,h'⟩,ps,vs,sl⟩,cs,ws⟩ ⟨k,rp,ri,rs,re,ru,rv,rc,rz,rm,rn,rt⟩ s=_:=CH (.inr (.inr hb));rw[hb]at hns;have hns:ok=true∧rs≤was:=by simpa using hns.symm
     obtain⟨rfl,hle⟩:=hns;rw[ha];refine bA (fun _=>False) ?_ (fun _ h=>h.elim);apply af;·simp(config := { maxSteps := 3000000 }) [hR,ht,hle];exact⟨rfl,rfl⟩
     apply bJ rfl;simp(config := { maxSteps := 3000000 }) [aS]|true=>
     rw[hb]at hns;have hg:(ok=false∧True)∨(ok=true∧¬rs≤was):=by cases ok with|false=>exact .inl ⟨rfl,trivial⟩|true=>exact .inr ⟨rfl,by simpa using hns.symm⟩
     have w1:IntKind.u64.wrap (t+1)=t+1:=wrap_u64 (by have:=o1.1;have:=o1.2;omega);have n1:0≤t+1:=by have:=o1.1;omega
     have n2:t+1≤18446744073709551615:=by have:=o1.2;omega
     have hok:XP ⟨⟨e,p,i,u,h'⟩,ps,vs,sl,⟨k,rp,ri,rs,re,ru,rv,rc,rz,rm,rn,rt⟩,t+1,s⟩:=⟨o4,o5,o6,o7,o8,o9,o10,n1,n2,o11.1,o11.2⟩;generalize hx:dk ws ⟨rp,ri,rs⟩=y at*;obtain⟨ws',b'⟩:=y;have hx1:(dk ws ⟨rp,ri,rs⟩).1=ws':=by rw[hx]
     rcases hg with⟨rfl,hle⟩|⟨rfl,hle⟩;all_goals
      rw[aL];apply af;·simp(config := { maxSteps := 3000000 }) [hR,ht,hle];exact⟨rfl,rfl⟩
      apply cM rfl;apply af;·simp(config := { maxSteps := 3000000 }) [w1,o2',hx,aF];exact⟨rfl,rfl⟩
      apply af;·simp(config := { maxSteps := 3000000 });exact⟨rfl,rfl⟩
      by_cases hc:c=0
      ·have ha:=RN (x:=⟨c,t,⟨⟨e,p,i,u,h'⟩,ps,vs,sl⟩,cs,ws⟩) (r:=⟨k,rp,ri,rs,re,ru,rv,rc,rz,rm,rn,rt⟩) (s:=s) hR ht (by rw[show jh ⟨k,rp,ri,rs,re,ru,rv,rc,rz,rm,rn,rt⟩=⟨rp,ri,rs⟩ from rfl,hx];exact hb) hc;rw[show jh ⟨k,rp,ri,rs,re,ru,rv,rc,rz,rm,rn,rt⟩=⟨rp,ri,rs⟩ from rfl,hx1]at ha;generalize hY:gU cs ⟨k,rp,ri,rs,re,ru,rv,rc,rz,rm,rn,rt⟩ (t+1)=z at ha;obtain⟨cs',e1⟩:=z;rw[ha];rw[aL];apply af;·simp(config := { maxSteps := 3000000 }) [hc];exact⟨rfl,rfl⟩
       apply bJ rfl;apply og;·simp(config := { maxSteps := 3000000 }) [o3,hY,aP];exact⟨rfl,rfl⟩
       by_cases he:e1=0
       ·rw[aL];apply af;·simp(config := { maxSteps := 3000000 }) [he];exact⟨rfl,rfl⟩
        apply cM rfl;simp(config := { maxSteps := 3000000 }) [he,hc,aS,aF]
       ·refine bA (fun _=>False) ?_ (fun _ h=>h.elim);apply af;·simp(config := { maxSteps := 3000000 }) [he];exact⟨rfl,rfl⟩
        apply bJ rfl;simp(config := { maxSteps := 3000000 }) [he,hc,aS]
      ·have ha:=RK (x:=⟨c,t,⟨⟨e,p,i,u,h'⟩,ps,vs,sl⟩,cs,ws⟩) (r:=⟨k,rp,ri,rs,re,ru,rv,rc,rz,rm,rn,rt⟩) (s:=s) hR ht (by rw[show jh ⟨k,rp,ri,rs,re,ru,rv,rc,rz,rm,rn,rt⟩=⟨rp,ri,rs⟩ from rfl,hx];exact hb) hc;rw[show jh ⟨k,rp,ri,rs,re,ru,rv,rc,rz,rm,rn,rt⟩=⟨rp,ri,rs⟩ from rfl,hx1]at ha;generalize hA:bh ⟨⟨e,p,i,u,h'⟩,ps,vs,sl,⟨k,rp,ri,rs,re,ru,rv,rc,rz,rm,rn,rt⟩,t+1,s⟩=z at ha;obtain⟨⟨⟨xe,xp,xi,xu,xh⟩,xps,xvs,xsl,ar,an,asl⟩,e2⟩:=z;rw[ha];rw[aL];apply af;·simp(config := { maxSteps := 3000000 }) [hc];exact⟨rfl,rfl⟩
       apply cM rfl;apply og;·simp(config := { maxSteps := 3000000 }) [hok,hk,hA,pE,cellsD,aP,aF,aE];exact⟨rfl,rfl⟩
       by_cases he:e2=0
       ·rw[aL];apply af;·simp(config := { maxSteps := 3000000 }) [he];exact⟨rfl,rfl⟩
        apply cM rfl;simp(config := { maxSteps := 3000000 }) [he,aS,pE,aF]
       ·refine bA (fun _=>False) ?_ (fun _ h=>h.elim);apply af;·simp(config := { maxSteps := 3000000 }) [he];exact⟨rfl,rfl⟩
        apply bJ rfl;simp(config := { maxSteps := 3000000 }) [he,aS]
 ·cases h
@[simp] noncomputable def GdS:List AV→Option (Prop×AV)|[.agg ys]=>lx ys fun x=>some (x.d.ps.length≤100000∧x.d.vs.length≤100000∧x.cs.length≤100000∧x.ws.length≤100000,.agg (bF 162 144 82 85 x))|_=>none
theorem c_dS:aJ Tryz.prog 8 GdS:=by
 intro ys φ r h hφ;unfold GdS at h;split at h
 ·obtain⟨x,rfl,h2⟩:=dU h;clear h;cases h2;obtain⟨c,t,⟨⟨e,p,i,u,h'⟩,ps,vs,sl⟩,cs,ws⟩:=x;obtain⟨h1,h2,h3,h4⟩:=hφ;have h1:ps.length≤100000:=h1;have h2:vs.length≤100000:=h2;have h3:cs.length≤100000:=h3;have h4:ws.length≤100000:=h4;have hi1:(Tryz.prog.info? 82).isSome=true:=by kernel_rfl
  have hi2:(Tryz.prog.info? 85).isSome=true:=by kernel_rfl
  refine ak (ag c_dD ah) (by kernel_rfl) (by conv=>lhs;reduce) (by simp) ?_;apply af;·simp(config := { maxSteps := 3000000 }) [aS,cellsD,h1,h2];exact⟨rfl,rfl⟩
  apply af;·simp(config := { maxSteps := 3000000 }) [cellsD,h1,h2];exact⟨rfl,rfl⟩
  rw[aL];apply af;·simp(config := { maxSteps := 3000000 });exact⟨rfl,rfl⟩
  rw[aW];refine aj (fun k:Nat=>k≤cs.length) (fun k=>⟨[(1,.ptr 1 0),(2,.ptr 2 0),(3,.ptr 3 0),(4,.pv (.int .i64 (k:Int)))],[(1,.box [.pv (.int .u64 c),.pv (.int .u64 t),.pv (.int .u64 e),.pv (.int .u64 p),.pv (.int .u64 i),.pv (.int .u64 u),.pv (.bool h'),.pv (.ro (au ps)),.pv (.ro (aH vs)),.pv (.bool sl),.pv (.ro (aM cs)),.pv (.ro (au ws))]),(2,.box [.pv (.int .u64 0),.pv (.int .u64 0),.pv (.int .u64 0),.pv (.int .u64 0),.pv (.int .u64 0),.pv (.int .u64 0),.pv (.bool false),.pv .nil,.pv .nil,.pv (.bool false),.pv .nil,.pv .nil]),(3,.box [.pv (.int .u64 c),.pv (.int .u64 t),.pv (.int .u64 e),.pv (.int .u64 p),.pv (.int .u64 i),.pv (.int .u64 u),.pv (.bool h'),.own 5000013,.own 6000013,.pv (.bool sl),if k=0 then .pv .nil else .own 38,.pv .nil]),(5000013,.arr 162 (au ps)),(6000013,.arr 144 (aH vs))]++if k=0 then[] else[(38,.arr 82 (aM (cs.take k)))]⟩) (fun k=>cs.length-k) [] 0 (by simp) ?_ ?_;·simp
  ·intro k hk;have w2:IntKind.i64.wrap ((k:Int)+1)=(k:Int)+1:=wrap_i64 (by omega);rw[jt];dsimp only;by_cases hlt:k<cs.length
   ·have r1:=cA hlt;have hap:∀m:List En,aM m++[[PV.str cs[k].n,.int .u64 cs[k].i]]=aM (m++[cs[k]]):=fun m=>by rw[dr];rfl
    have htk:cs.take (k+1)=cs.take k++[cs[k]]:=q62 hlt;by_cases k0:k=0
    ·subst k0;have r0:rowAt (aM cs) 0=[PV.str cs[0].n,.int .u64 cs[0].i]:=by simpa using cA hlt
     have t1:cs.take 1=[cs[0]]:=by simpa using htk
     simp(config := { maxSteps := 3000000 }) [hlt,r0,ax];refine⟨1,by omega,?_,by omega⟩;simp(config := { maxSteps := 3000000 }) [t1];exact⟨wrap_i64 (by omega),rfl⟩
    ·simp(config := { maxSteps := 3000000 }) [w2,hlt,r1,k0,hap,ax];refine⟨⟨by omega,by omega⟩,k+1,by omega,?_,by omega⟩;simp(config := { maxSteps := 3000000 })
   ·have hke:k=cs.length:=by omega
    subst hke;rw[q104];by_cases hcs:cs.length=0;all_goals
     simp(config := { maxSteps := 3000000 }) [hlt,hcs];refine aj (fun k:Nat=>k≤ws.length) (fun k=>⟨[(1,.ptr 1 0),(2,.ptr 2 0),(3,.ptr 3 0),(5,.pv (.int .i64 (k:Int)))],[(1,.box [.pv (.int .u64 c),.pv (.int .u64 t),.pv (.int .u64 e),.pv (.int .u64 p),.pv (.int .u64 i),.pv (.int .u64 u),.pv (.bool h'),.pv (.ro (au ps)),.pv (.ro (aH vs)),.pv (.bool sl),.pv (.ro (aM cs)),.pv (.ro (au ws))]),(2,.box [.pv (.int .u64 0),.pv (.int .u64 0),.pv (.int .u64 0),.pv (.int .u64 0),.pv (.int .u64 0),.pv (.int .u64 0),.pv (.bool false),.pv .nil,.pv .nil,.pv (.bool false),.pv .nil,.pv .nil]),(3,.box [.pv (.int .u64 c),.pv (.int .u64 t),.pv (.int .u64 e),.pv (.int .u64 p),.pv (.int .u64 i),.pv (.int .u64 u),.pv (.bool h'),.own 5000013,.own 6000013,.pv (.bool sl),if cs.length=0 then .pv .nil else .own 38,if k=0 then .pv .nil else .own 62]),(5000013,.arr 162 (au ps)),(6000013,.arr 144 (aH vs))]++((if cs.length=0 then[] else[(38,.arr 82 (aM cs))])++if k=0 then[] else[(62,.arr 85 (au (ws.take k)))])⟩) (fun k=>ws.length-k) [] 0 (by simp) ?_ ?_;·simp[hcs]
     ·intro k hk;have w2:IntKind.i64.wrap ((k:Int)+1)=(k:Int)+1:=wrap_i64 (by omega);rw[jt];dsimp only;by_cases hlt:k<ws.length
      ·have r1:=bo hlt;have hap:∀m:List Pn,au m++[[PV.int .u64 ws[k].i,.int .u64 ws[k].v,.int .u64 ws[k].u]]=au (m++[ws[k]]):=fun m=>by rw[bQ];rfl
       have htk:ws.take (k+1)=ws.take k++[ws[k]]:=q62 hlt;by_cases k0:k=0
       ·subst k0;have r0:rowAt (au ws) 0=[PV.int .u64 ws[0].i,.int .u64 ws[0].v,.int .u64 ws[0].u]:=by simpa using bo hlt
        have t1:ws.take 1=[ws[0]]:=by simpa using htk
        simp(config := { maxSteps := 3000000 }) [hlt,r0,hcs,ax];refine⟨1,by omega,?_,by omega⟩;simp(config := { maxSteps := 3000000 }) [t1,hcs];exact⟨wrap_i64 (by omega),rfl⟩
       ·simp(config := { maxSteps := 3000000 }) [w2,hlt,r1,k0,hap,hcs,ax];refine⟨⟨by omega,by omega⟩,k+1,by omega,?_,by omega⟩;simp(config := { maxSteps := 3000000 }) [hcs]
      ·have hke:k=ws.length:=by omega
       subst hke;by_cases hws:ws.length=0;all_goals simp(config := { maxSteps := 3000000 }) [hlt,hcs,hws,bF,aF,aE,aU,hi1,hi2]<;>first|exact⟨by rw[q72 hcs];rfl,by rw[q72 hws];rfl⟩|(rw[q72 hcs];rfl)|(rw[q72 hws];rfl)
 ·cases h
def BI (x:Sc):Bool:=(x.cs.all fun e=>decide (e.n.length≤100))&&yR x.d&&decide (x.cs.length≤20)&&decide (x.ws.length≤20)
@[simp] noncomputable def Ml:List AV→Option (Prop×AV)|[.agg ys]=>lx ys fun x=>some (x.d.vs.length≤maxLen∧x.cs.length≤maxLen,.pv (.bool (BI x)))|_=>none
theorem R4:aJ Tryz.prog 5 Ml:=by
 intro ys φ r h hφ;unfold Ml at h;split at h
 ·obtain⟨x,rfl,h2⟩:=dU h;clear h;cases h2;obtain⟨c,t,⟨⟨e,p,i,u,h'⟩,ps,vs,sl⟩,cs,ws⟩:=x;obtain⟨hv,hl⟩:=hφ;have hv:vs.length≤maxLen:=hv;have hl:cs.length≤maxLen:=hl;rw[ax]at hl;refine ak (ag Q7 ah) (by kernel_rfl) (by conv=>lhs;reduce) (by simp) ?_;simp(config := { maxSteps := 3000000 }) [aS];refine aj (fun k:Nat=>k≤cs.length∧∀e∈cs.take k,e.n.length≤100) (fun k=>⟨[(1,.ptr 1 0),(2,.pv (.bool false)),(3,.pv (.int .i64 (k:Int)))],[(1,.box (aS ⟨c,t,⟨⟨e,p,i,u,h'⟩,ps,vs,sl⟩,cs,ws⟩))]⟩) (fun k=>cs.length-k) [] 0 (by simp) ?_ ?_;·simp[aS]
  ·rintro j ⟨hj,ht⟩;by_cases hlt:j<cs.length
   ·have r1:=cA hlt;have w2:IntKind.i64.wrap ((j:Int)+1)=(j:Int)+1:=wrap_i64 (by omega);by_cases h1:(100:Int)<cs[j].n.length
    ·have hf:BI ⟨c,t,⟨⟨e,p,i,u,h'⟩,ps,vs,sl⟩,cs,ws⟩=false:=by
      unfold BI;have:(cs.all fun e=>decide (e.n.length≤100))=false:=by rw[q231];exact⟨cs[j],q82 hlt,by simp;omega⟩
      simp[this]
     simp(config := { maxSteps := 3000000 }) [w2,hlt,r1,h1,hf,aS]
    ·have h1':(cs[j].n.length:Int)≤100:=by omega
     simp(config := { maxSteps := 3000000 }) [w2,hlt,r1,h1,h1',aS];refine⟨j+1,⟨by omega,fun v hv=>?_⟩,by omega,by omega⟩;rw[q62 hlt,q80]at hv;rcases hv with hv|hv;·exact ht v hv
     ·simp only[q75]at hv;subst hv;omega
   ·rw[List.take_of_length_le (by omega)]at ht;have hf:BI ⟨c,t,⟨⟨e,p,i,u,h'⟩,ps,vs,sl⟩,cs,ws⟩=(yR ⟨⟨e,p,i,u,h'⟩,ps,vs,sl⟩&&decide (cs.length≤20)&&decide (ws.length≤20)):=by
     unfold BI;have:(cs.all fun e=>decide (e.n.length≤100))=true:=by rw[q90];exact fun v hv=>decide_eq_true (ht v hv)
     simp[this]
    have e1:∀n:Nat,decide ((n:Int)≤20)=decide (n≤20):=fun n=>decide_eq_decide.2 (by omega);cases h2:yR ⟨⟨e,p,i,u,h'⟩,ps,vs,sl⟩ with|false=>simp(config := { maxSteps := 3000000 }) [hlt,hf,h2,hv,aS,cellsD]|true=>by_cases h3:(cs.length:Int)≤20<;>simp(config := { maxSteps := 3000000 }) [hlt,hf,h2,h3,hv,←e1,aS,cellsD]
 ·cases h
@[simp] def YU (e1 e2 e3 e4:TypeId):List AV→Option (Prop×AV)|[.agg [.pv (.int .u64 c),.pv (.int .u64 t),.pv (.int .u64 e),.pv (.int .u64 p),.pv (.int .u64 i),.pv (.int .u64 u),.pv (.bool h),.fr x ra,.fr y rb,.pv (.bool sl),.fr z rc,.fr w rd]]=>if(x=e1∧y=e2)∧z=e3∧w=e4 then some ((ra.length≤1000000∧rb.length≤1000000∧(∀r∈ra,r.length=3)∧∀r∈rb,r.length=10)∧rc.length≤1000000∧rd.length≤1000000∧(∀r∈rc,r.length=2)∧∀r∈rd,r.length=3,.bE 0 [.aO []]) else none|_=>none
theorem c_SpS:dI Tryz.prog 15 (YU 134 108 71 84):=by
 intro ys φ r h hφ;unfold YU at h;split at h
 ·rename_i c t e p i u h' x ra y rb sl z rc w rd;split at h
  ·rename_i hxy;obtain⟨⟨rfl,rfl⟩,rfl,rfl⟩:=hxy;cases h;obtain⟨⟨l1,l2,l3,l4⟩,m1,m2,m3,m4⟩:=hφ;refine cf (bg (ks:=[1]) c_SpD (by kernel_rfl) ah) (by kernel_rfl) (by conv=>lhs;reduce) (by simp) rfl (by simp) ?_;apply af;·simp(config := { maxSteps := 3000000 });exact⟨rfl,rfl⟩
   have l3':=eq_true l3;have l4':=eq_true l4;apply af;·simp(config := { maxSteps := 3000000 }) [l1,l2,l3',l4'];exact⟨rfl,rfl⟩
   rw[aL];apply af;·simp(config := { maxSteps := 3000000 });exact⟨rfl,rfl⟩
   rw[aW];refine aj (fun x:Nat×List (List PV)=>x.1≤rc.length∧x.2.length=rc.length∧∀r∈x.2,r.length=2) (fun x=>⟨[(1,.ptr 1 0),(2,.pv (.int .i64 (x.1:Int)))],[(1,.box [.pv (.int .u64 c),.pv (.int .u64 t),.pv (.int .u64 e),.pv (.int .u64 p),.pv (.int .u64 i),.pv (.int .u64 u),.pv (.bool h'),.aw,.aw,.pv (.bool sl),.own 2998,.own 3998]),(2998,.arr 71 x.2),(3998,.arr 84 rd)]⟩) (fun x=>rc.length-x.1) [] (0,rc) (by simpa using m3) ?_ ?_;·simp
   ·rintro⟨j,b2⟩ ⟨hj,hb,hr⟩;have hj:j≤rc.length:=hj;have hb:b2.length=rc.length:=hb;have hr:∀r∈b2,r.length=2:=hr;have w2:IntKind.i64.wrap ((j:Int)+1)=(j:Int)+1:=wrap_i64 (by omega);by_cases hlt:j<rc.length
    ·have r1:(rowAt b2 (j:Int)).length=2:=by simp only[rowAt,q68,q78,q64 (show j<b2.length by omega),q98];exact hr _ (q82 _)
     have r2:(rowAt b2 (j:Int)).drop 2=[]:=q163 (by omega);simp(config := { maxSteps := 3000000 }) [w2,hlt,r1,r2,hb];exact⟨j+1,_,⟨by omega,by rw[q186];exact hb,fun r hr'=>(q183 hr').elim (hr r) fun e=>by rw[e];rfl⟩,⟨by omega,rfl⟩,by omega⟩
    ·have hja:j=rc.length:=by omega
     subst hja;simp(config := { maxSteps := 3000000 }) [hb];refine aj (fun x:Nat×List (List PV)=>x.1≤rd.length∧x.2.length=rd.length∧∀r∈x.2,r.length=3) (fun x=>⟨[(1,.ptr 1 0),(3,.pv (.int .i64 (x.1:Int)))],[(1,.box [.pv (.int .u64 c),.pv (.int .u64 t),.pv (.int .u64 e),.pv (.int .u64 p),.pv (.int .u64 i),.pv (.int .u64 u),.pv (.bool h'),.aw,.aw,.pv (.bool sl),.own 2998,.own 3998]),(2998,.arr 71 b2),(3998,.arr 84 x.2)]⟩) (fun x=>rd.length-x.1) [] (0,rd) (by simpa using m4) ?_ ?_;·simp
     ·rintro⟨j,b3⟩ ⟨hj,hb,hr⟩;have hj:j≤rd.length:=hj;have hb:b3.length=rd.length:=hb;have hr:∀r∈b3,r.length=3:=hr;have w2:IntKind.i64.wrap ((j:Int)+1)=(j:Int)+1:=wrap_i64 (by omega);by_cases hlt:j<rd.length
      ·have r1:(rowAt b3 (j:Int)).length=3:=by simp only[rowAt,q68,q78,q64 (show j<b3.length by omega),q98];exact hr _ (q82 _)
       have r2:(rowAt b3 (j:Int)).drop 3=[]:=q163 (by omega);simp(config := { maxSteps := 3000000 }) [w2,hlt,r1,r2,hb];exact⟨j+1,_,⟨by omega,by rw[q186];exact hb,fun r hr'=>(q183 hr').elim (hr r) fun e=>by rw[e];rfl⟩,⟨by omega,rfl⟩,by omega⟩
      ·simp(config := { maxSteps := 3000000 }) [hlt,hb]
  ·cases h
 ·cases h
theorem N2 {a b:En}:a=b↔a.n=b.n∧a.i=b.i:=by cases a;cases b;simp
theorem NN {a b:Pn}:a=b↔a.i=b.i∧a.v=b.v∧a.u=b.u:=by cases a;cases b;simp
@[simp] noncomputable def GSS:List AV→Option (Prop×AV)|[.agg xs,.agg ys]=>lx xs fun a=>lx ys fun b=>some ((a.d.ps.length≤1000000000∧a.d.vs.length≤1000000000)∧a.cs.length≤1000000000∧a.ws.length≤1000000000,.pv (.bool (decide (a=b))))|_=>none
theorem c_rSS:aJ Tryz.prog 14 GSS:=by
 intro ys φ r h hφ;unfold GSS at h;split at h
 ·obtain⟨a,rfl,h1⟩:=dU h;obtain⟨b,rfl,h2⟩:=dU h1;clear h h1;cases h2;obtain⟨c,t,⟨⟨e,p,i,u,h'⟩,ps,vs,sl⟩,cs,ws⟩:=a;obtain⟨c2,t2,⟨⟨e2,p2,i2,u2,h2'⟩,ps2,vs2,sl2⟩,cs2,ws2⟩:=b;obtain⟨⟨l1,l2⟩,l3,l4⟩:=hφ;have l1:ps.length≤1000000000:=l1;have l2:vs.length≤1000000000:=l2;have l3:cs.length≤1000000000:=l3;have l4:ws.length≤1000000000:=l4;refine ak (ag c_rSD ah) (by kernel_rfl) (by conv=>lhs;reduce) (by simp) ?_;apply af;·simp(config := { maxSteps := 3000000 }) [aS];exact⟨rfl,rfl⟩
  by_cases hg:(((c=c2∧t=t2)∧(⟨⟨e,p,i,u,h'⟩,ps,vs,sl⟩:Dc)=⟨⟨e2,p2,i2,u2,h2'⟩,ps2,vs2,sl2⟩)∧cs.length=cs2.length)∧ws.length=ws2.length
  ·obtain⟨⟨⟨⟨rfl,rfl⟩,hd⟩,hcl⟩,hwl⟩:=hg;cases hd;have hcl':(cs.length:Int)=cs2.length:=by omega
   have hwl':(ws.length:Int)=ws2.length:=by omega
   rw[aL];apply af;·simp(config := { maxSteps := 3000000 }) [l1,l2,hcl',hwl',cellsD];exact⟨rfl,rfl⟩
   apply cM rfl;rw[ur];rw[aL];apply af;·simp(config := { maxSteps := 3000000 });exact⟨rfl,rfl⟩
   rw[aW];refine aj (fun k:Nat=>k≤cs.length∧cs.take k=cs2.take k) (fun k=>⟨[(2,.ptr 2 0),(3,.ptr 3 0),(4,.pv (.bool false)),(5,.pv (.int .i64 (k:Int)))],[(2,.box (aS ⟨c,t,⟨⟨e,p,i,u,h'⟩,ps,vs,sl⟩,cs,ws⟩)),(3,.box (aS ⟨c,t,⟨⟨e,p,i,u,h'⟩,ps,vs,sl⟩,cs2,ws2⟩))]⟩) (fun k=>cs.length-k) [] 0 (by simp) ?_ ?_;·simp[aS]
   ·rintro k ⟨hk,ht⟩;have w2:IntKind.i64.wrap ((k:Int)+1)=(k:Int)+1:=wrap_i64 (by omega);rw[jt];dsimp only;by_cases hlt:k<cs.length
    ·have r1:=cA hlt;have hlb:k<cs2.length:=by omega
     have r2:=cA hlb;by_cases he:cs[k]=cs2[k];·obtain⟨f1,f2⟩:=N2.1 he;simp(config := { maxSteps := 3000000 }) [w2,hlt,hlb,r1,r2,f1,f2,aS];refine⟨k+1,⟨by omega,?_⟩,by omega,by omega⟩;rw[q62 hlt,q62 hlb,ht,he]
     ·have hn:¬cs=cs2:=fun e=>he (by subst e;rfl);have hf:¬(cs[k].n=cs2[k].n∧cs[k].i=cs2[k].i):=fun h=>he (N2.2 h);simp(config := { maxSteps := 3000000 }) [w2,hlt,hlb,r1,r2,hn,hf,aS]
    ·have hkl:k=cs.length:=by omega
     subst hkl;rw[q104,hcl,q104]at ht;subst ht;simp(config := { maxSteps := 3000000 }) [hlt,aS];refine aj (fun k:Nat=>k≤ws.length∧ws.take k=ws2.take k) (fun k=>⟨[(2,.ptr 2 0),(3,.ptr 3 0),(4,.pv (.bool false)),(6,.pv (.int .i64 (k:Int)))],[(2,.box (aS ⟨c,t,⟨⟨e,p,i,u,h'⟩,ps,vs,sl⟩,cs,ws⟩)),(3,.box (aS ⟨c,t,⟨⟨e,p,i,u,h'⟩,ps,vs,sl⟩,cs,ws2⟩))]⟩) (fun k=>ws.length-k) [] 0 (by simp) ?_ ?_;·simp[aS]
     ·rintro k ⟨hk,ht⟩;have w2:IntKind.i64.wrap ((k:Int)+1)=(k:Int)+1:=wrap_i64 (by omega);rw[jt];dsimp only;by_cases hlt:k<ws.length
      ·have r1:=bo hlt;have hlb:k<ws2.length:=by omega
       have r2:=bo hlb;by_cases he:ws[k]=ws2[k];·obtain⟨f1,f2,f3⟩:=NN.1 he;simp(config := { maxSteps := 3000000 }) [w2,hlt,hlb,r1,r2,f1,f2,f3,aS];refine⟨k+1,⟨by omega,?_⟩,by omega,by omega⟩;rw[q62 hlt,q62 hlb,ht,he]
       ·have hn:¬ws=ws2:=fun e=>he (by subst e;rfl);have hf:¬(ws[k].i=ws2[k].i∧ws[k].v=ws2[k].v∧ws[k].u=ws2[k].u):=fun h=>he (NN.2 h);simp(config := { maxSteps := 3000000 }) [w2,hlt,hlb,r1,r2,hn,hf,aS]
      ·have hkl:k=ws.length:=by omega
       subst hkl;rw[q104,hwl,q104]at ht;subst ht;simp(config := { maxSteps := 3000000 }) [hlt,aS]
  ·have hne:¬((⟨c,t,⟨⟨e,p,i,u,h'⟩,ps,vs,sl⟩,cs,ws⟩:Sc)=⟨c2,t2,⟨⟨e2,p2,i2,u2,h2'⟩,ps2,vs2,sl2⟩,cs2,ws2⟩):=by intro hh;cases hh;exact hg ⟨⟨⟨⟨rfl,rfl⟩,rfl⟩,rfl⟩,rfl⟩
   by_cases g1:c=c2
   ·by_cases g2:t=t2
    ·by_cases g3:(⟨⟨e,p,i,u,h'⟩,ps,vs,sl⟩:Dc)=⟨⟨e2,p2,i2,u2,h2'⟩,ps2,vs2,sl2⟩
     ·cases g3;by_cases g4:cs.length=cs2.length
      ·have g5:¬ws.length=ws2.length:=fun h=>hg ⟨⟨⟨⟨g1,g2⟩,rfl⟩,g4⟩,h⟩;have g4':(cs.length:Int)=cs2.length:=by omega
       have g5':¬(ws.length:Int)=ws2.length:=by omega
       refine bA (fun _=>False) ?_ (fun _ h=>h.elim);apply af;·simp(config := { maxSteps := 3000000 }) [g1,g2,g4',g5',l1,l2,cellsD];exact⟨rfl,rfl⟩
       apply bJ rfl;simp(config := { maxSteps := 3000000 });simpa using hne
      ·have g4':¬(cs.length:Int)=cs2.length:=by omega
       refine bA (fun _=>False) ?_ (fun _ h=>h.elim);apply af;·simp(config := { maxSteps := 3000000 }) [g1,g2,g4',l1,l2,cellsD];exact⟨rfl,rfl⟩
       apply bJ rfl;simp(config := { maxSteps := 3000000 });simpa using hne
     ·have g3':=decide_eq_false g3;refine bA (fun _=>False) ?_ (fun _ h=>h.elim);apply af;·simp(config := { maxSteps := 3000000 }) [g1,g2,g3',-Dc.mk.injEq,l1,l2,cellsD];exact⟨rfl,rfl⟩
      apply bJ rfl;simp(config := { maxSteps := 3000000 });simpa using hne
    ·refine bA (fun _=>False) ?_ (fun _ h=>h.elim);apply af;·simp(config := { maxSteps := 3000000 }) [g1,g2];exact⟨rfl,rfl⟩
     apply bJ rfl;simp(config := { maxSteps := 3000000 });simpa using hne
   ·refine bA (fun _=>False) ?_ (fun _ h=>h.elim);apply af;·simp(config := { maxSteps := 3000000 }) [g1];exact⟨rfl,rfl⟩
    apply bJ rfl;simp(config := { maxSteps := 3000000 });simpa using hne
 ·cases h
@[simp] noncomputable def Zm:List AV→Option (Prop×AV)|[.agg ys]=>lx ys fun x=>some (x.d.ps.length≤100000∧x.d.vs.length≤100000∧x.cs.length≤100000∧x.ws.length≤100000,.bE 0 [.agg (aS x)])|_=>none
theorem c_dSr:dI Tryz.prog 8 Zm:=by
 intro ys φ r h hφ;unfold Zm at h;split at h
 ·obtain⟨x,rfl,h2⟩:=dU h;clear h;cases h2;obtain⟨c,t,⟨⟨e,p,i,u,h'⟩,ps,vs,sl⟩,cs,ws⟩:=x;obtain⟨h1,h2,h3,h4⟩:=hφ;have h1:ps.length≤100000:=h1;have h2:vs.length≤100000:=h2;have h3:cs.length≤100000:=h3;have h4:ws.length≤100000:=h4;have hi1:(Tryz.prog.info? 82).isSome=true:=by kernel_rfl
  have hi2:(Tryz.prog.info? 85).isSome=true:=by kernel_rfl
  refine cf (ag c_dD ah) (by kernel_rfl) (by conv=>lhs;reduce) (by simp[aS]) rfl (by simp[aS]) ?_;apply af;·simp(config := { maxSteps := 3000000 }) [aS,cellsD,h1,h2];exact⟨rfl,rfl⟩
  apply af;·simp(config := { maxSteps := 3000000 }) [cellsD,h1,h2];exact⟨rfl,rfl⟩
  rw[aL];apply af;·simp(config := { maxSteps := 3000000 });exact⟨rfl,rfl⟩
  rw[aW];refine aj (fun k:Nat=>k≤cs.length) (fun k=>⟨[(1,.ptr 1 0),(2,.ptr 2 0),(3,.ptr 3 0),(4,.pv (.int .i64 (k:Int)))],[(1,.box [.pv (.int .u64 c),.pv (.int .u64 t),.pv (.int .u64 e),.pv (.int .u64 p),.pv (.int .u64 i),.pv (.int .u64 u),.pv (.bool h'),.pv (.ro (au ps)),.pv (.ro (aH vs)),.pv (.bool sl),.pv (.ro (aM cs)),.pv (.ro (au ws))]),(2,.box [.pv (.int .u64 0),.pv (.int .u64 0),.pv (.int .u64 0),.pv (.int .u64 0),.pv (.int .u64 0),.pv (.int .u64 0),.pv (.bool false),.pv .nil,.pv .nil,.pv (.bool false),.pv .nil,.pv .nil]),(3,.box [.pv (.int .u64 c),.pv (.int .u64 t),.pv (.int .u64 e),.pv (.int .u64 p),.pv (.int .u64 i),.pv (.int .u64 u),.pv (.bool h'),.own 5000013,.own 6000013,.pv (.bool sl),if k=0 then .pv .nil else .own 38,.pv .nil]),(5000013,.arr 162 (au ps)),(6000013,.arr 144 (aH vs))]++if k=0 then[] else[(38,.arr 82 (aM (cs.take k)))]⟩) (fun k=>cs.length-k) [] 0 (by simp) ?_ ?_;·simp
  ·intro k hk;have w2:IntKind.i64.wrap ((k:Int)+1)=(k:Int)+1:=wrap_i64 (by omega);rw[jt];dsimp only;by_cases hlt:k<cs.length
   ·have r1:=cA hlt;have hap:∀m:List En,aM m++[[PV.str cs[k].n,.int .u64 cs[k].i]]=aM (m++[cs[k]]):=fun m=>by rw[dr];rfl
    have htk:cs.take (k+1)=cs.take k++[cs[k]]:=q62 hlt;by_cases k0:k=0
    ·subst k0;have r0:rowAt (aM cs) 0=[PV.str cs[0].n,.int .u64 cs[0].i]:=by simpa using cA hlt
     have t1:cs.take 1=[cs[0]]:=by simpa using htk
     simp(config := { maxSteps := 3000000 }) [hlt,r0,ax];refine⟨1,by omega,?_,by omega⟩;simp(config := { maxSteps := 3000000 }) [t1];exact⟨wrap_i64 (by omega),rfl⟩
    ·simp(config := { maxSteps := 3000000 }) [w2,hlt,r1,k0,hap,ax];refine⟨⟨by omega,by omega⟩,k+1,by omega,?_,by omega⟩;simp(config := { maxSteps := 3000000 })
   ·have hke:k=cs.length:=by omega
    subst hke;rw[q104];by_cases hcs:cs.length=0;all_goals
     simp(config := { maxSteps := 3000000 }) [hlt,hcs];refine aj (fun k:Nat=>k≤ws.length) (fun k=>⟨[(1,.ptr 1 0),(2,.ptr 2 0),(3,.ptr 3 0),(5,.pv (.int .i64 (k:Int)))],[(1,.box [.pv (.int .u64 c),.pv (.int .u64 t),.pv (.int .u64 e),.pv (.int .u64 p),.pv (.int .u64 i),.pv (.int .u64 u),.pv (.bool h'),.pv (.ro (au ps)),.pv (.ro (aH vs)),.pv (.bool sl),.pv (.ro (aM cs)),.pv (.ro (au ws))]),(2,.box [.pv (.int .u64 0),.pv (.int .u64 0),.pv (.int .u64 0),.pv (.int .u64 0),.pv (.int .u64 0),.pv (.int .u64 0),.pv (.bool false),.pv .nil,.pv .nil,.pv (.bool false),.pv .nil,.pv .nil]),(3,.box [.pv (.int .u64 c),.pv (.int .u64 t),.pv (.int .u64 e),.pv (.int .u64 p),.pv (.int .u64 i),.pv (.int .u64 u),.pv (.bool h'),.own 5000013,.own 6000013,.pv (.bool sl),if cs.length=0 then .pv .nil else .own 38,if k=0 then .pv .nil else .own 62]),(5000013,.arr 162 (au ps)),(6000013,.arr 144 (aH vs))]++((if cs.length=0 then[] else[(38,.arr 82 (aM cs))])++if k=0 then[] else[(62,.arr 85 (au (ws.take k)))])⟩) (fun k=>ws.length-k) [] 0 (by simp) ?_ ?_;·simp[hcs]
     ·intro k hk;have w2:IntKind.i64.wrap ((k:Int)+1)=(k:Int)+1:=wrap_i64 (by omega);rw[jt];dsimp only;by_cases hlt:k<ws.length
      ·have r1:=bo hlt;have hap:∀m:List Pn,au m++[[PV.int .u64 ws[k].i,.int .u64 ws[k].v,.int .u64 ws[k].u]]=au (m++[ws[k]]):=fun m=>by rw[bQ];rfl
       have htk:ws.take (k+1)=ws.take k++[ws[k]]:=q62 hlt;by_cases k0:k=0
       ·subst k0;have r0:rowAt (au ws) 0=[PV.int .u64 ws[0].i,.int .u64 ws[0].v,.int .u64 ws[0].u]:=by simpa using bo hlt
        have t1:ws.take 1=[ws[0]]:=by simpa using htk
        simp(config := { maxSteps := 3000000 }) [hlt,r0,hcs,ax];refine⟨1,by omega,?_,by omega⟩;simp(config := { maxSteps := 3000000 }) [t1,hcs];exact⟨wrap_i64 (by omega),rfl⟩
       ·simp(config := { maxSteps := 3000000 }) [w2,hlt,r1,k0,hap,hcs,ax];refine⟨⟨by omega,by omega⟩,k+1,by omega,?_,by omega⟩;simp(config := { maxSteps := 3000000 }) [hcs]
      ·have hke:k=ws.length:=by omega
       subst hke;by_cases hws:ws.length=0;all_goals simp(config := { maxSteps := 3000000 }) [hlt,hcs,hws,aS,aF,aE,aU,hi1,hi2]<;>first|exact⟨by rw[q72 hcs];rfl,by rw[q72 hws];rfl⟩|(rw[q72 hcs];rfl)|(rw[q72 hws];rfl)
 ·cases h
end Go.Proofs.YtlicclncicbajaaGreat.Ab
namespace Go.Proofs.YtlicclncicbajaaGreat.Ab
open Go Go.RowKit Go.Shelf
attribute[local go_sem] Oper.semAt_some
set_option maxHeartbeats 1000000 in theorem BF (F:Fence) (n:Nat) (hF:F.fn 75) (hro:F.round=none) (hn:1≤n) (l Bn n₀:Nat) (A:Option Addr) (k c:Nat) (hk:k≤65535) (J Jx:List Unit→World→Prop) (hY:∀pre x W,J pre W→pre.length<1→YieldAt F (n-1) Tryz.prog l #[.slice A k c] W fun e W'=>(e=.returned (.bool true)∧J (pre++[x]) W'∧Below n₀ W W')∨(e=.returned (.bool false)∧Jx (pre++[x]) W')) (W:World) (hBn:W.cell? ⟨Bn,0,none⟩=some (.slice A k c)) (h0:J [] W):CallsIn F n Tryz.prog 75 #[.func (.yield l) #[] #[],.pointer (some ⟨Bn,0,none⟩)] W fun e W'=>(∃v,e=.returned v)∧((∃ys,ys=[()]∧J ys W')∨(∃pre,pre<+:[()]∧Jx pre W')):=by
 refine callsIn_of_wp Tryz.func75 rfl hF ?_ hro;simp only[Tryz.ntmps75,q105,q79,q87,Nat.reduceAdd,Nat.reduceSub,q248,q249,q268,q256,q158,q149];gi_wp2;gi_loopw[] (fun wr=>wr=W) (fun wr=>0);case atStart=>rfl
 case round=>
  subst hrel;have hk2:¬(65535:Int)<(k:Int):=by omega
  obtain⟨fn,tmps,assign,body,hy,hR⟩:=hY [] () wr h0 (by simp);gi_wp2;refine hR.mono ?_;rintro e W3 (⟨rfl,hJ3,hk3⟩|⟨rfl,hJx3⟩);·gi_wp2;go_end0;exact⟨⟨_,rfl⟩,.inl ⟨_,rfl,hJ3⟩⟩
  ·gi_wp2;go_end0;exact⟨⟨_,rfl⟩,.inr ⟨_,List.prefix_refl _,hJx3⟩⟩
set_option maxHeartbeats 1000000 in theorem EG (F:Fence) (n:Nat) (hF:F.fn 41) (hro:F.round=none) (V:Value) (w:World) (hV:V.oneCell'=true):CallsIn F n Tryz.prog 41 #[V] w fun e w'=>e=.returned (.func (.func 75) #[] #[.pointer (some ⟨w.heap.size,0,none⟩)])∧w'=w.alloc (.cells #[V] 74):=by refine callsIn_of_wp Tryz.func41 rfl hF ?_ hro;simp only[Tryz.ntmps41,List.size_toArray,List.length_cons,List.length_nil,Nat.reduceAdd,Nat.reduceSub,Array.replicate_succ,Array.replicate_zero,List.push_toArray,List.append_toArray,List.nil_append,List.cons_append];gi_wp2;go_ret;exact⟨rfl,rfl⟩
theorem yV (F:Fence) (n:Nat) (hF:F.fn 75) (hro:F.round=none) (hn:1≤n) (Bn n₀:Nat) (A:Option Addr) (k c:Nat) (hk:k≤65535) (w:World) (hBn:Bn<w.heap.size) (hn₀:n₀≤w.heap.size) (hc:w.cell? ⟨Bn,0,none⟩=some (.slice A k c)):SeqStopsK F n Tryz.prog 75 #[.pointer (some ⟨Bn,0,none⟩)] (fun _:Unit=>#[.slice A k c]) (Below n₀) (fun ys=>ys=[()]) (fun pre=>pre<+:[()]) 1 w:=fun l J Jx W hW _ _ hY h0=>BF F n hF hro hn l Bn n₀ A k c hk J Jx hY W ((hW.cell (p:=⟨Bn,0,none⟩) hBn).trans hc) h0
attribute[local go_sem] Oper.semAt_some
def eJ (l:List UInt8):List Value:=l.map fun c=>.int .u8 (c.toNat:Int)
theorem Iv:(Tryz.prog.info? 115).map (fun i=>(i.zero,i.size,i.bytes))=some (some (.agg #[.int .u8 0,.slice none 0 0]),2,32):=by kernel_rfl
theorem yu:(Tryz.prog.info? 5).map (fun i=>(i.zero,i.size,i.bytes))=some (some (.int .u8 0),1,1):=by kernel_rfl
theorem yI {W:World}{b:Nat}{ty:TypeId}{v0 v1 v2 v3 v4 v5 v6 v7 v8 v9 v10 v11:Value} (h:W.heap[b]?=some (.cells #[v0,v1,v2,v3,v4,v5,v6,v7,v8,v9,v10,v11] ty (0,0))):W.cell? ⟨b,0,none⟩=some v0∧W.cell? ⟨b,1,none⟩=some v1∧W.cell? ⟨b,2,none⟩=some v2∧W.cell? ⟨b,3,none⟩=some v3∧W.cell? ⟨b,4,none⟩=some v4∧W.cell? ⟨b,5,none⟩=some v5∧W.cell? ⟨b,6,none⟩=some v6∧W.cell? ⟨b,7,none⟩=some v7∧W.cell? ⟨b,8,none⟩=some v8∧W.cell? ⟨b,9,none⟩=some v9∧W.cell? ⟨b,10,none⟩=some v10∧W.cell? ⟨b,11,none⟩=some v11:=by simp[World.cell?,h]
theorem Aw {β:Type} (n₀:Nat) (e:TypeId) (size:Nat) (V:Value) (k:Nat) (cs:List Value):Own (fun(_:β) W=>W.ownsRow n₀ e size V k cs):=by
 rintro s X Y row hr hg hrow;refine hr.kept hg ?_;rcases hr.2 with⟨rfl,_⟩|⟨g,cap,cur,rfl,_,hgb,_⟩;·exact .inl rfl
 ·refine .inr fun e'=>?_;obtain⟨o,ho,hc⟩:=hrow g (by simpa[Value.ownBlock]using e'.symm);rw[hgb]at ho;cases ho;cases hc
theorem cell_two_new (w:World) (x y:Value) (t:TypeId):∀j u,[x,y][j]?=some u→(w.alloc (.cells #[x,y] t)).cell? ((⟨w.heap.size,0,none⟩:Addr).add j)=some u:=by
 have h:(w.alloc (.cells #[x,y] t)).heap[w.heap.size]?=some (.cells #[x,y] t (0,0)):=q250 w _;have hcl:∀i,(w.alloc (.cells #[x,y] t)).cell? ⟨w.heap.size,i,none⟩=#[x,y][i]?:=fun i=>by unfold World.cell?;rw[h];rfl
 intro j u hj;rw[q100,hcl];simpa using hj
theorem Ev {W W':World}{b b':Nat}{e e':TypeId}{s s':Nat}{V V':Value}{k k':Nat}{xs ys:List Value} (h:W.ownsRow b e s V k xs) (h':W.ownsRow b' e' s' V' k' ys) (hne:e≠e') (hg:W.grownBy W' V'.ownBlock):W'.ownsRow b e s V k xs:=by
 refine h.kept hg ?_;rcases h.2 with⟨hv,h0⟩|⟨g,cap,cur,rfl,_,hgb,_⟩;·exact .inl (by rw[hv];rfl)
 ·refine .inr ?_;rcases h'.2 with⟨rfl,_⟩|⟨g',cap',cur',rfl,_,hg',_⟩;·simp[Value.ownBlock]
  ·intro he;have:g=g':=by simpa[Value.ownBlock]using he
   subst this;rw[hgb]at hg';cases hg';exact hne rfl
theorem Fz {W:World}{B:Nat}{t:TypeId}{u:Value} (hb:Boxed W B t u) {b:Nat}{e:TypeId}{s:Nat}{V:Value}{k:Nat}{xs:List Value} (h:W.ownsRow b e s V k xs) (hne:t≠e) (v':Value):(W.setCell ⟨B,0,none⟩ v').ownsRow b e s V k xs:=h.kept (grownBy_setCell' W B v') (.inr (hb.not_row hne h).symm)
theorem pO {W:World}{b:Nat}{e:TypeId}{s:Nat}{V:Value}{k:Nat}{xs:List Value} (h:W.ownsRow b e s V k xs):W.ownsRow 0 e s V k xs:=by
 refine⟨h.1,?_⟩;rcases h.2 with h|⟨g,cap,cur,h1,h2,h3⟩;·exact .inl h
 ·exact .inr ⟨g,cap,cur,h1,q126 _,h3⟩
set_option maxHeartbeats 4000000 in theorem IG (ch tl:Int) (d0 d1 d2 d3 d4 d5 d6 d7 vc:Value) (Al:Option Addr) (cl:Nat) (B C R:List UInt8) (hlen:B.length+C.length≤65535) (w:World) (hc:∀W,Below w.heap.size w W→Calls Tryz.prog 38 #[.agg #[.int .u64 ch,.int .u64 tl,d0,d1,d2,d3,d4,d5,d6,d7,vc,.slice Al 0 cl]] W fun e W1=>∃A c,e=.returned (.tuple #[.slice (some A) C.length c,.int .i64 0])∧(∀j,j<C.length→W1.cell? (A.add j)=(eJ C)[j]?)∧A.block<W1.heap.size∧Below W.heap.size W W1) (hr:∀W,Below w.heap.size w W→Calls Tryz.prog 39 #[.agg #[.int .u64 ch,.int .u64 tl,d0,d1,d2,d3,d4,d5,d6,d7,vc,.slice Al 0 cl]] W fun e W1=>e=.returned (.bool true)∧Below W.heap.size W W1) (ha:∀W A c,3≤c→W.cell? (A.add 0)=some (.int .u64 ch)→W.cell? (A.add 1)=some (.int .u64 tl)→W.cell? (A.add 2)=some (.int .u64 0)→Calls Tryz.prog 40 #[.slice (some A) 3 c] W fun e W1=>∃V,e=.returned V∧W1.ownsRow W.heap.size 5 1 V B.length (eJ B)∧Below W.heap.size W W1) (hj:∀W A c V,1≤c→W.cell? (A.add 0)=some (.int .u8 12)→W.cell? (A.add 1)=some V→W.ownsRow 0 5 1 V (B.length+C.length) (eJ B++eJ C)→Calls Tryz.prog 42 #[.slice (some A) 1 c] W fun e W1=>∃V',e=.returned (.tuple #[V',.int .i64 0])∧dt (fun b=>W.heap.size≤b∧b<W1.heap.size) W1 V' (.ro (bytesRow R))∧Below W.heap.size W W1):Calls Tryz.prog 21 #[.agg #[.int .u64 ch,.int .u64 tl,d0,d1,d2,d3,d4,d5,d6,d7,vc,.slice Al 0 cl]] w fun e w'=>∃V',e=.returned (.tuple #[V',.int .i64 0])∧dt (fun b=>w.heap.size≤b∧b<w'.heap.size) w' V' (.ro (bytesRow R))∧Below w.heap.size w w':=by
 refine(callsIn_wide (n:=6)).1 ?_;refine callsIn_of_wp_marks Tryz.func21 rfl trivial ?_ rfl;simp only[Tryz.ntmps21,q105,q79,q87,Nat.reduceAdd,Nat.reduceSub,q248,q249,q268,q256,q158,q149];obtain⟨W0,hW0⟩:∃W0,W0=w.alloc (.cells #[.int .u64 ch,.int .u64 tl,d0,d1,d2,d3,d4,d5,d6,d7,vc,.slice Al 0 cl] 36):=⟨_,rfl⟩;have hB0:Below w.heap.size w W0:=by rw[hW0];exact(q246 _ w).alloc (q93 _) _
 have hh0:W0.heap[w.heap.size]?=some (.cells #[.int .u64 ch,.int .u64 tl,d0,d1,d2,d3,d4,d5,d6,d7,vc,.slice Al 0 cl] 36 (0,0)):=by rw[hW0];show(w.heap.push _)[w.heap.size]?=_;simp
 have hz0:w.heap.size<W0.heap.size:=(q66.1 hh0).1;gi_wp2;rw[←hW0];refine⟨trivial,(callsIn_wide.2 (hc W0 hB0)).mono ?_⟩;rintro e W1 ⟨A,c,rfl,hC,hAb,hB1⟩;have hh1:=(hB1.block _ hz0).trans hh0;obtain⟨x0,x1,x2,x3,x4,x5,x6,x7,x8,x9,x10,x11⟩:=yI hh1;gi_wp2;refine⟨trivial,(callsIn_wide.2 (hr W1 (hB0.trans (hB1.mono (q203 hz0))))).mono ?_⟩;rintro e W2 ⟨rfl,hB2⟩;have hz1:w.heap.size<W1.heap.size:=q95 hz0 hB1.size;have hh2:=(hB2.block _ hz1).trans hh1;clear x0 x1 x2 x3 x4 x5 x6 x7 x8 x9 x10 x11;obtain⟨x0,x1,x2,x3,x4,x5,x6,x7,x8,x9,x10,x11⟩:=yI hh2;gi_wp2;have hz2:w.heap.size<W2.heap.size:=q95 hz1 hB2.size;obtain⟨W3,hW3⟩:∃W3,W3=W2.alloc (.cells #[.int .u64 ch,.int .u64 tl,.int .u64 0] 22):=⟨_,rfl⟩;have hB3:Below W2.heap.size W2 W3:=by rw[hW3];exact(q246 _ W2).alloc (q93 _) _
 have hh3':W3.heap[W2.heap.size]?=some (.cells #[.int .u64 ch,.int .u64 tl,.int .u64 0] 22 (0,0)):=by rw[hW3];show(W2.heap.push _)[W2.heap.size]?=_;simp
 have hh3:=(hB3.block _ hz2).trans hh2;have hz3:w.heap.size<W3.heap.size:=q95 hz2 hB3.size;rw[←hW3];refine⟨trivial,(callsIn_wide.2 (ha W3 ⟨W2.heap.size,0,none⟩ 3 (q93 _) (by simp[Addr.add,World.cell?,hh3']) (by simp[Addr.add,World.cell?,hh3']) (by simp[Addr.add,World.cell?,hh3']))).mono ?_⟩;rintro e W4 ⟨V,rfl,hV,hB4⟩;have hh4:=(hB4.block _ hz3).trans hh3;clear x0 x1 x2 x3 x4 x5 x6 x7 x8 x9 x10 x11;obtain⟨x0,x1,x2,x3,x4,x5,x6,x7,x8,x9,x10,x11⟩:=yI hh4;gi_wp2;gi_loopw[6,36] (fun vb p wr=>vb=V∧p=.int .i64 0∧wr=W4) (fun _ _ _=>0);case atStart=>exact⟨rfl,rfl,rfl⟩
 case round=>
  obtain⟨rfl,rfl,rfl⟩:=hrel;obtain⟨iu,hiu,hu0,hu1,hu2⟩:=info_parts yu;have hBa:Below wr.heap.size wr (wr.alloc (.cells #[.slice none 0 0] 111)):=(q246 _ wr).alloc (q93 _) _;have hCw:∀j u,(eJ C)[j]?=some u→(wr.alloc (.cells #[.slice none 0 0] 111)).cell? (A.add j)=some u:=by
   intro j u hj;have hjl:j<C.length:=by have:=(q65.1 hj).1;simpa[eJ]using this
   have hb:(A.add j).block<W1.heap.size:=by rw[bW];exact hAb
   rw[hBa.cell (q95 hb (q113 hB2.size (q113 hB3.size hB4.size))),(hB4.cell (q95 hb (q113 hB2.size hB3.size))),(hB3.cell (q95 hb hB2.size)),hB2.cell hb,hC j hjl,hj]
  gi_wp2_with(gi_at_builtin;refine wpListIn_append_own _ rfl _ _ 74 rfl W3.heap.size 5 iu (.int .u8 0) 1 1 Tryz.underlying74 hiu hu0 hu1 hu2 rfl (by decide) _ _ _ rfl (hV.alloc _) A C.length c (eJ C) rfl (by simp[eJ]) hCw (by intro u hu;simp only[eJ,q84]at hu;obtain⟨q,_,rfl⟩:=hu;rfl) (by unfold maxLen;omega) (by omega) (by have:=hB4.size;simp;omega) ?_;intro V5 W5 hV5 hg5 _);obtain⟨A5,c5,rfl⟩:∃A5 c5,V5=.slice A5 (B.length+C.length) c5:=by
   rcases hV5.2 with⟨h,hn⟩|⟨g,cap,cur,h,_⟩;·exact⟨none,0,by rw[h,hn]⟩
   ·exact⟨_,_,h⟩
  have bO:=(Boxed.new wr 111 (.slice none 0 0)).kept hg5 ((Boxed.new wr 111 (.slice none 0 0)).not_row (by decide) (hV.alloc _));have hB5:Below w.heap.size w W5:=by
   have h4:Below w.heap.size w (wr.alloc (.cells #[.slice none 0 0] 111)):=(((((hB0.trans (hB1.mono (q203 hz0))).trans (hB2.mono (q203 hz1))).trans (hB3.mono (q203 hz2))).trans (hB4.mono (q203 hz3))).alloc (by have:=hB4.size;omega) _);refine h4.grown hg5 h4.size fun k e=>?_;have hvo:=hV.2;rcases hvo with⟨hv,_⟩|⟨g,cap,cur,hv,hb,_⟩;·rw[hv]at e;cases e
   ·rw[hv]at e;have e':some g=some k:=e;cases e';exact q203 (q95 hz3 hb)
  have hz5:wr.heap.size<W5.heap.size:=by have:=hg5.size;simp at this;omega
  refine⟨trivial,(EG Fence.wide 5 trivial rfl _ _ rfl).mono ?_⟩;rintro e W6 ⟨rfl,hW6⟩;gi_wp2;obtain⟨ifr,hif,hf0,hf1,hf2⟩:=info_parts Iv;have hW65:W6=W5.alloc (.cells #[.slice A5 (B.length+C.length) c5] 74):=hW6;have hz6:W6.heap.size=W5.heap.size+1:=by rw[hW65];simp
  have hc6:W6.cell? ⟨W5.heap.size,0,none⟩=some (.slice A5 (B.length+C.length) c5):=by rw[hW65];exact(Boxed.new W5 _ _).cell
  have hB6:Below w.heap.size w W6:=by rw[hW65];exact hB5.alloc hB5.size _
  have bO6:Boxed W6 wr.heap.size 111 (.slice none 0 0):=by rw[hW65];exact bO.alloc _
  have hV6:W6.ownsRow W3.heap.size 5 1 (.slice A5 (B.length+C.length) c5) (B.length+C.length) (eJ B++eJ C):=by rw[hW65];exact hV5.alloc _
  rw[←hW65];clear hW6 hW65;refine' wpIn_rangeFunc_ownG rfl (by omega) (gf:=75) (lb:=#[.pointer (some ⟨W5.heap.size,0,none⟩)]) rfl trivial (enters_of Tryz.func75 (by kernel_rfl) rfl) (yV Fence.wide 5 trivial rfl (by omega) W5.heap.size 0 A5 (B.length+C.length) c5 hlen W6 (by omega) (by omega) hc6) belowK_t (belowK_b (by omega)) (q246 _ _) (fun _=>rfl) (fun(pre:List Unit) W=>((∃v,Boxed W wr.heap.size 111 v∧W.ownsRow wr.heap.size 115 2 v pre.length (pre.flatMap fun _=>[.int .u8 12,.slice A5 (B.length+C.length) c5])∧True)∧W.ownsRow W3.heap.size 5 1 (.slice A5 (B.length+C.length) c5) (B.length+C.length) (eJ B++eJ C))∧Below w.heap.size w W) (fun _ _ _=>False) (OwnFrom.and (OwnFrom.and (Own.from (holdsRow_own _ _ _ _ _ _ _ _) _) (Own.from (Aw _ _ _ _ _ _) _)) (ownFrom_below (q93 _) hB6.size)) (fun _ _ _ _ _ hs _ _=>hs) ⟨⟨⟨_,bO6,q188 _ _ _ _,trivial⟩,hV6⟩,hB6⟩ _ ?assign ?body ?done ?stop;case assign=>intro l x W K hK;gi_wp2;exact hK
  case body=>rintro l pre x W ⟨⟨⟨v,hv,hrow,_⟩,hVW⟩,hB⟩ hlt;have hc:=hv.cell;have hwr:wr.heap.size≤W.heap.size:=q203 hv.lt;have hww:w.heap.size≤wr.heap.size:=q203 (q95 hz3 hB4.size);gi_wp2_with(gi_at_builtin;refine wpListIn_append_own _ rfl _ _ 111 rfl wr.heap.size 115 ifr _ 2 32 Tryz.underlying111 hif hf0 hf1 hf2 rfl (by decide) _ _ _ rfl (hrow.alloc _) ⟨W.heap.size,0,none⟩ 1 1 [.int .u8 12,.slice A5 (B.length+C.length) c5] rfl rfl (cell_two_new _ _ _ _) (by simp[Value.oneCell']) (by unfold maxLen;omega) (by omega) (by simp;omega) ?_;intro v' w1 hown' hgrow _;obtain⟨g',cap',rfl⟩:=ownsRow_succ hown';obtain⟨hv1,hv2,hr2,hk2,hb2⟩:=hv.appended (by decide) hrow hwr (q93 _) hown' hgrow;have hc1:=hv1.cell;have hfz:=hv1.frozen);have hV7:=Fz hv1 (Ev (hVW.alloc _) (hrow.alloc _) (by decide) hgrow) (by decide) (.slice (some ⟨g',0,none⟩) (pre.length+1) cap');refine⟨hk2.from _,hb2.mono (q126 _),⟨⟨_,hv2,by simpa using hr2,trivial⟩,hV7⟩,hB.trans (hb2.mono hww)⟩
  case done=>
   rintro D ys W hD rfl ⟨⟨⟨v,hv,hrow,_⟩,hVW⟩,hB⟩ hK;have hc:=hv.cell;have hDW:D<W.heap.size:=(q66.1 hK).1;gi_wp2;rcases hrow.2 with⟨_,h0⟩|⟨g,cap,cur,rfl,hgb,hg,hcn,hcm,hcs,htk⟩;·cases h0
   have hcc:∀i,W.cell? ⟨g,i,none⟩=cur[i]?:=fun i=>by unfold World.cell?;rw[hg];rfl
   have hk0:∀i,i<2→cur[i]?=[Value.int .u8 12,.slice A5 (B.length+C.length) c5][i]?:=fun i hi=>by have:=congrArg (fun l=>l[i]?) htk;simp only[q79,q87,q133,q292,q81,hi,if_true,q106,q234,q147,q214]at this;exact this
   refine⟨trivial,(callsIn_wide.2 (hj W ⟨g,0,none⟩ cap (.slice A5 (B.length+C.length) c5) hcn (by rw[q100,hcc,hk0 _ (by omega)];rfl) (by rw[q100,hcc,hk0 _ (by omega)];rfl) (pO hVW))).mono ?_⟩;rintro e W8 ⟨V',rfl,hR,hB8⟩;gi_wp2;refine⟨by simp,.inl ⟨_,_,rfl,run_takeDeferred ((hB8.block D hDW).trans hK),?_⟩⟩;have hzD:w.heap.size≤D:=q113 hB6.size hD;have hzW:w.heap.size≤W.heap.size:=hB.size;refine⟨_,results_tmp2 rfl _ _ _,V',rfl,hR.mono fun b hb=>⟨⟨q113 hzW hb.1,by rw[World.putObj_size];exact hb.2⟩,World.putObj_heap_other (by have:=hb.1;omega)⟩,?_⟩;exact hB.trans ((hB8.mono hzW).trans (belowK_b (w:=w) (q93 _) W8 D _ _ hzD ((hB8.block D hDW).trans hK) rfl rfl))
  case stop=>rintro D c pre W _ _ h _;exact h.elim
end Go.Proofs.YtlicclncicbajaaGreat.Ab
namespace Go.Proofs.YtlicclncicbajaaGreat.Ab
open Go Go.RowKit
theorem sW {P:Program}{S:Nat→Prop}{w:World}{β:Nat→Value}{D:Nat→Prop}{t n0:Nat}{L:List UInt8}{e:TypeId} (hsz:∀inf,P.info? e=some inf→inf.size=1) (h:bz P S w β D t (.arr e (bytesRow L))) (hb:∀b,cr (β t)=some b→n0≤b):w.ownsRow n0 e 1 (β t) L.length (eJ L):=by
 obtain⟨inf,us,hi,hown,_,hus⟩:=h;have h1:=hsz inf hi;rw[h1]at hown;have hlen:(bytesRow L).length=L.length:=by simp[bytesRow]
 rw[hlen]at hown;have hu:us=eJ L:=by
  apply q211;intro j;rcases q137 j L.length with hj|hj
  ·have hr:(bytesRow L)[j]?=some [.int .u8 (L[j].toNat:Int)]:=by simp[bytesRow,hj]
   obtain⟨u,hu,_,hv⟩:=hus j 0 _ _ hr rfl;rw[h1,q175,q155]at hu;rw[hu,hv.aN];simp[eJ,hj]
  ·have h1:=hown.1;rw[q132 (by omega),q132 (by simp[eJ];omega)]
 subst hu;refine⟨hown.1,?_⟩;rcases hown.2 with h|⟨g,cap,cur,hv,_,h3⟩;·exact .inl h
 ·exact .inr ⟨g,cap,cur,hv,hb g (by rw[hv];rfl),h3⟩
theorem yE {P:Program}{w:World}{V:Value}{L:List UInt8}{n0:Nat}{e:TypeId}{S:Nat→Prop} (h:w.ownsRow n0 e 1 V L.length (eJ L)) (hS:∀b,n0≤b→b<w.heap.size→S b):dt S w V (.ro (bytesRow L)):=by
 have hlen:(bytesRow L).length=L.length:=by simp[bytesRow]
 rcases h.2 with⟨rfl,h0⟩|⟨g,cap,cur,rfl,hb,hg,hnc,hcm,hcs,htk⟩;·have:L=[]:=q72 h0;subst this;exact .xY none 0
 ·have hgl:g<w.heap.size:=(q66.1 hg).1;have hcell:∀j,j<L.length→w.cell? ⟨g,j,none⟩=(eJ L)[j]?:=fun j hj=>by rw[←htk,q81,if_pos (by omega)];unfold World.cell?;rw[hg];simp
  rw[←hlen]at hnc ⊢;refine .ro ⟨g,0,none⟩ cap (bytesRow L) 1 (fun i _=>.int .u8 ((L.getD i 0).toNat:Int)) (hS g hb hgl) hnc (fun r hr=>?_) (fun i j hi hj=>?_) (fun i j r p hr hp=>rfl) (fun i j r p hr hp=>?_);·simp only[bytesRow,q84]at hr;obtain⟨c,_,rfl⟩:=hr;rfl
  ·rw[hlen]at hi;obtain rfl:j=0:=by omega
   rw[q100];simp only[q133,q175,q155];rw[hcell i hi];simp[eJ,hi]
  ·have hi:i<L.length:=by have:=(q65.1 hr).1;omega
   simp only[bytesRow,q77,q64 hi,q116,qr]at hr;subst hr;match j,hp with|0,hp=>simp only[q69,qr]at hp;subst hp;simp only[q78,q64 hi,q98];exact .int _ _|j+1,hp=>simp at hp
theorem m5 {P:Program}{f:FuncId}{ys:List AV}{r:AV} (h:sO P f [] ys [] r) {W:World}{S:Nat→Prop}{vals:List Value} (hl:vals.length=ys.length) (hS:∀b,S b→b<W.heap.size) (hv:∀(i:Nat) (v:Value) (x:AV),vals[i]?=some v→ys[i]?=some x→RV P S W (fun _=>.nilIface) (fun _=>False) v x):Calls P f vals.toArray W fun e w'=>∃v β',e=.returned v∧Below W.heap.size W w'∧Heap P (aZ S W.heap.size β' (bC (ab []) fun t=>dC (cellAt r t)) w') w' β' (bC (ab []) fun t=>dC (cellAt r t))∧(∀t b,aG (bC (ab []) fun t=>dC (cellAt r t)) t→cr (β' t)=some b→W.heap.size≤b)∧RV P (aZ S W.heap.size β' (bC (ab []) fun t=>dC (cellAt r t)) w') w' β' (aG (bC (ab []) fun t=>dC (cellAt r t))) v (cS G9 r):=by
 have h2:=h W S (fun _=>.nilIface) vals hS (fun t b ⟨o,ho⟩=>by simp[ab]at ho) ⟨fun t o ho=>by simp[ab]at ho,fun t t' b ⟨o,ho⟩=>by simp[ab]at ho⟩ hl fun i v x hi hx=>(hv i v x hi hx).mono (fun b hb=>⟨⟨.inl hb,hS b hb,fun⟨t,o,ho,_⟩=>by simp[ab]at ho⟩,rfl⟩) (fun t ht=>ht.elim);refine h2.mono ?_;rintro e w' ⟨v,β',rfl,hf,hh,hb,hr⟩;refine⟨v,β',rfl,⟨hf.os,hf.tape,hf.output,hf.size,fun k hk=>hf.block k hk fun⟨t,o,ho,_⟩=>by simp[ab]at ho⟩,hh,fun t b hd hbk=>?_,hr⟩;rcases hb t b hd hbk with h|⟨t',o,ho,_⟩;·exact h
 ·simp[ab]at ho
theorem yO:∀inf,Tryz.prog.info? 5=some inf→inf.size=1:=by intro inf hi;obtain⟨iu,hiu,_,hu1,_⟩:=info_parts yu;rw[hiu]at hi;cases hi;exact hu1
theorem sL (p q:PV) (t:Nat):bC (ab []) (fun t=>dC (cellAt (.aO [.pv p,.pv q]) t)) t=none:=by
 show dC (cellAt (.aO [.pv p,.pv q]) t)=none;simp only[cellAt];rcases(show t%1000=0∨t%1000=1∨2≤t%1000 by omega) with h|h|h;·rw[h];simp only[q69,q130,bM];split<;>rfl
 ·rw[h];simp only[q171,q69,q130,bM];split<;>rfl
 ·rw[q132 (by simpa using h)];rfl
theorem JY (ch tl:Int) (y2 y3 y4 y5 y6 y7 y8 y9 y10:AV) (B C R:List UInt8) (hB:B.length+C.length≤65535) (hC:C≠[]) (k1:sO Tryz.prog 38 [] [.agg [.pv (.int .u64 ch),.pv (.int .u64 tl),y2,y3,y4,y5,y6,y7,y8,y9,y10,.pv (.ro [])]] [] (.aO [.fr 5 (bytesRow C),.pv (.int .i64 0)])) (k2:sO Tryz.prog 39 [] [.agg [.pv (.int .u64 ch),.pv (.int .u64 tl),y2,y3,y4,y5,y6,y7,y8,y9,y10,.pv (.ro [])]] [] (.pv (.bool true))) (k3:sO Tryz.prog 40 [] [.pv (.ro [[.int .u64 ch],[.int .u64 tl],[.int .u64 0]])] [] (.fr 5 (bytesRow B))) (k4:sO Tryz.prog 42 [] [.pv (.ro [[.int .u8 12,.ro (bytesRow (B++C))]])] [] (.aO [.fr 5 (bytesRow R),.pv (.int .i64 0)])):sO Tryz.prog 21 [] [.agg [.pv (.int .u64 ch),.pv (.int .u64 tl),y2,y3,y4,y5,y6,y7,y8,y9,y10,.pv (.ro [])]] [] (.aO [.pv (.ro (bytesRow R)),.pv (.int .i64 0)]):=by intro w S0 β vals hS0 hlt hheap hvl hvr;match vals,hvl with|[v0],_=>have hv0:=hvr 0 v0 _ rfl rfl;obtain⟨us,rfl,hl,hus⟩:=hv0.da;match us,hl with
 |[a0,a1,a2,a3,a4,a5,a6,a7,a8,a9,a10,a11],_=>
  cases(hus 0 _ a0 rfl rfl).aN;cases(hus 1 _ a1 rfl rfl).aN;obtain⟨Al,cl,h11,_,_⟩:=(hus 11 _ a11 rfl rfl).bq.gq;cases h11;obtain⟨S,hSd⟩:∃S,S=aZ S0 w.heap.size β (ab []) w:=⟨_,rfl⟩;have hSl:∀b,S b→b<w.heap.size:=fun b hb=>by rw[hSd]at hb;exact hb.2.1
  have hva:∀W,Below w.heap.size w W→RV Tryz.prog S W (fun _=>.nilIface) (fun _=>False) _ _:=fun W hW=>hv0.mono (fun b hb=>⟨by rw[hSd];exact hb,hW.block b hb.2.1⟩) (fun t ⟨o,ho⟩=>by simp[ab]at ho);have hone:∀W,Below w.heap.size w W→∀(i:Nat) (v:Value) (x:AV),[Value.agg #[.int .u64 ch,.int .u64 tl,a2,a3,a4,a5,a6,a7,a8,a9,a10,.slice Al 0 cl]][i]?=some v→[AV.agg [.pv (.int .u64 ch),.pv (.int .u64 tl),y2,y3,y4,y5,y6,y7,y8,y9,y10,.pv (.ro [])]][i]?=some x→RV Tryz.prog S W (fun _=>.nilIface) (fun _=>False) v x:=fun W hW i v x hi hx=>by match i,hi,hx with|0,hi,hx=>simp only[q69,qr]at hi hx;subst hi hx;exact hva W hW|i+1,hi,hx=>simp at hi
  refine(IG ch tl a2 a3 a4 a5 a6 a7 a8 a9 a10 Al cl B C R hB w ?_ ?_ ?_ ?_).mono ?_;·intro W hW;refine(m5 k1 (vals:=[.agg #[.int .u64 ch,.int .u64 tl,a2,a3,a4,a5,a6,a7,a8,a9,a10,.slice Al 0 cl]]) rfl (fun b hb=>q95 (hSl b hb) hW.size) (hone W hW)).mono ?_;rintro e W1 ⟨v,β',rfl,hB1,hh,hb,hr⟩;have hr:RV Tryz.prog _ W1 β' _ v (.aO [.own 0,.pv (.int .i64 0)]):=hr;obtain⟨us,rfl,hl,hu⟩:=hr.jC;match us,hl with
   |[u0,u1],_=>
    have e0:=((hu 0 _ u0 rfl rfl).aX).1;cases(hu 1 _ u1 rfl rfl).aN;subst e0;have hown:=sW (n0:=W.heap.size) yO (hh.holds 0 (.arr 5 (bytesRow C)) rfl) (fun b hb'=>hb 0 b ⟨_,rfl⟩ hb');rcases hown.2 with⟨_,h0⟩|⟨g,cap,cur,hg,hgb,hgh,hnc,hcm,hcs,htk⟩;·exact absurd (q72 h0) hC
    ·refine⟨⟨g,0,none⟩,cap,by rw[hg],fun j hj=>?_,(q66.1 hgh).1,hB1⟩;rw[q100,←htk,q81,if_pos (by omega)];unfold World.cell?;rw[hgh];simp
  ·intro W hW;refine(m5 k2 (vals:=[.agg #[.int .u64 ch,.int .u64 tl,a2,a3,a4,a5,a6,a7,a8,a9,a10,.slice Al 0 cl]]) rfl (fun b hb=>q95 (hSl b hb) hW.size) (hone W hW)).mono ?_;rintro e W1 ⟨v,β',rfl,hB1,hh,hb,hr⟩;exact⟨by rw[RV.fb (b:=true) hr],hB1⟩
  ·intro W A c hc h0 h1 h2;have hAb:A.block<W.heap.size:=by
    have:(A.add 0).block<W.heap.size:=by
     unfold World.cell? at h0;split at h0;·rename_i hq;exact(q66.1 hq).1
     ·cases h0
    rwa[bW]at this
   refine(m5 k3 (S:=fun b=>b<W.heap.size) (vals:=[.slice (some A) 3 c]) rfl (fun b hb=>hb) (fun i v x hi hx=>?_)).mono ?_;·match i,hi,hx with
    |0,hi,hx=>
     cases hi;cases hx;refine .pv _ _ (.ro A c [[.int .u64 ch],[.int .u64 tl],[.int .u64 0]] 1 (fun i _=>.int .u64 ([ch,tl,0].getD i 0)) hAb hc (fun r hr=>?_) (fun i j hi hj=>?_) (fun _ _ _ _ _ _=>rfl) (fun i j r p hr hp=>?_));·simp only[q76,q92,or_false]at hr;rcases hr with rfl|rfl|rfl<;>rfl
     ·obtain rfl:j=0:=by omega
      match i,hi with|0,_=>exact h0|1,_=>exact h1|2,_=>exact h2|i+3,hi=>simp at hi;omega
     ·match i,hr with
      |0,hr=>cases hr;match j,hp with|0,hp=>cases hp;exact .int _ _|j+1,hp=>simp at hp
      |1,hr=>cases hr;match j,hp with|0,hp=>cases hp;exact .int _ _|j+1,hp=>simp at hp
      |2,hr=>cases hr;match j,hp with|0,hp=>cases hp;exact .int _ _|j+1,hp=>simp at hp
      |i+3,hr=>simp at hr
    |i+1,hi,hx=>simp at hi
   ·rintro e W1 ⟨v,β',rfl,hB1,hh,hb,hr⟩;have e0:=(RV.aX (t:=0) hr).1;subst e0;exact⟨_,rfl,sW yO (hh.holds 0 (.arr 5 (bytesRow B)) rfl) (fun b hb'=>hb 0 b ⟨_,rfl⟩ hb'),hB1⟩
  ·intro W A c V hc h0 h1 hV;have hAb:A.block<W.heap.size:=by
    have:(A.add 0).block<W.heap.size:=by
     unfold World.cell? at h0;split at h0;·rename_i hq;exact(q66.1 hq).1
     ·cases h0
    rwa[bW]at this
   have hV2:W.ownsRow 0 5 1 V (B++C).length (eJ (B++C)):=by
    have:eJ (B++C)=eJ B++eJ C:=by simp[eJ]
    rw[this,q74];exact hV
   have hRV:dt (fun b=>b<W.heap.size) W V (.ro (bytesRow (B++C))):=yE (P:=Tryz.prog) hV2 fun b _ hb=>hb;have hVo:V.oneCell'=true:=by rcases hV.2 with⟨rfl,_⟩|⟨g,cap,cur,rfl,_⟩<;>rfl
   refine(m5 k4 (S:=fun b=>b<W.heap.size) (vals:=[.slice (some A) 1 c]) rfl (fun b hb=>hb) (fun i v x hi hx=>?_)).mono ?_;·match i,hi,hx with
    |0,hi,hx=>
     cases hi;cases hx;refine .pv _ _ (.ro A c [[.int .u8 12,.ro (bytesRow (B++C))]] 2 (fun _ j=>if j=0 then .int .u8 12 else V) hAb hc (fun r hr=>?_) (fun i j hi hj=>?_) (fun i j r p hr hp=>?_) (fun i j r p hr hp=>?_));·simp only[q76,q92,or_false]at hr;subst hr;rfl
     ·obtain rfl:i=0:=by simp at hi;omega
      match j,hj with|0,_=>exact h0|1,_=>exact h1|j+2,hj=>omega
     ·split;·rfl
      ·exact hVo
     ·match i,hr with
      |0,hr=>cases hr;match j,hp with|0,hp=>cases hp;exact .int _ _|1,hp=>cases hp;exact hRV|j+2,hp=>simp at hp
      |i+1,hr=>simp at hr
    |i+1,hi,hx=>simp at hi
   ·rintro e W1 ⟨v,β',rfl,hB1,hh,hb,hr⟩;have hr:RV Tryz.prog _ W1 β' _ v (.aO [.own 0,.pv (.int .i64 0)]):=hr;obtain⟨us,rfl,hl,hu⟩:=hr.jC;match us,hl with|[u0,u1],_=>have e0:=((hu 0 _ u0 rfl rfl).aX).1;cases(hu 1 _ u1 rfl rfl).aN;subst e0;exact⟨_,rfl,yE (P:=Tryz.prog) (sW (n0:=W.heap.size) yO (hh.holds 0 (.arr 5 (bytesRow R)) rfl) (fun b hb'=>hb 0 b ⟨_,rfl⟩ hb')) fun b h1 h2=>⟨h1,h2⟩,hB1⟩
  ·rintro e w' ⟨V',rfl,hR,hBw⟩;refine⟨_,fun _=>.nilIface,rfl,⟨hBw.os,hBw.tape,hBw.output,hBw.size,fun k hk _=>hBw.block k hk⟩,⟨fun t o ho=>?_,fun t t' b ⟨o,ho⟩=>?_⟩,fun t b ⟨o,ho⟩=>?_,?_⟩;·rw[sL]at ho;cases ho
   ·rw[sL]at ho;cases ho
   ·rw[sL]at ho;cases ho
   ·refine .aO _ [V',.int .i64 0] rfl fun i x u hx hu=>?_;match i,hx,hu with|0,hx,hu=>cases hx;cases hu;exact .pv _ _ (hR.mono fun b hb=>⟨⟨.inr hb.1,hb.2,fun⟨t,o,ho,_⟩=>by rw[sL]at ho;cases ho⟩,rfl⟩)|1,hx,hu=>cases hx;cases hu;exact .pv _ _ (.int _ _)|i+2,hx,hu=>simp at hu
end Go.Proofs.YtlicclncicbajaaGreat.Ab
