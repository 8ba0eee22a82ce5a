/- Chapter 16: the reference applies a record. -/
import Derived.Test.YtlmkcmfmfahcfaaGreatX13
import Derived.ProofKit
import Derived.Below
import Derived.ChangeSame
import Derived.Carry
import Derived.Deep.Slices
import Derived.Deep.Fields
import Derived.Test.YtlmkcmfmfahcfaaGreatRows
set_option linter.unusedVariables false
set_option linter.unusedSimpArgs false
set_option linter.unnecessarySimpa false
set_option maxHeartbeats 40000000
set_option maxRecDepth 100000
namespace Go.Proofs.YtlmkcmfmfahcfaaGreat.Ab
open Go Go.RowKit R
@[simp] def Kx:List AV→Option (Prop×AV)|[]=>some (True,.pv (.int .u64 18446744073709551615))|_=>none
theorem Nc:aO Tryz.prog 104 Kx:=by
 intro ys φ r h hφ;unfold Kx at h;split at h;·cases h;refine aw ah (by kernel_rfl) (by conv=>lhs;reduce) (by simp) ?_;simp(config := { maxSteps := 3000000 })
 ·cases h
theorem Jl:aO Tryz.prog 68 CJ:=by
 intro ys φ r h hφ;unfold CJ at h;split at h;·rename_i e p i u h' q j f;cases h;refine aw ah (by kernel_rfl) (by conv=>lhs;reduce) (by simp) ?_;cases h' with|false=>simp(config := { maxSteps := 3000000 }) [dQ]|true=>
  by_cases h1:p=q
  ·by_cases h2:i=j;·by_cases h3:e=f<;>simp(config := { maxSteps := 3000000 }) [dQ,h1,h2,h3]
   ·simp(config := { maxSteps := 3000000 }) [dQ,h1,h2]
  ·simp(config := { maxSteps := 3000000 }) [dQ,h1]
 ·cases h
theorem GY:aO Tryz.prog 67 wX:=by
 intro ys φ r h hφ;unfold wX at h;split at h
 ·rename_i e p i u h' q j v;cases h;obtain⟨o1,o2⟩:=hφ;refine aw (ag Nc ah) (by kernel_rfl) (by conv=>lhs;reduce) (by simp) ?_;by_cases h1:e=18446744073709551615;·simp(config := { maxSteps := 3000000 }) [cX,kD,dx,h1]
  ·have w1:IntKind.u64.wrap (e+1)=e+1:=wrap_u64 (by omega);simp(config := { maxSteps := 3000000 }) [cX,kD,dx,h1,w1]
 ·cases h
theorem FR:aO Tryz.prog 69 xL:=by
 intro ys φ r h hφ;unfold xL at h;split at h
 ·rename_i e p i u h' v;cases h;refine aw ah (by kernel_rfl) (by conv=>lhs;reduce) (by simp) ?_;by_cases h1:v<u
  ·have h2:max u v=u:=by omega
   simp(config := { maxSteps := 3000000 }) [nu,dx,h1,h2]
  ·have h2:max u v=v:=by omega
   simp(config := { maxSteps := 3000000 }) [nu,dx,h1,h2]
 ·cases h
theorem Ow:aO Tryz.prog 70 JD:=by
 intro ys φ r h hφ;unfold JD at h;split at h;·cases h;refine aw ah (by kernel_rfl) (by conv=>lhs;reduce) (by simp) ?_;simp(config := { maxSteps := 3000000 }) [jD,dx]
 ·cases h
def jW (a:Ap):Dc×Bool:=if a.r.k=1 then(⟨(cX a.l a.r.p a.r.i a.r.u).1,a.ps,a.vs,a.sl⟩,decide ((cX a.l a.r.p a.r.i a.r.u).2=0)&&decide ((cX a.l a.r.p a.r.i a.r.u).1.e=a.r.e)) else if a.r.k=7 then(⟨a.l,a.ps,a.vs,true⟩,a.l.h&&decide (a.l.p=a.r.p)&&decide (a.l.i=a.r.i)) else if dQ a.l a.r.p a.r.i a.r.e=false then(⟨a.l,a.ps,a.vs,a.sl⟩,false) else if a.r.k=2 then(⟨nu a.l a.r.u,a.ps,a.vs,a.sl⟩,true) else if a.r.k=3 then(⟨jD a.l,a.ps,a.vs,a.sl⟩,true) else(⟨a.l,a.ps,(cW a.vs (ed a)).1,a.sl⟩,decide ((cW a.vs (ed a)).2=0))
@[simp] noncomputable def J3:List AV→Option (Prop×AV)|[.agg ys,.agg zs,.pv (.int .u64 n)]=>fp ys fun d=>iF zs fun r=>some (bQ d.l.e∧d.vs.length≤100000∧(∀v∈d.vs,eL v)∧eL (ed ⟨d.l,d.ps,d.vs,d.sl,r,n,0⟩),.aQ [.agg (cellsD (jW ⟨d.l,d.ps,d.vs,d.sl,r,n,0⟩).1),.pv (.bool (jW ⟨d.l,d.ps,d.vs,d.sl,r,n,0⟩).2)])|_=>none
theorem Oi:aO Tryz.prog 30 J3:=by
 intro ys φ r h hφ;unfold J3 at h;split at h
 ·rename_i ys zs n;obtain⟨d,rfl,h1⟩:=bY h;obtain⟨r,rfl,h2⟩:=dM h1;clear h h1;cases h2;obtain⟨⟨e,p,i,u,h'⟩,ps,vs,sl⟩:=d;obtain⟨k,rp,ri,rs,re,ru,rv,rc,rz,rm,rn,rt⟩:=r;obtain⟨o1,l1,o2,o3⟩:=hφ;have o1:bQ e:=o1;have l1:vs.length≤100000:=l1;have o2:(∀v∈vs,eL v)=True:=eq_true o2;have o3:eL ⟨n,rv,rp,ri,rs,rz,rm,[],false,false⟩:=o3;refine aw (ag GY (ag Jl (ag FR (ag Ow (ag Is ah))))) (by kernel_rfl) (by conv=>lhs;reduce) (by simp) ?_;unfold jW;apply af;·simp(config := { maxSteps := 3000000 }) [cellsD,bf];exact⟨rfl,rfl⟩
  apply af;·simp(config := { maxSteps := 3000000 });exact⟨rfl,rfl⟩
  by_cases k1:k=1;·subst k1;simp(config := { maxSteps := 3000000 }) [o1,dx,cellsD,aA,ax]
  by_cases k7:k=7;·subst k7;simp(config := { maxSteps := 3000000 }) [dx,cellsD,aA,ax]
  apply af;·simp(config := { maxSteps := 3000000 }) [k1,k7];exact⟨rfl,rfl⟩
  cases ho:dQ ⟨e,p,i,u,h'⟩ rp ri re with|false=>simp(config := { maxSteps := 3000000 }) [k1,k7,ho,cellsD,aA,ax]|true=>
   apply af;·simp(config := { maxSteps := 3000000 }) [ho];exact⟨rfl,rfl⟩
   by_cases k2:k=2;·subst k2;simp(config := { maxSteps := 3000000 }) [ho,dx,cellsD,aA,ax]
   by_cases k3:k=3;·subst k3;simp(config := { maxSteps := 3000000 }) [ho,dx,cellsD,aA,ax]
   simp(config := { maxSteps := 3000000 }) [k1,k2,k3,k7,ho,l1,o2,o3,ed,cellsD,aA,ax];exact decide_eq_decide.2 Iff.rfl
 ·cases h
noncomputable def gK (a:Ap):Dc×Bool:=if a.r.k=5 then(⟨a.l,(mS a.ps ⟨a.n,a.r.v,a.r.u⟩).1,a.vs,a.sl⟩,(dE a.vs a.r.v).isSome&&decide ((mS a.ps ⟨a.n,a.r.v,a.r.u⟩).2=0)) else if a.r.k=6 then(⟨a.l,(mO a.ps a.r.v).1,a.vs,a.sl⟩,decide ((mO a.ps a.r.v).2=0)) else if a.r.k=8 then(⟨a.l,cY a.ps a.r.c a.s,cm a.vs (kI ((cY a.ps a.r.c a.s).map Pn.v)),a.sl⟩,true) else(⟨a.l,a.ps,a.vs,a.sl⟩,false)
@[simp] noncomputable def F6:List AV→Option (Prop×AV)|[.agg ys,.agg zs,.pv (.int .u64 n),.pv (.int .u64 s)]=>fp ys fun d=>iF zs fun r=>some (d.ps.length<50∧d.vs.length≤100000∧(∀e∈d.ps,e9 e)∧(∀v∈d.vs,eL v)∧bQ r.c∧bQ s,.aQ [.agg (cellsD (gK ⟨d.l,d.ps,d.vs,d.sl,r,n,s⟩).1),.pv (.bool (gK ⟨d.l,d.ps,d.vs,d.sl,r,n,s⟩).2)])|_=>none
theorem It:aO Tryz.prog 31 F6:=by
 intro ys φ r h hφ;unfold F6 at h;split at h
 ·rename_i ys zs n s;obtain⟨d,rfl,h1⟩:=bY h;obtain⟨r,rfl,h2⟩:=dM h1;clear h h1;cases h2;obtain⟨⟨e,p,i,u,h'⟩,ps,vs,sl⟩:=d;obtain⟨k,rp,ri,rs,re,ru,rv,rc,rz,rm,rn,rt⟩:=r;obtain⟨l1,l2,o1,o2,o3,o4⟩:=hφ;have l1:ps.length<50:=l1;have l2:vs.length≤100000:=l2;have l3:ps.length≤1000000:=by omega
  have l4:vs.length≤1000000:=by omega
  have l5:ps.length≤100000:=by omega
  have o3:bQ rc:=o3;have l6:(cY ps rc s).length<50:=by have:=List.length_filter_le (fun e=>!eJ rc s e) ps;unfold cY;omega
  have l7:(kI ((cY ps rc s).map Pn.v)).length≤1000000:=by have:=wg ((cY ps rc s).map Pn.v);rw[List.length_map]at this;omega
  have l8:(cY ps rc s).length≤1000000:=by omega
  have hU:∀l:List Int,bA l=iU l:=fun _=>rfl;have fU:∀l:List Int,bE (iU l):=tj;have o5:∀e∈ps,bQ e.u:=fun e he=>(o1 e he).2.2;have o6:(∀e∈ps,bQ e.u)=True:=eq_true o5;have o7:(∀v∈vs,eL v)=True:=eq_true o2;refine aw (ag KJ (ag LV (ag Oc (ag Jz (ag c_rV (ag DG ah)))))) (by kernel_rfl) (by conv=>lhs;reduce) (by simp) ?_;unfold gK;apply af;·simp(config := { maxSteps := 3000000 }) [cellsD,bf];exact⟨rfl,rfl⟩
  apply af;·simp(config := { maxSteps := 3000000 });exact⟨rfl,rfl⟩
  by_cases k5:k=5;·subst k5;simp(config := { maxSteps := 3000000 }) [l3,l4,bG,cellsD,aA,ax]
  by_cases k6:k=6;·subst k6;simp(config := { maxSteps := 3000000 }) [l5,cellsD,aA,ax]
  by_cases k8:k=8;·subst k8;simp(config := { maxSteps := 3000000 }) [l1,l2,l3,l6,l7,l8,o3,o4,o6,o7,hU,fU,cellsD,aA,ax]
  simp(config := { maxSteps := 3000000 }) [k5,k6,k8,cellsD,aA,ax]
 ·cases h
theorem Ct {r:Rc} (h:bM r=true):1≤r.k∧r.k≤11:=by
 by_cases h1:r.k<1∨11<r.k;·rw[qc h1]at h;cases h
 ·omega
def td (a:Ap):Dc:=⟨a.l,a.ps,a.vs,a.sl⟩
theorem Jp {a:Ap} (h:bM a.r=false):aT a=(a,220):=by
 unfold aT;split;·rfl
 ·rw[h,if_neg (by simp)]
theorem GC {a:Ap} (h:bM a.r=true) (hk:a.r.k≤4∨a.r.k=7):(td (aT a).1,(aT a).2)=if(jW a).2=true∧a.sl=false then((jW a).1,0) else(td a,220):=by
 obtain⟨h1,h2⟩:=Ct h;have hk:a.r.k=1∨a.r.k=2∨a.r.k=3∨a.r.k=4∨a.r.k=7:=by omega
 rcases hk with hk|hk|hk|hk|hk;·cases hs:a.sl<;>cases hq:decide ((cX a.l a.r.p a.r.i a.r.u).2=0)<;>cases hq2:decide ((cX a.l a.r.p a.r.i a.r.u).1.e=a.r.e)<;>simp[aT,xj,jW,hk,h,iV,hs,hq,hq2,td]
 ·cases hs:a.sl<;>cases ho:dQ a.l a.r.p a.r.i a.r.e<;>simp[aT,xj,jW,hk,h,lK,hs,ho,td]
 ·cases hs:a.sl<;>cases ho:dQ a.l a.r.p a.r.i a.r.e<;>simp[aT,xj,jW,hk,h,gB,hs,ho,td]
 ·cases hs:a.sl<;>cases ho:dQ a.l a.r.p a.r.i a.r.e<;>cases hq:decide ((cW a.vs (ed a)).2=0)<;>simp[aT,xj,jW,hk,h,gZ,hs,ho,hq,td]
 ·cases hs:a.sl<;>cases hq:(a.l.h&&decide (a.l.p=a.r.p)&&decide (a.l.i=a.r.i))<;>simp[aT,xj,jW,hk,h,qV,hs,hq,td]
theorem Ec {a:Ap} (h:bM a.r=true) (hk:¬(a.r.k≤4∨a.r.k=7)):(td (aT a).1,(aT a).2)=if(gK a).2=true then((gK a).1,0) else(td a,220):=by
 obtain⟨h1,h2⟩:=Ct h;have hk:a.r.k=5∨a.r.k=6∨a.r.k=8∨a.r.k=9∨a.r.k=10∨a.r.k=11:=by omega
 rcases hk with hk|hk|hk|hk|hk|hk;·cases hq:((dE a.vs a.r.v).isSome&&decide ((mS a.ps ⟨a.n,a.r.v,a.r.u⟩).2=0))<;>simp[aT,xj,gK,hk,h,xb,hq,td]
 ·cases hq:decide ((mO a.ps a.r.v).2=0)<;>simp[aT,xj,gK,hk,h,lr,hq,td]
 ·simp[aT,xj,gK,hk,h,iP,td]
 ·simp[aT,xj,gK,hk,h,td]
 ·simp[aT,xj,gK,hk,h,td]
 ·simp[aT,xj,gK,hk,h,td]
@[simp] noncomputable def XC:List AV→Option (Prop×AV)|[.agg ys]=>fp ys fun d=>some (d.ps.length≤100000∧d.vs.length≤100000,.bJ 0 [.agg (cellsD d)])|_=>none
theorem Yx:dR Tryz.prog 9 XC:=by
 intro ys φ r h hφ;unfold XC at h;split at h;·obtain⟨d,rfl,h2⟩:=bY h;clear h;cases h2;obtain⟨h1,h2⟩:=hφ;refine cu (ag TA (ag S6 ah)) (by kernel_rfl) (by conv=>lhs;reduce) (by simp[cellsD]) rfl (by simp[cellsD]) ?_;simp(config := { maxSteps := 3000000 }) [cellsD,h1,h2]
 ·cases h
@[simp] noncomputable def J4:List AV→Option (Prop×AV)|[.agg ys,.agg zs,.pv (.int .u64 n),.pv (.int .u64 s)]=>fp ys fun d=>iF zs fun r=>some (sT ⟨d.l,d.ps,d.vs,d.sl,r,n,s⟩∧0≤r.k,.aQ [.agg (cellsD (td (aT ⟨d.l,d.ps,d.vs,d.sl,r,n,s⟩).1)),.pv (.int .i64 (aT ⟨d.l,d.ps,d.vs,d.sl,r,n,s⟩).2)])|_=>none
theorem LF:aO Tryz.prog 10 J4:=by
 intro ys φ r h hφ;unfold J4 at h;split at h
 ·rename_i ys zs n s;obtain⟨d,rfl,h1⟩:=bY h;obtain⟨r,rfl,h2⟩:=dM h1;clear h h1;cases h2;obtain⟨⟨o1,o2,o3,o4,o5,o6,o7,o8⟩,hk⟩:=hφ;obtain⟨⟨e,p,i,u,h'⟩,ps,vs,sl⟩:=d;obtain⟨k,rp,ri,rs,re,ru,rv,rc,rz,rm,rn,rt⟩:=r;have o1:bQ e:=o1;have o2:ps.length<50:=o2;have o3:vs.length≤100000:=o3;have o4:(∀e∈ps,e9 e)=True:=eq_true o4;have o5:(∀v∈vs,eL v)=True:=eq_true o5;have o6:bQ rc:=o6;have o7:bQ s:=o7;have o8:eL (ed ⟨⟨e,p,i,u,h'⟩,ps,vs,sl,⟨k,rp,ri,rs,re,ru,rv,rc,rz,rm,rn,rt⟩,n,0⟩):=o8;refine aw (ag Gb (ag Oi (ag It ah))) (by kernel_rfl) (by conv=>lhs;reduce) (by simp) ?_;apply af;·simp(config := { maxSteps := 3000000 }) [cellsD,bf];exact⟨rfl,rfl⟩
  cases hR:bM ⟨k,rp,ri,rs,re,ru,rv,rc,rz,rm,rn,rt⟩ with|false=>
   have hb:aT ⟨⟨e,p,i,u,h'⟩,ps,vs,sl,⟨k,rp,ri,rs,re,ru,rv,rc,rz,rm,rn,rt⟩,n,s⟩=_:=Jp hR;rw[hb];rw[bd];apply af;·simp(config := { maxSteps := 3000000 }) [hR];exact⟨rfl,rfl⟩
   apply gN rfl;simp(config := { maxSteps := 3000000 }) [td,cellsD,aA,ax]|true=>
   apply af;·simp(config := { maxSteps := 3000000 }) [hR];exact⟨rfl,rfl⟩
   apply af;·simp(config := { maxSteps := 3000000 });exact⟨rfl,rfl⟩
   by_cases hk1:k≤4∨k=7
   ·have ha:=GC (a:=⟨⟨e,p,i,u,h'⟩,ps,vs,sl,⟨k,rp,ri,rs,re,ru,rv,rc,rz,rm,rn,rt⟩,n,s⟩) hR hk1;have hh:jW ⟨⟨e,p,i,u,h'⟩,ps,vs,sl,⟨k,rp,ri,rs,re,ru,rv,rc,rz,rm,rn,rt⟩,n,s⟩=jW ⟨⟨e,p,i,u,h'⟩,ps,vs,sl,⟨k,rp,ri,rs,re,ru,rv,rc,rz,rm,rn,rt⟩,n,0⟩:=rfl;rw[hh]at ha;generalize aT ⟨⟨e,p,i,u,h'⟩,ps,vs,sl,⟨k,rp,ri,rs,re,ru,rv,rc,rz,rm,rn,rt⟩,n,s⟩=q at*;generalize hx:jW ⟨⟨e,p,i,u,h'⟩,ps,vs,sl,⟨k,rp,ri,rs,re,ru,rv,rc,rz,rm,rn,rt⟩,n,0⟩=x at*;obtain⟨⟨⟨xe,xp,xi,xu,xh⟩,xps,xvs,xsl⟩,b⟩:=x;rw[bd,bd];apply ue
    ·by_cases h4:k≤4;·simp(config := { maxSteps := 3000000 }) [h4];exact⟨rfl,rfl⟩
     ·have h7:k=7:=by omega
      simp(config := { maxSteps := 3000000 }) [h4,h7]
    apply gN rfl;apply af;·simp(config := { maxSteps := 3000000 }) [o1,o3,o5,o8,hx,cellsD,aA,ax];exact⟨rfl,rfl⟩
    cases b with|false=>rw[if_neg (by simp)]at ha;obtain⟨ha1,ha2⟩:=Prod.mk.inj ha;rw[ha1,ha2];simp(config := { maxSteps := 3000000 }) [td,cellsD,aA,ax]|true=>cases sl with|true=>rw[if_neg (by simp)]at ha;obtain⟨ha1,ha2⟩:=Prod.mk.inj ha;rw[ha1,ha2];simp(config := { maxSteps := 3000000 }) [td,cellsD,aA,ax]|false=>rw[if_pos ⟨rfl,rfl⟩]at ha;obtain⟨ha1,ha2⟩:=Prod.mk.inj ha;rw[ha1,ha2];simp(config := { maxSteps := 3000000 }) [td,cellsD,aA,ax]
   ·have ha:=Ec (a:=⟨⟨e,p,i,u,h'⟩,ps,vs,sl,⟨k,rp,ri,rs,re,ru,rv,rc,rz,rm,rn,rt⟩,n,s⟩) hR hk1;generalize aT ⟨⟨e,p,i,u,h'⟩,ps,vs,sl,⟨k,rp,ri,rs,re,ru,rv,rc,rz,rm,rn,rt⟩,n,s⟩=q at*;generalize hx:gK ⟨⟨e,p,i,u,h'⟩,ps,vs,sl,⟨k,rp,ri,rs,re,ru,rv,rc,rz,rm,rn,rt⟩,n,s⟩=x at*;obtain⟨⟨⟨xe,xp,xi,xu,xh⟩,xps,xvs,xsl⟩,b⟩:=x;have h4:¬k≤4:=fun h=>hk1 (Or.inl h);have h7:¬k=7:=fun h=>hk1 (Or.inr h);rw[bd,bd];apply ue;·simp(config := { maxSteps := 3000000 }) [h4,h7];exact⟨rfl,rfl⟩
    apply jv rfl;apply ue;·simp(config := { maxSteps := 3000000 }) [o2,o3,o4,o5,o6,o7,hx,cellsD,aA,ax];exact⟨rfl,rfl⟩
    cases b with|false=>rw[if_neg (by simp)]at ha;obtain⟨ha1,ha2⟩:=Prod.mk.inj ha;rw[ha1,ha2];simp(config := { maxSteps := 3000000 }) [td,cellsD,aA,ax]|true=>rw[if_pos rfl]at ha;obtain⟨ha1,ha2⟩:=Prod.mk.inj ha;rw[ha1,ha2];simp(config := { maxSteps := 3000000 }) [td,cellsD,aA,ax]
 ·cases h
theorem Ms {a:Ap}{x:Ap×Bool} (h:xj a=some x):x.1.ps.length≤a.ps.length+1∧x.1.vs.length≤a.vs.length+1:=by
 have p1:∀e,(mS a.ps e).1.length≤a.ps.length+1:=by intro e;unfold mS;split<;>simp
 have p2:∀n,(mO a.ps n).1.length≤a.ps.length+1:=by
  intro n;unfold mO;have:=tl n a.ps;split;·show(iE n a.ps).length≤_;omega
  ·simp
 have p3:∀c s,(cY a.ps c s).length≤a.ps.length+1:=by intro c s;have:=List.length_filter_le (fun e=>!eJ c s e) a.ps;unfold cY;omega
 have v1:=fun v=>EY a.vs v;have v2:=fun k=>qz a.vs k;unfold xj at h;repeat' split at h
 all_goals first|cases h;exact⟨Nat.le_succ _,Nat.le_succ _⟩|cases h;exact⟨Nat.le_succ _,v1 _⟩|cases h;exact⟨p1 _,Nat.le_succ _⟩|cases h;exact⟨p2 _,Nat.le_succ _⟩|cases h;exact⟨p3 _ _,Nat.le_succ_of_le (v2 _)⟩|cases h
theorem IT (a:Ap):(aT a).1.ps.length≤a.ps.length+1∧(aT a).1.vs.length≤a.vs.length+1:=by
 unfold aT;split;·exact⟨Nat.le_succ _,Nat.le_succ _⟩
 ·rename_i x hx;split;·exact Ms hx
  ·exact⟨Nat.le_succ _,Nat.le_succ _⟩
theorem Fe (d:Dc) (r:Rc) (n s:Int) (hd:d.vs.length≤maxLen) (hV:∀v∈d.vs,eL v) (hP:∀e∈d.ps,e9 e) (he:bQ d.l.e) (hc:bQ r.c) (hv:bQ r.v) (hk:0≤r.k) (hn:bQ n) (hs:bQ s):za Tryz.prog 3 [] [.agg (cellsD d),.agg (bf r),.pv (.int .u64 n),.pv (.int .u64 s)] [] (.pv (.bool true)):=by
 refine aw (ag BW (ag FJ (ag zk (ag LD (bk (ks:=[0]) Yx (by kernel_rfl) (ag N1 (ag LF (ag CX (ag Fu (bk (ks:=[1]) Ke (by kernel_rfl) ah)))))))))) (by kernel_rfl) (by conv=>lhs;reduce) (by simp) ?_;obtain⟨⟨de,dp,di,du,dh⟩,dps,dvs,dsl⟩:=d;obtain⟨k,rp,ri,rs,re,ru,rv,rc,rz,rm,rn,rt⟩:=r;have hd:dvs.length≤maxLen:=hd;apply af;·simp(config := { maxSteps := 3000000 }) [cellsD,bf];exact⟨rfl,rfl⟩
 cases hf:lE ⟨⟨de,dp,di,du,dh⟩,dps,dvs,dsl⟩ with|false=>simp(config := { maxSteps := 3000000 }) [hf,hd]|true=>cases hg:xQ rn rt with|false=>simp(config := { maxSteps := 3000000 }) [hf,hd,hg]|true=>
  have p1:dps.length≤20∧dvs.length≤20:=by simp only[lE,Bool.and_eq_true,decide_eq_true_eq]at hf;exact⟨hf.1.2,hf.2⟩
  obtain⟨p1,p2⟩:=p1;have p3:dps.length≤100000:=by omega
  have p4:dvs.length≤100000:=by omega
  have p5:dps.length≤1000000000:=by omega
  have p6:dvs.length≤1000000000:=by omega
  have hok:sT ⟨⟨de,dp,di,du,dh⟩,dps,dvs,dsl,⟨k,rp,ri,rs,re,ru,rv,rc,rz,rm,rn,rt⟩,n,s⟩:=⟨he,by show dps.length<50;omega,p4,hP,hV,hc,hs,hn.1,hn.2,hv.1,hv.2⟩;have hk:0≤k:=hk;apply af;·simp(config := { maxSteps := 3000000 }) [hf,hd,hg];exact⟨rfl,rfl⟩
  apply af;·simp(config := { maxSteps := 3000000 }) [p3,p4,cellsD,aA,ax];exact⟨rfl,rfl⟩
  have hl:(aT ⟨⟨de,dp,di,du,dh⟩,dps,dvs,dsl,⟨k,rp,ri,rs,re,ru,rv,rc,rz,rm,rn,rt⟩,n,s⟩).1.ps.length≤100000∧(aT ⟨⟨de,dp,di,du,dh⟩,dps,dvs,dsl,⟨k,rp,ri,rs,re,ru,rv,rc,rz,rm,rn,rt⟩,n,s⟩).1.vs.length≤100000:=by have:=IT ⟨⟨de,dp,di,du,dh⟩,dps,dvs,dsl,⟨k,rp,ri,rs,re,ru,rv,rc,rz,rm,rn,rt⟩,n,s⟩;simp only at this;omega
  generalize hA:aT ⟨⟨de,dp,di,du,dh⟩,dps,dvs,dsl,⟨k,rp,ri,rs,re,ru,rv,rc,rz,rm,rn,rt⟩,n,s⟩=q at*;obtain⟨⟨⟨xe,xp,xi,xu,xh⟩,xps,xvs,xsl,ar,an,asl⟩,e⟩:=q;obtain⟨x1,x2⟩:=hl;have x1:xps.length≤100000:=x1;have x2:xvs.length≤100000:=x2;have x3:xps.length≤1000000000:=by omega
  have x4:xvs.length≤1000000000:=by omega
  have x5:xps.length≤1000000:=by omega
  have x6:xvs.length≤1000000:=by omega
  have r3:∀r∈aF xps,r.length=3:=dH xps;have r4:=fS xvs;have r3':(∀r∈aF xps,r.length=3)=True:=eq_true r3;have r4':(∀r∈aC xvs,r.length=10)=True:=eq_true r4;apply af;·simp(config := { maxSteps := 3000000 }) [hok,hk,hA,td,cellsD,bf,aA,ax];exact⟨rfl,rfl⟩
  rw[bd];apply af;·simp(config := { maxSteps := 3000000 });exact⟨rfl,rfl⟩
  rw[aM];refine aq (fun i:Nat=>i≤2) (fun i=>⟨[(2,.pv (.int .u64 n)),(3,.pv (.int .u64 s)),(4,.ptr 4 0),(5,.ptr 5 0),(8,.pv (.bool false)),(9,.ptr 9 0),(10,.ptr 10 0),(11,.pv (.int .i64 e)),(12,.pv (.int .i64 (i:Int)))],[(4,.box (cellsD ⟨⟨de,dp,di,du,dh⟩,dps,dvs,dsl⟩)),(5,.box (bf ⟨k,rp,ri,rs,re,ru,rv,rc,rz,rm,rn,rt⟩)),(9,.box (cellsD ⟨⟨de,dp,di,du,dh⟩,dps,dvs,dsl⟩)),(10,.box (cellsD ⟨⟨xe,xp,xi,xu,xh⟩,xps,xvs,xsl⟩))]⟩) (fun i=>2-i) [] 0 (by simp) ?_ ?_;·simp[cellsD,bf]
  ·intro j hj;have w2:IntKind.i64.wrap ((j:Int)+1)=(j:Int)+1:=wrap_i64 (by omega);rw[kG];dsimp only;by_cases hlt:(j:Int)<2
   ·apply af;·simp(config := { maxSteps := 3000000 }) [hlt];exact⟨rfl,rfl⟩
    rw[bd,aM];apply af;·simp(config := { maxSteps := 3000000 }) [hok,hA,bn,cellsD,bf,aA,ax];exact⟨rfl,rfl⟩
    apply af
    ·apply af;·simp(config := { maxSteps := 3000000 }) [x1,x2,x3,x4,aA,ax];exact⟨rfl,rfl⟩
     apply jv rfl;simp(config := { maxSteps := 3000000 });exact⟨rfl,rfl⟩
    apply af;·simp(config := { maxSteps := 3000000 }) [x5,x6,r3',r4',aA,ax];exact⟨rfl,rfl⟩
    apply af;·simp(config := { maxSteps := 3000000 }) [p3,p4,p5,p6,aA,ax];exact⟨rfl,rfl⟩
    apply jv rfl;simp(config := { maxSteps := 3000000 }) [w2,cellsD,bf];exact⟨j+1,by omega,by omega,by omega⟩
   ·simp(config := { maxSteps := 3000000 }) [hlt]
def bR (b:Bool):Int:=if b=true then 1 else 0
theorem AE (b:Bool):bQ (bR b):=by cases b<;>simp[bR,bQ]
@[simp] def CF:List AV→Option (Prop×AV)|[.pv (.bool b)]=>some (True,.pv (.int .u64 (bR b)))|_=>none
theorem L0:aO Tryz.prog 40 CF:=by
 intro ys φ r h hφ;unfold CF at h;split at h;·rename_i b;cases h;refine aw ah (by kernel_rfl) (by conv=>lhs;reduce) (by simp) ?_;cases b<;>simp(config := { maxSteps := 3000000 }) [bR]
 ·cases h
theorem Iu:aO Tryz.prog 46 CF:=by
 intro ys φ r h hφ;unfold CF at h;split at h;·rename_i b;cases h;refine aw ah (by kernel_rfl) (by conv=>lhs;reduce) (by simp) ?_;cases b<;>simp(config := { maxSteps := 3000000 }) [bR]
 ·cases h
@[simp] noncomputable def Fo:List AV→Option (Prop×AV)|[.pv .nil,.pv (.int .i64 n)]=>some (0≤n∧n≤1000000,.fr 5 [])|_=>none
theorem IE:rW Tryz.prog 95 Fo:=by
 intro ys φ r h hφ;unfold Fo at h;split at h
 ·rename_i n;cases h;obtain⟨h1,h2⟩:=hφ;have hinf:(Tryz.prog.info? 5).isSome=true:=by kernel_rfl
  have w0:IntKind.i64.wrap 0=0:=wrap_i64 (by omega);have w1:IntKind.i64.wrap n=n:=wrap_i64 (by omega);refine mu ah (by kernel_rfl) (by conv=>lhs;reduce) (by simp) (by simp[cU,ll,jh]) (by simp) ?_;have hn0:¬n<0:=by omega
  by_cases h0:0<n;·simp(config := { maxSteps := 3000000 }) [hn0,h0,w0,w1,hinf];omega
  ·simp(config := { maxSteps := 3000000 }) [hn0,h0,w0,w1,hinf]
 ·cases h
@[simp] noncomputable def J6:List AV→Option (Prop×AV)|[.pv (.ro [[.ro a],[.ro b],[.ro c]])]=>(dec eU a).bind fun la=>(dec eU b).bind fun lb=>(dec eU c).map fun lc=>(la.length≤200000∧lb.length≤200000∧lc.length≤200000,.fr 5 (bytesRow (la++(lb++lc))))|_=>none
theorem Mo:aO Tryz.prog 38 J6:=by
 intro ys φ r h hφ;unfold J6 at h;split at h
 ·rename_i ra rb rc;obtain⟨a,ha,h⟩:=Option.bind_eq_some_iff.1 h;obtain⟨b,hb,h⟩:=Option.bind_eq_some_iff.1 h;obtain⟨c,hc,h⟩:=Option.map_eq_some_iff.1 h;cases h;cases aU ha;cases aU hb;cases aU hc;obtain⟨hla,hlb,hlc⟩:=hφ;have w1:IntKind.i64.wrap 1=1:=wrap_i64 (by omega);have w2:IntKind.i64.wrap 2=2:=wrap_i64 (by omega);have w3:IntKind.i64.wrap 3=3:=wrap_i64 (by omega);have wa:IntKind.i64.wrap (a.length:Int)=a.length:=wrap_i64 (by omega);have wab:IntKind.i64.wrap ((a.length:Int)+(b.length:Int))=(a.length:Int)+(b.length:Int):=wrap_i64 (by omega);have wabc:IntKind.i64.wrap ((a.length:Int)+(b.length:Int)+(c.length:Int))=(a.length:Int)+(b.length:Int)+(c.length:Int):=wrap_i64 (by omega);have r0:rowAt [[PV.ro (bytesRow a)],[PV.ro (bytesRow b)],[PV.ro (bytesRow c)]] 0=[.ro (bytesRow a)]:=rfl;have r1:rowAt [[PV.ro (bytesRow a)],[PV.ro (bytesRow b)],[PV.ro (bytesRow c)]] 1=[.ro (bytesRow b)]:=rfl;have r2:rowAt [[PV.ro (bytesRow a)],[PV.ro (bytesRow b)],[PV.ro (bytesRow c)]] 2=[.ro (bytesRow c)]:=rfl;have ga:¬((a.length:Int)<0):=by omega
  have gab:¬((a.length:Int)+(b.length:Int)<0):=by omega
  have gabc:¬((a.length:Int)+(b.length:Int)+(c.length:Int)<0):=by omega
  have gc:(a.length:Int)+(b.length:Int)+(c.length:Int)≤1000000:=by omega
  have gd:(0:Int)≤(a.length:Int)+(b.length:Int)+(c.length:Int):=by omega
  refine aw (il (p:=0) (k:=997) IE (by kernel_rfl) ah) (by kernel_rfl) (by conv=>lhs;reduce) (by simp) ?_;simp(config := { maxSteps := 3000000 });refine aq (fun i:Nat=>i=0∨i=1∨i=2∨i=3) (fun i=>⟨[(0,.pv (.ro [[.ro (bytesRow a)],[.ro (bytesRow b)],[.ro (bytesRow c)]])),(2,.own 2),(3,.pv (.int .i64 (if i=0 then 0 else if i=1 then(a.length:Int) else if i=2 then(a.length:Int)+(b.length:Int) else(a.length:Int)+(b.length:Int)+(c.length:Int)))),(9,.pv (.ro [[.ro (bytesRow a)],[.ro (bytesRow b)],[.ro (bytesRow c)]])),(10,.pv (.int .i64 3)),(11,.pv (.int .i64 i))],[(2,.arr 5 [])]⟩) (fun i=>3-i) [] 0 (by simp) ?_ ?_;·simp
  ·rintro i (rfl|rfl|rfl|rfl);·simp(config := { maxSteps := 3000000 }) [r0,wa,ga,w1]
   ·simp(config := { maxSteps := 3000000 }) [r1,wab,gab,w2]
   ·simp(config := { maxSteps := 3000000 }) [r2,wabc,gabc,w3]
   ·simp(config := { maxSteps := 3000000 }) [gc,gd];refine aq (fun i:Nat=>i=0∨i=1∨i=2∨i=3) (fun i=>⟨[(0,.pv (.ro [[.ro (bytesRow a)],[.ro (bytesRow b)],[.ro (bytesRow c)]])),(2,.own 2),(6,.own 24),(25,.pv (.ro [[.ro (bytesRow a)],[.ro (bytesRow b)],[.ro (bytesRow c)]])),(26,.pv (.int .i64 3)),(27,.pv (.int .i64 i))],[(2,.arr 5 []),(24,.arr 5 (if i=0 then[] else if i=1 then bytesRow a else if i=2 then bytesRow a++bytesRow b else bytesRow a++(bytesRow b++bytesRow c)))]⟩) (fun i=>3-i) [] 0 (by simp) ?_ ?_;·simp
    ·rintro i (rfl|rfl|rfl|rfl);·simp(config := { maxSteps := 3000000 }) [r0,w1,aB];exact⟨by omega,by omega,bg _⟩
     ·simp(config := { maxSteps := 3000000 }) [r1,w2,aB];exact⟨by omega,by omega,bg _⟩
     ·simp(config := { maxSteps := 3000000 }) [r2,w3,aB];exact⟨by omega,by omega,bg _⟩
     ·simp(config := { maxSteps := 3000000 }) [bo]
 ·cases h
noncomputable def oV (d:Dc):List UInt8×Int:=if(dc d.vs).2≠0∨eH d.ps=false then([],2) else(ft [d.l.e,d.l.p,d.l.i,d.l.u,bR d.l.h,bR d.sl]++(gR d.ps++dy (dc d.vs).1),0)
def vH (d:Dc):Prop:=d.vs.length≤1000∧(∀v∈d.vs,eL v∧v.t.length≤1000000)∧d.ps.length≤1000∧(∀e∈d.ps,e9 e)∧(bQ d.l.e∧bQ d.l.p∧bQ d.l.i∧bQ d.l.u)∧(dc d.vs).1.length≤100000
theorem wZ {e p i u:Int}{h s:Bool} (o3:bQ e) (o4:bQ p) (o5:bQ i) (o6:bQ u):∀n∈[e,p,i,u,bR h,bR s],bQ n:=by
 intro n hn;simp only[List.mem_cons,List.not_mem_nil,or_false]at hn;rcases hn with rfl|rfl|rfl|rfl|rfl|rfl;·exact o3
 ·exact o4
 ·exact o5
 ·exact o6
 ·exact AE _
 ·exact AE _
theorem sQ {b:List UInt8} (h:b.length≤18446744073709551615):(dy b).length≤b.length+10:=by have:=fq h;unfold dy;rw[List.length_append];omega
theorem uq {ps:List Pn} (o2:∀e∈ps,e9 e) (l2:ps.length≤1000):(gR ps).length≤40000:=by have h1:=eE (n:=(ps.length:Int)) (by unfold bQ;omega);have h2:=mC o2;unfold gR;rw[List.length_append];omega
@[simp] noncomputable def C6:List AV→Option (Prop×AV)|[.agg ys]=>fp ys fun d=>some (vH d,.aQ [.fr 5 (bytesRow (oV d).1),.pv (.int .i64 (oV d).2)])|_=>none
theorem GK:aO Tryz.prog 15 C6:=by
 intro ys φ r h hφ;unfold C6 at h;split at h
 ·obtain⟨d,rfl,h2⟩:=bY h;clear h;cases h2;obtain⟨⟨e,p,i,u,h'⟩,ps,vs,sl⟩:=d;obtain⟨l1,o1,l2,o2,⟨o3,o4,o5,o6⟩,l3⟩:=hφ;have l1:vs.length≤1000:=l1;have l2:ps.length≤1000:=l2;have l3:(dc vs).1.length≤100000:=l3;have o1:(∀v∈vs,eL v∧v.t.length≤1000000)=True:=eq_true o1;have o7:(∀e∈ps,e9 e)=True:=eq_true o2;have o2:∀e∈ps,e9 e:=o2;have o3:bQ e:=o3;have o4:bQ p:=o4;have o5:bQ i:=o5;have o6:bQ u:=o6;have o8:=wZ o3 o4 o5 o6 (h:=h') (s:=sl);have a1:(ft [e,p,i,u,bR h',bR sl]).length≤60:=jS o8;have a2:=uq o2 l2;have l4:ps.length≤1000000:=by omega
  have l5:ps.length≤1000000000:=by omega
  have l6:(dc vs).1.length≤1000000:=by omega
  have d6:dec dF [[.int .u64 e],[.int .u64 p],[.int .u64 i],[.int .u64 u],[.int .u64 (bR h')],[.int .u64 (bR sl)]]=some [e,p,i,u,bR h',bR sl]:=mI [e,p,i,u,bR h',bR sl];refine aw (ag Nf (ag rQ (ag L0 (ag (sa KH) (ag (sa NG) (ag (sa Gj) (ag Mo ah))))))) (by kernel_rfl) (by conv=>lhs;reduce) (by simp) ?_;unfold oV;apply af;·simp(config := { maxSteps := 3000000 }) [cellsD];exact⟨rfl,rfl⟩
  apply af;·simp(config := { maxSteps := 3000000 }) [l1,o1];exact⟨rfl,rfl⟩
  generalize hx:dc vs=x at*;obtain⟨b,x⟩:=x;by_cases he:x=0;·subst he;cases hr:eH ps with|false=>simp(config := { maxSteps := 3000000 }) [hr,l5]|true=>
   rw[if_neg (by simp)];apply af;·simp(config := { maxSteps := 3000000 }) [hr,l5];exact⟨rfl,rfl⟩
   apply af;·simp(config := { maxSteps := 3000000 });exact⟨rfl,rfl⟩
   apply af;·simp(config := { maxSteps := 3000000 }) [d6,o8,a1,a2,l3,l4,l6,o7];exact⟨⟨by omega,by omega,by have:b.length≤100000:=l3;have:=sQ (b:=b) (by omega);omega⟩,dO _,rfl,rfl⟩
   simp(config := { maxSteps := 3000000 })
  ·simp(config := { maxSteps := 3000000 }) [he]
 ·cases h
theorem H4:aO Tryz.prog 16 C6:=by
 intro ys φ r h hφ;unfold C6 at h;split at h
 ·obtain⟨d,rfl,h2⟩:=bY h;clear h;cases h2;obtain⟨⟨e,p,i,u,h'⟩,ps,vs,sl⟩:=d;obtain⟨l1,o1,l2,o2,⟨o3,o4,o5,o6⟩,l3⟩:=hφ;have l1:vs.length≤1000:=l1;have l2:ps.length≤1000:=l2;have l3:(dc vs).1.length≤100000:=l3;have o1:(∀v∈vs,eL v∧v.t.length≤1000000)=True:=eq_true o1;have o7:(∀e∈ps,e9 e)=True:=eq_true o2;have o2:∀e∈ps,e9 e:=o2;have o3:bQ e:=o3;have o4:bQ p:=o4;have o5:bQ i:=o5;have o6:bQ u:=o6;have o8:=wZ o3 o4 o5 o6 (h:=h') (s:=sl);have a1:(ft [e,p,i,u,bR h',bR sl]).length≤60:=jS o8;have a2:=uq o2 l2;have l4:ps.length≤1000000:=by omega
  have l5:ps.length≤1000000000:=by omega
  have l6:(dc vs).1.length≤1000000:=by omega
  have d6:dec dF [[.int .u64 e],[.int .u64 p],[.int .u64 i],[.int .u64 u],[.int .u64 (bR h')],[.int .u64 (bR sl)]]=some [e,p,i,u,bR h',bR sl]:=mI [e,p,i,u,bR h',bR sl];refine aw (ag HE (ag tC (ag Iu (ag GM (ag NF (ag C4 ah)))))) (by kernel_rfl) (by conv=>lhs;reduce) (by simp) ?_;unfold oV;apply af;·simp(config := { maxSteps := 3000000 }) [cellsD];exact⟨rfl,rfl⟩
  apply af;·simp(config := { maxSteps := 3000000 }) [l1,o1];exact⟨rfl,rfl⟩
  generalize hx:dc vs=x at*;obtain⟨b,x⟩:=x;by_cases he:x=0;·subst he;cases hr:eH ps with|false=>simp(config := { maxSteps := 3000000 }) [hr,l5]|true=>
   rw[if_neg (by simp)];apply af;·simp(config := { maxSteps := 3000000 }) [hr,l5];exact⟨rfl,rfl⟩
   apply af;·simp(config := { maxSteps := 3000000 }) [d6,o8,a1,a2,l3,l4,l6,o7];exact⟨rfl,rfl⟩
   simp(config := { maxSteps := 3000000 }) [l4,l6,o7,aB,bo];have l7:b.length≤100000:=l3;have l8:=sQ (b:=b) (by omega);exact⟨⟨by omega,by omega,bg _⟩,by omega,by omega,bg _⟩
  ·simp(config := { maxSteps := 3000000 }) [he]
 ·cases h
theorem sF (b:List UInt8):∀(k:Nat) (n p:Int),(bC b k n p).1.length≤k
 |0,n,p=>by simp[bC]|k+1,n,p=>by
  unfold bC;split;·simp
  ·split;·simp
   ·split;·simp
    ·have:=sF b k (n-1) (aH b 3 p).2.1;simp only[List.length_cons];omega
theorem Eo (b:List UInt8) (p:Int):(cG b p).1.length≤b.length+1:=by
 unfold cG;split;·simp
 ·split;·simp
  ·split;·simp
   ·exact sF b _ _ _
theorem nG {b:List UInt8}:∀(l:List Int) (p:Nat) (r:List UInt8),b.drop p=ft l++r→(∀n∈l,bQ n)→aH b l.length (p:Int)=(l,((p+(ft l).length:Nat):Int),0)
 |[],p,r,_,_=>by simp[aH,ft]|n::l,p,r,h,hn=>by
  obtain⟨o1,o2⟩:=hn n (by simp);have hc:ft (n::l)=cj n++ft l:=by simp[ft]
  rw[hc,List.append_assoc]at h;have hL:=jc (p:=p) (n:=n.toNat) h (by omega);have hd:b.drop (p+(cj n).length)=ft l++r:=by rw[←List.drop_drop,h,List.drop_left]
  have ih:=nG l _ r hd fun m hm=>hn m (by simp[hm]);have e1:(p:Int)+((bS n.toNat).length:Int)=((p+(cj n).length:Nat):Int):=by unfold cj;omega
  have e2:((n.toNat:Nat):Int)=n:=by omega
  rw[e1,e2]at hL;rw[List.length_cons,aH,hL];dsimp only;rw[ih,if_neg (by simp),if_neg (by simp),hc];simp only[List.length_append,Prod.mk.injEq,true_and,and_true];omega
theorem Gy (e:Pn):0<(rY e).length:=by have:=lq e.i.toNat;unfold rY cj;simp only[List.length_append];omega
theorem wE:∀l:List Pn,l.length≤(eF l).length|[]=>by simp|e::l=>by have h1:=Gy e;have h2:=wE l;unfold eF at h2 ⊢;simp only[List.flatMap_cons,List.length_append,List.length_cons];omega
theorem sL {b:List UInt8}:∀(l:List Pn) (k p:Nat) (r:List UInt8),l.length≤k→b.drop p=eF l++r→(∀e∈l,e9 e)→bC b k (l.length:Int) (p:Int)=(l,((p+(eF l).length:Nat):Int),0)
 |[],k,p,r,_,_,_=>by cases k<;>simp[bC,eF]|e::l,0,p,r,hk,_,_=>absurd hk (by simp)|e::l,k+1,p,r,hk,h,ho=>by
  have hc:eF (e::l)=rY e++eF l:=by simp[eF]
  rw[hc,List.append_assoc]at h;obtain⟨o1,o2,o3⟩:=ho e (by simp);have hA:=nG [e.i,e.v,e.u] p (eF l++r) (by rw[nM];exact h) (by
   intro n hn;simp only[List.mem_cons,List.not_mem_nil,or_false]at hn;rcases hn with rfl|rfl|rfl;·exact o1
   ·exact o2
   ·exact o3);rw[nM]at hA;have hA:aH b 3 (p:Int)=([e.i,e.v,e.u],((p+(rY e).length:Nat):Int),0):=hA;have hd:b.drop (p+(rY e).length)=eF l++r:=by rw[←List.drop_drop,h,List.drop_left]
  have ih:=sL l k _ r (by simpa using hk) hd fun m hm=>ho m (by simp[hm]);have e1:(((e::l).length:Nat):Int)-1=(l.length:Int):=by simp
  rw[bC,if_neg (by simp only[List.length_cons];omega),hA,e1];dsimp only;rw[ih,if_neg (by simp),if_neg (by simp),hc];simp only[uQ,List.length_append,Prod.mk.injEq,true_and,and_true];omega
theorem Dw {b:List UInt8}{p:Nat}{l:List Pn}{r:List UInt8} (h:b.drop p=gR l++r) (ho:∀e∈l,e9 e) (hl:l.length<2^64) (hr:eH l=true):cG b (p:Int)=(l,((p+(gR l).length:Nat):Int),0):=by
 unfold gR at h;rw[List.append_assoc]at h;have hv:cj (l.length:Int)=bS l.length:=by unfold cj;rw[Int.toNat_natCast]
 rw[hv]at h;have hL:=jc (p:=p) h hl;have hd:b.drop (p+(bS l.length).length)=eF l++r:=by rw[←List.drop_drop,h,List.drop_left]
 have hlen:l.length≤b.length+1:=by have h1:=wE l;have h2:=congrArg List.length hd;simp only[List.length_drop,List.length_append]at h2;omega
 have hG:=sL l (b.length+1) _ r hlen hd ho;have e1:(p:Int)+((bS l.length).length:Int)=((p+(bS l.length).length:Nat):Int):=by omega
 rw[e1]at hL;unfold cG;rw[hL];dsimp only;rw[hG,if_neg (by simp),if_neg (by simp),if_neg (by simp[hr])];unfold gR;rw[hv];simp only[List.length_append,Prod.mk.injEq,true_and,and_true];omega
theorem wJ (b:List UInt8):∀(k:Nat) (n p:Int),(bC b k n p).2.2=0→p≤b.length→p≤(bC b k n p).2.1∧(bC b k n p).2.1≤b.length
 |0,n,p,_,hp=>⟨Int.le_refl _,hp⟩|k+1,n,p,h,hp=>by
  unfold bC at h ⊢;split at h;·rename_i h1;rw[if_pos h1];exact⟨Int.le_refl _,hp⟩
  ·rename_i h1;rw[if_neg h1];split at h;·rename_i h2;exact absurd h h2
   ·rename_i h2;rw[if_neg h2];split at h;·rename_i h3;exact absurd h h3
    ·rename_i h3;rw[if_neg h3];have h2:(aH b 3 p).2.2=0:=by simpa using h2
     have h3:(bC b k (n-1) (aH b 3 p).2.1).2.2=0:=by simpa using h3
     obtain⟨_,_,g3,g4⟩:=iv b 3 p h2;obtain⟨g5,g6⟩:=g4 (by omega);have:=wJ b k (n-1) _ h3 g6;exact⟨by show p≤(bC b k (n-1) (aH b 3 p).2.1).2.1;omega,this.2⟩
theorem yG (b:List UInt8) (p:Int) (h:(cG b p).2.2=0):0≤(cG b p).2.1∧(cG b p).2.1≤b.length:=by
 unfold cG at h ⊢;split at h;·rename_i h1;exact absurd h h1
 ·rename_i h1;rw[if_neg h1];split at h;·rename_i h2;exact absurd h h2
  ·rename_i h2;rw[if_neg h2];split at h;·cases h
   ·rename_i h3;rw[if_neg h3];have h1:(al b p).2.2=0:=by simpa using h1
    obtain⟨g1,g2,g3⟩:=(dr b p).1 h1;have:=wJ b (b.length+1) (al b p).1 (al b p).2.1 h g3;omega
theorem vz (b:List UInt8) (h:(cg b 0 6).2.2=0):∃x0 x1 x2 x3 x4 x5,(cg b 0 6).1=[x0,x1,x2,x3,x4,x5]∧0≤(cg b 0 6).2.1∧(cg b 0 6).2.1≤b.length:=by
 unfold cg at h ⊢;split at h;·rename_i h1;exact absurd h h1
 ·rename_i h1;rw[if_neg h1];obtain⟨g1,g2,g3,g4⟩:=iv b 6 0 h;obtain⟨_,g5⟩:=g4 (by omega);match hl:(aH b 6 0).1,g1 with|[x0,x1,x2,x3,x4,x5],_=>exact⟨x0,x1,x2,x3,x4,x5,rfl,by omega,g5⟩
theorem nm (b:List UInt8) (q:Int) (h:(bp b q).2.2=0):(bp b q).1.length≤b.length:=by obtain⟨k,_,_,r,hr⟩:=wc h;have:=congrArg List.length hr;simp only[List.length_drop,List.length_append,dy]at this;omega
def zD:Dc:=⟨⟨0,0,0,0,false⟩,[],[],false⟩
noncomputable def dY (b:List UInt8):Dc×Int:=if(cg b 0 6).2.2≠0 then(zD,(cg b 0 6).2.2) else if(cG b (cg b 0 6).2.1).2.2≠0 then(zD,(cG b (cg b 0 6).2.1).2.2) else if 1<(cg b 0 6).1.getD 4 0∨1<(cg b 0 6).1.getD 5 0 then(zD,2) else if(bp b (cG b (cg b 0 6).2.1).2.1).2.2≠0 then(zD,(bp b (cG b (cg b 0 6).2.1).2.1).2.2) else if(bp b (cG b (cg b 0 6).2.1).2.1).2.1<b.length then(zD,11) else if(cq (bp b (cG b (cg b 0 6).2.1).2.1).1).2≠0 then(zD,(cq (bp b (cG b (cg b 0 6).2.1).2.1).1).2) else(⟨⟨(cg b 0 6).1.getD 0 0,(cg b 0 6).1.getD 1 0,(cg b 0 6).1.getD 2 0,(cg b 0 6).1.getD 3 0,decide ((cg b 0 6).1.getD 4 0=1)⟩,(cG b (cg b 0 6).2.1).1,(cq (bp b (cG b (cg b 0 6).2.1).2.1).1).1,decide ((cg b 0 6).1.getD 5 0=1)⟩,0)
@[simp] noncomputable def Dj (e1 e2:TypeId):List AV→Option (Prop×AV)|[.pv (.ro b)]=>(dec eU b).map fun l=>(l.length≤1000000,.aQ [.agg [.pv (.int .u64 (dY l).1.l.e),.pv (.int .u64 (dY l).1.l.p),.pv (.int .u64 (dY l).1.l.i),.pv (.int .u64 (dY l).1.l.u),.pv (.bool (dY l).1.l.h),.fr e1 (aF (dY l).1.ps),.fr e2 (aC (dY l).1.vs),.pv (.bool (dY l).1.sl)],.pv (.int .i64 (dY l).2)])|_=>none
theorem Ml:aO Tryz.prog 17 (Dj 94 73):=by
 intro ys φ r h hφ;unfold Dj at h;split at h
 ·obtain⟨b,hb,h⟩:=Option.map_eq_some_iff.1 h;cases h;cases aU hb;have hl:b.length≤1000000:=hφ;have l9:b.length≤1000000000:=by omega
  have l8:b.length≤100000000:=by omega
  have h6:(6:Int).toNat=6:=rfl;have hi1:(Tryz.prog.info? 94).isSome=true:=by kernel_rfl
  have hi2:(Tryz.prog.info? 73).isSome=true:=by kernel_rfl
  refine aw (ag Cs (ag UJ (ag Cm (ag NT ah)))) (by kernel_rfl) (by conv=>lhs;reduce) (by simp) ?_;unfold dY;apply af;·simp(config := { maxSteps := 3000000 });exact⟨rfl,rfl⟩
  apply af;·simp(config := { maxSteps := 3000000 }) [h6,l9];exact⟨rfl,rfl⟩
  have hA:=vz b;generalize cg b 0 6=A at*;obtain⟨la,a,ea⟩:=A;by_cases he:ea=0;rotate_left;·simp(config := { maxSteps := 3000000 }) [he,hi1,hi2,zD]
  subst he;obtain⟨x0,x1,x2,x3,x4,x5,rfl,k1,k2⟩:=hA rfl;have k3:-9223372036854775808≤a:=by have:(0:Int)≤a:=k1;omega
  have k4:a≤9223372036854775807:=by have:a≤b.length:=k2;omega
  apply af;·simp(config := { maxSteps := 3000000 });exact⟨rfl,rfl⟩
  apply af;·simp(config := { maxSteps := 3000000 }) [l8,k3,k4];exact⟨rfl,rfl⟩
  have hP:=yG b a;dsimp only;generalize cG b a=Q at*;obtain⟨ps,q,ep⟩:=Q;by_cases hp:ep=0;rotate_left;·simp(config := { maxSteps := 3000000 }) [hp,hi1,hi2,zD]
  subst hp;obtain⟨m1,m2⟩:=hP rfl;have m3:-9223372036854775808≤q:=by have:(0:Int)≤q:=m1;omega
  have m4:q≤9223372036854775807:=by have:q≤b.length:=m2;omega
  have r0:rowAt (bA [x0,x1,x2,x3,x4,x5]) 0=[.int .u64 x0]:=rfl;have r1:rowAt (bA [x0,x1,x2,x3,x4,x5]) 1=[.int .u64 x1]:=rfl;have r2:rowAt (bA [x0,x1,x2,x3,x4,x5]) 2=[.int .u64 x2]:=rfl;have r3:rowAt (bA [x0,x1,x2,x3,x4,x5]) 3=[.int .u64 x3]:=rfl;have r4:rowAt (bA [x0,x1,x2,x3,x4,x5]) 4=[.int .u64 x4]:=rfl;have r5:rowAt (bA [x0,x1,x2,x3,x4,x5]) 5=[.int .u64 x5]:=rfl;by_cases h4:1<x4;·simp(config := { maxSteps := 3000000 }) [r4,r5,h4,hi1,hi2,zD]
  by_cases h5:1<x5;·simp(config := { maxSteps := 3000000 }) [r4,r5,h4,h5,hi1,hi2,zD]
  apply af;·simp(config := { maxSteps := 3000000 }) [r4,r5,h4,h5];exact⟨rfl,rfl⟩
  apply af;·simp(config := { maxSteps := 3000000 }) [l9,m3,m4];exact⟨rfl,rfl⟩
  have hT:=mG b q;have hN:=nm b q;dsimp only;generalize bp b q=T at*;obtain⟨s,t,et⟩:=T;by_cases ht:et=0;rotate_left;·simp(config := { maxSteps := 3000000 }) [ht,h4,h5,hi1,hi2,zD]
  subst ht;have hN:s.length≤b.length:=hN rfl;have lN:s.length≤100000000:=by omega
  by_cases hq:t<b.length;·simp(config := { maxSteps := 3000000 }) [hq,h4,h5,hi1,hi2,zD]
  apply af;·simp(config := { maxSteps := 3000000 }) [hq];exact⟨rfl,rfl⟩
  apply af;·simp(config := { maxSteps := 3000000 }) [lN];exact⟨rfl,rfl⟩
  dsimp only;generalize cq s=V at*;obtain⟨vs,ev⟩:=V;by_cases hv:ev=0;rotate_left;·simp(config := { maxSteps := 3000000 }) [hv,hq,h4,h5,hi1,hi2,zD]
  subst hv;apply af;·simp(config := { maxSteps := 3000000 });exact⟨rfl,rfl⟩
  simp(config := { maxSteps := 3000000 }) [r0,r1,r2,r3,r4,r5,hq,h4,h5]
 ·cases h
theorem HV:aO Tryz.prog 18 (Dj 123 92):=by
 intro ys φ r h hφ;unfold Dj at h;split at h
 ·obtain⟨b,hb,h⟩:=Option.map_eq_some_iff.1 h;cases h;cases aU hb;have hl:b.length≤1000000:=hφ;have l9:b.length≤1000000000:=by omega
  have l8:b.length≤100000000:=by omega
  have h6:(6:Int).toNat=6:=rfl;have hi1:(Tryz.prog.info? 123).isSome=true:=by kernel_rfl
  have hi2:(Tryz.prog.info? 92).isSome=true:=by kernel_rfl
  refine aw (ag yD (ag Vc (ag (vM kj) (ag Jk ah)))) (by kernel_rfl) (by conv=>lhs;reduce) (by simp) ?_;unfold dY;apply af;·simp(config := { maxSteps := 3000000 });exact⟨rfl,rfl⟩
  apply af;·simp(config := { maxSteps := 3000000 }) [h6,l9];exact⟨rfl,rfl⟩
  have hA:=vz b;generalize cg b 0 6=A at*;obtain⟨la,a,ea⟩:=A;by_cases he:ea=0;rotate_left;·simp(config := { maxSteps := 3000000 }) [he,hi1,hi2,zD]
  subst he;obtain⟨x0,x1,x2,x3,x4,x5,rfl,k1,k2⟩:=hA rfl;have k3:-9223372036854775808≤a:=by have:(0:Int)≤a:=k1;omega
  have k4:a≤9223372036854775807:=by have:a≤b.length:=k2;omega
  apply af;·simp(config := { maxSteps := 3000000 });exact⟨rfl,rfl⟩
  apply af;·simp(config := { maxSteps := 3000000 }) [l8,k3,k4];exact⟨rfl,rfl⟩
  have hP:=yG b a;dsimp only;generalize cG b a=Q at*;obtain⟨ps,q,ep⟩:=Q;by_cases hp:ep=0;rotate_left;·simp(config := { maxSteps := 3000000 }) [hp,hi1,hi2,zD]
  subst hp;obtain⟨m1,m2⟩:=hP rfl;have m3:-9223372036854775808≤q:=by have:(0:Int)≤q:=m1;omega
  have m4:q≤9223372036854775807:=by have:q≤b.length:=m2;omega
  apply af;·simp(config := { maxSteps := 3000000 });exact⟨rfl,rfl⟩
  have r0:rowAt (bA [x0,x1,x2,x3,x4,x5]) 0=[.int .u64 x0]:=rfl;have r1:rowAt (bA [x0,x1,x2,x3,x4,x5]) 1=[.int .u64 x1]:=rfl;have r2:rowAt (bA [x0,x1,x2,x3,x4,x5]) 2=[.int .u64 x2]:=rfl;have r3:rowAt (bA [x0,x1,x2,x3,x4,x5]) 3=[.int .u64 x3]:=rfl;have r4:rowAt (bA [x0,x1,x2,x3,x4,x5]) 4=[.int .u64 x4]:=rfl;have r5:rowAt (bA [x0,x1,x2,x3,x4,x5]) 5=[.int .u64 x5]:=rfl;by_cases h4:1<x4;·simp(config := { maxSteps := 3000000 }) [r4,r5,h4,hi1,hi2,zD]
  by_cases h5:1<x5;·simp(config := { maxSteps := 3000000 }) [r4,r5,h4,h5,hi1,hi2,zD]
  apply af;·simp(config := { maxSteps := 3000000 }) [r4,r5,h4,h5];exact⟨rfl,rfl⟩
  apply af;·simp(config := { maxSteps := 3000000 }) [l9,m3,m4];exact⟨rfl,rfl⟩
  have hT:=mG b q;have hN:=nm b q;dsimp only;generalize bp b q=T at*;obtain⟨s,t,et⟩:=T;by_cases ht:et=0;rotate_left;·simp(config := { maxSteps := 3000000 }) [ht,h4,h5,hi1,hi2,zD]
  subst ht;apply af;·simp(config := { maxSteps := 3000000 });exact⟨rfl,rfl⟩
  have hN:s.length≤b.length:=hN rfl;have lN:s.length≤100000000:=by omega
  by_cases hq:t<b.length;·simp(config := { maxSteps := 3000000 }) [hq,h4,h5,hi1,hi2,zD]
  apply af;·simp(config := { maxSteps := 3000000 }) [hq];exact⟨rfl,rfl⟩
  apply af;·simp(config := { maxSteps := 3000000 }) [lN];exact⟨rfl,rfl⟩
  dsimp only;generalize cq s=V at*;obtain⟨vs,ev⟩:=V;by_cases hv:ev=0;rotate_left;·simp(config := { maxSteps := 3000000 }) [hv,hq,h4,h5,hi1,hi2,zD]
  subst hv;apply af;·simp(config := { maxSteps := 3000000 });exact⟨rfl,rfl⟩
  simp(config := { maxSteps := 3000000 }) [r0,r1,r2,r3,r4,r5,hq,h4,h5]
 ·cases h
theorem zH (b:Bool):¬1<bR b:=by cases b<;>decide
theorem vm (b:Bool):decide (bR b=1)=b:=by cases b<;>rfl
theorem BO {l:List Vn} (h:(dc l).2=0):aK l=true∧ja l=true∧(dc l).1=eO l:=by
 unfold dc at h ⊢;split at h;·rename_i h1;rw[if_pos h1];exact⟨h1.1,h1.2,rfl⟩
 ·cases h
theorem Ea {d:Dc} (h:(oV d).2=0):(dc d.vs).2=0∧eH d.ps=true∧(oV d).1=ft [d.l.e,d.l.p,d.l.i,d.l.u,bR d.l.h,bR d.sl]++(gR d.ps++dy (dc d.vs).1):=by
 unfold oV at h ⊢;split at h;·cases h
 ·rename_i h1;rw[if_neg h1];refine⟨Classical.byContradiction fun h2=>h1 (Or.inl h2),?_,rfl⟩;cases hr:eH d.ps;·exact absurd (Or.inr hr) h1
  ·rfl
theorem BD {d:Dc} (h:(oV d).2=0) (ok:vH d):dY (oV d).1=(d,0):=by
 obtain⟨hv,hr,hb⟩:=Ea h;obtain⟨v1,v2,v3⟩:=BO hv;obtain⟨l1,o1,l2,o2,⟨o3,o4,o5,o6⟩,l3⟩:=ok;rw[v3]at hb l3;rw[hb];generalize hB:ft [d.l.e,d.l.p,d.l.i,d.l.u,bR d.l.h,bR d.sl]++(gR d.ps++dy (eO d.vs))=B;have hA:cg B 0 6=([d.l.e,d.l.p,d.l.i,d.l.u,bR d.l.h,bR d.sl],((0+(ft [d.l.e,d.l.p,d.l.i,d.l.u,bR d.l.h,bR d.sl]).length:Nat):Int),0):=by have:=nG (b:=B) [d.l.e,d.l.p,d.l.i,d.l.u,bR d.l.h,bR d.sl] 0 (gR d.ps++dy (eO d.vs)) (by rw[List.drop_zero,←hB]) (wZ o3 o4 o5 o6);unfold cg;have e:aH B 6 0=([d.l.e,d.l.p,d.l.i,d.l.u,bR d.l.h,bR d.sl],((0+(ft [d.l.e,d.l.p,d.l.i,d.l.u,bR d.l.h,bR d.sl]).length:Nat):Int),0):=this;rw[e,if_neg (by simp)]
 generalize hq:ft [d.l.e,d.l.p,d.l.i,d.l.u,bR d.l.h,bR d.sl]=X at*;rw[Nat.zero_add]at hA;have h1:B.drop X.length=gR d.ps++dy (eO d.vs):=by rw[←hB,List.drop_left]
 have hP:=Dw h1 o2 (by omega) hr;have h2:B.drop (X.length+(gR d.ps).length)=dy (eO d.vs)++[]:=by rw[←List.drop_drop,h1,List.drop_left,List.append_nil]
 have hT:=qp h2 (by omega);have hl:B.length=X.length+(gR d.ps).length+(dy (eO d.vs)).length:=by rw[←hB];simp only[List.length_append];omega
 have hV:cq (eO d.vs)=(d.vs,0):=BP v1 (fun e he=>⟨⟨(o1 e he).1,List.all_eq_true.1 v2 e he⟩,by have:=(o1 e he).2;omega⟩) (by omega);obtain⟨⟨e,p,i,u,h'⟩,ps,vs,sl⟩:=d;unfold dY;rw[hA];dsimp only at*;rw[if_neg (by simp),hP];dsimp only;rw[if_neg (by simp),if_neg (by show¬(1<bR h'∨1<bR sl);exact fun hx=>hx.elim (zH _) (zH _)),hT];dsimp only;rw[if_neg (by simp),if_neg (by omega),hV];rw[if_neg (by simp)];show((⟨⟨e,p,i,u,decide (bR h'=1)⟩,ps,vs,decide (bR sl=1)⟩:Dc),(0:Int))=_;rw[vm,vm]
theorem AT (b:List UInt8):(dY b).1.ps.length≤b.length+1∧(dY b).1.vs.length≤b.length:=by
 have z:zD.ps.length≤b.length+1∧zD.vs.length≤b.length:=⟨Nat.zero_le _,Nat.zero_le _⟩;unfold dY;split;·exact z
 split;·exact z
 split;·exact z
 split;·exact z
 rename_i h4;split;·exact z
 split;·exact z
 have h5:=AW (bp b (cG b (cg b 0 6).2.1).2.1).1;have h6:=nm b (cG b (cg b 0 6).2.1).2.1 (by simpa using h4);exact⟨Eo b _,Nat.le_trans h5 h6⟩
theorem CV {d:Dc} (hf:lE d=true) (hV:∀v∈d.vs,eL v) (hP:∀e∈d.ps,e9 e) (he:bQ d.l.e) (hp:bQ d.l.p) (hi:bQ d.l.i) (hu:bQ d.l.u):vH d:=by
 simp only[lE,Bool.and_eq_true,decide_eq_true_eq,List.all_eq_true]at hf;obtain⟨⟨h1,h2⟩,h3⟩:=hf;have h4:∀v∈d.vs,eL v∧v.t.length≤1000:=fun v hv=>⟨hV v hv,by have:=h1 v hv;omega⟩;refine⟨by omega,fun v hv=>⟨hV v hv,by have:=h1 v hv;omega⟩,by omega,hP,⟨he,hp,hi,hu⟩,?_⟩;have h5:∀l:List Vn,(∀v∈l,eL v∧v.t.length≤100)→(b9 l).length≤120*l.length:=by intro l;induction l with|nil=>intro _;simp[b9]|cons n l ih=>intro hn;have a1:=iy (n:=n.n) ⟨(hn n (by simp)).1.1,(hn n (by simp)).1.2.1⟩;have a0:=(hn n (by simp)).2;have a2:=fq (n:=n.t.length) (by omega);have a3:=ih fun m hm=>hn m (by simp[hm]);unfold b9 at a3 ⊢;simp only[List.flatMap_cons,List.length_append,List.length_cons,dK,dy]at a3 ⊢;omega
 have h6:=h5 d.vs fun v hv=>⟨hV v hv,h1 v hv⟩;unfold dc;split;·have h7:=iy (n:=(d.vs.length:Int)) ⟨by omega,by omega⟩;show(eO d.vs).length≤100000;unfold eO;rw[List.length_append];omega
 ·exact Nat.zero_le _
theorem zS {d:Dc} (ok:vH d):(oV d).1.length≤300000:=by
 obtain⟨l1,o1,l2,o2,⟨o3,o4,o5,o6⟩,l3⟩:=ok;have a1:(ft [d.l.e,d.l.p,d.l.i,d.l.u,bR d.l.h,bR d.sl]).length≤60:=jS (wZ o3 o4 o5 o6);have a2:=uq o2 l2;have a3:=sQ (b:=(dc d.vs).1) (by omega);unfold oV;split;·exact Nat.zero_le _
 ·show(ft [d.l.e,d.l.p,d.l.i,d.l.u,bR d.l.h,bR d.sl]++(gR d.ps++dy (dc d.vs).1)).length≤_;rw[List.length_append,List.length_append];omega
theorem HS (d:Dc) (b:List UInt8) (hd:d.vs.length≤maxLen) (hV:∀v∈d.vs,eL v) (hP:∀e∈d.ps,e9 e) (he:bQ d.l.e) (hp:bQ d.l.p) (hi:bQ d.l.i) (hu:bQ d.l.u):za Tryz.prog 4 [] [.agg (cellsD d),.pv (.ro (bytesRow b))] [] (.pv (.bool true)):=by
 refine aw (ag BW (ag zk (ag GK (ag LD (ag H4 (ag Ml (ag HV (ag Hp (ag Fu (ag Mh ah)))))))))) (by kernel_rfl) (by conv=>lhs;reduce) (by simp) ?_;apply af;·simp(config := { maxSteps := 3000000 }) [cellsD];exact⟨rfl,rfl⟩
 cases hf:lE d with|false=>refine gD (fun _=>False) ?_ (fun _ h=>h.elim);simp(config := { maxSteps := 3000000 }) [hf,hd]|true=>
  by_cases hl:(500:Int)<b.length;·refine gD (fun _=>False) ?_ (fun _ h=>h.elim);simp(config := { maxSteps := 3000000 }) [hf,hd,hl]
  apply af;·simp(config := { maxSteps := 3000000 }) [hf,hd,hl];exact⟨rfl,rfl⟩
  have ok:=CV hf hV hP he hp hi hu;have ok':vH d=True:=eq_true ok;have hlen:=zS ok;have hlaw:=fun h=>BD (d:=d) h ok;obtain⟨p1,p2⟩:d.ps.length≤20∧d.vs.length≤20:=by simp only[lE,Bool.and_eq_true,decide_eq_true_eq]at hf;exact⟨hf.1.2,hf.2⟩
  have p3:d.ps.length≤100000:=by omega
  have p4:d.vs.length≤100000:=by omega
  have p5:d.ps.length≤1000000000:=by omega
  have p6:d.vs.length≤1000000000:=by omega
  apply af;·simp(config := { maxSteps := 3000000 }) [ok'];exact⟨rfl,rfl⟩
  generalize hq:oV d=q at*;obtain⟨pb,pe⟩:=q;apply af;·simp(config := { maxSteps := 3000000 }) [p3,p4,ok',hq,dO,aA,ax];exact⟨rfl,rfl⟩
  have b1:b.length≤1000000:=by omega
  have hx:=AT b;apply af;·simp(config := { maxSteps := 3000000 }) [b1,dO,aA,ax];exact⟨rfl,rfl⟩
  generalize hX:dY b=X at*;obtain⟨⟨⟨xe,xp,xi,xu,xh⟩,xps,xvs,xsl⟩,xc⟩:=X;obtain⟨x1,x2⟩:=hx;have x1:xps.length≤b.length+1:=x1;have x2:xvs.length≤b.length:=x2;have x3:xps.length≤100000:=by omega
  have x4:xvs.length≤100000:=by omega
  have x5:xps.length≤1000000000:=by omega
  have x6:xvs.length≤1000000000:=by omega
  have hlen:pb.length≤300000:=hlen;have q1:pb.length≤1000000000:=by omega
  have q2:pb.length≤1000000:=by omega
  apply af;·simp(config := { maxSteps := 3000000 }) [b1,hX,dO,aA,ax];exact⟨rfl,rfl⟩
  apply af
  ·apply af;·simp(config := { maxSteps := 3000000 }) [q1,x3,x4,x5,x6,dO,aA,ax];exact⟨rfl,rfl⟩
   simp(config := { maxSteps := 3000000 });exact⟨rfl,rfl⟩
  by_cases hpe:pe=0;rotate_left;·refine gD (fun _=>False) ?_ (fun _ h=>h.elim);simp(config := { maxSteps := 3000000 }) [hpe]
  subst hpe;have hlaw:=hlaw rfl;have hlaw:dY pb=(d,0):=hlaw;apply af;·simp(config := { maxSteps := 3000000 });exact⟨rfl,rfl⟩
  apply af;·simp(config := { maxSteps := 3000000 }) [q2,hlaw,dO,aA,ax];exact⟨rfl,rfl⟩
  simp(config := { maxSteps := 3000000 }) [p3,p4,p5,p6,cellsD,aA,ax]
structure DM (d:Dc):Prop where
 p:bQ d.l.p
 i:bQ d.l.i
 u:bQ d.l.u
 t:∀v∈d.vs,v.t.length≤100
theorem DM.zero:DM ⟨⟨0,0,0,0,false⟩,[],[],false⟩:=⟨by simp[bQ],by simp[bQ],by simp[bQ],by simp⟩
theorem Y7 {a:Ap}{x:Ap×Bool} (h:xj a=some x) (hd:DM (nR a)) (h1:bQ a.r.p) (h2:bQ a.r.i) (h3:bQ a.r.u):DM (nR x.1):=by
 obtain⟨d1,d2,d3,d4⟩:=hd;have d1:bQ a.l.p:=d1;have d2:bQ a.l.i:=d2;have d3:bQ a.l.u:=d3;have d4:∀v∈a.vs,v.t.length≤100:=d4;have g:bQ (cX a.l a.r.p a.r.i a.r.u).1.p∧bQ (cX a.l a.r.p a.r.i a.r.u).1.i∧bQ (cX a.l a.r.p a.r.i a.r.u).1.u:=by
  unfold cX;split;·exact⟨d1,d2,d3⟩
  ·exact⟨h1,h2,h3⟩
 have m:bQ (max a.l.u a.r.u):=by unfold bQ at*;omega
 have v1:∀v∈(cW a.vs (ed a)).1,v.t.length≤100:=by
  intro v hv;unfold cW at hv;have key:v∈a.vs++[ed a]→v.t.length≤100:=by
   intro h;rcases List.mem_append.1 h with h|h;·exact d4 v h
   ·rw[List.mem_singleton.1 h];exact Nat.zero_le _
  repeat' split at hv
  all_goals first|exact key hv|exact d4 v hv|exact absurd hv (by simp)
 have v2:∀bB,∀v∈cm a.vs bB,v.t.length≤100:=by
  intro bB v hv;unfold cm at hv;split at hv;·cases hv
  ·have hv:=(List.mem_filter.1 hv).1;unfold jG at hv;obtain⟨u,hu,rfl⟩:=List.mem_map.1 hv;exact d4 u hu
 unfold xj at h;repeat' split at h
 all_goals first|cases h;exact⟨g.1,g.2.1,g.2.2,d4⟩|cases h;exact⟨d1,d2,m,d4⟩|cases h;exact⟨d1,d2,d3,d4⟩|cases h;exact⟨d1,d2,d3,v1⟩|cases h;exact⟨d1,d2,d3,v2 _⟩|cases h
theorem MB {d:Dc}{r:Rc}{n s:Int} (hd:DM d) (hr:rh r):DM (nR (aT (mQ d r n s)).1):=by
 unfold aT;split;·exact hd
 ·rename_i x hx;split;·exact Y7 hx hd hr.1 hr.2.1 hr.2.2.2.2.1
  ·exact hd
theorem Fy {m b s n i:Nat} (hm:m<12) (hb:b<2) (hs:s<4) (hn:n≤100000) (hi:i≤100):rh (A4 m b s n i):=by
 have h:∀m:Fin 12,0≤lg m∧lg m≤8:=by decide
 unfold rh A4 bQ;dsimp only;refine⟨?_,?_,?_,?_,?_,?_,?_,?_,?_⟩;all_goals(repeat' split)<;>omega
theorem Ji {m:Nat} (hm:m<12):0≤lg m:=(show∀m:Fin 12,0≤lg m by decide) ⟨m,hm⟩
theorem Il {j:Nat}{d:Dc} (hF:FI j d) (hd:DM d) {ts:List (List UInt8)} (ht:∀t∈ts,t.length≤100):DM (eR d ts).1∧(eR d ts).1.ps.length≤j∧(eR d ts).1.vs.length≤j∧(∀v∈(eR d ts).1.vs,eL v)∧(∀e∈(eR d ts).1.ps,e9 e)∧bQ (eR d ts).1.l.e:=by
 obtain⟨g1,g2,g3,g4,g5,g6,g7⟩:=hF;unfold eR;split
 ·have hl:=yc d.vs ts;have hm:∀v∈(bL d.vs ts).1,eL v∧v.t.length≤100:=by
   intro v hv;unfold bL at hv;split at hv;·cases hv
   ·unfold jR at hv;obtain⟨k,hk⟩:=List.mem_iff_getElem?.1 hv;rw[List.getElem?_zipWith]at hk;split at hk;·rename_i a b ha hb;cases hk;have ha':=g3 a (nP.1 (List.mem_of_getElem? ha)).1;exact⟨⟨ha'.1,ha'.2.1,by simp[df],by simp[df]⟩,ht b (List.mem_of_getElem? hb)⟩
    ·cases hk
  exact⟨⟨hd.p,hd.i,hd.u,fun v hv=>(hm v hv).2⟩,g5,by show(bL d.vs ts).1.length≤j;omega,fun v hv=>(hm v hv).1,g6,g7⟩
 ·exact⟨DM.zero,Nat.zero_le _,Nat.zero_le _,by simp,by simp,by simp[bQ]⟩
theorem Nx {d:Dc} (hd:DM d) (h1:d.ps.length≤20) (h2:d.vs.length≤20):lE d=true:=by simp only[lE,Bool.and_eq_true,decide_eq_true_eq,List.all_eq_true];exact⟨⟨hd.t,h1⟩,h2⟩
def DU (d:Dc):Prop:=d.vs.length≤maxLen∧(∀v∈d.vs,eL v)∧(∀e∈d.ps,e9 e)∧bQ d.l.e∧bQ d.l.p∧bQ d.l.i∧bQ d.l.u
theorem DC:∀a b:Rc,qD a=qD b→a=b:=by rintro⟨⟩ ⟨⟩ h;simpa[qD,KC]using h
@[simp] theorem NK (l:List Rc):dec qD (iH l)=some l:=kg DC l
@[simp] noncomputable def GLa:List AV→Option (Prop×AV)|[.agg ys,.agg zs,.pv (.int .u64 n),.pv (.int .u64 s)]=>fp ys fun d=>iF zs fun r=>some (DU d∧bQ r.c∧bQ r.v∧0≤r.k∧bQ n∧bQ s,.pv (.bool true))|_=>none
theorem c_La:aO Tryz.prog 3 GLa:=by
 intro ys φ r h hφ;unfold GLa at h;split at h;·obtain⟨d,rfl,h1⟩:=bY h;obtain⟨r,rfl,h2⟩:=dM h1;cases h2;obtain⟨⟨a1,a2,a3,a4,_⟩,a5,a6,a7,a8,a9⟩:=hφ;exact Fe d r _ _ a1 a2 a3 a4 a5 a6 a7 a8 a9
 ·cases h
@[simp] noncomputable def GLw:List AV→Option (Prop×AV)|[.agg ys,.pv (.ro b)]=>fp ys fun d=>(dec eU b).bind fun b'=>some (DU d,.pv (.bool true))|_=>none
theorem c_Lw:aO Tryz.prog 4 GLw:=by
 intro ys φ r h hφ;unfold GLw at h;split at h;·obtain⟨d,rfl,h1⟩:=bY h;obtain⟨b,hb,h2⟩:=Option.bind_eq_some_iff.1 h1;cases h2;obtain⟨a1,a2,a3,a4,a5,a6,a7⟩:=hφ;cases aU hb;exact HS d b a1 a2 a3 a4 a5 a6 a7
 ·cases h
@[simp] noncomputable def GLf:List AV→Option (Prop×AV)|[.pv (.ro a),.pv (.int .u64 s)]=>(dec qD a).bind fun l=>some (l.length≤maxLen∧(∀r∈l,rh r)∧bQ s,.pv (.bool true))|_=>none
theorem c_Lf:aO Tryz.prog 24 GLf:=by
 intro ys φ r h hφ;unfold GLf at h;split at h;·obtain⟨l,hl,h⟩:=Option.bind_eq_some_iff.1 h;cases h;rw[ke hl];exact Gn l _ hφ.1 hφ.2.1 hφ.2.2
 ·cases h
@[simp] noncomputable def GLi:List AV→Option (Prop×AV)|[.agg ys,.agg zs,.pv (.ro ts)]=>fp ys fun d=>fp zs fun o=>(dec ln ts).bind fun l=>some (d.vs.length≤maxLen∧o.vs.length≤maxLen∧(∀v∈d.vs,eL v)∧l.length≤maxLen,.pv (.bool true))|_=>none
theorem c_Li:aO Tryz.prog 25 GLi:=by
 intro ys φ r h hφ;unfold GLi at h;split at h;·obtain⟨d,rfl,h1⟩:=bY h;obtain⟨o,rfl,h2⟩:=bY h1;obtain⟨l,hl,h3⟩:=Option.bind_eq_some_iff.1 h2;cases h3;cases ej hl;obtain⟨a1,a2,a3,a4⟩:=hφ;exact GI d o l a1 a2 a3 a4
 ·cases h
theorem CM {j:Nat}{d:Dc} (h:FI j d) (hd:DM d) (hj:j≤24):DU d:=⟨by have:=h.lv;unfold maxLen;omega,h.o,h.p,h.e,hd.p,hd.i,hd.u⟩
theorem at8 {j:Nat} (hj:j<8) {k b c d e f:Nat} (h1:k≤10000) (h2:b≤10000) (h3:c≤10000) (h4:d≤10000) (h5:e≤10000) (h6:f≤10000):∃a:Nat,a≤10000∧rowAt [[PV.int .i64 0],[.int .i64 1],[.int .i64 (k:Int)],[.int .i64 (b:Int)],[.int .i64 (c:Int)],[.int .i64 (d:Int)],[.int .i64 (e:Int)],[.int .i64 (f:Int)]] (j:Int)=[.int .i64 (a:Int)]:=by
 have:j=0∨j=1∨j=2∨j=3∨j=4∨j=5∨j=6∨j=7:=by omega
 rcases this with rfl|rfl|rfl|rfl|rfl|rfl|rfl|rfl;·exact⟨0,by omega,rfl⟩
 ·exact⟨1,by omega,rfl⟩
 ·exact⟨k,h1,rfl⟩
 ·exact⟨b,h2,rfl⟩
 ·exact⟨c,h3,rfl⟩
 ·exact⟨d,h4,rfl⟩
 ·exact⟨e,h5,rfl⟩
 ·exact⟨f,h6,rfl⟩
theorem H0:za Tryz.prog 5 [] [] [] (.pv (.bool true)):=by
 refine aw (ag Ma (ag c_La (ag CX (ag nj (ag KM (ag GK (ag c_Lf (ag c_Lw (ag c_Li (ag zk ah)))))))))) (by kernel_rfl) (by conv=>lhs;reduce) (by simp) ?_;apply af;·simp(config := { maxSteps := 3000000 });exact⟨rfl,rfl⟩
 apply af
 ·apply af;·simp(config := { maxSteps := 3000000 });exact⟨rfl,rfl⟩
  rw[aM];refine aq (fun n:Nat=>n≤400) (fun n=>⟨[(0,.pv (.bool false)),(1,.pv (.int .i64 (n:Int)))],[]⟩) (fun n=>400-n) [] 0 (by simp) ?_ ?_;·simp
  ·intro n hn;have w1:IntKind.i64.wrap ((n:Int)+1)=(n:Int)+1:=wrap_i64 (by omega);rw[kG];dsimp only;by_cases hlt:(n:Int)<400
   ·apply af;·simp(config := { maxSteps := 3000000 }) [hlt];exact⟨rfl,rfl⟩
    rw[bd,aM];apply af;·simp(config := { maxSteps := 3000000 });exact⟨rfl,rfl⟩
    apply af;·simp(config := { maxSteps := 3000000 });exact⟨rfl,rfl⟩
    apply af;·simp(config := { maxSteps := 3000000 });exact⟨rfl,rfl⟩
    refine gD (fun st=>∃(k:Nat) (d:Dc) (l:List Rc),FI 8 d∧DM d∧l.length=8∧(∀r∈l,rh r)∧st=⟨look [(0,.pv (.bool false)),(1,.pv (.int .i64 (n:Int))),(2,.ptr 2 0),(3,.own 3),(4,.pv (.int .i64 (k:Int))),(5,.pv (.int .i64 9)),(6,.ay),(7,.ay),(9,.ay),(12,.ay),(18,.pv (.bool false)),(52,.ay),(121,.ay)],ab [(2,.box (cellsD d)),(3,.arr 33 (iH l))]⟩) ?_ ?_;rotate_left
    ·rintro st ⟨k,d,l,hF,hD,hl,hr,rfl⟩;have hdo:=CM hF hD (by omega);have lv:=hF.lv;have lp:=hF.lp;have ho:=hF.o;have lin:=fun ts (h:∀t∈ts,t.length≤100)=>Il (ts:=ts) hF hD h;obtain⟨⟨de,dp,di,du,dh⟩,dps,dvs,dsl⟩:=d;have lv:dvs.length≤8:=lv;have lp:dps.length≤8:=lp;have ho:(∀v∈dvs,eL v)=True:=eq_true ho;have l1:dvs.length≤1000000:=by omega
     have l2:dvs.length≤100000:=by omega
     have l3:dps.length≤100000:=by omega
     have sl:=dW (l:=dvs);generalize hm:(aN dvs).length=m at*;have hm8:min (8:Int) (m:Int)=m:=by omega
     have hm9:(m:Int)≤8:=by omega
     have hm7:m≤8:=by omega
     obtain⟨ts,hts,ht⟩:∃ts:List (List UInt8),(∀t∈ts,t.length≤100)∧List.take m [[PV.str [120]],[.str []],[.str [121,122]],[.str [120,0]],[.str [113]],[.str [114]],[.str [115]],[.str [116]]]=eZ ts:=by
      refine⟨List.take m [[120],[],[121,122],[120,0],[113],[114],[115],[116]],fun t h=>?_,?_⟩;·have:=List.mem_of_mem_take h;simp only[List.mem_cons,List.not_mem_nil,or_false]at this;rcases this with rfl|rfl|rfl|rfl|rfl|rfl|rfl|rfl<;>simp
      ·rw[eZ,List.map_take];rfl
     have lin:=lin ts hts;apply af;·simp(config := { maxSteps := 3000000 }) [cellsD,hm,hm8,hm9,hm7,ht,ho,l1,l2,l3,aA,ax];exact⟨rfl,rfl⟩
     clear hm8 hm9 hm7 ht;generalize hx:eR ⟨⟨de,dp,di,du,dh⟩,dps,dvs,dsl⟩ ts=x at*;obtain⟨⟨⟨xe,xp,xi,xu,xh⟩,xps,xvs,xsl⟩,xc⟩:=x;obtain⟨k1,k2,k3,k4,k5,k6⟩:=lin;have k1:DM ⟨⟨xe,xp,xi,xu,xh⟩,xps,xvs,xsl⟩:=k1;have k2:xps.length≤8:=k2;have k3:xvs.length≤8:=k3;have hdx:DU ⟨⟨xe,xp,xi,xu,xh⟩,xps,xvs,xsl⟩:=⟨by show xvs.length≤maxLen;unfold maxLen;omega,k4,k5,k6,k1.p,k1.i,k1.u⟩;have ok:=CV (Nx k1 (by show xps.length≤20;omega) (by show xvs.length≤20;omega)) k4 k5 k6 k1.p k1.i k1.u;have hlen:=zS ok;have ok':vH ⟨⟨xe,xp,xi,xu,xh⟩,xps,xvs,xsl⟩=True:=eq_true ok;apply af;·simp(config := { maxSteps := 3000000 }) [ok',dO,aA,ax];exact⟨rfl,rfl⟩
     generalize hq:oV ⟨⟨xe,xp,xi,xu,xh⟩,xps,xvs,xsl⟩=q at*;obtain⟨pb,pe⟩:=q;have hlen:pb.length≤300000:=hlen;have n3:Int.tmod (n:Int) 3=((n%3:Nat):Int):=(Int.ofNat_tmod n 3).symm;have n5:Int.tmod (n:Int) 5=((n%5:Nat):Int):=(Int.ofNat_tmod n 5).symm;have n2:Int.tmod (n:Int) 2=((n%2:Nat):Int):=(Int.ofNat_tmod n 2).symm;have b3:n%3<3:=Nat.mod_lt _ (by decide);have b5:n%5<5:=Nat.mod_lt _ (by decide);have b2:n%2<2:=Nat.mod_lt _ (by decide);generalize n%3=q3 at*;generalize n%5=q5 at*;generalize n%2=q2 at*;have w3:IntKind.u64.wrap (q3:Int)=q3:=wrap_u64 (by omega);have n32:Int.tmod (q3:Int) 2=((q3%2:Nat):Int):=(Int.ofNat_tmod q3 2).symm;have b32:q3%2<2:=Nat.mod_lt _ (by decide);generalize q3%2=q32 at*;obtain⟨f,hf,wf⟩:∃f:Nat,f≤2∧IntKind.i64.wrap ((q32:Int)+(q2:Int))=f:=⟨q32+q2,by omega,by rw[wrap_i64 (by omega)];omega⟩;obtain⟨ts2,hl2,ht2⟩:∃ts:List (List UInt8),ts.length≤maxLen∧List.take f [[PV.str [97]],[.str [98]]]=eZ ts:=⟨List.take f [[97],[98]],by rw[List.length_take];unfold maxLen;omega,by rw[eZ,List.map_take];rfl⟩;have hmul:pb.length*q5≤300000*4:=Nat.mul_le_mul hlen (by omega);have hmul2:pb.length*q5≤pb.length*4:=Nat.mul_le_mul_left _ (by omega);obtain⟨P,hP,wP⟩:∃P:Nat,P≤pb.length*4∧IntKind.i64.wrap ((pb.length:Int)*(q5:Int))=P:=⟨pb.length*q5,hmul2,by rw[←Int.natCast_mul,wrap_i64 (by omega)]⟩;obtain⟨e,he,we⟩:∃e:Nat,e≤pb.length∧IntKind.i64.wrap ((P:Int)/5)=e:=⟨P/5,by omega,by rw[wrap_i64 (by omega)];omega⟩;have hbt:List.take e (bytesRow pb)=bytesRow (pb.take e):=by unfold bytesRow;exact List.map_take.symm
     have hm1:l.length≤maxLen:=by unfold maxLen;omega
     have hm2:dvs.length≤maxLen:=by unfold maxLen;omega
     have hm3:xvs.length≤maxLen:=by unfold maxLen;omega
     have hr':(∀r∈l,rh r)=True:=eq_true hr;have hb1:(∀x∈bytesRow pb,x.length=1)=True:=eq_true fun x hx=>by obtain⟨c,_,rfl⟩:=List.mem_map.1 hx;rfl
     have hq3:bQ (q3:Int):=⟨by omega,by omega⟩;have f1:(f:Int)≤2:=by omega
     have e1:(e:Int)≤pb.length:=by omega
     have hall:∀(v:Vn),v∈dvs→eL v:=of_eq_true ho;simp(config := { maxSteps := 3000000 }) [hdo,hdx,n3,n5,n2,n32,w3,wf,wP,we,hbt,ht2,hl2,hm1,hm2,hm3,hr',hb1,hq3,hf,f1,e1,he,ho,w1];exact⟨n+1,by omega,by omega,by omega⟩
    apply af;·simp(config := { maxSteps := 3000000 });exact⟨rfl,rfl⟩
    rw[aM];refine pn (fun x:Nat×Nat×Dc×List Rc=>x.1≤8∧x.2.1=n+29*x.1∧FI x.1 x.2.2.1∧DM x.2.2.1∧x.2.2.2.length=x.1∧∀r∈x.2.2.2,rh r) (fun x=>⟨[(0,.pv (.bool false)),(1,.pv (.int .i64 (n:Int))),(2,.ptr 2 0),(3,.own 3),(4,.pv (.int .i64 (x.2.1:Int))),(5,.pv (.int .i64 ((x.1:Int)+1)))],[(2,.box (cellsD x.2.2.1)),(3,.arr 33 (iH x.2.2.2))]⟩) (fun x=>8-x.1) [] [999996,5000061,6000061] (0,n,⟨⟨0,0,0,0,false⟩,[],[],false⟩,[]) ⟨by simp,by simp,FI.zero,DM.zero,rfl,by simp⟩ ?_ ?_;·simp[cellsD,iH]
    ·rintro⟨j,k,d,l⟩ ⟨g1,g2,g3,g4,g5,g6⟩;have hj:j≤8:=g1;have hk:k=n+29*j:=g2;have hF:FI j d:=g3;have hD:DM d:=g4;have hl:l.length=j:=g5;have hr:∀r∈l,rh r:=g6;clear g1 g2 g3 g4 g5 g6;rw[kG];dsimp only;by_cases hj8:(j:Int)+1≤8
     ·have hj8':j<8:=by omega
      have wj:IntKind.i64.wrap (j:Int)=j:=wrap_i64 (by omega);have wj1:IntKind.i64.wrap ((j:Int)+1+1)=((j+1:Nat):Int)+1:=by rw[wrap_i64 (by omega)];omega
      have wk:IntKind.i64.wrap ((k:Int)+29)=((k+29:Nat):Int):=by rw[wrap_i64 (by omega)];omega
      have wu:IntKind.u64.wrap ((j:Int)+1)=(j:Int)+1:=wrap_u64 (by omega);have wn:Int.tmod (n:Int) 3=((n%3:Nat):Int):=(Int.ofNat_tmod n 3).symm;have hn3:n%3<3:=Nat.mod_lt _ (by decide);generalize n%3=q at*;have wq:IntKind.u64.wrap (q:Int)=q:=wrap_u64 (by omega);obtain⟨a3,ha3,wa3⟩:∃a:Nat,a≤10000∧IntKind.i64.wrap ((k:Int)/3)=a:=⟨k/3,by omega,by rw[wrap_i64 (by omega)];omega⟩;obtain⟨a5,ha5,wa5⟩:∃a:Nat,a≤10000∧IntKind.i64.wrap ((k:Int)*5)=a:=⟨k*5,by omega,by rw[wrap_i64 (by omega)];omega⟩;obtain⟨a1,ha1,wa1⟩:∃a:Nat,a≤10000∧IntKind.i64.wrap ((k:Int)+1)=a:=⟨k+1,by omega,by rw[wrap_i64 (by omega)];omega⟩;obtain⟨a7,ha7,wa7⟩:∃a:Nat,a≤10000∧IntKind.i64.wrap ((k:Int)*7)=a:=⟨k*7,by omega,by rw[wrap_i64 (by omega)];omega⟩;obtain⟨ai,hai,wai⟩:∃a:Nat,a≤10000∧IntKind.i64.wrap ((k:Int)+((j:Int)+1))=a:=⟨k+(j+1),by omega,by rw[wrap_i64 (by omega)];omega⟩;obtain⟨a,ha,har⟩:=at8 hj8' (k:=k) (b:=a3) (c:=a5) (d:=a1) (e:=a7) (f:=ai) (by omega) ha3 ha5 ha1 ha7 hai;have ha':(a:Int)≤100000:=by omega
      have hj9:(j:Int)<8:=by omega
      have hj0:0≤(j:Int)+1:=by omega
      have hj7:(j:Int)+1≤100:=by omega
      apply af;·simp(config := { maxSteps := 3000000 }) [hj8,hj8'];exact⟨rfl,rfl⟩
      rw[bd,aM];obtain⟨⟨de,dp,di,du,dh⟩,dps,dvs,dsl⟩:=d;apply af;·simp(config := { maxSteps := 3000000 }) [bf,cellsD,wj,wa3,wa5,wa1,wa7,wai,har,ha',hj9,hj8',hj7,hj0];exact⟨rfl,rfl⟩
      have hR:rh (A4 (a%12) (a/12%2) (a/24%4) a (j+1)):=Fy (Nat.mod_lt _ (by decide)) (Nat.mod_lt _ (by decide)) (Nat.mod_lt _ (by decide)) (by omega) (by omega);have hR0:0≤(A4 (a%12) (a/12%2) (a/24%4) a (j+1)).k:=Ji (Nat.mod_lt _ (by decide));generalize A4 (a%12) (a/12%2) (a/24%4) a (j+1)=r at*;clear har wa3 wa5 wa1 wa7 wai ha3 ha5 ha1 ha7 hai;obtain⟨rk,rp,ri,rs,re,ru,rv,rc,rz,rm,rn,rt⟩:=r;have hl1:(l.length+1)*112≤140737488355328:=by omega
      have hl2:l.length+1≤maxLen:=by unfold maxLen;omega
      apply af;·simp(config := { maxSteps := 3000000 }) [hl1,hl2];exact⟨rfl,rfl⟩
      have hdo:=CM hF hD (by omega);obtain⟨o1,o2,o3,o4,o5,o6,o7,o8,o9⟩:=id hR;have o5:bQ ru:=o5;apply af;·simp(config := { maxSteps := 3000000 }) [hdo,wn,wq,wu];exact⟨⟨o7,o6,hR0,⟨by omega,by omega⟩,⟨by omega,by omega⟩⟩,rfl,rfl⟩
      have hq:bQ (q:Int):=⟨by omega,by omega⟩;have hok:sT ⟨⟨de,dp,di,du,dh⟩,dps,dvs,dsl,⟨rk,rp,ri,rs,re,ru,rv,rc,rz,rm,rn,rt⟩,(j:Int)+1,q⟩:=hF.ok hR hq (by omega);have hM:=MB (n:=(j:Int)+1) (s:=q) hD hR;have hF2:=fun{a:Ap}{e:Int}=>FF (a:=a) (e:=e) hF hR hq (by omega);have hM:DM (nR (aT ⟨⟨de,dp,di,du,dh⟩,dps,dvs,dsl,⟨rk,rp,ri,rs,re,ru,rv,rc,rz,rm,rn,rt⟩,(j:Int)+1,q⟩).1):=hM;cases hA:aT ⟨⟨de,dp,di,du,dh⟩,dps,dvs,dsl,⟨rk,rp,ri,rs,re,ru,rv,rc,rz,rm,rn,rt⟩,(j:Int)+1,q⟩ with|mk x e=>
      rw[hA]at hM;have hF3:FI (j+1) (nR x):=by
       rcases hF2 hA with⟨_,h⟩|⟨_,_,h,_⟩;·rw[h];exact hF.mono
       ·exact h
      obtain⟨⟨xe,xp,xi,xu,xh⟩,xps,xvs,xsl,ar,an,asl⟩:=x;have hM:DM ⟨⟨xe,xp,xi,xu,xh⟩,xps,xvs,xsl⟩:=hM;have hF3:FI (j+1) ⟨⟨xe,xp,xi,xu,xh⟩,xps,xvs,xsl⟩:=hF3;simp(config := { maxSteps := 3000000 }) [hok,hA,wn,wq,wu,wj1,wk,bn,cellsD,aA,ax];exact⟨j+1,k+29,⟨⟨xe,xp,xi,xu,xh⟩,xps,xvs,xsl⟩,l++[⟨rk,rp,ri,rs,re,ru,rv,rc,rz,rm,rn,rt⟩],⟨by omega,by omega,hF3,hM,by simp[hl],fun r h=>(List.mem_append.1 h).elim (hr r) fun h=>by rw[List.mem_singleton.1 h];exact hR⟩,⟨⟨by omega,by omega⟩,⟨rfl,rfl,rfl,rfl,rfl,rfl,rfl,rfl⟩,by simp[iH,qD]⟩,by omega⟩
     ·have hj8':j=8:=by omega
      subst hj8';simp(config := { maxSteps := 3000000 });exact⟨k,d,hF,hD,l,hl,hr,rfl,rfl⟩
   ·obtain rfl:n=400:=by omega
    simp(config := { maxSteps := 3000000 });exact⟨rfl,rfl⟩
 have hv:dec cM [[PV.int .u64 2,.int .u64 0,.int .u64 0,.int .u64 0,.int .u64 0,.int .u64 0,.int .u64 0,.str [97],.bool true,.bool false]]=some [⟨2,0,0,0,0,0,0,[97],true,false⟩]:=pg [⟨2,0,0,0,0,0,0,[97],true,false⟩];have hb:dec eU [[PV.int .u8 0],[.int .u8 0],[.int .u8 0],[.int .u8 0],[.int .u8 2],[.int .u8 0],[.int .u8 0],[.int .u8 1],[.int .u8 0]]=some [0,0,0,0,2,0,0,1,0]:=EK [0,0,0,0,2,0,0,1,0];have hp:dec rowP []=some []:=DW [];have hv0:dec cM []=some []:=pg [];have h1:DU ⟨⟨0,0,0,0,false⟩,[],[⟨2,0,0,0,0,0,0,[97],true,false⟩],true⟩:=⟨by simp[maxLen],by simp[eL],by simp,by simp[bQ],by simp[bQ],by simp[bQ],by simp[bQ]⟩;have h2:DU ⟨⟨18446744073709551615,0,0,0,false⟩,[],[],false⟩:=⟨by simp[maxLen],by simp,by simp,by simp[bQ],by simp[bQ],by simp[bQ],by simp[bQ]⟩;simp(config := { maxSteps := 3000000 }) [hv,hb,hp,hv0,h1,h2,bQ]
end Go.Proofs.YtlmkcmfmfahcfaaGreat.Ab
namespace Go.Proofs.YtlmkcmfmfahcfaaGreat.Ab
open Go Go.RowKit Go.WideShapes Go.ChangeShapes
def yU (P:Program):Nat→TypeId→List PV→Prop|0,_,_=>False|n+1,t,row=>match P.underlying t with|some .bool=>∃b,row=[.bool b]|some (.int k)=>∃m,row=[.int k m]∧(Lit.int k m).wf=true|some .string=>∃l,row=[.str l]∧l.length≤maxLen|some (.slice e)=>∃rows,row=[.ro rows]∧rows.length≤maxLen∧∀r∈rows,yU P n e r|some (.struct fs)=>row.length=P.cellsOf t∧∀f∈fs.toList,yU P n f.type ((row.drop f.offset).take (P.cellsOf f.type))|_=>False
def qk (P:Program) (T:Nat):Nat→List Field→Bool|o,[]=>o==T|o,f::fs=>f.offset==o&&qk P T (o+P.cellsOf f.type) fs
def iQ (P:Program):Nat→TypeId→Bool|0,_=>false|n+1,t=>match P.underlying t with|some .bool|some (.int _)|some .string=>true|some (.slice e)=>decide (0<P.cellsOf e)&&iQ P n e|some (.struct fs)=>qk P (P.cellsOf t) 0 fs.toList&&fs.toList.all fun f=>iQ P n f.type|_=>false
section
variable{H:Type}{enc:TypeId×Value→H}{P:Program}{w:World}{base:Nat}{spare:Nat→Bool}{held:Bool}
def nh (w:World) (cs:List Value) (row:List PV):Prop:=∀(i:Nat) (v:Value) (p:PV),cs[i]?=some v→row[i]?=some p→v.oneCell'=true∧dw (fun b=>b<w.heap.size) w v p
theorem zf {T:Nat}:∀{fs:List Field}{o:Nat},qk P T o fs=true→o≤T|[],o,h=>by simp only[qk,beq_iff_eq]at h;omega|f::fs,o,h=>by simp only[qk,Bool.and_eq_true,beq_iff_eq]at h;have:=zf h.2;omega
theorem qQ {n T:Nat}{cs:List Value} (hT:cs.length=T):∀(fs:List Field) (o:Nat),qk P T o fs=true→(∀f∈fs,∃r:List PV,r.length=((cs.drop f.offset).take (P.cellsOf f.type)).length∧yU P n f.type r∧nh w ((cs.drop f.offset).take (P.cellsOf f.type)) r)→∃row:List PV,row.length=T-o∧(∀f∈fs,o≤f.offset∧yU P n f.type ((row.drop (f.offset-o)).take (P.cellsOf f.type)))∧nh w (cs.drop o) row
 |[],o,h,_=>by simp only[qk,beq_iff_eq]at h;exact⟨[],by simp;omega,fun f hf=>by simp at hf,fun i v p _ hp=>by simp at hp⟩|f::fs,o,h,hf=>by
  simp only[qk,Bool.and_eq_true,beq_iff_eq]at h;obtain⟨h1,h2⟩:=h;have hle:=zf h2;obtain⟨r,hr1,hr2,hr3⟩:=hf f (by simp);obtain⟨row,g1,g2,g3⟩:=qQ hT fs _ h2 fun f' hf'=>hf f' (by simp[hf']);have hrl:r.length=P.cellsOf f.type:=by rw[hr1,h1];simp;omega
  refine⟨r++row,by simp[hrl,g1];omega,fun f' hf'=>?_,fun i v p hv hp=>?_⟩
  ·rcases List.mem_cons.1 hf' with rfl|hf';·refine⟨by omega,?_⟩;rw[h1,Nat.sub_self,List.drop_zero,←hrl,List.take_left'];exact hr2;rfl
   ·obtain⟨k1,k2⟩:=g2 f' hf';refine⟨by omega,?_⟩;rw[show f'.offset-o=r.length+(f'.offset-(o+P.cellsOf f.type)) from by omega,List.drop_append,List.drop_eq_nil_of_le (by omega),List.nil_append,Nat.add_sub_cancel_left];exact k2
  ·by_cases hi:i<r.length;·rw[List.getElem?_append_left hi]at hp;refine hr3 i v p ?_ hp;rw[h1,List.getElem?_take,if_pos (by omega)];exact hv
   ·rw[List.getElem?_append_right (by omega)]at hp;refine g3 (i-r.length) v p ?_ hp;rw[List.getElem?_drop]at hv ⊢;rw[←hv];congr 1;omega
theorem GB:∀(n:Nat) (fuel:Nat) (t:TypeId) (cs:List Value) (x:DataW H×List MemPlace),iQ P n t=true→DataW.trod enc P w base spare held fuel t cs=some x→∃row:List PV,row.length=cs.length∧yU P n t row∧nh w cs row:=by intro n;induction n with|zero=>intro fuel t cs x hp;simp[iQ]at hp|succ n ih=>
 intro fuel t cs x hp h;have hone:∀(v:Value) (p:PV),cs=[v]→v.oneCell'=true→dw (fun b=>b<w.heap.size) w v p→nh w cs [p]:=by rintro v p rfl h1 h2 i v' p' hv hp;cases i with|zero=>simp at hv hp;subst hv hp;exact⟨h1,h2⟩|succ i=>simp at hp
 unfold iQ at hp;split at hp;·rename_i hu;cases fuel with|zero=>simp[DataW.trod]at h|succ fuel=>
  simp only[DataW.trod,hu]at h;split at h;all_goals(try(simp_all;done))
  rename_i b hb;exact⟨[.bool b],rfl,by unfold yU;rw[hu];exact⟨b,rfl⟩,hone _ _ rfl rfl (.bool b)⟩
 ·rename_i k hu;cases fuel with|zero=>simp[DataW.trod]at h|succ fuel=>
   simp only[DataW.trod,hu]at h;split at h;all_goals(try(simp_all;done))
   rename_i _ k3 k2 m hk;simp only[Option.some.injEq,TypeDesc.int.injEq]at hk;subst hk;split at h;·rename_i hw;obtain⟨rfl,hw⟩:=hw;exact⟨[.int k2 m],rfl,by unfold yU;rw[hu];exact⟨m,rfl,hw⟩,hone _ _ rfl rfl (.int k2 m)⟩
   ·cases h
 ·rename_i hu;cases fuel with|zero=>simp[DataW.trod]at h|succ fuel=>
   simp only[DataW.trod,hu]at h;split at h;all_goals(try(simp_all;done))
   rename_i s hcs;split at h;·rename_i hs;refine⟨[.str s.data.toList],rfl,by unfold yU;rw[hu];exact⟨_,rfl,by rw[Array.length_toList];exact hs⟩,hone _ _ rfl rfl ?_⟩;have:dw (fun b=>b<w.heap.size) w (.string ⟨s.data.toList.toArray⟩) (.str s.data.toList):=.str _;rwa[Array.toArray_toList]at this
   ·cases h
 ·rename_i e hu;simp only[Bool.and_eq_true,decide_eq_true_eq]at hp;obtain⟨hC,hp⟩:=hp;rcases Go.Deep.open_slice hu h with⟨rfl,_⟩|⟨a,len,cap,m,n',D,Pl,rfl,hb,hl,hm,hmm,_,hi⟩;·exact⟨[.ro []],rfl,by unfold yU;rw[hu];exact⟨[],rfl,by simp,fun r hr=>by simp at hr⟩,hone _ _ rfl rfl (.yp none 0)⟩
  ·have hlm:len≤m:=by rw[hmm];split<;>omega
   have hrow:∀i,i<len→∃(cs':List Value) (row:List PV),w.cells? base (a.add (i*P.cellsOf e)) (P.cellsOf e)=some cs'∧row.length=cs'.length∧yU P n e row∧nh w cs' row:=fun i hil=>by obtain⟨cs',hc,ht⟩:=hi i (by omega);obtain⟨row,h1,h2,h3⟩:=ih n' e cs' _ hp ht;exact⟨cs',row,hc,h1,h2,h3⟩
   have hrow':∀i:Nat,∃(cs':List Value) (row:List PV),i<len→w.cells? base (a.add (i*P.cellsOf e)) (P.cellsOf e)=some cs'∧row.length=cs'.length∧yU P n e row∧nh w cs' row:=fun i=>by
    by_cases hil:i<len;·obtain⟨cs',row,h1⟩:=hrow i hil;exact⟨cs',row,fun _=>h1⟩
    ·exact⟨[],[],fun h=>absurd h hil⟩
   let F:Nat→List Value:=fun i=>(hrow' i).choose;let R:Nat→List PV:=fun i=>(hrow' i).choose_spec.choose;have hFR:∀i,i<len→w.cells? base (a.add (i*P.cellsOf e)) (P.cellsOf e)=some (F i)∧(R i).length=(F i).length∧yU P n e (R i)∧nh w (F i) (R i):=fun i hil=>(hrow' i).choose_spec.choose_spec hil;have hRl:∀i,i<len→(R i).length=P.cellsOf e∧∀j,j<P.cellsOf e→w.cell? ((a.add (i*P.cellsOf e)).add j)=(F i)[j]?:=fun i hil=>by obtain⟨h1,h2,_⟩:=hFR i hil;obtain⟨_,h4,h5⟩:=World.cells?_some h1;exact⟨by rw[h2,h4],h5⟩
   have hll:((List.range len).map R).length=len:=by simp
   have hget:∀(i:Nat) (r:List PV),((List.range len).map R)[i]?=some r→i<len∧r=R i:=fun i r hr=>by
    rw[List.getElem?_map,Option.map_eq_some_iff]at hr;obtain⟨k,hk,rfl⟩:=hr;have hil:i<len:=by have:=(List.getElem?_eq_some_iff.1 hk).1;simpa using this
    rw[List.getElem?_range hil]at hk;injection hk with hk;exact⟨hil,by rw[hk]⟩
   refine⟨[.ro ((List.range len).map R)],rfl,?_,hone _ _ rfl rfl ?_⟩;·unfold yU;rw[hu];refine⟨_,rfl,by rw[hll];omega,fun r hr=>?_⟩;obtain⟨i,hi1,rfl⟩:=List.mem_map.1 hr;exact(hFR i (by simpa using hi1)).2.2.1
   ·by_cases hz:len=0;·subst hz;exact .yp _ _
    ·have hS:a.block<w.heap.size:=by
      have h0:=(hRl 0 (by omega)).2 0 hC;obtain⟨h1,h2,h3,_⟩:=hFR 0 (by omega);have hlen:(F 0).length=P.cellsOf e:=(World.cells?_some h1).2.1;rw[List.getElem?_eq_getElem (by omega)]at h0;rw[fy]at h0;rcases Nat.lt_or_ge a.block w.heap.size with h'|h';·exact h'
      ·exfalso;have hbk:=dU a (0*P.cellsOf e+0);unfold World.cell? at h0;rw[hbk,Array.getElem?_eq_none h']at h0;simp at h0
     have key:=dw.ro (S:=fun b=>b<w.heap.size) (w:=w) a cap ((List.range len).map R) (P.cellsOf e) (fun i j=>(F i).getD j undef) hS (by rw[hll];exact hl) (fun r hr=>by obtain⟨i,hi1,rfl⟩:=List.mem_map.1 hr;exact(hRl i (by simpa using hi1)).1) (fun i j hi1 hj=>by rw[hll]at hi1;have h5:=(hRl i hi1).2 j hj;rw[fy]at h5;rw[h5];obtain⟨h1,h2,h3,_⟩:=hFR i hi1;have hlen:(F i).length=P.cellsOf e:=(World.cells?_some h1).2.1;rw[List.getD_eq_getElem?_getD,List.getElem?_eq_getElem (by omega)];rfl) (fun i j r p hr hp=>by
      obtain⟨hil,rfl⟩:=hget i r hr;obtain⟨h1,h2,h3,h4⟩:=hFR i hil;have hj:j<(F i).length:=by rw[←h2];exact(List.getElem?_eq_some_iff.1 hp).1
      have hv:(F i)[j]?=some (F i)[j]:=List.getElem?_eq_getElem hj;rw[List.getD_eq_getElem?_getD,hv];exact(h4 j _ p hv hp).1) (fun i j r p hr hp=>by
      obtain⟨hil,rfl⟩:=hget i r hr;obtain⟨h1,h2,h3,h4⟩:=hFR i hil;have hj:j<(F i).length:=by rw[←h2];exact(List.getElem?_eq_some_iff.1 hp).1
      have hv:(F i)[j]?=some (F i)[j]:=List.getElem?_eq_getElem hj;rw[List.getD_eq_getElem?_getD,hv];exact(h4 j _ p hv hp).2);rw[hll]at key;exact key
 ·rename_i fs hu;simp only[Bool.and_eq_true,List.all_eq_true]at hp;obtain⟨ht,hall⟩:=hp;obtain⟨ys,n',hn',hy,hlen,hyl,hf⟩:=DataW.trod_struct hu h;obtain⟨row,g1,g2,g3⟩:=qQ (w:=w) (P:=P) (n:=n) hlen fs.toList 0 ht fun f hfm=>by
   obtain⟨j,hj⟩:=List.getElem?_of_mem hfm;have hj':fs[j]?=some f:=by simpa using hj
   have h1:=hf j f hj';have hjl:j<ys.length:=by rw[hyl];exact(Array.getElem?_eq_some_iff.1 hj').1
   rw[List.getElem?_eq_getElem hjl]at h1;exact ih n' f.type _ _ (hall f hfm) h1
  refine⟨row,by rw[g1];omega,?_,by simpa using g3⟩;unfold yU;rw[hu];exact⟨by rw[g1];omega,fun f hfm=>by simpa using(g2 f hfm).2⟩
 ·cases hp
end
def yC (P:Program) (t:TypeId):Bool:=match P.underlying t with|some (.struct _)=>true|_=>false
def Fa (P:Program) (t:TypeId) (row:List PV):AV:=if yC P t=true then .agg (row.map .pv) else match row with|[p]=>.pv p|_=>.ay
def oF (P:Program):List TypeId→List (List PV)→List AV|t::ts,r::rs=>Fa P t r::oF P ts rs|_,_=>[]
section
variable{H:Type}{enc:TypeId×Value→H}{P:Program}{w:World}
theorem Hz {n base b0:Nat}{spare:Nat→Bool}{held:Bool}{r:Reach}{t:TypeId}{v:Value}{d:DataW H}{ps:List MemPlace} (hp:iQ P n t=true) (hv:Value.okWide P w r b0 t v) (h:DataW.Trod enc P w base spare held t v d ps) (β:Nat→Value) (D:Nat→Prop):∃row,yU P n t row∧RV P (fun b=>b<w.heap.size) w β D v (Fa P t row):=by
 obtain⟨fuel,h⟩:=h;obtain⟨row,h1,h2,h3⟩:=GB n fuel t _ _ hp h;refine⟨row,h2,?_⟩;have hone:v.cells=#[v]→yC P t=false→RV P (fun b=>b<w.heap.size) w β D v (Fa P t row):=by intro hc hs;rw[hc]at h1 h3;match row,h1 with|[p],_=>simp only[Fa,hs];exact .pv _ _ (h3 0 v p rfl rfl).2
 cases n with|zero=>simp[iQ]at hp|succ n=>
  unfold iQ at hp;split at hp;·rename_i hu;obtain⟨b,rfl⟩:=okWide_bool hu hv;exact hone rfl (by simp[yC,hu])
  ·rename_i k hu;obtain⟨m,rfl⟩:=okWide_int hu hv;exact hone rfl (by simp[yC,hu])
  ·rename_i hu;obtain⟨s,rfl⟩:=okWide_string hu hv;exact hone rfl (by simp[yC,hu])
  ·rename_i e hu;obtain⟨a,len,cap,rfl⟩:=okWide_slice hu hv;exact hone rfl (by simp[yC,hu])
  ·rename_i fs hu;obtain⟨cs,rfl,hsz⟩:=okWide_struct hu hv;have hs:yC P t=true:=by simp[yC,hu]
   simp only[Fa,hs,if_true];have hcs:(Value.agg cs).cells.toList=cs.toList:=rfl;rw[hcs]at h1 h3;have:=RV.agg (P:=P) (S:=fun b=>b<w.heap.size) (w:=w) (β:=β) (D:=D) (row.map .pv) cs.toList (by simp[h1]) (fun i c u hc hu=>by rw[List.getElem?_map,Option.map_eq_some_iff]at hc;obtain⟨p,hp,rfl⟩:=hc;exact .pv _ _ (h3 i u p hu hp).2);rwa[Array.toArray_toList]at this
  ·cases hp
theorem pB {n base b0:Nat}{spare:Nat→Bool}{held:Bool}{r:Reach} (β:Nat→Value) (D:Nat→Prop):∀(ts:List TypeId) (vs:List Value) (ds:List (DataW H)) (ps:List MemPlace),DataW.TrodAll enc P w base spare held ts vs ds ps→(∀t∈ts,iQ P n t=true)→(∀(j:Nat) (t:TypeId) (v:Value),ts[j]?=some t→vs[j]?=some v→Value.okWide P w r b0 t v)→∃rows:List (List PV),rows.length=ts.length∧vs.length=ts.length∧ds.length=ts.length∧(∀(j:Nat) (t:TypeId) (r:List PV),ts[j]?=some t→rows[j]?=some r→yU P n t r)∧(oF P ts rows).length=ts.length∧∀(i:Nat) (v:Value) (y:AV),vs[i]?=some v→(oF P ts rows)[i]?=some y→RV P (fun b=>b<w.heap.size) w β D v y
 |[],[],[],ps,h,_,_=>⟨[],rfl,rfl,rfl,fun j t r h=>by simp at h,rfl,fun i v y h=>by simp at h⟩|t::ts,v::vs,d::ds,ps,h,hp,hv=>by
  obtain⟨p,q,h1,h2,rfl⟩:=h;obtain⟨rows,g1,g2,g3,g4,g5,g6⟩:=pB β D ts vs ds q h2 (fun t ht=>hp t (by simp[ht])) (fun j t v h1 h2=>hv (j+1) t v (by simpa using h1) (by simpa using h2));obtain⟨row,k1,k2⟩:=Hz (hp t (by simp)) (hv 0 t v rfl rfl) h1 β D;refine⟨row::rows,by simp[g1],by simp[g2],by simp[g3],fun j t' r ht hr=>?_,by simp[oF,g5],fun i v' y hv' hy=>?_⟩;·cases j with|zero=>simp at ht hr;subst ht hr;exact k1|succ j=>exact g4 j t' r (by simpa using ht) (by simpa using hr)
  ·cases i with|zero=>simp[oF]at hv' hy;subst hv' hy;exact k2|succ i=>exact g6 i v' y (by simpa using hv') (by simpa[oF]using hy)
 |[],[],_::_,_,h,_,_=>h.elim|[],_::_,_,_,h,_,_=>h.elim|_::_,[],_,_,h,_,_=>h.elim|_::_,_::_,[],_,h,_,_=>h.elim
def Cb (P:Program) (n:Nat) (f:FuncId) (ts:List TypeId):Prop:=∀rows:List (List PV),rows.length=ts.length→(∀(j:Nat) (t:TypeId) (r:List PV),ts[j]?=some t→rows[j]?=some r→yU P n t r)→za P f [] (oF P ts rows) [] (.pv (.bool true))
theorem EH {n b0:Nat}{r:Reach}{f:FuncId}{ts:List TypeId}{vs:List Value}{ds:List (DataW H)}{ps:List MemPlace} (hcon:Cb P n f ts) (hA:DataW.TrodAll enc P w 0 (fun _=>true) true ts vs ds ps) (hp:∀t∈ts,iQ P n t=true) (hv:∀(j:Nat) (t:TypeId) (v:Value),ts[j]?=some t→vs[j]?=some v→Value.okWide P w r b0 t v):Calls P f vs.toArray w fun e w'=>e=.returned (.bool true)∧Below w.heap.size w w':=by
 obtain⟨rows,g1,g2,g3,g4,g5,g6⟩:=pB (fun _=>.nilIface) (fun _=>False) ts vs ds ps hA hp hv;have hS:∀b,aS (fun b=>b<w.heap.size) w.heap.size (fun _=>.nilIface) (ab []) w b↔b<w.heap.size:=by
  intro b;constructor;·exact fun h=>h.2.1
  ·exact fun h=>⟨.inl h,h,fun⟨t,o,ho,_⟩=>by cases ho⟩
 have hD:aE (ab [])=fun _=>False:=by
  funext t;apply propext;constructor;·rintro⟨o,ho⟩;cases ho
  ·exact False.elim
 refine(hcon rows g1 g4 w (fun b=>b<w.heap.size) (fun _=>.nilIface) vs (fun b h=>h) (fun t b ⟨o,ho⟩=>by cases ho) ⟨(fun t o ho=>by cases ho),(fun t t' b ⟨o,ho⟩=>by cases ho)⟩ (by rw[g2,g5]) (fun i v y h1 h2=>?_)).mono ?_;·rw[hD];exact(g6 i v y h1 h2).mono (fun b hb=>⟨(hS b).2 hb,rfl⟩) (fun t ht=>ht.elim)
 ·rintro e w' ⟨v,β',rfl,hf,_,_,hr⟩;have hvb:v=.bool true:=by have hr:RV P _ w' β' _ v (.pv (.bool true)):=hr;exact hr.fx
  subst hvb;exact⟨rfl,hf.os,hf.tape,hf.output,hf.size,fun k hk=>hf.block k hk fun⟨t,o,ho,_⟩=>by cases ho⟩
theorem m0 (hl:laidOutB P=true) {W W':World} (hb:Below W.heap.size W W'):∀(ts:List TypeId) (vs:List Value) (ds:List (DataW H)) (ps:List MemPlace),DataW.TrodAll enc P W 0 (fun _=>true) true ts vs ds ps→(∀t∈ts,P.readableRec t=true∧t<P.types.size)→(∀x∈ps,x.block<W.heap.size)→∀sp:Nat→Bool,(∀x∈ps,sp x.block=true)→DataW.TrodAll enc P W' 0 sp true ts vs ds ps|[],[],[],ps,h,_,_,_,_=>h|t::ts,v::vs,d::ds,ps,h,hr,hlt,sp,hsp=>by obtain⟨p,q,h1,h2,rfl⟩:=h;obtain⟨hr1,hr2⟩:=hr t (by simp);exact⟨p,q,WideElems.Trod_stays hl hr1 hr2 h1 (fun x hx=>hb.same (hlt x (by simp[hx]))) (fun x hx=>hsp x (by simp[hx])),m0 hl hb ts vs ds q h2 (fun t ht=>hr t (by simp[ht])) (fun x hx=>hlt x (by simp[hx])) sp (fun x hx=>hsp x (by simp[hx])),rfl⟩|[],[],_::_,_,h,_,_,_,_=>h.elim|[],_::_,_,_,h,_,_,_,_=>h.elim|_::_,[],_,_,h,_,_,_,_=>h.elim|_::_,_::_,[],_,h,_,_,_,_=>h.elim
theorem uJ {f:Func}{s:ChangeSpec}{apart fresh handsOn again:Bool}{W W':World}{args:Array Value}{v:Value}{ds gs:List (DataW H)}{before pa pv:List MemPlace} (hW:DataW.Whole enc P f.params.toList s.vars apart W args.toList ds gs before) (hres:∀(b:Nat) (sp:Nat→Bool) (hd:Bool),DataW.TrodAll enc P W' b sp hd f.resultTypes.toList (v.resultList f.resultTypes.size) (s.fn H (ds++gs)).results []) (hargs:∀sp:Nat→Bool,(∀p∈before,sp p.block=true)→DataW.TrodAll enc P W' 0 sp true f.params.toList args.toList (s.fn H (ds++gs)).args pa) (hvars:∀sp:Nat→Bool,(∀p∈before,sp p.block=true)→DataW.TrodVars enc P W' sp s.vars (s.fn H (ds++gs)).vars pv) (hps:before=pa++pv) (hb:Below W.heap.size W W') (hok:∀(j:Nat) (t:TypeId) (r:Value),f.resultTypes[j]?=some t→(v.resultList f.resultTypes.size)[j]?=some r→Value.okWide P W' .any 0 t r):s.post enc P f apart fresh handsOn again W args v W':=by
 have hlt:∀p∈before,p.block<W.heap.size:=fun p hp=>hW.lt p hp;have hold:∀p∈before,(fun b=>decide (b<W.heap.size)) p.block=true:=fun p hp=>by simpa using hlt p hp
 refine⟨ds,gs,before,[],pa,pv,hW,hres _ _ _,hargs _ hold,hvars _ hold,World.keptBut_mono (fun p hp=>⟨hp,?_⟩) (hb.frame (·∈before)),fun _=>?_⟩;·rw[hps,List.mem_append]at hp;exact Or.inr hp
 ·obtain⟨_,_,_,_,_,hz,hn⟩:=hW;refine⟨hok,_,_,([]++pa)++pv,⟨[]++pa,pv,trodAll_append (hargs _ (fun _ _=>rfl)) (hres _ _ _),hvars _ (fun _ _=>rfl),rfl,?_,?_⟩,?_⟩
  ·intro b off hp;have hin:MemPlace.cell b off∈before:=by rw[hps];simpa using hp
   rw[hb.frozen (hlt _ hin)];exact hz b off hin
  ·intro ha;have:=hn ha;rw[hps]at this;simpa using this
  ·intro p hp _;rw[hps];simpa using hp
theorem Fc {n:Nat}{f:FuncId}{fn:Func}{s:ChangeSpec}{apart fresh handsOn again:Bool}{W:World}{base:Nat}{args:Array Value}{ds gs:List (DataW H)}{before:List MemPlace}{tb:TypeId} (hl:laidOutB P=true) (hcon:Cb P n f fn.params.toList) (hpl:∀t∈fn.params.toList,iQ P n t=true∧P.readableRec t=true∧t<P.types.size) (hrt:fn.resultTypes=#[tb]) (htb:P.underlying tb=some .bool) (hsv:s.vars=[]) (hspec:∀ds:List (DataW H),ds.length=fn.params.toList.length→s.fn H (ds++[])={results:=[.lit (.bool true)],args:=ds}) (hval:∀(j:Nat) t v,fn.params[j]?=some t→args[j]?=some v→Value.okWide P W .any base t v) (hW:DataW.Whole enc P fn.params.toList s.vars apart W args.toList ds gs before):Calls P f args W fun e W'=>∃v,e=.returned v∧s.post enc P fn apart fresh handsOn again W args v W':=by
 have hW':=hW;obtain⟨p,q,hA,hV,hpq,hfz,hnd⟩:=hW';rw[hsv]at hV;obtain⟨rfl,rfl⟩:gs=[]∧q=[]:=by cases gs with|nil=>exact⟨rfl,hV⟩|cons g gs=>exact hV.elim
 have hval':∀(j:Nat) (t:TypeId) (v:Value),fn.params.toList[j]?=some t→args.toList[j]?=some v→Value.okWide P W .any base t v:=fun j t v h1 h2=>hval j t v (by simpa using h1) (by simpa using h2);obtain⟨rows,_,_,hdl,_⟩:=pB (fun _=>.nilIface) (fun _=>False) _ _ _ _ hA (fun t ht=>(hpl t ht).1) hval';have hsp:=hspec ds hdl;have hc:=EH hcon hA (fun t ht=>(hpl t ht).1) hval';have hargs:args.toList.toArray=args:=by simp
 rw[hargs]at hc;refine hc.mono ?_;rintro e W' ⟨rfl,hb⟩;refine⟨_,rfl,uJ (pa:=p) (pv:=[]) hW ?_ ?_ ?_ hpq hb ?_⟩;·intro b sp hd;rw[hsp,hrt];exact trodAll_mk1 ⟨1,by simp[DataW.trod,Value.cells,htb]⟩
 ·intro sp hs;rw[hsp];exact m0 hl hb _ _ _ _ hA (fun t ht=>(hpl t ht).2) (fun x hx=>hW.lt x (by rw[hpq];simpa using hx)) sp (fun x hx=>hs x (by rw[hpq];simpa using hx))
 ·intro sp hs;rw[hsp,hsv];exact rfl
 ·exact ok_one hrt rfl (okWide_bool_mk htb true)
end
end Go.Proofs.YtlmkcmfmfahcfaaGreat.Ab
namespace Go.Proofs.YtlmkcmfmfahcfaaGreat.Ab
open Go Go.RowKit R
theorem Tryz.own:ownKnob Tryz.prog.godebug=none:=by kernel_rfl
theorem Tryz.laidOut:laidOutB Tryz.prog=true:=by kernel_rfl
end Go.Proofs.YtlmkcmfmfahcfaaGreat.Ab
