/- Chapter 16: a record is applied. -/
import Derived.Test.YtlmkcmfmfahcfaaGreatX12
set_option linter.unusedVariables false
set_option linter.unusedSimpArgs false
set_option linter.unnecessarySimpa false
set_option maxHeartbeats 40000000
set_option maxRecDepth 100000
namespace Go.Proofs.YtlmkcmfmfahcfaaGreat.Ab
open Go Go.RowKit R
noncomputable def xj (a:Ap):Option (Ap×Bool):=if a.r.k=1 then some (iV a) else if a.r.k=2 then some (lK a) else if a.r.k=3 then some (gB a) else if a.r.k=4 then some (gZ a) else if a.r.k=5 then some (xb a) else if a.r.k=6 then some (lr a) else if a.r.k=7 then some (qV a) else if a.r.k=8 then some (iP a) else none
def bn (a:Ap):List AV:=[.pv (.int .u64 a.l.e),.pv (.int .u64 a.l.p),.pv (.int .u64 a.l.i),.pv (.int .u64 a.l.u),.pv (.bool a.l.h),.fr 94 (aF a.ps),.fr 73 (aC a.vs),.pv (.bool a.sl)]
noncomputable def aT (a:Ap):Ap×Int:=match xj a with|none=>(a,220)|some x=>if bM a.r=true∧x.2=true then(x.1,0) else(a,220)
def sT (a:Ap):Prop:=bQ a.l.e∧a.ps.length<50∧a.vs.length≤100000∧(∀e∈a.ps,e9 e)∧(∀v∈a.vs,eL v)∧bQ a.r.c∧bQ a.s∧eL (ed a)
noncomputable def MM:List AV→Option (Prop×AV)|[.agg [.pv (.int .u64 e),.pv (.int .u64 p),.pv (.int .u64 i),.pv (.int .u64 u),.pv (.bool h),.pv (.ro a),.pv (.ro b),.pv (.bool sl)],.agg [.pv (.int .u8 k),.pv (.int .u64 rp),.pv (.int .u64 ri),.pv (.int .u64 rs),.pv (.int .u64 re),.pv (.int .u64 ru),.pv (.int .u64 rv),.pv (.int .u64 rc),.pv (.int .u64 rz),.pv (.int .u64 rm),.pv (.str rn),.pv (.str rt)],.pv (.int .u64 n),.pv (.int .u64 s)]=>(dec rowP a).bind fun ps=>(dec cM b).map fun vs=>(sT ⟨⟨e,p,i,u,h⟩,ps,vs,sl,⟨k,rp,ri,rs,re,ru,rv,rc,rz,rm,rn,rt⟩,n,s⟩,.aQ [.agg (bn (aT ⟨⟨e,p,i,u,h⟩,ps,vs,sl,⟨k,rp,ri,rs,re,ru,rv,rc,rz,rm,rn,rt⟩,n,s⟩).1),.pv (.int .i64 (aT ⟨⟨e,p,i,u,h⟩,ps,vs,sl,⟨k,rp,ri,rs,re,ru,rv,rc,rz,rm,rn,rt⟩,n,s⟩).2)])|_=>none
theorem CX:aO Tryz.prog 12 MM:=by
 intro ys φ r h hφ;unfold MM at h;split at h
 ·rename_i e p i u h' ra rb sl k rp ri rs re ru rv rc rz rm rn rt n s;obtain⟨ps,hp,h⟩:=Option.bind_eq_some_iff.1 h;obtain⟨vs,hv,h⟩:=Option.map_eq_some_iff.1 h;cases h;cases aG hp;cases aD hv;obtain⟨h1,h2,h3,h4,h5,h6,h7,h8⟩:=hφ;have h2:ps.length<50:=h2;have h3:vs.length≤100000:=h3;have h9:ps.length≤100000:=by omega
  refine aw (ag KS (ag N5 (ag JG (bk (ks:=[2]) Fk (by kernel_rfl) (bk (ks:=[2]) Ft (by kernel_rfl) (bk (ks:=[2]) Br (by kernel_rfl) (bk (ks:=[2]) D6 (by kernel_rfl) (bk (ks:=[2]) NR (by kernel_rfl) (bk (ks:=[2]) GR (by kernel_rfl) (bk (ks:=[2]) HX (by kernel_rfl) (bk (ks:=[2]) B6 (by kernel_rfl) ah))))))))))) (by kernel_rfl) (by conv=>lhs;reduce) (by simp) ?_;apply af;·simp(config := { maxSteps := 3000000 });exact⟨rfl,rfl⟩
  apply af;·simp(config := { maxSteps := 3000000 }) [h9,h3];exact⟨rfl,rfl⟩
  have hE:bQ e:=h1;have hP:(∀e∈ps,e9 e)=True:=eq_true h4;have hV:(∀v∈vs,eL v)=True:=eq_true h5;have hC:bQ rc:=h6;have hS:bQ s:=h7;have hP6:ps.length≤1000000:=by omega
  have hV6:vs.length≤1000000:=by omega
  clear hp hv;have hk:k=1∨k=2∨k=3∨k=4∨k=5∨k=6∨k=7∨k=8∨((k≠1∧k≠2∧k≠3∧k≠4)∧k≠5∧k≠6∧k≠7∧k≠8):=by omega
  rcases hk with rfl|rfl|rfl|rfl|rfl|rfl|rfl|rfl|⟨⟨k1,k2,k3,k4⟩,k5,k6,k7,k8⟩
  ·have hA:aT ⟨⟨e,p,i,u,h'⟩,ps,vs,sl,⟨1,rp,ri,rs,re,ru,rv,rc,rz,rm,rn,rt⟩,n,s⟩=if bM ⟨1,rp,ri,rs,re,ru,rv,rc,rz,rm,rn,rt⟩=true∧(iV ⟨⟨e,p,i,u,h'⟩,ps,vs,sl,⟨1,rp,ri,rs,re,ru,rv,rc,rz,rm,rn,rt⟩,n,s⟩).2=true then((iV ⟨⟨e,p,i,u,h'⟩,ps,vs,sl,⟨1,rp,ri,rs,re,ru,rv,rc,rz,rm,rn,rt⟩,n,s⟩).1,0) else(⟨⟨e,p,i,u,h'⟩,ps,vs,sl,⟨1,rp,ri,rs,re,ru,rv,rc,rz,rm,rn,rt⟩,n,s⟩,220):=rfl;rw[hA];apply af;·simp(config := { maxSteps := 3000000 }) [kJ,yo];exact⟨rfl,rfl,rfl⟩
   generalize hx:iV ⟨⟨e,p,i,u,h'⟩,ps,vs,sl,⟨1,rp,ri,rs,re,ru,rv,rc,rz,rm,rn,rt⟩,n,s⟩=x;obtain⟨⟨⟨e',p',i',u',h''⟩,ps',vs',sl',⟨k',rp',ri',rs',re',ru',rv',rc',rz',rm',rn',rt'⟩,n',s'⟩,b⟩:=x;rw[bd];cases hR:bM ⟨1,rp,ri,rs,re,ru,rv,rc,rz,rm,rn,rt⟩ with
   |false=>
    apply af;·simp(config := { maxSteps := 3000000 }) [hR];exact⟨rfl,rfl⟩
    simp(config := { maxSteps := 3000000 }) [hR,h9,h3,bn]|true=>
    apply af;·simp(config := { maxSteps := 3000000 }) [hR,hx,nd,hE];exact⟨by kernel_rfl,rfl,rfl⟩
    cases b with|false=>simp(config := { maxSteps := 3000000 }) [hR,h9,h3,bn]|true=>simp(config := { maxSteps := 3000000 }) [hR,bn]
  ·have hA:aT ⟨⟨e,p,i,u,h'⟩,ps,vs,sl,⟨2,rp,ri,rs,re,ru,rv,rc,rz,rm,rn,rt⟩,n,s⟩=if bM ⟨2,rp,ri,rs,re,ru,rv,rc,rz,rm,rn,rt⟩=true∧(lK ⟨⟨e,p,i,u,h'⟩,ps,vs,sl,⟨2,rp,ri,rs,re,ru,rv,rc,rz,rm,rn,rt⟩,n,s⟩).2=true then((lK ⟨⟨e,p,i,u,h'⟩,ps,vs,sl,⟨2,rp,ri,rs,re,ru,rv,rc,rz,rm,rn,rt⟩,n,s⟩).1,0) else(⟨⟨e,p,i,u,h'⟩,ps,vs,sl,⟨2,rp,ri,rs,re,ru,rv,rc,rz,rm,rn,rt⟩,n,s⟩,220):=rfl;rw[hA];apply af;·simp(config := { maxSteps := 3000000 }) [kJ,yo];exact⟨rfl,rfl,rfl⟩
   generalize hx:lK ⟨⟨e,p,i,u,h'⟩,ps,vs,sl,⟨2,rp,ri,rs,re,ru,rv,rc,rz,rm,rn,rt⟩,n,s⟩=x;obtain⟨⟨⟨e',p',i',u',h''⟩,ps',vs',sl',⟨k',rp',ri',rs',re',ru',rv',rc',rz',rm',rn',rt'⟩,n',s'⟩,b⟩:=x;rw[bd];cases hR:bM ⟨2,rp,ri,rs,re,ru,rv,rc,rz,rm,rn,rt⟩ with
   |false=>
    apply af;·simp(config := { maxSteps := 3000000 }) [hR];exact⟨rfl,rfl⟩
    simp(config := { maxSteps := 3000000 }) [hR,h9,h3,bn]|true=>
    apply af;·simp(config := { maxSteps := 3000000 }) [hR,hx,nd];exact⟨by kernel_rfl,rfl,rfl⟩
    cases b with|false=>simp(config := { maxSteps := 3000000 }) [hR,h9,h3,bn]|true=>simp(config := { maxSteps := 3000000 }) [hR,bn]
  ·have hA:aT ⟨⟨e,p,i,u,h'⟩,ps,vs,sl,⟨3,rp,ri,rs,re,ru,rv,rc,rz,rm,rn,rt⟩,n,s⟩=if bM ⟨3,rp,ri,rs,re,ru,rv,rc,rz,rm,rn,rt⟩=true∧(gB ⟨⟨e,p,i,u,h'⟩,ps,vs,sl,⟨3,rp,ri,rs,re,ru,rv,rc,rz,rm,rn,rt⟩,n,s⟩).2=true then((gB ⟨⟨e,p,i,u,h'⟩,ps,vs,sl,⟨3,rp,ri,rs,re,ru,rv,rc,rz,rm,rn,rt⟩,n,s⟩).1,0) else(⟨⟨e,p,i,u,h'⟩,ps,vs,sl,⟨3,rp,ri,rs,re,ru,rv,rc,rz,rm,rn,rt⟩,n,s⟩,220):=rfl;rw[hA];apply af;·simp(config := { maxSteps := 3000000 }) [kJ,yo];exact⟨rfl,rfl,rfl⟩
   generalize hx:gB ⟨⟨e,p,i,u,h'⟩,ps,vs,sl,⟨3,rp,ri,rs,re,ru,rv,rc,rz,rm,rn,rt⟩,n,s⟩=x;obtain⟨⟨⟨e',p',i',u',h''⟩,ps',vs',sl',⟨k',rp',ri',rs',re',ru',rv',rc',rz',rm',rn',rt'⟩,n',s'⟩,b⟩:=x;rw[bd];cases hR:bM ⟨3,rp,ri,rs,re,ru,rv,rc,rz,rm,rn,rt⟩ with
   |false=>
    apply af;·simp(config := { maxSteps := 3000000 }) [hR];exact⟨rfl,rfl⟩
    simp(config := { maxSteps := 3000000 }) [hR,h9,h3,bn]|true=>
    apply af;·simp(config := { maxSteps := 3000000 }) [hR,hx,nd];exact⟨by kernel_rfl,rfl,rfl⟩
    cases b with|false=>simp(config := { maxSteps := 3000000 }) [hR,h9,h3,bn]|true=>simp(config := { maxSteps := 3000000 }) [hR,bn]
  ·have hA:aT ⟨⟨e,p,i,u,h'⟩,ps,vs,sl,⟨4,rp,ri,rs,re,ru,rv,rc,rz,rm,rn,rt⟩,n,s⟩=if bM ⟨4,rp,ri,rs,re,ru,rv,rc,rz,rm,rn,rt⟩=true∧(gZ ⟨⟨e,p,i,u,h'⟩,ps,vs,sl,⟨4,rp,ri,rs,re,ru,rv,rc,rz,rm,rn,rt⟩,n,s⟩).2=true then((gZ ⟨⟨e,p,i,u,h'⟩,ps,vs,sl,⟨4,rp,ri,rs,re,ru,rv,rc,rz,rm,rn,rt⟩,n,s⟩).1,0) else(⟨⟨e,p,i,u,h'⟩,ps,vs,sl,⟨4,rp,ri,rs,re,ru,rv,rc,rz,rm,rn,rt⟩,n,s⟩,220):=rfl;rw[hA];have hN:eL (ed ⟨⟨e,p,i,u,h'⟩,ps,vs,sl,⟨4,rp,ri,rs,re,ru,rv,rc,rz,rm,rn,rt⟩,n,s⟩):=h8;apply af;·simp(config := { maxSteps := 3000000 }) [kJ,yo];exact⟨rfl,rfl,rfl⟩
   generalize hx:gZ ⟨⟨e,p,i,u,h'⟩,ps,vs,sl,⟨4,rp,ri,rs,re,ru,rv,rc,rz,rm,rn,rt⟩,n,s⟩=x;obtain⟨⟨⟨e',p',i',u',h''⟩,ps',vs',sl',⟨k',rp',ri',rs',re',ru',rv',rc',rz',rm',rn',rt'⟩,n',s'⟩,b⟩:=x;rw[bd];cases hR:bM ⟨4,rp,ri,rs,re,ru,rv,rc,rz,rm,rn,rt⟩ with
   |false=>
    apply af;·simp(config := { maxSteps := 3000000 }) [hR];exact⟨rfl,rfl⟩
    simp(config := { maxSteps := 3000000 }) [hR,h9,h3,bn]|true=>
    apply af;·simp(config := { maxSteps := 3000000 }) [hR,hx,nd,h3,hV,hN];exact⟨by kernel_rfl,rfl,rfl⟩
    cases b with|false=>simp(config := { maxSteps := 3000000 }) [hR,h9,h3,bn]|true=>simp(config := { maxSteps := 3000000 }) [hR,bn]
  ·have hA:aT ⟨⟨e,p,i,u,h'⟩,ps,vs,sl,⟨5,rp,ri,rs,re,ru,rv,rc,rz,rm,rn,rt⟩,n,s⟩=if bM ⟨5,rp,ri,rs,re,ru,rv,rc,rz,rm,rn,rt⟩=true∧(xb ⟨⟨e,p,i,u,h'⟩,ps,vs,sl,⟨5,rp,ri,rs,re,ru,rv,rc,rz,rm,rn,rt⟩,n,s⟩).2=true then((xb ⟨⟨e,p,i,u,h'⟩,ps,vs,sl,⟨5,rp,ri,rs,re,ru,rv,rc,rz,rm,rn,rt⟩,n,s⟩).1,0) else(⟨⟨e,p,i,u,h'⟩,ps,vs,sl,⟨5,rp,ri,rs,re,ru,rv,rc,rz,rm,rn,rt⟩,n,s⟩,220):=rfl;rw[hA];apply af;·simp(config := { maxSteps := 3000000 }) [kJ,yo];exact⟨rfl,rfl,rfl⟩
   generalize hx:xb ⟨⟨e,p,i,u,h'⟩,ps,vs,sl,⟨5,rp,ri,rs,re,ru,rv,rc,rz,rm,rn,rt⟩,n,s⟩=x;obtain⟨⟨⟨e',p',i',u',h''⟩,ps',vs',sl',⟨k',rp',ri',rs',re',ru',rv',rc',rz',rm',rn',rt'⟩,n',s'⟩,b⟩:=x;rw[bd];cases hR:bM ⟨5,rp,ri,rs,re,ru,rv,rc,rz,rm,rn,rt⟩ with
   |false=>
    apply af;·simp(config := { maxSteps := 3000000 }) [hR];exact⟨rfl,rfl⟩
    simp(config := { maxSteps := 3000000 }) [hR,h9,h3,bn]|true=>
    apply af;·simp(config := { maxSteps := 3000000 }) [hR,hx,nd,hP6,hV6];exact⟨by kernel_rfl,rfl,rfl⟩
    cases b with|false=>simp(config := { maxSteps := 3000000 }) [hR,h9,h3,bn]|true=>simp(config := { maxSteps := 3000000 }) [hR,bn]
  ·have hA:aT ⟨⟨e,p,i,u,h'⟩,ps,vs,sl,⟨6,rp,ri,rs,re,ru,rv,rc,rz,rm,rn,rt⟩,n,s⟩=if bM ⟨6,rp,ri,rs,re,ru,rv,rc,rz,rm,rn,rt⟩=true∧(lr ⟨⟨e,p,i,u,h'⟩,ps,vs,sl,⟨6,rp,ri,rs,re,ru,rv,rc,rz,rm,rn,rt⟩,n,s⟩).2=true then((lr ⟨⟨e,p,i,u,h'⟩,ps,vs,sl,⟨6,rp,ri,rs,re,ru,rv,rc,rz,rm,rn,rt⟩,n,s⟩).1,0) else(⟨⟨e,p,i,u,h'⟩,ps,vs,sl,⟨6,rp,ri,rs,re,ru,rv,rc,rz,rm,rn,rt⟩,n,s⟩,220):=rfl;rw[hA];apply af;·simp(config := { maxSteps := 3000000 }) [kJ,yo];exact⟨rfl,rfl,rfl⟩
   generalize hx:lr ⟨⟨e,p,i,u,h'⟩,ps,vs,sl,⟨6,rp,ri,rs,re,ru,rv,rc,rz,rm,rn,rt⟩,n,s⟩=x;obtain⟨⟨⟨e',p',i',u',h''⟩,ps',vs',sl',⟨k',rp',ri',rs',re',ru',rv',rc',rz',rm',rn',rt'⟩,n',s'⟩,b⟩:=x;rw[bd];cases hR:bM ⟨6,rp,ri,rs,re,ru,rv,rc,rz,rm,rn,rt⟩ with
   |false=>
    apply af;·simp(config := { maxSteps := 3000000 }) [hR];exact⟨rfl,rfl⟩
    simp(config := { maxSteps := 3000000 }) [hR,h9,h3,bn]|true=>
    apply af;·simp(config := { maxSteps := 3000000 }) [hR,hx,nd,h9];exact⟨by kernel_rfl,rfl,rfl⟩
    cases b with|false=>simp(config := { maxSteps := 3000000 }) [hR,h9,h3,bn]|true=>simp(config := { maxSteps := 3000000 }) [hR,bn]
  ·have hA:aT ⟨⟨e,p,i,u,h'⟩,ps,vs,sl,⟨7,rp,ri,rs,re,ru,rv,rc,rz,rm,rn,rt⟩,n,s⟩=if bM ⟨7,rp,ri,rs,re,ru,rv,rc,rz,rm,rn,rt⟩=true∧(qV ⟨⟨e,p,i,u,h'⟩,ps,vs,sl,⟨7,rp,ri,rs,re,ru,rv,rc,rz,rm,rn,rt⟩,n,s⟩).2=true then((qV ⟨⟨e,p,i,u,h'⟩,ps,vs,sl,⟨7,rp,ri,rs,re,ru,rv,rc,rz,rm,rn,rt⟩,n,s⟩).1,0) else(⟨⟨e,p,i,u,h'⟩,ps,vs,sl,⟨7,rp,ri,rs,re,ru,rv,rc,rz,rm,rn,rt⟩,n,s⟩,220):=rfl;rw[hA];apply af;·simp(config := { maxSteps := 3000000 }) [kJ,yo];exact⟨rfl,rfl,rfl⟩
   generalize hx:qV ⟨⟨e,p,i,u,h'⟩,ps,vs,sl,⟨7,rp,ri,rs,re,ru,rv,rc,rz,rm,rn,rt⟩,n,s⟩=x;obtain⟨⟨⟨e',p',i',u',h''⟩,ps',vs',sl',⟨k',rp',ri',rs',re',ru',rv',rc',rz',rm',rn',rt'⟩,n',s'⟩,b⟩:=x;rw[bd];cases hR:bM ⟨7,rp,ri,rs,re,ru,rv,rc,rz,rm,rn,rt⟩ with
   |false=>
    apply af;·simp(config := { maxSteps := 3000000 }) [hR];exact⟨rfl,rfl⟩
    simp(config := { maxSteps := 3000000 }) [hR,h9,h3,bn]|true=>
    apply af;·simp(config := { maxSteps := 3000000 }) [hR,hx,nd];exact⟨by kernel_rfl,rfl,rfl⟩
    cases b with|false=>simp(config := { maxSteps := 3000000 }) [hR,h9,h3,bn]|true=>simp(config := { maxSteps := 3000000 }) [hR,bn]
  ·have hA:aT ⟨⟨e,p,i,u,h'⟩,ps,vs,sl,⟨8,rp,ri,rs,re,ru,rv,rc,rz,rm,rn,rt⟩,n,s⟩=if bM ⟨8,rp,ri,rs,re,ru,rv,rc,rz,rm,rn,rt⟩=true∧(iP ⟨⟨e,p,i,u,h'⟩,ps,vs,sl,⟨8,rp,ri,rs,re,ru,rv,rc,rz,rm,rn,rt⟩,n,s⟩).2=true then((iP ⟨⟨e,p,i,u,h'⟩,ps,vs,sl,⟨8,rp,ri,rs,re,ru,rv,rc,rz,rm,rn,rt⟩,n,s⟩).1,0) else(⟨⟨e,p,i,u,h'⟩,ps,vs,sl,⟨8,rp,ri,rs,re,ru,rv,rc,rz,rm,rn,rt⟩,n,s⟩,220):=rfl;rw[hA];apply af;·simp(config := { maxSteps := 3000000 }) [kJ,yo];exact⟨rfl,rfl,rfl⟩
   generalize hx:iP ⟨⟨e,p,i,u,h'⟩,ps,vs,sl,⟨8,rp,ri,rs,re,ru,rv,rc,rz,rm,rn,rt⟩,n,s⟩=x;obtain⟨⟨⟨e',p',i',u',h''⟩,ps',vs',sl',⟨k',rp',ri',rs',re',ru',rv',rc',rz',rm',rn',rt'⟩,n',s'⟩,b⟩:=x;rw[bd];cases hR:bM ⟨8,rp,ri,rs,re,ru,rv,rc,rz,rm,rn,rt⟩ with
   |false=>
    apply af;·simp(config := { maxSteps := 3000000 }) [hR];exact⟨rfl,rfl⟩
    simp(config := { maxSteps := 3000000 }) [hR,h9,h3,bn]|true=>
    apply af;·simp(config := { maxSteps := 3000000 }) [hR,hx,nd,h2,hP,hC,hS,h3,hV];exact⟨by kernel_rfl,rfl,rfl⟩
    cases b with|false=>simp(config := { maxSteps := 3000000 }) [hR,h9,h3,bn]|true=>simp(config := { maxSteps := 3000000 }) [hR,bn]
  ·have hA:aT ⟨⟨e,p,i,u,h'⟩,ps,vs,sl,⟨k,rp,ri,rs,re,ru,rv,rc,rz,rm,rn,rt⟩,n,s⟩=(⟨⟨e,p,i,u,h'⟩,ps,vs,sl,⟨k,rp,ri,rs,re,ru,rv,rc,rz,rm,rn,rt⟩,n,s⟩,220):=by simp only[aT,xj,k1,k2,k3,k4,k5,k6,k7,k8,if_false]
   rw[hA];apply af;·simp(config := { maxSteps := 3000000 }) [kJ,yo,k1,k2,k3,k4,k5,k6,k7,k8];exact⟨rfl,rfl,rfl⟩
   have hnf:rD Value.nilFunc=PV.val Value.nilFunc:=rfl;simp(config := { maxSteps := 3000000 }) [h9,h3,bn,hnf]
 ·cases h
structure Dc where
 l:Ls
 ps:List Pn
 vs:List Vn
 sl:Bool deriving DecidableEq
def cellsD (d:Dc):List AV:=[.pv (.int .u64 d.l.e),.pv (.int .u64 d.l.p),.pv (.int .u64 d.l.i),.pv (.int .u64 d.l.u),.pv (.bool d.l.h),.pv (.ro (aF d.ps)),.pv (.ro (aC d.vs)),.pv (.bool d.sl)]
noncomputable def fp (ys:List AV) (K:Dc→Option (Prop×AV)):Option (Prop×AV):=match ys with|[.pv (.int .u64 e),.pv (.int .u64 p),.pv (.int .u64 i),.pv (.int .u64 u),.pv (.bool h),.pv (.ro a),.pv (.ro b),.pv (.bool sl)]=>(dec rowP a).bind fun ps=>(dec cM b).bind fun vs=>K ⟨⟨e,p,i,u,h⟩,ps,vs,sl⟩|_=>none
@[simp] theorem UT (e p i u:Int) (h sl:Bool) (a b:List (List PV)) (K:Dc→Option (Prop×AV)):fp [.pv (.int .u64 e),.pv (.int .u64 p),.pv (.int .u64 i),.pv (.int .u64 u),.pv (.bool h),.pv (.ro a),.pv (.ro b),.pv (.bool sl)] K=(dec rowP a).bind fun ps=>(dec cM b).bind fun vs=>K ⟨⟨e,p,i,u,h⟩,ps,vs,sl⟩:=rfl
theorem bY {ys:List AV}{K:Dc→Option (Prop×AV)}{x:Prop×AV} (h:fp ys K=some x):∃d,ys=cellsD d∧K d=some x:=by
 unfold fp at h;split at h;·obtain⟨ps,hp,h1⟩:=Option.bind_eq_some_iff.1 h;obtain⟨vs,hv,h2⟩:=Option.bind_eq_some_iff.1 h1;rw[aG hp,aD hv];exact⟨_,rfl,h2⟩
 ·cases h
@[simp] noncomputable def GdP:List AV→Option (Prop×AV)|[.agg [.pv (.ro a)]]=>(dec rowP a).map fun l=>(l.length≤100000,.fr 123 (aF l))|_=>none
theorem TA:aO Tryz.prog 27 GdP:=by
 intro ys φ r h hφ;unfold GdP at h;split at h
 ·obtain⟨a,ha,h⟩:=Option.map_eq_some_iff.1 h;cases h;cases aG ha;have hl:a.length≤100000:=hφ;refine aw ah (by kernel_rfl) (by conv=>lhs;reduce) (by simp) ?_;simp(config := { maxSteps := 3000000 });refine aq (fun i:Nat=>i≤a.length) (fun i=>⟨[(1,.ptr 1 0),(2,.own 2),(3,.own 3),(4,.pv (.int .i64 i))],[(1,.box [.pv (.ro (aF a))]),(2,.arr 123 []),(3,.arr 123 (aF (a.take i)))]⟩) (fun i=>a.length-i) [] 0 (by simp) ?_ ?_;·simp
  ·intro i hi;have w2:IntKind.i64.wrap ((i:Int)+1)=(i:Int)+1:=wrap_i64 (by omega);by_cases hlt:i<a.length;·have r1:=cr hlt;simp(config := { maxSteps := 3000000 }) [w2,hlt,r1,aB];refine⟨⟨by omega,by omega⟩,i+1,by omega,⟨by omega,?_⟩,by omega⟩;rw[List.take_succ_eq_append_getElem hlt,cK];rfl
   ·simp(config := { maxSteps := 3000000 }) [hlt];rw[List.take_of_length_le (by omega)]
 ·cases h
@[simp] noncomputable def GdV:List AV→Option (Prop×AV)|[.pv (.ro a)]=>(dec cM a).map fun l=>(l.length≤100000,.fr 92 (aC l))|_=>none
theorem S6:aO Tryz.prog 28 GdV:=by
 intro ys φ r h hφ;unfold GdV at h;split at h
 ·obtain⟨a,ha,h⟩:=Option.map_eq_some_iff.1 h;cases h;cases aD ha;have hl:a.length≤100000:=hφ;refine aw ah (by kernel_rfl) (by conv=>lhs;reduce) (by simp) ?_;simp(config := { maxSteps := 3000000 });refine aq (fun i:Nat=>i≤a.length) (fun i=>⟨[(0,.pv (.ro (aC a))),(2,.own 2),(3,.own 3),(4,.pv (.int .i64 i))],[(2,.arr 92 []),(3,.arr 92 (aC (a.take i)))]⟩) (fun i=>a.length-i) [] 0 (by simp) ?_ ?_;·simp
  ·intro i hi;have w2:IntKind.i64.wrap ((i:Int)+1)=(i:Int)+1:=wrap_i64 (by omega);by_cases hlt:i<a.length;·have r1:=aV hlt;simp(config := { maxSteps := 3000000 }) [w2,hlt,r1,aB];refine⟨⟨by omega,by omega⟩,i+1,by omega,⟨by omega,?_⟩,by omega⟩;rw[List.take_succ_eq_append_getElem hlt,bO];rfl
   ·simp(config := { maxSteps := 3000000 }) [hlt];rw[List.take_of_length_le (by omega)]
 ·cases h
@[simp] noncomputable def GdD:List AV→Option (Prop×AV)|[.agg ys]=>fp ys fun d=>some (d.ps.length≤100000∧d.vs.length≤100000,.agg [.pv (.int .u64 d.l.e),.pv (.int .u64 d.l.p),.pv (.int .u64 d.l.i),.pv (.int .u64 d.l.u),.pv (.bool d.l.h),.fr 123 (aF d.ps),.fr 92 (aC d.vs),.pv (.bool d.sl)])|_=>none
theorem LD:aO Tryz.prog 9 GdD:=by
 intro ys φ r h hφ;unfold GdD at h;split at h;·obtain⟨d,hd,h2⟩:=bY h;subst hd;clear h;cases h2;obtain⟨h1,h2⟩:=hφ;refine aw (ag TA (ag S6 ah)) (by kernel_rfl) (by conv=>lhs;reduce) (by simp) ?_;simp(config := { maxSteps := 3000000 }) [cellsD,h1,h2]
 ·cases h
noncomputable def eR (d:Dc) (ts:List (List UInt8)):Dc×Int:=if(bL d.vs ts).2=0 then(⟨d.l,d.ps,(bL d.vs ts).1,d.sl⟩,0) else(⟨⟨0,0,0,0,false⟩,[],[],false⟩,(bL d.vs ts).2)
@[simp] noncomputable def US (e1 e2:TypeId):List AV→Option (Prop×AV)|[.agg ys,.pv (.ro ts)]=>fp ys fun d=>(dec ln ts).map fun ts=>(d.ps.length≤100000∧d.vs.length≤100000∧(∀v∈d.vs,eL v),.aQ [.agg [.pv (.int .u64 (eR d ts).1.l.e),.pv (.int .u64 (eR d ts).1.l.p),.pv (.int .u64 (eR d ts).1.l.i),.pv (.int .u64 (eR d ts).1.l.u),.pv (.bool (eR d ts).1.l.h),.fr e1 (aF (eR d ts).1.ps),.fr e2 (aC (eR d ts).1.vs),.pv (.bool (eR d ts).1.sl)],.pv (.int .i64 (eR d ts).2)])|_=>none
theorem KM:aO Tryz.prog 22 (US 94 73):=by
 intro ys φ r h hφ;unfold US at h;split at h
 ·obtain⟨d,hd,h2⟩:=bY h;subst hd;clear h;obtain⟨ts,hts,h3⟩:=Option.map_eq_some_iff.1 h2;clear h2;cases h3;cases ej hts;obtain⟨h1,h2,h3⟩:=hφ;have h4:(∀v∈d.vs,eL v)=True:=eq_true h3;have hi1:(Tryz.prog.info? 94).isSome=true:=by kernel_rfl
  have hi2:(Tryz.prog.info? 73).isSome=true:=by kernel_rfl
  refine aw (ag XJ (ag KS ah)) (by kernel_rfl) (by conv=>lhs;reduce) (by simp) ?_;apply af;·simp(config := { maxSteps := 3000000 }) [cellsD];exact⟨rfl,rfl⟩
  apply af;·simp(config := { maxSteps := 3000000 }) [h2,h4];exact⟨rfl,rfl⟩
  unfold eR;generalize bL d.vs ts=x;obtain⟨x,e⟩:=x;by_cases he:e=0
  ·subst he;apply af;·simp(config := { maxSteps := 3000000 });exact⟨rfl,rfl⟩
   apply af;·simp(config := { maxSteps := 3000000 }) [h1,h2];exact⟨rfl,rfl⟩
   apply af;·simp(config := { maxSteps := 3000000 });exact⟨rfl,rfl⟩
   simp(config := { maxSteps := 3000000 })
  ·simp(config := { maxSteps := 3000000 }) [he,hi1,hi2]
 ·cases h
def xQ (n t:List UInt8):Bool:=decide (n.length≤100)&&decide (t.length≤100)
@[simp] def Ly:List AV→Option (Prop×AV)|[.agg [.pv (.int .u8 k),.pv (.int .u64 p),.pv (.int .u64 i),.pv (.int .u64 s),.pv (.int .u64 e),.pv (.int .u64 u),.pv (.int .u64 v),.pv (.int .u64 c),.pv (.int .u64 z),.pv (.int .u64 m),.pv (.str n),.pv (.str t)]]=>some (True,.pv (.bool (xQ n t)))|_=>none
theorem FJ:aO Tryz.prog 7 Ly:=by
 intro ys φ r h hφ;unfold Ly at h;split at h;·rename_i k p i s e u v c z m n t;cases h;refine aw ah (by kernel_rfl) (by conv=>lhs;reduce) (by simp) ?_;have e1:∀l:List UInt8,decide ((l.length:Int)≤100)=decide (l.length≤100):=fun l=>decide_eq_decide.2 (by omega);have e2:∀l:List UInt8,((l.length:Int)≤100)=(l.length≤100):=fun l=>propext (by omega);by_cases h1:n.length≤100<;>simp(config := { maxSteps := 3000000 }) [xQ,h1,e1,e2]
 ·cases h
def lE (d:Dc):Bool:=d.vs.all (fun v=>decide (v.t.length≤100))&&decide (d.ps.length≤20)&&decide (d.vs.length≤20)
@[simp] noncomputable def Lt:List AV→Option (Prop×AV)|[.agg ys]=>fp ys fun d=>some (d.vs.length≤maxLen,.pv (.bool (lE d)))|_=>none
theorem BW:aO Tryz.prog 6 Lt:=by
 intro ys φ r h hφ;unfold Lt at h;split at h
 ·obtain⟨d,hd,h2⟩:=bY h;subst hd;clear h;cases h2;obtain⟨⟨e,p,i,u,h'⟩,ps,vs,sl⟩:=d;have hl:vs.length≤maxLen:=hφ;rw[aB]at hl;refine aw ah (by kernel_rfl) (by conv=>lhs;reduce) (by simp) ?_;simp(config := { maxSteps := 3000000 }) [cellsD];refine aq (fun i:Nat=>i≤vs.length∧∀v∈vs.take i,v.t.length≤100) (fun j=>⟨[(1,.ptr 1 0),(2,.pv (.bool false)),(3,.pv (.int .i64 j))],[(1,.box [.pv (.int .u64 e),.pv (.int .u64 p),.pv (.int .u64 i),.pv (.int .u64 u),.pv (.bool h'),.pv (.ro (aF ps)),.pv (.ro (aC vs)),.pv (.bool sl)])]⟩) (fun i=>vs.length-i) [] 0 (by simp) ?_ ?_;·simp
  ·rintro j ⟨hj,ht⟩;by_cases hlt:j<vs.length
   ·have r1:=aV hlt;have w2:IntKind.i64.wrap ((j:Int)+1)=(j:Int)+1:=wrap_i64 (by omega);by_cases h1:(100:Int)<vs[j].t.length
    ·have hf:lE ⟨⟨e,p,i,u,h'⟩,ps,vs,sl⟩=false:=by
      unfold lE;have:(vs.all fun v=>decide (v.t.length≤100))=false:=by rw[List.all_eq_false];exact⟨vs[j],List.getElem_mem hlt,by simp;omega⟩
      simp[this]
     simp(config := { maxSteps := 3000000 }) [w2,hlt,r1,h1,hf]
    ·have h1':(vs[j].t.length:Int)≤100:=by omega
     simp(config := { maxSteps := 3000000 }) [w2,hlt,r1,h1,h1'];refine⟨j+1,⟨by omega,fun v hv=>?_⟩,by omega,by omega⟩;rw[List.take_succ_eq_append_getElem hlt,List.mem_append]at hv;rcases hv with hv|hv;·exact ht v hv
     ·simp only[List.mem_singleton]at hv;subst hv;omega
   ·rw[List.take_of_length_le (by omega)]at ht;have hf:lE ⟨⟨e,p,i,u,h'⟩,ps,vs,sl⟩=(decide (ps.length≤20)&&decide (vs.length≤20)):=by
     unfold lE;have:(vs.all fun v=>decide (v.t.length≤100))=true:=by rw[List.all_eq_true];exact fun v hv=>decide_eq_true (ht v hv)
     simp[this]
    have e1:∀n:Nat,decide ((n:Int)≤20)=decide (n≤20):=fun n=>decide_eq_decide.2 (by omega);by_cases h2:(ps.length:Int)≤20<;>simp(config := { maxSteps := 3000000 }) [hlt,hf,h2,←e1]
 ·cases h
theorem C0 {a b:Vn}:a=b↔a.n=b.n∧a.b=b.b∧a.p=b.p∧a.i=b.i∧a.s=b.s∧a.z=b.z∧a.m=b.m∧a.t=b.t∧a.inl=b.inl∧a.dm=b.dm:=by cases a;cases b;simp
@[simp] noncomputable def Uh:List AV→Option (Prop×AV)|[.pv (.ro a),.pv (.ro b)]=>(dec cM a).bind fun a=>(dec cM b).map fun b=>(a.length≤1000000000,.pv (.bool (decide (a=b))))|_=>none
theorem YU:aO Tryz.prog 58 Uh:=by
 intro ys φ r h hφ;unfold Uh at h;split at h
 ·obtain⟨a,ha,h1⟩:=Option.bind_eq_some_iff.1 h;obtain⟨b,hb,h2⟩:=Option.map_eq_some_iff.1 h1;clear h h1;cases h2;cases aD ha;cases aD hb;have hl:a.length≤1000000000:=hφ;refine aw ah (by kernel_rfl) (by conv=>lhs;reduce) (by simp) ?_;simp(config := { maxSteps := 3000000 });refine⟨fun hne=>?_,fun hlen=>?_⟩;·intro e;exact hne (by rw[e])
  refine aq (fun i:Nat=>i≤a.length∧a.take i=b.take i) (fun i=>⟨[(0,.pv (.ro (aC a))),(1,.pv (.ro (aC b))),(12,.pv (.int .i64 a.length)),(13,.pv (.int .i64 i))],[]⟩) (fun i=>a.length-i) [] 0 (by simp) ?_ ?_;·simp
  ·rintro i ⟨hi,ht⟩;have w2:IntKind.i64.wrap ((i:Int)+1)=(i:Int)+1:=wrap_i64 (by omega);by_cases hlt:i<a.length
   ·have r1:=aV hlt;have hlb:i<b.length:=by omega
    have r2:=aV hlb;by_cases he:a[i]=b[i];·obtain⟨f1,f2,f3,f4,f5,f6,f7,f8,f9,f10⟩:=C0.1 he;simp(config := { maxSteps := 3000000 }) [w2,hlt,hlb,r1,r2,f1,f2,f3,f4,f5,f6,f7,f8,f9,f10];refine⟨i+1,⟨by omega,?_⟩,by omega,by omega⟩;rw[List.take_succ_eq_append_getElem hlt,List.take_succ_eq_append_getElem hlb,ht,he]
    ·have hn:¬a=b:=fun e=>he (by subst e;rfl);simp(config := { maxSteps := 3000000 }) [w2,hlt,hlb,r1,r2,hn];exact fun f1 f2 f3 f4 f5 f6 f7 f8 f9 f10=>absurd (C0.2 ⟨f1,f2,f3,f4,f5,f6,f7,f8,f9,f10⟩) he
   ·simp(config := { maxSteps := 3000000 }) [hlt];rw[List.take_of_length_le (by omega),List.take_of_length_le (by omega)]at ht;exact ht
 ·cases h
@[simp] noncomputable def Zj:List AV→Option (Prop×AV)|[.agg xs,.agg ys]=>fp xs fun a=>fp ys fun b=>some (a.ps.length≤1000000000∧a.vs.length≤1000000000,.pv (.bool (decide (a=b))))|_=>none
theorem Mh:aO Tryz.prog 20 Zj:=by
 intro ys φ r h hφ;unfold Zj at h;split at h
 ·obtain⟨a,ha,h1⟩:=bY h;obtain⟨b,hb,h2⟩:=bY h1;subst ha hb;clear h h1;cases h2;obtain⟨⟨e,p,i,u,h'⟩,ps,vs,sl⟩:=a;obtain⟨⟨e2,p2,i2,u2,h2'⟩,ps2,vs2,sl2⟩:=b;obtain⟨h1,h2⟩:=hφ;have h1:ps.length≤1000000000:=h1;have h2:vs.length≤1000000000:=h2;refine aw (ag IZ (ag YU ah)) (by kernel_rfl) (by conv=>lhs;reduce) (by simp) ?_;have hs:(sl==sl2)=decide (sl=sl2):=by cases sl<;>cases sl2<;>rfl
  simp(config := { maxSteps := 3000000 }) [cellsD,h1,h2];rw[hs];ac_rfl
 ·cases h
theorem Fu:aO Tryz.prog 13 Zj:=by
 intro ys φ r h hφ;unfold Zj at h;split at h
 ·obtain⟨a,ha,h1⟩:=bY h;obtain⟨b,hb,h2⟩:=bY h1;subst ha hb;clear h h1;cases h2;obtain⟨⟨e,p,i,u,h'⟩,ps,vs,sl⟩:=a;obtain⟨⟨e2,p2,i2,u2,h2'⟩,ps2,vs2,sl2⟩:=b;obtain⟨h1,h2⟩:=hφ;have h1:ps.length≤1000000000:=h1;have h2:vs.length≤1000000000:=h2;refine aw (ag Ib ah) (by kernel_rfl) (by conv=>lhs;reduce) (by simp) ?_;apply af;·simp(config := { maxSteps := 3000000 }) [cellsD];exact⟨rfl,rfl⟩
  rw[bd];simp(config := { maxSteps := 3000000 }) [h1];refine⟨fun hx a1 a2 a3 a4 a5 a6 a7 a8=>?_,?_⟩;·subst a1 a2 a3 a4 a5 a6 a7 a8;simp at hx
  ·rintro rfl rfl rfl rfl rfl rfl rfl hlen;have hlen:vs.length=vs2.length:=by omega
   refine aq (fun i:Nat=>i≤vs.length∧vs.take i=vs2.take i) (fun j=>⟨[(2,.ptr 2 0),(3,.ptr 3 0),(5,.pv (.int .i64 j))],[(2,.box [.pv (.int .u64 e),.pv (.int .u64 p),.pv (.int .u64 i),.pv (.int .u64 u),.pv (.bool h'),.pv (.ro (aF ps)),.pv (.ro (aC vs)),.pv (.bool sl)]),(3,.box [.pv (.int .u64 e),.pv (.int .u64 p),.pv (.int .u64 i),.pv (.int .u64 u),.pv (.bool h'),.pv (.ro (aF ps)),.pv (.ro (aC vs2)),.pv (.bool sl)])]⟩) (fun i=>vs.length-i) [] 0 (by simp) ?_ ?_;·simp
   ·rintro j ⟨hj,ht⟩;have w2:IntKind.i64.wrap ((j:Int)+1)=(j:Int)+1:=wrap_i64 (by omega);by_cases hlt:j<vs.length
    ·have r1:=aV hlt;have hlb:j<vs2.length:=by omega
     have r2:=aV hlb;by_cases he:vs[j]=vs2[j];·obtain⟨f1,f2,f3,f4,f5,f6,f7,f8,f9,f10⟩:=C0.1 he;simp(config := { maxSteps := 3000000 }) [w2,hlt,hlb,r1,r2,f1,f2,f3,f4,f5,f6,f7,f8,f9,f10];refine⟨j+1,⟨by omega,?_⟩,by omega,by omega⟩;rw[List.take_succ_eq_append_getElem hlt,List.take_succ_eq_append_getElem hlb,ht,he]
     ·have hn:¬vs=vs2:=fun e=>he (by subst e;rfl);simp(config := { maxSteps := 3000000 }) [w2,hlt,hlb,r1,r2,hn];exact fun f1 f2 f3 f4 f5 f6 f7 f8 f9 f10=>absurd (C0.2 ⟨f1,f2,f3,f4,f5,f6,f7,f8,f9,f10⟩) he
    ·simp(config := { maxSteps := 3000000 }) [hlt];rw[List.take_of_length_le (by omega),List.take_of_length_le (by omega)]at ht;exact ht
 ·cases h
@[simp] def V5 (e1 e2:TypeId):List AV→Option (Prop×AV)|[.agg [.pv (.int .u64 e),.pv (.int .u64 p),.pv (.int .u64 i),.pv (.int .u64 u),.pv (.bool h),.fr x ra,.fr y rb,.pv (.bool sl)]]=>if x=e1∧y=e2 then some (ra.length≤1000000∧rb.length≤1000000∧(∀r∈ra,r.length=3)∧∀r∈rb,r.length=10,.bJ 0 [.aQ []]) else none|_=>none
theorem Ke:dR Tryz.prog 14 (V5 94 73):=by
 intro ys φ r h hφ;unfold V5 at h;split at h
 ·rename_i e p i u h' x ra y rb sl;split at h
  ·rename_i hxy;obtain⟨rfl,rfl⟩:=hxy;cases h;obtain⟨l1,l2,l3,l4⟩:=hφ;refine cu ah (by kernel_rfl) (by conv=>lhs;reduce) (by simp) rfl (by simp) ?_;apply af;·simp(config := { maxSteps := 3000000 });exact⟨rfl,rfl⟩
   rw[bd];apply af;·simp(config := { maxSteps := 3000000 });exact⟨rfl,rfl⟩
   rw[aM];refine aq (fun x:Nat×List (List PV)=>x.1≤ra.length∧x.2.length=ra.length∧∀r∈x.2,r.length=3) (fun x=>⟨[(1,.ptr 1 0),(2,.pv (.int .i64 (x.1:Int)))],[(1,.box [.pv (.int .u64 e),.pv (.int .u64 p),.pv (.int .u64 i),.pv (.int .u64 u),.pv (.bool h'),.own 998,.own 1998,.pv (.bool sl)]),(998,.arr 94 x.2),(1998,.arr 73 rb)]⟩) (fun x=>ra.length-x.1) [] (0,ra) ⟨by simp,rfl,l3⟩ ?_ ?_;·simp
   ·rintro⟨j,b⟩ ⟨hj,hb,hr⟩;have hj:j≤ra.length:=hj;have hb:b.length=ra.length:=hb;have hr:∀r∈b,r.length=3:=hr;have w2:IntKind.i64.wrap ((j:Int)+1)=(j:Int)+1:=wrap_i64 (by omega);by_cases hlt:j<ra.length
    ·have r1:(rowAt b (j:Int)).length=3:=by simp only[rowAt,Int.toNat_natCast,List.getD_eq_getElem?_getD,List.getElem?_eq_getElem (show j<b.length by omega),Option.getD_some];exact hr _ (List.getElem_mem _)
     have r2:(rowAt b (j:Int)).drop 3=[]:=List.drop_eq_nil_of_le (by omega);simp(config := { maxSteps := 3000000 }) [w2,hlt,r1,r2,hb];exact⟨j+1,_,⟨by omega,by rw[List.length_set];exact hb,fun r hr'=>(List.mem_or_eq_of_mem_set hr').elim (hr r) fun e=>by rw[e];rfl⟩,⟨by omega,rfl⟩,by omega⟩
    ·have hja:j=ra.length:=by omega
     subst hja;simp(config := { maxSteps := 3000000 }) [hb];refine aq (fun x:Nat×List (List PV)=>x.1≤rb.length∧x.2.length=rb.length∧∀r∈x.2,r.length=10) (fun x=>⟨[(1,.ptr 1 0),(3,.pv (.int .i64 (x.1:Int)))],[(1,.box [.pv (.int .u64 e),.pv (.int .u64 p),.pv (.int .u64 i),.pv (.int .u64 u),.pv (.bool h'),.own 998,.own 1998,.pv (.bool sl)]),(998,.arr 94 b),(1998,.arr 73 x.2)]⟩) (fun x=>rb.length-x.1) [] (0,rb) ⟨by simp,rfl,l4⟩ ?_ ?_;·simp
     ·rintro⟨j,c⟩ ⟨hj,hc,hr⟩;have hj:j≤rb.length:=hj;have hc:c.length=rb.length:=hc;have hr:∀r∈c,r.length=10:=hr;have w2:IntKind.i64.wrap ((j:Int)+1)=(j:Int)+1:=wrap_i64 (by omega);by_cases hlt:j<rb.length
      ·have r1:(rowAt c (j:Int)).length=10:=by simp only[rowAt,Int.toNat_natCast,List.getD_eq_getElem?_getD,List.getElem?_eq_getElem (show j<c.length by omega),Option.getD_some];exact hr _ (List.getElem_mem _)
       have r2:(rowAt c (j:Int)).drop 10=[]:=List.drop_eq_nil_of_le (by omega);simp(config := { maxSteps := 3000000 }) [w2,hlt,r1,r2,hc];exact⟨j+1,_,⟨by omega,by rw[List.length_set];exact hc,fun r hr'=>(List.mem_or_eq_of_mem_set hr').elim (hr r) fun e=>by rw[e];rfl⟩,⟨by omega,rfl⟩,by omega⟩
      ·simp(config := { maxSteps := 3000000 }) [hlt,hc]
  ·cases h
 ·cases h
@[simp] theorem ZO (e p i u:Int) (h:Bool) (a b:List (List PV)) (sl:Bool) (k rp ri rs re ru rv rc rz rm:Int) (rn rt:List UInt8) (n s:Int):MM [.agg [.pv (.int .u64 e),.pv (.int .u64 p),.pv (.int .u64 i),.pv (.int .u64 u),.pv (.bool h),.pv (.ro a),.pv (.ro b),.pv (.bool sl)],.agg [.pv (.int .u8 k),.pv (.int .u64 rp),.pv (.int .u64 ri),.pv (.int .u64 rs),.pv (.int .u64 re),.pv (.int .u64 ru),.pv (.int .u64 rv),.pv (.int .u64 rc),.pv (.int .u64 rz),.pv (.int .u64 rm),.pv (.str rn),.pv (.str rt)],.pv (.int .u64 n),.pv (.int .u64 s)]=(dec rowP a).bind fun ps=>(dec cM b).map fun vs=>(sT ⟨⟨e,p,i,u,h⟩,ps,vs,sl,⟨k,rp,ri,rs,re,ru,rv,rc,rz,rm,rn,rt⟩,n,s⟩,.aQ [.agg (bn (aT ⟨⟨e,p,i,u,h⟩,ps,vs,sl,⟨k,rp,ri,rs,re,ru,rv,rc,rz,rm,rn,rt⟩,n,s⟩).1),.pv (.int .i64 (aT ⟨⟨e,p,i,u,h⟩,ps,vs,sl,⟨k,rp,ri,rs,re,ru,rv,rc,rz,rm,rn,rt⟩,n,s⟩).2)]):=rfl
def p3:Pn:=⟨3,2,5⟩
def x2:Vn:=⟨2,0,7,1,0,0,0,[],false,false⟩
def x4:Vn:=⟨4,2,7,1,0,0,0,[],false,false⟩
def x2h:Vn:=⟨2,0,7,1,0,0,0,[],false,true⟩
theorem kA:aT ⟨⟨0,0,0,0,false⟩,[],[],false,⟨1,7,1,0,1,9,0,0,0,0,[],[]⟩,1,0⟩=(⟨⟨1,7,1,9,true⟩,[],[],false,⟨1,7,1,0,1,9,0,0,0,0,[],[]⟩,1,0⟩,0):=by kernel_rfl
theorem oA:sT ⟨⟨0,0,0,0,false⟩,[],[],false,⟨1,7,1,0,1,9,0,0,0,0,[],[]⟩,1,0⟩:=by simp[sT,bQ,e9,eL,ed,p3,x2,x4]
theorem kB:aT ⟨⟨1,7,1,9,true⟩,[],[],false,⟨4,7,1,0,1,0,0,0,0,0,[],[]⟩,2,0⟩=(⟨⟨1,7,1,9,true⟩,[],[x2],false,⟨4,7,1,0,1,0,0,0,0,0,[],[]⟩,2,0⟩,0):=by kernel_rfl
theorem oB:sT ⟨⟨1,7,1,9,true⟩,[],[],false,⟨4,7,1,0,1,0,0,0,0,0,[],[]⟩,2,0⟩:=by simp[sT,bQ,e9,eL,ed,p3,x2,x4]
theorem kC:aT ⟨⟨1,7,1,9,true⟩,[],[x2],false,⟨5,0,0,0,0,5,2,0,0,0,[],[]⟩,3,0⟩=(⟨⟨1,7,1,9,true⟩,[p3],[x2],false,⟨5,0,0,0,0,5,2,0,0,0,[],[]⟩,3,0⟩,0):=by kernel_rfl
theorem oC:sT ⟨⟨1,7,1,9,true⟩,[],[x2],false,⟨5,0,0,0,0,5,2,0,0,0,[],[]⟩,3,0⟩:=by simp[sT,bQ,e9,eL,ed,p3,x2,x4]
theorem kX:aT ⟨⟨1,7,1,9,true⟩,[p3],[x2],false,⟨4,7,1,0,1,0,2,0,0,0,[],[]⟩,4,0⟩=(⟨⟨1,7,1,9,true⟩,[p3],[x2,x4],false,⟨4,7,1,0,1,0,2,0,0,0,[],[]⟩,4,0⟩,0):=by kernel_rfl
theorem oX:sT ⟨⟨1,7,1,9,true⟩,[p3],[x2],false,⟨4,7,1,0,1,0,2,0,0,0,[],[]⟩,4,0⟩:=by simp[sT,bQ,e9,eL,ed,p3,x2,x4]
theorem kY:aT ⟨⟨1,7,1,9,true⟩,[p3],[x2,x4],false,⟨8,0,0,0,0,0,0,3,0,0,[],[]⟩,5,0⟩=(⟨⟨1,7,1,9,true⟩,[p3],[x2,x4],false,⟨8,0,0,0,0,0,0,3,0,0,[],[]⟩,5,0⟩,0):=by kernel_rfl
theorem oY:sT ⟨⟨1,7,1,9,true⟩,[p3],[x2,x4],false,⟨8,0,0,0,0,0,0,3,0,0,[],[]⟩,5,0⟩:=by simp[sT,bQ,e9,eL,ed,p3,x2,x4]
theorem kZ:aT ⟨⟨1,7,1,9,true⟩,[p3],[x2,x4],false,⟨8,0,0,0,0,0,0,6,0,0,[],[]⟩,5,0⟩=(⟨⟨1,7,1,9,true⟩,[],[x2h,x4],false,⟨8,0,0,0,0,0,0,6,0,0,[],[]⟩,5,0⟩,0):=by kernel_rfl
theorem oZ:sT ⟨⟨1,7,1,9,true⟩,[p3],[x2,x4],false,⟨8,0,0,0,0,0,0,6,0,0,[],[]⟩,5,0⟩:=by simp[sT,bQ,e9,eL,ed,p3,x2,x4]
theorem kK:aT ⟨⟨0,0,0,0,false⟩,[],[],false,⟨4,7,1,0,0,0,0,0,0,0,[],[]⟩,1,0⟩=(⟨⟨0,0,0,0,false⟩,[],[],false,⟨4,7,1,0,0,0,0,0,0,0,[],[]⟩,1,0⟩,220):=by kernel_rfl
theorem oK:sT ⟨⟨0,0,0,0,false⟩,[],[],false,⟨4,7,1,0,0,0,0,0,0,0,[],[]⟩,1,0⟩:=by simp[sT,bQ,e9,eL,ed,p3,x2,x4]
theorem kM:aT ⟨⟨0,0,0,0,false⟩,[],[],false,⟨1,0,0,0,2,0,0,0,0,0,[],[]⟩,1,0⟩=(⟨⟨0,0,0,0,false⟩,[],[],false,⟨1,0,0,0,2,0,0,0,0,0,[],[]⟩,1,0⟩,220):=by kernel_rfl
theorem oM:sT ⟨⟨0,0,0,0,false⟩,[],[],false,⟨1,0,0,0,2,0,0,0,0,0,[],[]⟩,1,0⟩:=by simp[sT,bQ,e9,eL,ed,p3,x2,x4]
theorem sY:aN [x2,x4]=[x2,x4]:=rfl
theorem sZ:aN [x2h,x4]=[x4]:=rfl
theorem fN:bE []:=fun _ h=>by cases h
theorem rX:rowAt (aC [x2]) 0=[.int .u64 2,.int .u64 0,.int .u64 7,.int .u64 1,.int .u64 0,.int .u64 0,.int .u64 0,.str [],.bool false,.bool false]:=rfl
theorem rZ:rowAt (aC [x2h,x4]) 0=[.int .u64 2,.int .u64 0,.int .u64 7,.int .u64 1,.int .u64 0,.int .u64 0,.int .u64 0,.str [],.bool false,.bool true]:=rfl
noncomputable def OI:List AV→Option (Prop×AV)|[]=>some (True,.pv (.bool true))|_=>none
@[simp] theorem ZL:OI []=some (True,.pv (.bool true)):=rfl
theorem zk:aO Tryz.prog 8 OI:=by
 intro ys φ r h hφ;unfold OI at h;split at h
 ·cases h;refine aw (ag CX (ag A5 (ag nj ah))) (by kernel_rfl) (by conv=>lhs;reduce) (by simp) ?_;apply af;·simp(config := { maxSteps := 3000000 });exact⟨rfl,rfl⟩
  apply af;·simp(config := { maxSteps := 3000000 });exact⟨rfl,rfl⟩
  apply af;·simp(config := { maxSteps := 3000000 }) [kA,oA,bn,fN,aA,ax];exact⟨rfl,rfl⟩
  apply af;·simp(config := { maxSteps := 3000000 }) [kB,oB,bn,fN,aA,ax];exact⟨rfl,rfl⟩
  apply af;·simp(config := { maxSteps := 3000000 }) [kC,oC,bn,fN,aA,ax];exact⟨rfl,rfl⟩
  apply af;·simp(config := { maxSteps := 3000000 }) [kX,oX,bn,fN,aA,ax];exact⟨rfl,rfl⟩
  apply af;·simp(config := { maxSteps := 3000000 }) [kY,oY,bn,fN,aA,ax];exact⟨rfl,rfl⟩
  apply af;·simp(config := { maxSteps := 3000000 }) [kZ,oZ,bn,fN,aA,ax];exact⟨rfl,rfl⟩
  apply af;·simp(config := { maxSteps := 3000000 }) [kK,oK,bn,fN,aA,ax];exact⟨rfl,rfl⟩
  apply af;·simp(config := { maxSteps := 3000000 }) [kM,oM,bn,fN,aA,ax];exact⟨rfl,rfl⟩
  apply af;·simp(config := { maxSteps := 3000000 });exact⟨rfl,rfl⟩
  apply af
  ·refine(show cR _ _ _ _ _ from ?_);apply fP 10 rfl rfl;·simp(config := { maxSteps := 3000000 }) [dQ,sY,sZ,rX,rZ,ax];exact⟨rfl,rfl⟩
   apply fP 8 rfl rfl;·simp(config := { maxSteps := 3000000 }) [dQ,sY,sZ,rX,rZ,ax];exact⟨rfl,rfl⟩
   apply fP 8 rfl rfl;·simp(config := { maxSteps := 3000000 }) [dQ,sY,sZ,rX,rZ,ax];exact⟨rfl,rfl⟩
   apply fP 7 rfl rfl;·simp(config := { maxSteps := 3000000 }) [dQ,sY,sZ,rX,rZ,ax];exact⟨rfl,rfl⟩
   apply fP 7 rfl rfl;·simp(config := { maxSteps := 3000000 }) [dQ,sY,sZ,rX,rZ,ax];exact⟨rfl,rfl⟩
   apply fP 6 rfl rfl;·simp(config := { maxSteps := 3000000 }) [dQ,sY,sZ,rX,rZ,ax];exact⟨rfl,rfl⟩
   simp(config := { maxSteps := 3000000 }) [rZ];exact⟨rfl,rfl⟩
  simp(config := { maxSteps := 3000000 })
 ·cases h
@[simp] noncomputable def WB:List AV→Option (Prop×AV)|[.agg ys,.pv (.ro ts)]=>fp ys fun d=>(dec ln ts).map fun ts=>(d.ps.length≤100000∧d.vs.length≤100000∧(∀v∈d.vs,eL v),.aQ [.agg [.pv (.int .u64 (eR d ts).1.l.e),.pv (.int .u64 (eR d ts).1.l.p),.pv (.int .u64 (eR d ts).1.l.i),.pv (.int .u64 (eR d ts).1.l.u),.pv (.bool (eR d ts).1.l.h),.pv (.ro (aF (eR d ts).1.ps)),.pv (.ro (aC (eR d ts).1.vs)),.pv (.bool (eR d ts).1.sl)],.pv (.int .i64 (eR d ts).2)])|_=>none
theorem T3:aO Tryz.prog 61 WB:=by
 intro ys φ r h hφ;unfold WB at h;split at h
 ·obtain⟨d,hd,h2⟩:=bY h;subst hd;clear h;obtain⟨ts,hts,h3⟩:=Option.map_eq_some_iff.1 h2;clear h2;cases h3;cases ej hts;obtain⟨h1,h2,h3⟩:=hφ;have h4:(∀v∈d.vs,eL v)=True:=eq_true h3;have hi2:(Tryz.prog.info? 92).isSome=true:=by kernel_rfl
  refine aw (ag LM ah) (by kernel_rfl) (by conv=>lhs;reduce) (by simp) ?_;apply af;·simp(config := { maxSteps := 3000000 }) [cellsD];exact⟨rfl,rfl⟩
  apply af;·simp(config := { maxSteps := 3000000 }) [h2,h4];exact⟨rfl,rfl⟩
  unfold eR;generalize bL d.vs ts=x;obtain⟨x,e⟩:=x;by_cases he:e=0
  ·subst he;apply af;·simp(config := { maxSteps := 3000000 });exact⟨rfl,rfl⟩
   simp(config := { maxSteps := 3000000 })
  ·simp(config := { maxSteps := 3000000 }) [he,hi2]
 ·cases h
theorem F3 (d:Dc) (ts:List (List UInt8)) (h1:d.ps.length≤100000) (h2:d.vs.length≤100000):(eR d ts).1.ps.length≤100000∧(eR d ts).1.vs.length≤100000:=by
 have:(bL d.vs ts).1.length≤d.vs.length:=by
  unfold bL;split;·simp
  ·have:=dW (l:=d.vs);simp[jR];omega
 unfold eR;split;·exact⟨h1,by show(bL d.vs ts).1.length≤100000;omega⟩
 ·exact⟨by simp,by simp⟩
theorem CL {d:Dc} (h:lE d=true):d.ps.length≤20∧d.vs.length≤20:=by simp only[lE,Bool.and_eq_true,decide_eq_true_eq]at h;exact⟨h.1.2,h.2⟩
theorem GI (d o:Dc) (ts:List (List UInt8)) (hd:d.vs.length≤maxLen) (ho:o.vs.length≤maxLen) (hV:∀v∈d.vs,eL v) (hts:ts.length≤maxLen):za Tryz.prog 25 [] [.agg (cellsD d),.agg (cellsD o),.pv (.ro (eZ ts))] [] (.pv (.bool true)):=by
 refine aw (ag BW (ag zk (ag LD (ag T3 (ag KM (ag Fu (bk (ks:=[1]) Ke (by kernel_rfl) (ag Mh ah)))))))) (by kernel_rfl) (by conv=>lhs;reduce) (by simp) ?_;apply af;·simp(config := { maxSteps := 3000000 }) [cellsD];exact⟨rfl,rfl⟩
 cases hf:lE d with|false=>simp(config := { maxSteps := 3000000 }) [hf,hd]|true=>cases hg:lE o with|false=>simp(config := { maxSteps := 3000000 }) [hf,hd,hg,ho]|true=>
  by_cases hl:(20:Int)<ts.length;·simp(config := { maxSteps := 3000000 }) [hf,hd,hg,ho,hl]
  apply af;·simp(config := { maxSteps := 3000000 }) [hf,hd,hg,ho,hl];exact⟨rfl,rfl⟩
  obtain⟨p1,p2⟩:=CL hf;obtain⟨q1,q2⟩:=CL hg;have p3:d.ps.length≤100000:=by omega
  have p4:d.vs.length≤100000:=by omega
  have q3:o.ps.length≤100000:=by omega
  have q4:o.vs.length≤100000:=by omega
  apply af
  ·apply af;·simp(config := { maxSteps := 3000000 });exact⟨rfl,rfl⟩
   rw[aM];refine aq (fun i:Nat=>i≤ts.length) (fun j=>⟨[(2,.pv (.ro (eZ ts))),(3,.ptr 3 0),(4,.ptr 4 0),(7,.pv (.int .i64 j))],[(3,.box (cellsD d)),(4,.box (cellsD o))]⟩) (fun i=>ts.length-i) [] 0 (by simp) ?_ ?_;·simp[cellsD]
   ·intro j hj;have w2:IntKind.i64.wrap ((j:Int)+1)=(j:Int)+1:=wrap_i64 (by omega);by_cases hlt:j<ts.length
    ·have r1:=pV hlt;by_cases h1:(100:Int)<ts[j].length;·simp(config := { maxSteps := 3000000 }) [w2,hlt,r1,h1]
     ·have h1':(ts[j].length:Int)≤100:=by omega
      simp(config := { maxSteps := 3000000 }) [w2,hlt,r1,h1,h1'];exact⟨j+1,by omega,⟨by omega,by simp[cellsD]⟩,by omega⟩
    ·have hja:j=ts.length:=by omega
     subst hja;simp(config := { maxSteps := 3000000 });exact⟨rfl,rfl⟩
  apply af;·simp(config := { maxSteps := 3000000 }) [p3,p4,cellsD];exact⟨rfl,rfl⟩
  have hV':(∀v∈d.vs,eL v)=True:=eq_true hV;have hin:=F3 d ts p3 p4;obtain⟨⟨de,dp,di,du,dh⟩,dps,dvs,dsl⟩:=d;obtain⟨⟨oe,op,oi,ou,oh⟩,ops,ovs,osl⟩:=o;simp only[]at p3 p4 q3 q4 hV';apply af;·simp(config := { maxSteps := 3000000 }) [p3,p4,hV'];exact⟨rfl,rfl⟩
  generalize hx:eR ⟨⟨de,dp,di,du,dh⟩,dps,dvs,dsl⟩ ts=x at*;obtain⟨⟨⟨xe,xp,xi,xu,xh⟩,xps,xvs,xsl⟩,e⟩:=x;obtain⟨x1,x2⟩:=hin;apply af;·simp(config := { maxSteps := 3000000 }) [p3,p4,hV',hx,aA,ax];exact⟨rfl,rfl⟩
  simp only[]at x1 x2;have x3:xps.length≤1000000000:=by omega
  have x4:xvs.length≤1000000000:=by omega
  have x5:xps.length≤1000000:=by omega
  have x6:xvs.length≤1000000:=by omega
  have p5:dps.length≤1000000000:=by omega
  have p6:dvs.length≤1000000000:=by omega
  apply af
  ·apply af;·simp(config := { maxSteps := 3000000 }) [x1,x2,x3,x4,aA,ax];exact⟨rfl,rfl⟩
   simp(config := { maxSteps := 3000000 });exact⟨rfl,rfl⟩
  have r3:∀r∈aF xps,r.length=3:=by intro r hr;simp only[aF,List.mem_map]at hr;obtain⟨c,_,rfl⟩:=hr;rfl
  have r4:=fS xvs;have r3':(∀r∈aF xps,r.length=3)=True:=eq_true r3;have r4':(∀r∈aC xvs,r.length=10)=True:=eq_true r4;apply af;·simp(config := { maxSteps := 3000000 }) [x5,x6,r3',r4',aA,ax];exact⟨rfl,rfl⟩
  have q5:ops.length≤1000000000:=by omega
  have q6:ovs.length≤1000000000:=by omega
  simp(config := { maxSteps := 3000000 }) [p3,p4,p5,p6,q3,q4,q5,q6,aA,ax]
theorem pow7 (i:Nat):2^(7*(i+1))=128*2^(7*i):=by rw[Nat.mul_add,Nat.pow_add];omega
theorem BC (rest:List UInt8):∀(N n i acc:Nat),n≤N→n*2^(7*i)<2^64→i≤9→(0<n∨i=0)→bP (bS n++rest) i acc=(acc+n*2^(7*i),i+(bS n).length,0):=by intro N;induction N with
 |zero=>
  intro n i acc hN h1 h2 h3;have:n=0:=by omega
  subst this;have:i=0:=by omega
  subst this;rw[db (by omega)];simp[bP]|succ N ih=>
  intro n i acc hN h1 h2 h3;by_cases hs:n<128
  ·rw[db hs];have hc:n.toUInt8.toNat=n:=by simp;omega
   simp only[List.singleton_append,bP,hc];have hno:¬((i=9∧1<n)∨(n=0∧0<i)):=by
    rintro(⟨rfl,h⟩|⟨h,h'⟩);·omega
    ·omega
   rw[if_neg hno,if_pos hs,Nat.mod_eq_of_lt hs];rfl
  ·rw[gy hs];have hc:(n%128+128).toUInt8.toNat=n%128+128:=by simp;omega
   simp only[List.cons_append,bP,hc];have hi9:¬i=9:=by rintro rfl;omega
   have hno:¬((i=9∧1<n%128+128)∨(n%128+128=0∧0<i)):=by
    rintro(⟨h,_⟩|⟨h,_⟩);·exact hi9 h
    ·omega
   have hp:=pow7 i;have hd:n=n%128+128*(n/128):=by omega
   have hm:n*2^(7*i)=n%128*2^(7*i)+n/128*2^(7*(i+1)):=by rw[hp];calc n*2^(7*i)=(n%128+128*(n/128))*2^(7*i):=by rw[←hd]
    _=n%128*2^(7*i)+n/128*(128*2^(7*i)):=by rw[Nat.add_mul,Nat.mul_comm 128 (n/128),Nat.mul_assoc]
   rw[if_neg hno,if_neg (by omega),show(n%128+128)%128=n%128 from by omega];rw[ih (n/128) (i+1) _ (by omega) (by omega) (by omega) (.inl (by omega))];simp only[List.length_cons,Prod.mk.injEq,and_true];omega
theorem Ee (n:Nat) (rest:List UInt8) (h:n<2^64):bP (bS n++rest) 0 0=(n,(bS n).length,0):=by have:=BC rest n n 0 0 (Nat.le_refl _) (by simpa using h) (by omega) (.inr rfl);simpa using this
theorem vu:∀(l pre:List UInt8),(∀x∈pre,128≤x.toNat)→(bP l pre.length (val pre)).2.2=0→(pre++l).take (bP l pre.length (val pre)).2.1=bS (bP l pre.length (val pre)).1
 |[],pre,_,h=>by simp[bP]at h|c::l,pre,hp,h=>by
  unfold bP at h ⊢;split at h;·cases h
  ·rename_i h0;rw[if_neg h0];by_cases hs:c.toNat<128
   ·rw[if_pos hs];dsimp only;rw[←oE,sG pre c hp hs];·rw[show pre++c::l=(pre++[c])++l from by simp,show pre.length+1=(pre++[c]).length from by simp,List.take_left]
    ·by_cases hc:c.toNat=0;·right;have:¬0<pre.length:=fun hh=>h0 (.inr ⟨hc,hh⟩);exact List.eq_nil_of_length_eq_zero (by omega)
     ·exact .inl hc
   ·rw[if_neg hs]at h ⊢;have e1:pre.length+1=(pre++[c]).length:=by simp
    rw[←oE,e1]at h ⊢;have:=vu l (pre++[c]) (by
     intro x hx;rcases List.mem_append.1 hx with hx|hx;·exact hp x hx
     ·simp only[List.mem_singleton]at hx;subst hx;omega) h;rw[List.append_assoc,List.singleton_append]at this;exact this
theorem GQ {l:List UInt8} (h:(bP l 0 0).2.2=0):l.take (bP l 0 0).2.1=bS (bP l 0 0).1:=vu l [] (by simp) h
theorem lq (n:Nat):0<(bS n).length:=by
 by_cases h:n<128;·rw[db h];simp
 ·rw[gy h];simp
theorem ot {b r:List UInt8}{p:Nat} (h:b.drop p=r) (hr:0<r.length):p<b.length∧b.length=p+r.length:=by have:=congrArg List.length h;simp at this;omega
theorem jc {b:List UInt8}{p n:Nat}{r:List UInt8} (h:b.drop p=bS n++r) (hn:n<2^64):al b p=((n:Int),(p:Int)+((bS n).length:Int),0):=by have hp:=lq n;have hl:=(ot h (by simp;omega)).1;unfold al;rw[if_neg (by omega),Int.toNat_natCast,h,Ee n r hn]
theorem qp {b:List UInt8}{p:Nat}{s r:List UInt8} (h:b.drop p=dy s++r) (hs:s.length<2^64):bp b p=(s,(p:Int)+((dy s).length:Int),0):=by
 unfold dy at h ⊢;rw[List.append_assoc]at h;have hL:=jc h hs;have hp:=lq s.length;have hl:=(ot h (by simp;omega)).2;simp only[List.length_append]at hl;have hd:b.drop (p+(bS s.length).length)=s++r:=by rw[←List.drop_drop,h,List.drop_left]
 unfold bp;rw[hL,if_neg (by simp),if_neg (by dsimp only;omega)];dsimp only;rw[show((p:Int)+((bS s.length).length:Int)).toNat=p+(bS s.length).length from by omega,hd,Int.toNat_natCast,List.take_left];simp only[List.length_append,Prod.mk.injEq,true_and,and_true];omega
theorem tp {b:List UInt8}{p:Int} (h:(al b p).2.2=0):∃q m:Nat,p=(q:Int)∧(al b p).1=(m:Int)∧m<2^64∧(al b p).2.1=((q+(bS m).length:Nat):Int)∧∃r,b.drop q=bS m++r:=by
 have hok:=dr b p;obtain⟨h1,h2,h3,_⟩:=hok;obtain⟨a1,a2,a3⟩:=h1 h;have hT:al b p=(((bP (b.drop p.toNat) 0 0).1:Int),p+((bP (b.drop p.toNat) 0 0).2.1:Int),(bP (b.drop p.toNat) 0 0).2.2):=by unfold al;rw[if_neg (by omega)]
 rw[hT]at h a2 a3 h2 h3 ⊢;dsimp only at h a2 a3 h2 h3 ⊢;have hi:=GQ h;have hb:(bP (b.drop p.toNat) 0 0).2.1≤(b.drop p.toNat).length:=by simp;omega
 refine⟨p.toNat,(bP (b.drop p.toNat) 0 0).1,by omega,rfl,by omega,?_,(b.drop p.toNat).drop (bP (b.drop p.toNat) 0 0).2.1,?_⟩;·rw[←hi,List.length_take,Nat.min_eq_left hb];omega
 ·rw[←hi,List.take_append_drop]
def fh (v:Vn):Bool:=decide (v=df v.n v.t)
def ja (l:List Vn):Bool:=l.all fh
def sI (l:List Vn):Int:=if ja l=true then-1 else(l.findIdx (fun v=>!fh v):Int)
@[simp] def Vz:List AV→Option (Prop×AV)|[.agg [.pv (.int .u64 n),.pv (.int .u64 b),.pv (.int .u64 p),.pv (.int .u64 i),.pv (.int .u64 s),.pv (.int .u64 z),.pv (.int .u64 m),.pv (.str t),.pv (.bool inl),.pv (.bool dm)]]=>some (True,.pv (.bool (!fh ⟨n,b,p,i,s,z,m,t,inl,dm⟩)))|_=>none
theorem Th:aO Tryz.prog 90 Vz:=by
 intro ys φ r h hφ;unfold Vz at h;split at h;·rename_i n b p i s z m t inl dm;cases h;have he:=FQ ⟨n,b,p,i,s,z,m,t,inl,dm⟩ (df n t);simp only[df]at he;have hp:fh ⟨n,b,p,i,s,z,m,t,inl,dm⟩=decide ((⟨n,b,p,i,s,z,m,t,inl,dm⟩:Vn)=⟨n,0,0,0,0,0,0,t,true,false⟩):=rfl;refine aw (ag Dg ah) (by kernel_rfl) (by conv=>lhs;reduce) (by simp) ?_;simp(config := { maxSteps := 3000000 }) [hp]
 ·cases h
theorem Cf:gM Tryz.prog 90=true:=by kernel_rfl
@[simp] noncomputable def Wg:List AV→Option (Prop×AV)|[.pv (.ro a),.bJ f []]=>if f=90 then(dec cM a).map fun l=>(l.length≤1000000000,.pv (.int .i64 (sI l))) else none|_=>none
theorem WW:aO Tryz.prog 124 Wg:=by
 intro ys φ r h hφ;unfold Wg at h;split at h
 ·rename_i ra f;split at h
  ·rename_i hf;subst hf;obtain⟨a,ha,h⟩:=Option.map_eq_some_iff.1 h;cases h;cases aD ha;refine aw (ag Th ah) (by kernel_rfl) (by conv=>lhs;reduce) (by simp) ?_;simp(config := { maxSteps := 3000000 });refine aq (fun i:Nat=>i≤a.length∧∀v∈a.take i,fh v=true) (fun i=>⟨[(0,.pv (.ro (aC a))),(1,.bJ 90 []),(7,.pv (.int .i64 a.length)),(8,.pv (.int .i64 i))],[]⟩) (fun i=>a.length-i) [] 0 (by simp) ?_ ?_;·simp
   ·rintro i ⟨hi,ht⟩;have w2:IntKind.i64.wrap ((i:Int)+1)=(i:Int)+1:=wrap_i64 (by omega);by_cases hlt:i<a.length;·have r1:=aV hlt;have he:(⟨a[i].n,a[i].b,a[i].p,a[i].i,a[i].s,a[i].z,a[i].m,a[i].t,a[i].inl,a[i].dm⟩:Vn)=a[i]:=rfl;cases hp:fh a[i]with
     |true=>
      simp(config := { maxSteps := 3000000 }) [w2,hlt,r1,Cf,he,hp];refine⟨i+1,⟨by omega,fun v hv=>?_⟩,by omega,by omega⟩;rw[List.take_succ_eq_append_getElem hlt,List.mem_append]at hv;rcases hv with hv|hv;·exact ht v hv
      ·rw[List.mem_singleton]at hv;rw[hv];exact hp|false=>
      have hall:ja a=false:=by unfold ja;rw[List.all_eq_false];exact⟨a[i],List.getElem_mem hlt,by simp[hp]⟩
      have hfi:a.findIdx (fun v=>!fh v)=i:=by
       rw[List.findIdx_eq hlt];refine⟨by simp[hp],fun j hj=>?_⟩;have:a[j]∈a.take i:=by rw[List.mem_take_iff_getElem];exact⟨j,by omega,rfl⟩
       simp[ht _ this]
      have hox:sI a=i:=by unfold sI;rw[hall,if_neg (by simp),hfi]
      simp(config := { maxSteps := 3000000 }) [w2,hlt,r1,Cf,he,hp,hox]
    ·rw[List.take_of_length_le (by omega)]at ht;have hall:ja a=true:=by unfold ja;rw[List.all_eq_true];exact ht
     have hox:sI a=-1:=by unfold sI;rw[hall,if_pos rfl]
     simp(config := { maxSteps := 3000000 }) [hlt,hox]
  ·cases h
 ·cases h
@[simp] noncomputable def SB:List AV→Option (Prop×AV)|[.pv (.ro a),.bJ f []]=>if f=90 then(dec cM a).map fun l=>(l.length≤1000000000,.pv (.bool (!ja l))) else none|_=>none
theorem Vw:aO Tryz.prog 93 SB:=by
 intro ys φ r h hφ;unfold SB at h;split at h
 ·rename_i ra f;split at h
  ·rename_i hf;subst hf;obtain⟨a,ha,h⟩:=Option.map_eq_some_iff.1 h;cases h;cases aD ha;refine aw (ag WW ah) (by kernel_rfl) (by conv=>lhs;reduce) (by simp) ?_;have hq:decide (0≤sI a)=!ja a:=by unfold sI;cases hall:ja a<;>simp
   simp(config := { maxSteps := 3000000 }) [hφ,hq]
  ·cases h
 ·cases h
def dK (v:Vn):List UInt8:=cj v.n++dy v.t
def b9 (l:List Vn):List UInt8:=l.flatMap dK
def eO (l:List Vn):List UInt8:=cj l.length++b9 l
def dc (l:List Vn):List UInt8×Int:=if aK l=true∧ja l=true then(eO l,0) else([],2)
theorem iy {n:Int} (h:0≤n∧n≤18446744073709551615):(cj n).length≤10:=fq (by omega)
theorem pR {v:Vn} (h:eL v) (ht:v.t.length≤1000000):(dK v).length≤1000020:=by have h1:=iy (n:=v.n) ⟨h.1,h.2.1⟩;have h2:=fq (n:=v.t.length) (by omega);simp only[dK,dy,List.length_append];omega
theorem ng:∀{l:List Vn},(∀v∈l,eL v∧v.t.length≤1000000)→(b9 l).length≤1000020*l.length|[],_=>by simp[b9]|n::l,h=>by have h1:=pR (h n (by simp)).1 (h n (by simp)).2;have h2:=ng (l:=l) fun m hm=>h m (by simp[hm]);unfold b9 at h2 ⊢;simp only[List.flatMap_cons,List.length_append,List.length_cons];omega
theorem qT (l:List Vn) (e:Vn):b9 (l++[e])=b9 l++dK e:=by simp[b9]
@[simp] noncomputable def C5:List AV→Option (Prop×AV)|[.pv (.ro a)]=>(dec cM a).map fun l=>(l.length≤1000∧(∀v∈l,eL v∧v.t.length≤1000000),.aQ [.fr 5 (bytesRow (dc l).1),.pv (.int .i64 (dc l).2)])|_=>none
theorem Nf:aO Tryz.prog 36 C5:=by
 intro ys φ r h hφ;unfold C5 at h;split at h
 ·rename_i ra;obtain⟨a,ha,h⟩:=Option.map_eq_some_iff.1 h;cases h;cases aD ha;obtain⟨hl,hn⟩:=hφ;refine aw (ag Dq (ag Vw (ag CQ (ag Gj ah)))) (by kernel_rfl) (by conv=>lhs;reduce) (by simp) ?_;have hl9:a.length≤1000000000:=by omega
  cases hr:aK a with|false=>
   have hp:dc a=([],2):=by simp[dc,hr]
   simp(config := { maxSteps := 3000000 }) [hl9,hr,hp]|true=>cases hall:ja a with
  |false=>
   have hp:dc a=([],2):=by simp[dc,hall]
   simp(config := { maxSteps := 3000000 }) [hl9,hr,hall,hp]|true=>
  have hp:dc a=(eO a,0):=by simp[dc,hr,hall]
  have wl:IntKind.u64.wrap (a.length:Int)=(a.length:Int):=wrap_u64 (by omega);have l0:(0:Int)≤(a.length:Int):=by omega
  have l1:(a.length:Int)≤18446744073709551615:=by omega
  have hv:=iy (n:=(a.length:Int)) ⟨by omega,by omega⟩;simp(config := { maxSteps := 3000000 }) [wl,l0,l1,hl9,hr,hall,hp];refine aq (fun i:Nat=>i≤a.length) (fun i=>⟨[(5,.own 19),(20,.pv (.ro (aC a))),(21,.pv (.int .i64 a.length)),(22,.pv (.int .i64 i))],[(19,.arr 5 (bytesRow (cj a.length++b9 (a.take i))))]⟩) (fun i=>a.length-i) [] 0 (by simp) ?_ ?_;·simp[b9]
  ·rintro i hi;have w2:IntKind.i64.wrap ((i:Int)+1)=(i:Int)+1:=wrap_i64 (by omega);by_cases hlt:i<a.length
   ·have r1:=aV hlt;have ho:=hn _ (List.getElem_mem hlt);have h1:=pR ho.1 ho.2;have h2:=ng (l:=a.take i) fun n h=>hn n (List.mem_of_mem_take h);rw[List.length_take]at h2;have h3:(dK a[i]).length=(cj a[i].n).length+(dy a[i].t).length:=by simp[dK]
    obtain⟨⟨o1,o2,_,_⟩,hm6⟩:=ho;simp(config := { maxSteps := 3000000 }) [w2,hlt,r1,aB,o1,o2,hm6];refine⟨⟨by omega,by omega,bg _⟩,⟨by omega,by omega,bg _⟩,i+1,by omega,⟨by omega,?_⟩,by omega⟩;rw[List.take_succ_eq_append_getElem hlt,qT];simp only[bo,dK,List.append_assoc]
   ·simp(config := { maxSteps := 3000000 }) [hlt];rw[List.take_of_length_le (by omega)];rfl
 ·cases h
theorem uo (v:Vn):fh v=true↔(v.inl=true∧v.dm=false∧v.b=0∧v.p=0∧v.i=0∧v.s=0∧v.z=0∧v.m=0):=by
 unfold fh;rw[decide_eq_true_eq,←Km];simp only[df];constructor;·rintro⟨_,h1,h2,h3,h4,h5,h6,_,h7,h8⟩;exact⟨h7,h8,h1,h2,h3,h4,h5,h6⟩
 ·rintro⟨h7,h8,h1,h2,h3,h4,h5,h6⟩;exact⟨trivial,h1,h2,h3,h4,h5,h6,trivial,h7,h8⟩
theorem HE:aO Tryz.prog 43 C5:=by
 intro ys φ r h hφ;unfold C5 at h;split at h
 ·rename_i ra;obtain⟨a,ha,h⟩:=Option.map_eq_some_iff.1 h;cases h;cases aD ha;obtain⟨hl,hn⟩:=hφ;refine aw (ag yF (ag tX (ag C4 ah))) (by kernel_rfl) (by conv=>lhs;reduce) (by simp) ?_;have hl9:a.length≤1000000000:=by omega
  have hov:∀v∈a,eL v:=fun v hv=>(hn v hv).1;cases hr:aK a with
  |false=>
   have hp:dc a=([],2):=by simp[dc,hr]
   simp(config := { maxSteps := 3000000 }) [hl9,hr,hp];exact hov|true=>
  have wl:IntKind.u64.wrap (a.length:Int)=(a.length:Int):=wrap_u64 (by omega);have l0:(0:Int)≤(a.length:Int):=by omega
  have l1:(a.length:Int)≤18446744073709551615:=by omega
  have hv:=iy (n:=(a.length:Int)) ⟨by omega,by omega⟩;simp(config := { maxSteps := 3000000 }) [wl,l0,l1,hl9,hr];refine⟨hov,?_⟩;refine aq (fun i:Nat=>i≤a.length∧∀v∈a.take i,fh v=true) (fun i=>⟨[(0,.pv (.ro (aC a))),(4,.own 13),(5,.pv (.int .i64 i))],[(13,.arr 5 (bytesRow (cj a.length++b9 (a.take i))))]⟩) (fun i=>a.length-i) [] 0 (by simp) ?_ ?_;·simp[b9]
  ·rintro i ⟨hi,ht⟩;have w2:IntKind.i64.wrap ((i:Int)+1)=(i:Int)+1:=wrap_i64 (by omega);by_cases hlt:i<a.length;·have r1:=aV hlt;cases hpl:fh a[i]with
    |false=>
     have hall:ja a=false:=by unfold ja;rw[List.all_eq_false];exact⟨a[i],List.getElem_mem hlt,by simp[hpl]⟩
     have hp:dc a=([],2):=by simp[dc,hall]
     have hnot:¬(a[i].inl=true∧a[i].dm=false∧a[i].b=0∧a[i].p=0∧a[i].i=0∧a[i].s=0∧a[i].z=0∧a[i].m=0):=by rw[←uo,hpl];simp
     cases e0:a[i].inl with|false=>simp(config := { maxSteps := 3000000 }) [hlt,r1,hp,e0]|true=>cases e1:a[i].dm with|true=>simp(config := { maxSteps := 3000000 }) [hlt,r1,hp,e0,e1]|false=>
     by_cases e2:a[i].b=0;rotate_left;·simp(config := { maxSteps := 3000000 }) [hlt,r1,hp,e0,e1,e2]
     by_cases e3:a[i].p=0;rotate_left;·simp(config := { maxSteps := 3000000 }) [hlt,r1,hp,e0,e1,e2,e3]
     by_cases e4:a[i].i=0;rotate_left;·simp(config := { maxSteps := 3000000 }) [hlt,r1,hp,e0,e1,e2,e3,e4]
     by_cases e5:a[i].s=0;rotate_left;·simp(config := { maxSteps := 3000000 }) [hlt,r1,hp,e0,e1,e2,e3,e4,e5]
     by_cases e6:a[i].z=0;rotate_left;·simp(config := { maxSteps := 3000000 }) [hlt,r1,hp,e0,e1,e2,e3,e4,e5,e6]
     by_cases e7:a[i].m=0;rotate_left;·simp(config := { maxSteps := 3000000 }) [hlt,r1,hp,e0,e1,e2,e3,e4,e5,e6,e7]
     exact absurd ⟨e0,e1,e2,e3,e4,e5,e6,e7⟩ hnot
    |true=>
     obtain⟨e1,e2,e3,e4,e5,e6,e7,e8⟩:=(uo _).1 hpl;have ho:=hn _ (List.getElem_mem hlt);have h1:=pR ho.1 ho.2;have h2:=ng (l:=a.take i) fun n h=>hn n (List.mem_of_mem_take h);rw[List.length_take]at h2;have h3:(dK a[i]).length=(cj a[i].n).length+(dy a[i].t).length:=by simp[dK]
     obtain⟨⟨o1,o2,_,_⟩,hm6⟩:=ho;simp(config := { maxSteps := 3000000 }) [w2,hlt,r1,aB,o1,o2,hm6,e1,e2,e3,e4,e5,e6,e7,e8];refine⟨⟨by omega,by omega,bg _⟩,⟨by omega,by omega,bg _⟩,i+1,⟨by omega,fun v hv=>?_⟩,⟨by omega,?_⟩,by omega⟩
     ·rw[List.take_succ_eq_append_getElem hlt,List.mem_append]at hv;rcases hv with hv|hv;·exact ht v hv
      ·rw[List.mem_singleton]at hv;rw[hv];exact hpl
     ·rw[List.take_succ_eq_append_getElem hlt,qT];simp only[bo,dK,List.append_assoc]
   ·rw[List.take_of_length_le (by omega)]at ht;have hall:ja a=true:=by unfold ja;rw[List.all_eq_true];exact ht
    have hp:dc a=(eO a,0):=by simp[dc,hr,hall]
    simp(config := { maxSteps := 3000000 }) [hlt,hp];rw[List.take_of_length_le (by omega)];rfl
 ·cases h
theorem mG (b:List UInt8) (q:Int):((bp b q).2.2=0→0≤q∧q<(bp b q).2.1∧(bp b q).2.1≤b.length)∧((bp b q).2.2≠0→(bp b q).2.1=q):=by
 obtain⟨h1,h2,h3,h4,_⟩:=dr b q;unfold bp;split;·rename_i h;exact⟨fun h'=>absurd h' h,fun _=>rfl⟩
 ·rename_i h;have h0:(al b q).2.2=0:=by simpa using h
  obtain⟨g1,g2,g3⟩:=h1 h0;split;·exact⟨fun h'=>by simp at h',fun _=>rfl⟩
  ·rename_i h';refine⟨fun _=>?_,fun h=>absurd rfl h⟩;dsimp only;omega
def bH (b:List UInt8) (q:Int):Vn×Int×Int:=if(al b q).2.2≠0 then(v0,0,(al b q).2.2) else if(bp b (al b q).2.1).2.2≠0 then(v0,0,(bp b (al b q).2.1).2.2) else(df (al b q).1 (bp b (al b q).2.1).1,(bp b (al b q).2.1).2.1,0)
def bj (b:List UInt8):Nat→Int→Int→List Vn×Int×Int|0,_,q=>([],q,0)|f+1,n,q=>if n≤0 then([],q,0) else if(bH b q).2.2≠0 then([],0,(bH b q).2.2) else if(bj b f (n-1) (bH b q).2.1).2.2≠0 then([],0,(bj b f (n-1) (bH b q).2.1).2.2) else((bH b q).1::(bj b f (n-1) (bH b q).2.1).1,(bj b f (n-1) (bH b q).2.1).2.1,0)
def jg (b:List UInt8) (R:List Vn×Int×Int):List Vn×Int:=if R.2.2≠0 then([],R.2.2) else if R.2.1=b.length∧aK R.1=true then(R.1,0) else([],2)
def cq (b:List UInt8):List Vn×Int:=if(al b 0).2.2≠0 then([],(al b 0).2.2) else jg b (bj b (b.length+1) (al b 0).1 (al b 0).2.1)
def fV (L:List Vn) (q:List Vn×Int×Int):List Vn×Int×Int:=if q.2.2≠0 then([],0,q.2.2) else(L++q.1,q.2.1,0)
theorem Au (b:List UInt8):∀(k:Nat) (n p:Int),(bj b k n p).2.2≠0→bj b k n p=([],0,(bj b k n p).2.2)
 |0,n,p,h=>absurd rfl h|k+1,n,p,h=>by
  unfold bj at h ⊢;split;·rename_i h0;rw[if_pos h0]at h;exact absurd rfl h
  ·rename_i h0;rw[if_neg h0]at h;split;·rfl
   ·split;·rfl
    ·rename_i h1 h2;rw[if_neg h1,if_neg h2]at h;exact absurd rfl h
theorem uh (b:List UInt8) (k:Nat) (n p:Int):fV [] (bj b k n p)=bj b k n p:=by
 unfold fV;split;·rename_i h;exact(Au b k n p h).symm
 ·rename_i h;have:(bj b k n p).2.2=0:=by simpa using h
  rw[←this];rfl
theorem qP (b:List UInt8) (L:List Vn) (k:Nat) (n p:Int) (hn:0<n) (h:(bH b p).2.2=0):fV L (bj b (k+1) n p)=fV (L++[(bH b p).1]) (bj b k (n-1) (bH b p).2.1):=by
 rw[bj,if_neg (by omega),if_neg (by simpa using h)];by_cases h2:(bj b k (n-1) (bH b p).2.1).2.2=0;·rw[if_neg (by simpa using h2)];simp[fV,h2]
 ·rw[if_pos h2];simp[fV,h2]
theorem j8 (b:List UInt8) (L:List Vn) (k:Nat) (n p:Int) (hn:0<n) (h:(bH b p).2.2≠0):fV L (bj b (k+1) n p)=([],0,(bH b p).2.2):=by rw[bj,if_neg (by omega),if_pos h];simp[fV,h]
theorem rU (b:List UInt8) (L:List Vn) (k:Nat) (n p:Int) (hn:n≤0):fV L (bj b k n p)=(L,p,0):=by cases k with|zero=>simp[bj,fV]|succ k=>rw[bj,if_pos hn];simp[fV]
@[simp] noncomputable def C1 (e:TypeId):List AV→Option (Prop×AV)|[.pv (.ro b)]=>(dec eU b).map fun l=>(l.length≤100000000,.aQ [.fr e (aC (cq l).1),.pv (.int .i64 (cq l).2)])|_=>none
theorem Jk:aO Tryz.prog 56 (C1 92):=by
 intro ys φ r h hφ;unfold C1 at h;split at h
 ·rename_i rb;obtain⟨b,hb,h⟩:=Option.map_eq_some_iff.1 h;cases h;cases aU hb;have hl:b.length≤1000000000:=by omega
  refine aw (ag kj (ag (vM kj) (ag yF ah))) (by kernel_rfl) (by conv=>lhs;reduce) (by simp) ?_;by_cases he:(al b 0).2.2=0
  ·have hT:cq b=jg b (bj b (b.length+1) (al b 0).1 (al b 0).2.1):=by unfold cq;rw[if_neg (by simpa using he)]
   obtain⟨k1,k2,k3,k4,k5⟩:=dr b 0;obtain⟨j1,j2,j3⟩:=k1 he;generalize hP:cq b=T at*;simp(config := { maxSteps := 3000000 }) [hl,he];generalize(al b 0).1=n at*;generalize(al b 0).2.1=q0 at*;refine aq (fun x:Nat×Int×List Vn=>(x.2.2.length:Int)≤n∧0≤x.2.1∧x.2.1≤b.length∧(b.length:Int)<x.1+x.2.1∧x.2.2.length≤x.2.1∧T=jg b (fV x.2.2 (bj b x.1 (n-x.2.2.length) x.2.1))∧∀v∈x.2.2,eL v) (fun x=>⟨[(0,.pv (.ro (bytesRow b))),(4,.pv (.int .u64 n)),(5,.pv (.int .i64 x.2.1)),(7,.own 7)],[(7,.arr 92 (aC x.2.2))]⟩) (fun x=>(b.length-x.2.1).toNat) [] (b.length+1,q0,[]) ?_ ?_ ?_;·exact⟨by simpa using k2,by show 0≤q0;omega,j3,by simp;omega,by simp;omega,by rw[uh];simpa using hT,fun v hv=>by cases hv⟩
   ·simp
   ·rintro⟨f,q,acc⟩ ⟨hn,hq0,hq1,hf,hacc,hG,hokv⟩;dsimp only at hn hq0 hq1 hf hacc hG hokv;have wl:IntKind.u64.wrap (acc.length:Int)=(acc.length:Int):=wrap_u64 (by omega);have hq2:-9223372036854775808≤q:=by omega
    have hq3:q≤9223372036854775807:=by omega
    by_cases hlt:(acc.length:Int)<n
    ·obtain⟨f,rfl⟩:∃g,f=g+1:=⟨f-1,by omega⟩;obtain⟨t1,t2,t2b,t2c,t2d⟩:=dr b q;by_cases h0:(al b q).2.2=0
     ·obtain⟨t3,t4,t5⟩:=t1 h0;obtain⟨l1,l2⟩:=mG b (al b q).2.1;have hq4:-9223372036854775808≤(al b q).2.1:=by omega
      have hq5:(al b q).2.1≤9223372036854775807:=by omega
      by_cases h1:(bp b (al b q).2.1).2.2=0
      ·obtain⟨l6,l7,l8⟩:=l1 h1;have hE:bH b q=(df (al b q).1 (bp b (al b q).2.1).1,(bp b (al b q).2.1).2.1,0):=by unfold bH;rw[if_neg (by simpa using h0),if_neg (by simpa using h1)]
       rw[qP b acc f (n-acc.length) q (by omega) (by rw[hE]),hE]at hG;simp(config := { maxSteps := 3000000 }) [wl,hlt,hl,hq2,hq3,hq4,hq5,h0,h1,aB];refine⟨by omega,f,(bp b (al b q).2.1).2.1,acc++[df (al b q).1 (bp b (al b q).2.1).1],?_⟩;have hlen:((acc++[(df (al b q).1 (bp b (al b q).2.1).1)]).length:Int)=acc.length+1:=by simp
       have hi:n-((acc++[(df (al b q).1 (bp b (al b q).2.1).1)]).length:Int)=n-acc.length-1:=by omega
       refine⟨⟨by omega,by omega,l8,by omega,by omega,by rw[hi];exact hG,fun v hv=>by
        rcases List.mem_append.1 hv with hv|hv;·exact hokv v hv
        ·rw[List.mem_singleton]at hv;subst hv;exact⟨t2,t2b,Int.le_refl 0,by show(0:Int)≤18446744073709551615;decide⟩⟩,⟨rfl,?_⟩,by omega⟩;rw[bO];rfl
      ·have hE:bH b q=(v0,0,(bp b (al b q).2.1).2.2):=by unfold bH;rw[if_neg (by simpa using h0),if_pos h1]
       rw[j8 b acc f _ q (by omega) (by rw[hE];exact h1),hE]at hG;have hTe:T=([],(bp b (al b q).2.1).2.2):=by rw[hG];simp[jg,h1]
       simp(config := { maxSteps := 3000000 }) [wl,hlt,hl,hq2,hq3,hq4,hq5,h0,h1,hTe]
     ·have hE:bH b q=(v0,0,(al b q).2.2):=by unfold bH;rw[if_pos h0]
      rw[j8 b acc f _ q (by omega) (by rw[hE];exact h0),hE]at hG;have hTe:T=([],(al b q).2.2):=by rw[hG];simp[jg,h0]
      simp(config := { maxSteps := 3000000 }) [wl,hlt,hl,hq2,hq3,h0,hTe]
    ·have hle:n-acc.length≤0:=by omega
     rw[rU b acc f _ q hle]at hG;have ha9:acc.length≤1000000000:=by omega
     by_cases hqb:q=b.length;·cases hrs:aK acc with|false=>
      have hTe:T=([],2):=by rw[hG];simp[jg,hrs]
      simp(config := { maxSteps := 3000000 }) [wl,hlt,ha9,hrs,hqb,hTe];try exact hokv|true=>
      have hTe:T=(acc,0):=by rw[hG];simp[jg,hrs,hqb]
      simp(config := { maxSteps := 3000000 }) [wl,hlt,ha9,hrs,hqb,hTe];try exact hokv
     ·have hTe:T=([],2):=by rw[hG];simp[jg,hqb]
      simp(config := { maxSteps := 3000000 }) [wl,hlt,ha9,hqb,hTe];try exact hokv
  ·have hT:cq b=([],(al b 0).2.2):=by unfold cq;rw[if_pos he]
   simp(config := { maxSteps := 3000000 }) [hl,he,hT]
 ·cases h
theorem NT:aO Tryz.prog 52 (C1 73):=by
 intro ys φ r h hφ;unfold C1 at h;split at h
 ·rename_i rb;obtain⟨b,hb,h⟩:=Option.map_eq_some_iff.1 h;cases h;cases aU hb;have hl:b.length≤1000000000:=by omega
  refine aw (ag wV (ag Cm (ag Dq ah))) (by kernel_rfl) (by conv=>lhs;reduce) (by simp) ?_;obtain⟨k1,k2,k3,k4,k5⟩:=dr b 0;have hT1:(al b 0).2.2=0→cq b=jg b (bj b (b.length+1) (al b 0).1 (al b 0).2.1):=fun h=>by unfold cq;rw[if_neg (by simpa using h)]
  have hT2:(al b 0).2.2≠0→cq b=([],(al b 0).2.2):=fun h=>by unfold cq;rw[if_pos h]
  generalize hP:cq b=T at*;simp(config := { maxSteps := 3000000 }) [hl];generalize(al b 0).1=n at*;generalize(al b 0).2.1=q0 at*;generalize(al b 0).2.2=e0 at*;refine aq (fun x:Nat×Int×List Vn×Int×Int=>0≤x.2.2.2.1∧x.2.2.2.1≤n∧(x.2.2.2.2=0→T=jg b (fV x.2.2.1 (bj b x.1 (n-x.2.2.2.1) x.2.1))∧0≤x.2.1∧x.2.1≤b.length∧(b.length:Int)<x.1+x.2.1∧(x.2.2.1.length:Int)≤x.2.1)∧(x.2.2.2.2≠0→T=([],x.2.2.2.2))) (fun x=>⟨[(0,.pv (.ro (bytesRow b))),(4,.pv (.int .u64 n)),(5,.pv (.int .i64 x.2.1)),(6,.pv (.int .i64 x.2.2.2.2)),(7,.own 7),(8,.pv (.int .u64 x.2.2.2.1))],[(7,.arr 73 (aC x.2.2.1))]⟩) (fun x=>if x.2.2.2.2=0 then(b.length-x.2.1).toNat+1 else 0) [] (b.length+1,q0,[],0,e0) ?_ ?_ ?_
  ·refine⟨by show(0:Int)≤0;omega,k2,fun h=>⟨?_,?_⟩,hT2⟩;·rw[uh];simpa using hT1 h
   ·have:=k1 h;exact⟨by show 0≤q0;omega,by show q0≤b.length;omega,by show(b.length:Int)<(b.length+1:Nat)+q0;omega,by show(0:Int)≤q0;omega⟩
  ·simp
  ·rintro⟨f,q,acc,m,e⟩ ⟨hm0,hm1,hz,hnz⟩;dsimp only at hm0 hm1 hz hnz;by_cases he:e=0
   ·subst he;obtain⟨hG,g1,g2,g3,g4⟩:=hz rfl;clear hz hnz;have hacc:acc.length≤1000000000:=by omega
    have hq2:-9223372036854775808≤q:=by omega
    have hq3:q≤9223372036854775807:=by omega
    by_cases hlt:m<n
    ·obtain⟨f,rfl⟩:∃g,f=g+1:=⟨f-1,by omega⟩;have wl:IntKind.u64.wrap (m+1)=m+1:=wrap_u64 (by omega);obtain⟨t1,t2,t2b,t2c,t2d⟩:=dr b q;by_cases h0:(al b q).2.2=0
     ·obtain⟨t3,t4,t5⟩:=t1 h0;obtain⟨l1,l2⟩:=mG b (al b q).2.1;have hq4:-9223372036854775808≤(al b q).2.1:=by omega
      have hq5:(al b q).2.1≤9223372036854775807:=by omega
      by_cases h1:(bp b (al b q).2.1).2.2=0
      ·obtain⟨l6,l7,l8⟩:=l1 h1;have hE:bH b q=(df (al b q).1 (bp b (al b q).2.1).1,(bp b (al b q).2.1).2.1,0):=by unfold bH;rw[if_neg (by simpa using h0),if_neg (by simpa using h1)]
       rw[qP b acc f (n-m) q (by omega) (by rw[hE]),hE]at hG;simp(config := { maxSteps := 3000000 }) [wl,hlt,hl,hq2,hq3,hq4,hq5,h0,h1,aB];refine⟨⟨by omega,by omega⟩,f,(bp b (al b q).2.1).2.1,acc++[df (al b q).1 (bp b (al b q).2.1).1],m+1,0,⟨by omega,by omega,fun _=>⟨by rw[show n-(m+1)=n-m-1 from by omega];exact hG,by omega,l8,by omega,by simp;omega⟩,fun h=>absurd rfl h⟩,⟨⟨rfl,rfl,rfl⟩,by rw[bO];rfl⟩,?_⟩;rw[if_pos rfl];omega
      ·have hE:bH b q=(v0,0,(bp b (al b q).2.1).2.2):=by unfold bH;rw[if_neg (by simpa using h0),if_pos h1]
       rw[j8 b acc f _ q (by omega) (by rw[hE];exact h1),hE]at hG;have hTe:T=([],(bp b (al b q).2.1).2.2):=by rw[hG];simp[jg,h1]
       simp(config := { maxSteps := 3000000 }) [wl,hlt,hl,hq2,hq3,hq4,hq5,h0,h1,hTe,aB];refine⟨⟨by omega,by omega⟩,f,(bp b (al b q).2.1).2.1,acc++[df (al b q).1 (bp b (al b q).2.1).1],m+1,(bp b (al b q).2.1).2.2,⟨by omega,by omega,fun h=>absurd h h1,fun _=>rfl⟩,⟨⟨rfl,rfl,rfl⟩,by rw[bO];rfl⟩,?_⟩;rw[if_neg h1];omega
     ·have hE:bH b q=(v0,0,(al b q).2.2):=by unfold bH;rw[if_pos h0]
      rw[j8 b acc f _ q (by omega) (by rw[hE];exact h0),hE]at hG;have hTe:T=([],(al b q).2.2):=by rw[hG];simp[jg,h0]
      simp(config := { maxSteps := 3000000 }) [wl,hlt,hl,hq2,hq3,h0,hTe]
    ·rw[rU b acc f _ q (by omega)]at hG;by_cases hqb:q=b.length;·cases hrs:aK acc with
      |false=>
       have hTe:T=([],2):=by rw[hG];simp[jg,hrs]
       simp(config := { maxSteps := 3000000 }) [hlt,hacc,hrs,hqb,hTe]|true=>
       have hTe:T=(acc,0):=by rw[hG];simp[jg,hrs,hqb]
       simp(config := { maxSteps := 3000000 }) [hlt,hacc,hrs,hqb,hTe]
     ·have hTe:T=([],2):=by rw[hG];simp[jg,hqb]
      simp(config := { maxSteps := 3000000 }) [hlt,hacc,hqb,hTe]
   ·have hTe:=hnz he;simp(config := { maxSteps := 3000000 }) [he,hTe]
 ·cases h
def okW (v:Vn):Prop:=eL v∧fh v=true
theorem va (e:Vn):0<(dK e).length:=by have:=lq e.n.toNat;unfold dK cj;simp only[List.length_append];omega
theorem nw:∀l:List Vn,l.length≤(b9 l).length|[]=>by simp|e::l=>by have h1:=va e;have h2:=nw l;unfold b9 at h2 ⊢;simp only[List.flatMap_cons,List.length_append,List.length_cons];omega
theorem Ge {v:Vn} (h:fh v=true):df v.n v.t=v:=by unfold fh at h;rw[decide_eq_true_eq]at h;exact h.symm
theorem BI {b r:List UInt8}{p:Nat}{e:Vn} (h:b.drop p=dK e++r) (hi:okW e) (hn:e.t.length<2^64):bH b (p:Int)=(e,((p+(dK e).length:Nat):Int),0):=by
 obtain⟨⟨i1,i2,_,_⟩,hpl⟩:=hi;unfold dK at h;rw[List.append_assoc]at h;have hL:=jc (p:=p) (n:=e.n.toNat) h (by omega);have hd:b.drop (p+(bS e.n.toNat).length)=dy e.t++r:=by rw[←List.drop_drop,h];unfold cj;rw[List.drop_left]
 have hT:=qp hd hn;have e1:(p:Int)+((bS e.n.toNat).length:Int)=((p+(bS e.n.toNat).length:Nat):Int):=by omega
 have e2:((e.n.toNat:Nat):Int)=e.n:=by omega
 rw[e1,e2]at hL;unfold bH;rw[hL];dsimp only;rw[hT,if_neg (by simp),if_neg (by simp),Ge hpl];simp only[Prod.mk.injEq,and_true,true_and];have e3:(dK e).length=(bS e.n.toNat).length+(dy e.t).length:=by simp[dK,cj]
 rw[e3];omega
theorem sc {b:List UInt8}:∀(l:List Vn) (f p:Nat) (r:List UInt8),b.drop p=b9 l++r→(∀e∈l,okW e∧e.t.length<2^64)→l.length≤f→bj b f l.length (p:Int)=(l,((p+(b9 l).length:Nat):Int),0)
 |[],f,p,r,_,_,_=>by cases f with|zero=>simp[bj,b9]|succ f=>rw[bj,if_pos (by simp)];simp[b9]
 |e::l,f,p,r,h,hn,hf=>by
  obtain⟨f,rfl⟩:∃g,f=g+1:=⟨f-1,by simp at hf;omega⟩;obtain⟨o1,o2⟩:=hn e (by simp);have hc:b9 (e::l)=dK e++b9 l:=by simp[b9]
  rw[hc,List.append_assoc]at h;have hE:=BI h o1 o2;have hd:b.drop (p+(dK e).length)=b9 l++r:=by rw[←List.drop_drop,h,List.drop_left]
  have ih:=sc l f _ r hd (fun m hm=>hn m (by simp[hm])) (by simp at hf;omega);have hlen:(((e::l).length:Nat):Int)-1=(l.length:Int):=by simp
  rw[bj,if_neg (by simp only[List.length_cons];omega),hE];dsimp only;rw[hlen,ih,if_neg (by simp),if_neg (by simp),hc];simp only[List.length_append,Prod.mk.injEq,true_and,and_true];omega
theorem BP {l:List Vn} (hr:aK l=true) (hn:∀e∈l,okW e∧e.t.length<2^64) (hl:l.length<2^64):cq (eO l)=(l,0):=by
 have hv:cj (l.length:Int)=bS l.length:=by unfold cj;rw[Int.toNat_natCast]
 have h0:(eO l).drop 0=bS l.length++b9 l:=by rw[List.drop_zero,eO,hv]
 have hL:=jc (p:=0) h0 hl;have hd:(eO l).drop (bS l.length).length=b9 l++[]:=by rw[eO,hv,List.drop_left,List.append_nil]
 have hlen:(eO l).length=(bS l.length).length+(b9 l).length:=by rw[eO,hv,List.length_append]
 have hp:=nw l;have hG:=sc l ((eO l).length+1) _ [] hd hn (by omega);have e1:((0:Nat):Int)+((bS l.length).length:Int)=(((bS l.length).length:Nat):Int):=by omega
 rw[e1]at hL;unfold cq;rw[show(0:Int)=((0:Nat):Int) from rfl,hL,if_neg (by simp)];dsimp only;rw[hG];unfold jg;rw[if_neg (by simp),if_pos ⟨by rw[hlen],hr⟩];rfl
theorem wc {b:List UInt8}{q:Int} (h:(bp b q).2.2=0):∃k:Nat,q=(k:Int)∧(bp b q).2.1=((k+(dy (bp b q).1).length:Nat):Int)∧∃r,b.drop k=dy (bp b q).1++r:=by
 by_cases h1:(al b q).2.2=0
 ·obtain⟨k,m,rfl,hm,hm2,hq,r,hr⟩:=tp h1;have hp:=lq m;have hl:=(ot hr (by simp;omega)).2;simp only[List.length_append]at hl;by_cases h2:(b.length:Int)-(al b (k:Int)).2.1<(al b (k:Int)).1;·unfold bp at h;rw[if_neg (by simpa using h1),if_pos h2]at h;cases h
  ·have hT:bp b (k:Int)=(r.take m,((k+(bS m).length:Nat):Int)+(m:Int),0):=by
    unfold bp;rw[if_neg (by simpa using h1),if_neg h2,hm,hq];have hd:b.drop (k+(bS m).length)=r:=by rw[←List.drop_drop,hr,List.drop_left]
    rw[Int.toNat_natCast,Int.toNat_natCast,hd]
   rw[hm,hq]at h2;have hrm:m≤r.length:=by omega
   have hvt:dy (r.take m)=bS m++r.take m:=by unfold dy;rw[List.length_take,Nat.min_eq_left hrm]
   rw[hT];dsimp only;refine⟨k,rfl,?_,r.drop m,?_⟩;·rw[hvt,List.length_append,List.length_take,Nat.min_eq_left hrm];omega
   ·rw[hvt,List.append_assoc,List.take_append_drop,hr]
 ·unfold bp at h;rw[if_pos h1]at h;exact absurd h h1
theorem Bc {b:List UInt8}{q:Int} (h:(bH b q).2.2=0):∃k:Nat,q=(k:Int)∧(bH b q).2.1=((k+(dK (bH b q).1).length:Nat):Int)∧okW (bH b q).1∧∃r,b.drop k=dK (bH b q).1++r:=by
 by_cases h1:(al b q).2.2=0
 ·by_cases h2:(bp b (al b q).2.1).2.2=0
  ·have hE:bH b q=(df (al b q).1 (bp b (al b q).2.1).1,(bp b (al b q).2.1).2.1,0):=by unfold bH;rw[if_neg (by simpa using h1),if_neg (by simpa using h2)]
   obtain⟨k,m,rfl,hm,hm2,hq,r,hr⟩:=tp h1;obtain⟨k2,hk2,ht,r2,hr2⟩:=wc h2;rw[hq]at hk2;have hk:k2=k+(bS m).length:=by omega
   have hb:dK (df (al b (k:Int)).1 (bp b (al b (k:Int)).2.1).1)=bS m++dy (bp b (al b (k:Int)).2.1).1:=by unfold dK cj df;dsimp only;rw[hm,Int.toNat_natCast]
   rw[hE];dsimp only;rw[hb];refine⟨k,rfl,?_,⟨⟨?_,?_,Int.le_refl 0,?_⟩,?_⟩,r2,?_⟩;·rw[ht,hk,List.length_append];congr 1;omega
   ·show 0≤(al b (k:Int)).1;omega
   ·show(al b (k:Int)).1≤18446744073709551615;omega
   ·show(0:Int)≤18446744073709551615;decide
   ·simp[fh,df]
   ·have hd:b.drop k2=r:=by rw[hk,←List.drop_drop,hr,List.drop_left]
    rw[hr2]at hd;rw[List.append_assoc,hd,hr]
  ·unfold bH at h;rw[if_neg (by simpa using h1),if_pos h2]at h;exact absurd h h2
 ·unfold bH at h;rw[if_pos h1]at h;exact absurd h h1
theorem ua {b:List UInt8}:∀(f:Nat) (n:Int) (k:Nat),(bj b f n (k:Int)).2.2=0→0≤n→k≤b.length→b.length<f+k→((bj b f n (k:Int)).1.length:Int)=n∧(bj b f n (k:Int)).2.1=((k+(b9 (bj b f n (k:Int)).1).length:Nat):Int)∧(∀e∈(bj b f n (k:Int)).1,okW e)∧∃r,b.drop k=b9 (bj b f n (k:Int)).1++r
 |0,n,k,h,hn,hk,hf=>by omega|f+1,n,k,h,hn,hk,hf=>by
  by_cases h0:n≤0
  ·have hC:bj b (f+1) n (k:Int)=([],(k:Int),0):=by rw[bj,if_pos h0]
   rw[hC];refine⟨by simp;omega,by simp[b9],fun e he=>(by cases he),b.drop k,by simp[b9]⟩
  ·by_cases h1:(bH b (k:Int)).2.2=0
   ·by_cases h2:(bj b f (n-1) (bH b (k:Int)).2.1).2.2=0
    ·have hC:bj b (f+1) n (k:Int)=((bH b (k:Int)).1::(bj b f (n-1) (bH b (k:Int)).2.1).1,(bj b f (n-1) (bH b (k:Int)).2.1).2.1,0):=by rw[bj,if_neg h0,if_neg (by simpa using h1),if_neg (by simpa using h2)]
     obtain⟨k',hk',he,ho,r,hr⟩:=Bc h1;have:k'=k:=by omega
     subst this;have hp:=va (bH b (k':Int)).1;have hl:=(ot hr (by simp;omega)).2;simp only[List.length_append]at hl;rw[he]at h2 hC;obtain⟨g1,g2,g3,r2,g4⟩:=ua f (n-1) _ h2 (by omega) (by omega) (by omega);rw[hC];generalize bj b f (n-1) _=R at*;generalize bH b (k':Int)=E at*;have hc:b9 (E.1::R.1)=dK E.1++b9 R.1:=by simp[b9]
     dsimp only;rw[hc];refine⟨by simp;omega,?_,fun e hh=>?_,r2,?_⟩;·rw[g2,List.length_append];congr 1;omega
     ·rcases List.mem_cons.1 hh with rfl|hh;·exact ho
      ·exact g3 e hh
     ·have hd:b.drop (k'+(dK E.1).length)=r:=by rw[←List.drop_drop,hr,List.drop_left]
      rw[g4]at hd;rw[List.append_assoc,hd,hr]
    ·rw[bj,if_neg h0,if_neg (by simpa using h1),if_pos h2]at h;exact absurd h h2
   ·rw[bj,if_neg h0,if_pos h1]at h;exact absurd h h1
theorem BB {b:List UInt8} (h:(cq b).2=0):aK (cq b).1=true∧eO (cq b).1=b∧(∀e∈(cq b).1,okW e)∧(cq b).1.length≤b.length:=by
 by_cases h0:(al b 0).2.2=0
 ·have hP:cq b=jg b (bj b (b.length+1) (al b 0).1 (al b 0).2.1):=by unfold cq;rw[if_neg (by simpa using h0)]
  obtain⟨k,m,hk,hm,hm2,hq,r,hr⟩:=tp h0;have:k=0:=by omega
  subst this;rw[List.drop_zero]at hr;have hbl:=congrArg List.length hr;simp only[List.length_append]at hbl;have e1:((0+(bS m).length:Nat):Int)=(((bS m).length:Nat):Int):=by omega
  rw[hm,hq,e1]at hP;rw[hP]at h ⊢;by_cases h1:(bj b (b.length+1) (m:Int) (((bS m).length:Nat):Int)).2.2=0
  ·obtain⟨g1,g2,g3,r2,g4⟩:=ua (b.length+1) (m:Int) _ h1 (by omega) (by omega) (by omega);generalize bj b (b.length+1) (m:Int) _=R at*;by_cases h2:R.2.1=b.length∧aK R.1=true
   ·have hF:jg b R=(R.1,0):=by unfold jg;rw[if_neg (by simpa using h1),if_pos h2]
    rw[hF];obtain⟨h3,h4⟩:=h2;have hr2:b.drop (bS m).length=r:=by rw[hr,List.drop_left]
    rw[g4]at hr2;have hr2l:=congrArg List.length hr2;simp only[List.length_append]at hr2l;have:r2=[]:=List.eq_nil_of_length_eq_zero (by omega);subst this;rw[List.append_nil]at hr2;have hp:=nw R.1;refine⟨h4,?_,g3,by dsimp only;omega⟩;show cj (R.1.length:Int)++b9 R.1=b;rw[g1,hr2];unfold cj;rw[Int.toNat_natCast,←hr]
   ·unfold jg at h;rw[if_neg (by simpa using h1),if_neg h2]at h;cases h
  ·unfold jg at h;rw[if_pos h1]at h;exact absurd h h1
 ·unfold cq at h;rw[if_pos h0]at h;exact absurd h h0
theorem AW (b:List UInt8):(cq b).1.length≤b.length:=by
 by_cases h:(cq b).2=0;·exact(BB h).2.2.2
 ·unfold cq jg at h ⊢;split;·simp
  ·rename_i h1;rw[if_neg h1]at h;split;·simp
   ·rename_i h2;rw[if_neg h2]at h;split;·rename_i h3;rw[if_pos h3]at h;exact absurd rfl h
    ·simp
theorem mj {l:List Vn} (hr:aK l=true) {i j:Nat} (hij:i<j) (hj:j<l.length):l[i].n<l[j].n:=by
 have h1:=kl hr (i:=i) (by omega);have h2:=iM hr (i:=i+1) (j-(i+1)) (by omega);have e:i+1+(j-(i+1))=j:=by omega
 simp only[e]at h2;omega
theorem tM {l:List Vn} (hr:aK l=true) {i:Nat} (hi:i<l.length):0<l[i].n:=by have hok:=(ez l).1 hr i hi;unfold gI at hok;rw[List.getElem?_eq_getElem hi]at hok;simp only[Option.getD_some,Bool.and_eq_true,decide_eq_true_eq]at hok;have h1:=hok.1;unfold eS at h1;cases i with|zero=>simpa using h1|succ i=>
 have h0:=mj hr (i:=0) (j:=i+1) (by omega) hi;have hok0:=(ez l).1 hr 0 (by omega);unfold gI at hok0;rw[List.getElem?_eq_getElem (show 0<l.length by omega)]at hok0;simp only[Option.getD_some,Bool.and_eq_true,decide_eq_true_eq]at hok0;have h2:=hok0.1;unfold eS at h2;have h2':0<l[0].n:=by simpa using h2
 omega
theorem vy {l:List Vn} (hlt:∀(i j:Nat) (hij:i<j) (hj:j<l.length),(l[i]'(by omega)).n<l[j].n) (hpos:∀v∈l,0<v.n) (hb:∀v∈l,bh v≠0→∃w∈l,w.n=bh v∧w.n<v.n):aK l=true:=by
 rw[ez];intro i hi;unfold gI;rw[List.getElem?_eq_getElem hi];simp only[Option.getD_some,Bool.and_eq_true,Bool.or_eq_true,decide_eq_true_eq];refine⟨?_,?_⟩;·unfold eS;cases i with|zero=>simpa using hpos _ (List.getElem_mem hi)|succ i=>have:=hlt i (i+1) (by omega) hi;simpa[show i<l.length by omega]using this
 ·by_cases h0:bh l[i]=0;·exact .inl h0
  ·right;obtain⟨w,hw,h1,h2⟩:=hb l[i] (List.getElem_mem hi) h0;obtain⟨k,hk,rfl⟩:=List.getElem_of_mem hw;have hki:k<i:=by
    rcases Nat.lt_trichotomy k i with h|h|h;·exact h
    ·subst h;omega
    ·have:=hlt i k h hk;omega
   rcases jV (l.take i) (bh l[i]) with⟨j,hj,h3,_⟩|⟨_,h3⟩;·omega
   ·exact absurd h1 (h3 l[k] (by rw[List.mem_take_iff_getElem];exact⟨k,by omega,rfl⟩))
theorem De {l:List Vn} (hr:aK l=true) {v:Vn} (hv:v∈l) (hb:bh v≠0):∃w∈l,w.n=bh v∧w.n<v.n:=by obtain⟨i,hi,rfl⟩:=List.getElem_of_mem hv;obtain⟨j,hj,_,h1⟩:=oP hr hi hb;exact⟨l[j],List.getElem_mem _,h1,mj hr hj hi⟩
theorem xw {l:List Vn} (hr:aK l=true) {v w:Vn} (hv:v∈l) (hw:w∈l) (h:v.n=w.n):v=w:=by obtain⟨i,hi,rfl⟩:=List.getElem_of_mem hv;obtain⟨j,hj,rfl⟩:=List.getElem_of_mem hw;have:=Af hr hi hj h;subst this;rfl
theorem wR {l:List Vn} (hr:aK l=true) (p:Vn→Bool) (hc:∀v∈l,p v=true→bh v≠0→∀w∈l,w.n=bh v→p w=true):aK (l.filter p)=true:=by
 have hpw:l.Pairwise fun a b=>a.n<b.n:=by rw[List.pairwise_iff_getElem];intro i j hi hj hij;exact mj hr hij hj
 have hpf:=hpw.filter p;rw[List.pairwise_iff_getElem]at hpf;refine vy (fun i j hij hj=>hpf i j (by omega) hj hij) (fun v hv=>?_) fun v hv hb=>?_;·obtain⟨i,hi,rfl⟩:=List.getElem_of_mem (List.mem_filter.1 hv).1;exact tM hr hi
 ·obtain⟨h1,h2⟩:=List.mem_filter.1 hv;obtain⟨w,hw,h3,h4⟩:=De hr h1 hb;exact⟨w,List.mem_filter.2 ⟨hw,hc v h1 h2 hb w hw h3⟩,h3,h4⟩
inductive Ch (l:List Vn):Vn→List Vn→Prop|base (v:Vn):bh v=0→Ch l v [v]|step (v w:Vn) (p:List Vn):w∈l→w.n=bh v→bh v≠0→Ch l w p→Ch l v (p++[v])
theorem HC {l:List Vn} (hr:aK l=true):∀(i:Nat) (hi:i<l.length),Ch l l[i] (cJ l l.length i):=by intro i;induction i using Nat.strongRecOn with|_ i ih=>
 intro hi;by_cases hb:bh l[i]=0;·rw[ku (by rw[dX hi];exact hb),dX hi];exact .base _ hb
 ·obtain⟨j,hj,hx,hn⟩:=oP hr hi hb;rw[tI hr hi hb hj hx];exact .step _ l[j] _ (List.getElem_mem _) hn hb (ih j hj (by omega))
theorem Ch.uniq {l:List Vn} (hr:aK l=true) {v:Vn}{p q:List Vn} (hp:Ch l v p) (hq:Ch l v q):p=q:=by induction hp generalizing q with
 |base v h=>cases hq with|base _ _=>rfl|step _ _ _ _ _ h' _=>exact absurd h h'
 |step v w p hw hn hb _ ih=>cases hq with|base _ h'=>exact absurd h' hb|step _ w' p' hw' hn' _ h'=>have:w=w':=xw hr hw hw' (hn.trans hn'.symm);subst this;rw[ih h']
theorem Ch.mono {l m:List Vn} (hs:∀v∈l,v∈m) {v:Vn}{p:List Vn} (h:Ch l v p):Ch m v p:=by induction h with|base v h=>exact .base v h|step v w p hw hn hb _ ih=>exact .step v w p (hs w hw) hn hb ih
theorem Ch.map {f:Vn→Vn} (hn:∀v,(f v).n=v.n) (hb:∀v,bh (f v)=bh v) {l:List Vn}{v:Vn}{p:List Vn} (h:Ch l v p):Ch (l.map f) (f v) (p.map f):=by induction h with|base v h=>exact .base _ ((hb v).trans h)|step v w p hw h1 h2 _ ih=>rw[List.map_append];exact .step _ (f w) _ (List.mem_map.2 ⟨w,hw,rfl⟩) (by rw[hn,hb,h1]) (by rw[hb];exact h2) ih
theorem Ch.mem {l:List Vn}{v:Vn}{p:List Vn} (h:Ch l v p) (hv:v∈l):∀x∈p,x∈l:=by induction h with|base v h=>intro x hx;rw[List.mem_singleton]at hx;rw[hx];exact hv|step v w p hw _ _ _ ih=>
 intro x hx;rcases List.mem_append.1 hx with hx|hx;·exact ih hw x hx
 ·rw[List.mem_singleton]at hx;rw[hx];exact hv
theorem Ch.self {l:List Vn}{v:Vn}{p:List Vn} (h:Ch l v p):∃q,p=q++[v]:=by cases h with|base _ _=>exact⟨[],rfl⟩|step _ _ p _ _ _ _=>exact⟨p,rfl⟩
theorem Ch.closed {l:List Vn}{v:Vn}{p:List Vn} (h:Ch l v p):∀x∈p,bh x≠0→∃y∈p,y.n=bh x:=by induction h with|base v h=>intro x hx hb;rw[List.mem_singleton]at hx;rw[hx]at hb;exact absurd h hb|step v w p hw hn _ hc ih=>
 intro x hx0 hb;rcases List.mem_append.1 hx0 with hx|hx;·obtain⟨y,hy,h⟩:=ih x hx hb;exact⟨y,List.mem_append.2 (.inl hy),h⟩
 ·have hxv:=List.mem_singleton.1 hx;obtain⟨q,hq⟩:=hc.self;exact⟨w,by rw[hq];simp,by rw[hxv];exact hn⟩
theorem m6 {l:List Vn} (hr:aK l=true) {v:Vn} (hv:v∈l) (hh:v.dm=false):dE l v.n=some v:=by
 have hs:v∈aN l:=by unfold aN;simp[hv,hh]
 unfold dE;cases hf:(aN l).find? fun w=>decide (w.n=v.n) with|none=>rw[List.find?_eq_none]at hf;exact absurd (decide_eq_true rfl) (hf v hs)|some w=>
  have h1:=List.mem_of_find?_eq_some hf;have h2:=List.find?_some hf;have hw:w∈l:=by unfold aN at h1;exact(List.mem_filter.1 h1).1
  rw[xw hr hw hv (by simpa using h2)]
theorem mD {l:List Vn}{n:Int}{v:Vn} (h:dE l n=some v):v∈l∧v.n=n∧v.dm=false:=by unfold dE at h;have h1:=List.mem_of_find?_eq_some h;have h2:=List.find?_some h;unfold aN at h1;obtain⟨h3,h4⟩:=List.mem_filter.1 h1;exact⟨h3,by simpa using h2,by simpa using h4⟩
theorem Cq {l:List Vn} (hr:aK l=true) {n:Int}{v:Vn} (h:dE l n=some v):(eP l n).2=0∧Ch l v (eP l n).1:=by
 obtain⟨h1,h2,h3⟩:=mD h;obtain⟨i,hi,rfl⟩:=List.getElem_of_mem h1;have hp:eP l n=(cJ l l.length i,0):=by simp only[eP,hr,h];rw[if_neg (by simp),ko hr hi,Int.toNat_natCast]
 rw[hp];exact⟨rfl,HC hr i hi⟩
theorem zc {o:List Vn} (hr:aK o=true) {v:Vn} (hv:v∈o):iZ o v.n=true↔∃x∈o,x.dm=false∧∃p,Ch o x p∧v∈p:=by
 rw[zX hr];constructor
 ·rintro⟨x,hx,hn⟩;have hx':x∈o∧x.dm=false:=by unfold aN at hx;simpa using hx
  have hg:=m6 hr hx'.1 hx'.2;obtain⟨_,hc⟩:=Cq hr hg;unfold oN at hn;obtain⟨w,hw,hwn⟩:=List.mem_map.1 hn;refine⟨x,hx'.1,hx'.2,_,hc,?_⟩;rw[←xw hr (hc.mem hx'.1 w hw) hv hwn];exact hw
 ·rintro⟨x,hx,hh,p,hc,hvp⟩;have hg:=m6 hr hx hh;obtain⟨_,hc'⟩:=Cq hr hg;refine⟨x,by unfold aN;simp[hx,hh],?_⟩;unfold oN;rw[hc'.uniq hr hc];exact List.mem_map.2 ⟨v,hvp,rfl⟩
theorem u9 {l:List Vn} (hr:aK l=true) (bB:List Int):cm l bB=(jG l bB).filter fun v=>iZ (jG l bB) v.n:=by unfold cm;rw[if_neg (by rw[hr];simp)]
theorem xK {l:List Vn} (hr:aK l=true) (bB:List Int):aK (cm l bB)=true:=by rw[u9 hr];have hrO:=(pz l bB).trans hr;refine wR hrO _ fun v hv hn hb w hw hwn=>?_;obtain⟨x,hx,hh,p,hc,hvp⟩:=(zc hrO hv).1 hn;obtain⟨y,hy,hyn⟩:=hc.closed v hvp hb;have:y=w:=xw hrO (hc.mem hx y hy) hw (hyn.trans hwn.symm);subst this;exact(zc hrO hw).2 ⟨x,hx,hh,p,hc,hy⟩
theorem nA {l:List Vn} (hr:aK l=true) {bB:List Int}{v:Vn} (h:v∈cm l bB):v∈jG l bB∧∃u∈l,v=gH (eN l) bB u:=by rw[u9 hr]at h;have h1:=(List.mem_filter.1 h).1;obtain⟨u,hu,rfl⟩:=List.mem_map.1 h1;exact⟨h1,u,hu,rfl⟩
theorem B4 {l:List Vn} (hr:aK l=true) {bB:List Int}{n:Int}{v:Vn} (h:dE (cm l bB) n=some v):∃u,dE l n=some u∧v=gH (eN l) bB u:=by
 obtain⟨h1,h2,h3⟩:=mD h;obtain⟨_,u,hu,rfl⟩:=nA hr h1;have hh:u.dm=false:=by have:(u.dm||(!decide (u.n=eN l)&&!CC bB u.n))=false:=h3;rw[Bool.or_eq_false_iff]at this;exact this.1
 refine⟨u,?_,rfl⟩;rw[←h2];exact m6 hr hu hh
theorem nP {l:List Vn}{v:Vn}:v∈aN l↔v∈l∧v.dm=false:=by unfold aN;simp
theorem EY (l:List Vn) (v:Vn):(cW l v).1.length≤l.length+1:=by
 unfold cW;split;·simp
 ·split<;>simp
theorem yc (l:List Vn) (ts:List (List UInt8)):(bL l ts).1.length≤l.length:=by
 unfold bL;split;·simp
 ·have:=dW (l:=l);simp[jR];omega
theorem qz (l:List Vn) (bB:List Int):(cm l bB).length≤l.length:=by
 unfold cm;split;·simp
 ·have:=List.length_filter_le (fun v=>iZ (jG l bB) v.n) (jG l bB);rw[tB]at this;exact this
theorem BX {l:List Vn} (hi:∀v∈l,eL v) (bB:List Int):∀v∈cm l bB,eL v:=by
 intro v hv;unfold cm at hv;split at hv;·cases hv
 ·exact xV hi bB v (List.mem_filter.1 hv).1
def vN (d x:Dc) (k p i s v n:Int):Prop:=(∀w∈aN x.vs,dE d.vs w.n=some w∨(k=4∧w.n=n∧w.p=p∧w.i=i∧w.s=s∧w.b=v))∧(dE x.vs n).isSome=decide (k=4)
@[simp] noncomputable def JQ:List AV→Option (Prop×AV)|[.agg xs,.agg ys,.agg [.pv (.int .u8 k),.pv (.int .u64 rp),.pv (.int .u64 ri),.pv (.int .u64 rs),.pv (.int .u64 re),.pv (.int .u64 ru),.pv (.int .u64 rv),.pv (.int .u64 rc),.pv (.int .u64 rz),.pv (.int .u64 rm),.pv (.str rn),.pv (.str rt)],.pv (.int .u64 n)]=>fp xs fun d=>fp ys fun x=>some (d.vs.length≤100000∧x.vs.length≤100000∧vN d x k rp ri rs rv n,.pv (.bool true))|_=>none
theorem Nk:aO Tryz.prog 60 JQ:=by
 intro ys φ r h hφ;unfold JQ at h;split at h
 ·rename_i xs ys k rp ri rs re ru rv rc rz rm rn rt n;obtain⟨d,hd,h1⟩:=bY h;obtain⟨x,hx,h2⟩:=bY h1;subst hd hx;clear h h1;cases h2;obtain⟨l1,l2,hC,hS⟩:=hφ;have l3:d.vs.length≤1000000:=by omega
  have l4:x.vs.length≤1000000:=by omega
  have l5:(aN x.vs).length≤100000:=by have:=dW (l:=x.vs);omega
  refine aw (ag nj (ag HM ah)) (by kernel_rfl) (by conv=>lhs;reduce) (by simp) ?_;apply af;·simp(config := { maxSteps := 3000000 }) [cellsD,l4];exact⟨rfl,rfl⟩
  apply af;·simp(config := { maxSteps := 3000000 }) [cellsD,l4];exact⟨rfl,rfl⟩
  generalize hl:aN x.vs=l at*;apply af
  ·apply af;·simp(config := { maxSteps := 3000000 });exact⟨rfl,rfl⟩
   rw[aM];refine aq (fun j:Nat=>j≤l.length) (fun j=>⟨[(3,.pv (.int .u64 n)),(4,.ptr 4 0),(5,.ptr 5 0),(6,.ptr 6 0),(8,.pv (.bool false)),(9,.own 17),(10,.pv (.int .i64 j))],[(4,.box (cellsD d)),(5,.box (cellsD x)),(6,.box [.pv (.int .u8 k),.pv (.int .u64 rp),.pv (.int .u64 ri),.pv (.int .u64 rs),.pv (.int .u64 re),.pv (.int .u64 ru),.pv (.int .u64 rv),.pv (.int .u64 rc),.pv (.int .u64 rz),.pv (.int .u64 rm),.pv (.str rn),.pv (.str rt)]),(17,.arr 73 (aC l))]⟩) (fun j=>l.length-j) [] 0 (by simp) ?_ ?_;·simp[cellsD]
   ·intro j hj;have w2:IntKind.i64.wrap ((j:Int)+1)=(j:Int)+1:=wrap_i64 (by omega);by_cases hlt:j<l.length
    ·have r1:=aV hlt;have hw:=hC l[j] (List.getElem_mem hlt);generalize hv:l[j]=w at*;obtain⟨wn,wb,wp,wi,ws,wz,wm,wt,winl,whid⟩:=w;rcases hw with hw|⟨h1,h2,h3,h4,h5,h6⟩;·have hw:dE d.vs wn=some ⟨wn,wb,wp,wi,ws,wz,wm,wt,winl,whid⟩:=hw;simp(config := { maxSteps := 3000000 }) [w2,hlt,r1,hw,l3,cellsD,bG];exact⟨j+1,by omega,by omega,by omega⟩
     ·simp only at h1 h2 h3 h4 h5 h6;subst h1 h2 h3 h4 h5 h6;simp(config := { maxSteps := 3000000 }) [w2,hlt,r1,l3,cellsD,bG];exact⟨fun _ _ _ _ _ _ _ _ _ _ _=>⟨j+1,by omega,by omega,by omega⟩,fun _=>⟨j+1,by omega,by omega,by omega⟩⟩
    ·have hja:j=l.length:=by omega
     subst hja;simp(config := { maxSteps := 3000000 }) [hlt];exact⟨rfl,rfl⟩
  cases hq:dE x.vs n with|none=>
   rw[hq]at hS;have hk:¬k=4:=by intro h;rw[decide_eq_true h]at hS;cases hS
   simp(config := { maxSteps := 3000000 }) [cellsD,l4,hk,bG,hq]|some w=>
   rw[hq]at hS;have hk:k=4:=by
    by_cases h:k=4;·exact h
    ·rw[decide_eq_false h]at hS;cases hS
   have hgn:=(mD hq).2.1;obtain⟨gn,gb,gp,gi,gs,gz,gm,gt,ginl,ghid⟩:=w;have hgn:gn=n:=hgn;subst hgn hk;simp(config := { maxSteps := 3000000 }) [cellsD,l4,bG,hq]
 ·cases h
theorem Eu {l:List Vn} (hr:aK l=true) {v:Vn} (hp:0<v.n) (hlt:∀w∈l,w.n<v.n) (hb:bh v≠0→(dE l (bh v)).isSome=true):aK (l++[v])=true:=by
 refine vy ?_ ?_ ?_
 ·intro i j hij hj;rw[List.length_append,List.length_singleton]at hj;by_cases h:j<l.length;·rw[List.getElem_append_left h,List.getElem_append_left (by omega)];exact mj hr hij h
  ·have:j=l.length:=by omega
   subst this;rw[List.getElem_append_left (by omega),List.getElem_append_right (by omega)];simpa using hlt _ (List.getElem_mem _)
 ·intro w hw;rcases List.mem_append.1 hw with hw|hw;·obtain⟨i,hi,rfl⟩:=List.mem_iff_getElem.1 hw;exact tM hr hi
  ·rw[List.mem_singleton.1 hw];exact hp
 ·intro w hw hbw;rcases List.mem_append.1 hw with hw|hw;·obtain⟨u,hu,h1,h2⟩:=De hr hw hbw;exact⟨u,List.mem_append_left _ hu,h1,h2⟩
  ·rw[List.mem_singleton.1 hw]at hbw ⊢;obtain⟨u,hu⟩:=Option.isSome_iff_exists.1 (hb hbw);obtain⟨a,b,c⟩:=mD hu;exact⟨u,List.mem_append_left _ a,b,hlt u a⟩
structure FI (j:Nat) (d:Dc):Prop where
 r:aK d.vs=true
 n:∀v∈d.vs,v.n≤j
 o:∀v∈d.vs,eL v
 lv:d.vs.length≤j
 lp:d.ps.length≤j
 p:∀e∈d.ps,e9 e
 e:bQ d.l.e
def rh (r:Rc):Prop:=bQ r.p∧bQ r.i∧bQ r.s∧bQ r.e∧bQ r.u∧bQ r.v∧bQ r.c∧bQ r.z∧bQ r.m
def mQ (d:Dc) (r:Rc) (n s:Int):Ap:=⟨d.l,d.ps,d.vs,d.sl,r,n,s⟩
def nR (a:Ap):Dc:=⟨a.l,a.ps,a.vs,a.sl⟩
theorem FI.zero:FI 0 ⟨⟨0,0,0,0,false⟩,[],[],false⟩:=⟨rfl,by simp,by simp,by simp,by simp,by simp,by simp[bQ]⟩
theorem FI.mono {j:Nat}{d:Dc} (h:FI j d):FI (j+1) d:=⟨h.r,fun v hv=>by have:=h.n v hv;omega,h.o,by have:=h.lv;omega,by have:=h.lp;omega,h.p,h.e⟩
theorem FI.ok {j:Nat}{d:Dc} (h:FI j d) {r:Rc} (hr:rh r) {s:Int} (hs:bQ s) (hj:j≤24):sT (mQ d r ((j:Int)+1) s):=by obtain⟨h1,h2,h3,h4,h5,h6,h7,h8,h9⟩:=hr;have:=h.lv;have:=h.lp;unfold bQ at h6;exact⟨h.e,by show d.ps.length<50;omega,by show d.vs.length≤100000;omega,h.p,h.o,h7,hs,by show 0≤(j:Int)+1;omega,by show(j:Int)+1≤_;omega,h6.1,h6.2⟩
theorem ij {d:Dc} (hr:aK d.vs=true) {n:Int} (hn:∀v∈d.vs,v.n<n) {k p i s v:Int} (hk:k≠4) {x:Dc} (hx:x.vs=d.vs):vN d x k p i s v n:=by
 refine⟨fun w hw=>Or.inl ?_,?_⟩;·rw[hx]at hw;obtain⟨a,b⟩:=nP.1 hw;exact m6 hr a b
 ·rw[hx,decide_eq_false hk];cases hg:dE d.vs n with|none=>rfl|some w=>obtain⟨a,b,c⟩:=mD hg;have:=hn w a;omega
theorem zQ {d:Dc} (hr:aK d.vs=true) {n:Int} (hn:∀v∈d.vs,v.n<n) {k p i s v:Int} (hk:k≠4) {x:Dc}{bB:List Int} (hx:x.vs=cm d.vs bB):vN d x k p i s v n:=by
 refine⟨fun w hw=>Or.inl ?_,?_⟩
 ·rw[hx]at hw;obtain⟨a,b⟩:=nP.1 hw;obtain⟨_,u,hu,rfl⟩:=nA hr a;have hh:u.dm=false:=by have:(u.dm||(!decide (u.n=eN d.vs)&&!CC bB u.n))=false:=b;rw[Bool.or_eq_false_iff]at this;exact this.1
  have:gH (eN d.vs) bB u=u:=by unfold gH;have b':(u.dm||(!decide (u.n=eN d.vs)&&!CC bB u.n))=false:=b;rw[b'];cases u;cases hh;rfl
  rw[this];exact m6 hr hu hh
 ·rw[hx,decide_eq_false hk];cases hg:dE (cm d.vs bB) n with|none=>rfl|some w=>obtain⟨u,hu,_⟩:=B4 hr hg;obtain⟨a,b,c⟩:=mD hu;have:=hn u a;omega
theorem FB {d:Dc} (hr:aK d.vs=true) {w:Vn} (hn:∀v∈d.vs,v.n<w.n) (hh:w.dm=false) (hw:aK (d.vs++[w])=true) {x:Dc} (hx:x.vs=d.vs++[w]):vN d x 4 w.p w.i w.s w.b w.n:=by
 refine⟨fun u hu=>?_,?_⟩
 ·rw[hx]at hu;obtain⟨a,b⟩:=nP.1 hu;rcases List.mem_append.1 a with a|a;·exact Or.inl (m6 hr a b)
  ·rw[List.mem_singleton.1 a];exact Or.inr ⟨rfl,rfl,rfl,rfl,rfl,rfl⟩
 ·rw[hx,m6 hw (List.mem_append_right _ (List.mem_singleton.2 rfl)) hh];rfl
structure FS (d x:Dc) (r:Rc) (n:Int):Prop where
 h1:r.k=2∨r.k=3∨r.k=4→dQ d.l r.p r.i r.e=true
 h2:r.k=7→d.l.h=true∧d.l.p=r.p∧d.l.i=r.i
 h3:d.l.e≤x.l.e
 h4:r.k=1∨r.k=2∨r.k=3∨r.k=4∨r.k=7→d.sl=false
 h7:r.k=5∨r.k=6∨r.k=8→x.sl=d.sl∧x.l=d.l
 h5:r.k=1→x.l=⟨d.l.e+1,r.p,r.i,r.u,true⟩∧d.l.e≠kD
 h6:vN d x r.k r.p r.i r.s r.v n
theorem FN (n:Int):∀(l:List Pn),(iE n l).length≤l.length∧∀e∈iE n l,e∈l:=by intro l;induction l with|nil=>exact⟨Nat.le_refl _,fun e h=>h⟩|cons a l ih=>
 unfold iE;split;·exact⟨by simp,fun e h=>List.mem_cons_of_mem _ h⟩
 ·refine⟨by simp;exact ih.1,fun e h=>?_⟩;rcases List.mem_cons.1 h with rfl|h;·exact List.mem_cons_self
  ·exact List.mem_cons_of_mem _ (ih.2 e h)
theorem FF {j:Nat}{d:Dc} (h:FI j d) {r:Rc} (hr:rh r) {s:Int} (hs:bQ s) (hj:j≤24) {a:Ap}{e:Int} (ha:aT (mQ d r ((j:Int)+1) s)=(a,e)):(e=220∧nR a=d)∨(e=0∧(r.k=1∨r.k=2∨r.k=3∨r.k=4∨r.k=5∨r.k=6∨r.k=7∨r.k=8)∧FI (j+1) (nR a)∧FS d (nR a) r ((j:Int)+1)):=by
 have hn:∀v∈d.vs,v.n<(j:Int)+1:=fun v hv=>by have:=h.n v hv;omega
 have hm:=h.mono;obtain⟨g1,g2,g3,g4,g5,g6,g7⟩:=h;unfold aT at ha;cases hdo:xj (mQ d r ((j:Int)+1) s) with|none=>rw[hdo]at ha;cases ha;exact Or.inl ⟨rfl,rfl⟩|some x=>
  rw[hdo]at ha;dsimp only at ha;split at ha;case isFalse=>cases ha;exact Or.inl ⟨rfl,rfl⟩
  rename_i hx;cases ha;obtain⟨hR,hx⟩:=hx;unfold xj at hdo;have hk:(mQ d r ((j:Int)+1) s).r.k=r.k:=rfl;rw[hk]at hdo;refine Or.inr ⟨rfl,?_⟩;by_cases k1:r.k=1
  ·rw[if_pos k1]at hdo;cases hdo;simp only[iV,mQ,Bool.and_eq_true,Bool.not_eq_true']at hx;obtain⟨⟨hx1,hx2⟩,hx3⟩:=hx;have hx2:(cX d.l r.p r.i r.u).2=0:=of_decide_eq_true hx2;have hm':d.l.e≠kD:=by intro hm;unfold cX at hx2;rw[if_pos hm]at hx2;cases hx2
   have hg:cX d.l r.p r.i r.u=(⟨d.l.e+1,r.p,r.i,r.u,true⟩,0):=by unfold cX;rw[if_neg hm']
   have hl:(nR (iV (mQ d r ((j:Int)+1) s)).1).l=⟨d.l.e+1,r.p,r.i,r.u,true⟩:=by simp only[nR,iV,mQ,hg]
   refine⟨Or.inl k1,⟨hm.r,hm.n,hm.o,hm.lv,hm.lp,hm.p,?_⟩,⟨by omega,by omega,?_,fun _=>hx1,by omega,fun _=>⟨hl,hm'⟩,ij g1 hn (by omega) rfl⟩⟩;·rw[hl];have:=g7;unfold bQ at this ⊢;unfold kD at hm';show 0≤d.l.e+1∧d.l.e+1≤_;omega
   ·rw[hl];show d.l.e≤d.l.e+1;omega
  rw[if_neg k1]at hdo;by_cases k2:r.k=2;·rw[if_pos k2]at hdo;cases hdo;simp only[lK,mQ,Bool.and_eq_true,Bool.not_eq_true']at hx;exact⟨by omega,⟨hm.r,hm.n,hm.o,hm.lv,hm.lp,hm.p,hm.e⟩,⟨fun _=>hx.2,by omega,Int.le_refl _,fun _=>hx.1,by omega,fun h=>absurd h k1,ij g1 hn (by omega) rfl⟩⟩
  rw[if_neg k2]at hdo;by_cases k3:r.k=3;·rw[if_pos k3]at hdo;cases hdo;simp only[gB,mQ,Bool.and_eq_true,Bool.not_eq_true']at hx;exact⟨by omega,⟨hm.r,hm.n,hm.o,hm.lv,hm.lp,hm.p,hm.e⟩,⟨fun _=>hx.2,by omega,Int.le_refl _,fun _=>hx.1,by omega,fun h=>absurd h k1,ij g1 hn (by omega) rfl⟩⟩
  rw[if_neg k3]at hdo;by_cases k4:r.k=4
  ·rw[if_pos k4]at hdo;cases hdo;simp only[gZ,mQ,Bool.and_eq_true,Bool.not_eq_true']at hx;obtain⟨⟨hx1,hx2⟩,hx3⟩:=hx;have hx3:(cW d.vs (ed ⟨d.l,d.ps,d.vs,d.sl,r,(j:Int)+1,s⟩)).2=0:=of_decide_eq_true hx3;generalize hw:ed ⟨d.l,d.ps,d.vs,d.sl,r,(j:Int)+1,s⟩=w at hx3;have wn:w.n=(j:Int)+1:=by rw[←hw];rfl
   have wh:w.dm=false:=by rw[←hw];rfl
   have wo:eL w:=by rw[←hw];obtain⟨_,_,_,_,_,h6,_⟩:=hr;exact⟨by show 0≤(j:Int)+1;omega,by show(j:Int)+1≤_;omega,h6.1,h6.2⟩
   have hadd:(cW d.vs w).1=d.vs++[w]∧(bh w≠0→(dE d.vs (bh w)).isSome=true):=by
    revert hx3;unfold cW;split;·intro h;cases h
    ·split;·intro h;cases h
     ·rename_i hb;intro _;refine⟨rfl,fun h0=>?_⟩;cases hs:(dE d.vs (bh w)).isSome with|true=>rfl|false=>exact absurd ⟨h0,hs⟩ hb
   have hrw:aK (d.vs++[w])=true:=Eu g1 (by omega) (by rw[wn];exact hn) hadd.2;have hvs:(nR (gZ (mQ d r ((j:Int)+1) s)).1).vs=d.vs++[w]:=by rw[←hadd.1,←hw];rfl
   have hc:=FB g1 (by rw[wn];exact hn) wh hrw hvs;refine⟨by omega,⟨by rw[hvs];exact hrw,?_,?_,?_,hm.lp,hm.p,hm.e⟩,⟨fun _=>hx2,by omega,Int.le_refl _,fun _=>hx1,by omega,fun h=>absurd h k1,?_⟩⟩
   ·rw[hvs];intro v hv;rcases List.mem_append.1 hv with hv|hv;·exact hm.n v hv
    ·rw[List.mem_singleton.1 hv,wn];omega
   ·rw[hvs];intro v hv;rcases List.mem_append.1 hv with hv|hv;·exact g3 v hv
    ·rw[List.mem_singleton.1 hv];exact wo
   ·rw[hvs,List.length_append,List.length_singleton];omega
   ·rw[k4];rw[wn]at hc;rw[←hw]at hc;exact hc
  rw[if_neg k4]at hdo;by_cases k5:r.k=5
  ·rw[if_pos k5]at hdo;cases hdo;simp only[xb,mQ,Bool.and_eq_true]at hx;obtain⟨hx1,hx2⟩:=hx;have hx2:(mS d.ps ⟨(j:Int)+1,r.v,r.u⟩).2=0:=of_decide_eq_true hx2;have hadd:(mS d.ps ⟨(j:Int)+1,r.v,r.u⟩).1=d.ps++[⟨(j:Int)+1,r.v,r.u⟩]:=by
    revert hx2;unfold mS;split;·intro _;rfl
    ·intro h;cases h
   have hps:(nR (xb (mQ d r ((j:Int)+1) s)).1).ps=d.ps++[⟨(j:Int)+1,r.v,r.u⟩]:=hadd;refine⟨by omega,⟨hm.r,hm.n,hm.o,hm.lv,?_,?_,hm.e⟩,⟨by omega,by omega,Int.le_refl _,by omega,fun _=>⟨rfl,rfl⟩,by omega,ij g1 hn (by omega) rfl⟩⟩;·rw[hps,List.length_append,List.length_singleton];omega
   ·rw[hps];intro v hv;rcases List.mem_append.1 hv with hv|hv;·exact g6 v hv
    ·rw[List.mem_singleton.1 hv];obtain⟨_,_,_,_,h5,h6,_⟩:=hr;exact⟨⟨by show 0≤(j:Int)+1;omega,by show(j:Int)+1≤_;omega⟩,h6,h5⟩
  rw[if_neg k5]at hdo;by_cases k6:r.k=6
  ·rw[if_pos k6]at hdo;cases hdo;have hx:(mO d.ps r.v).2=0:=of_decide_eq_true hx;have hrem:(mO d.ps r.v).1=iE r.v d.ps:=by
    revert hx;unfold mO;split;·intro _;rfl
    ·intro h;cases h
   have hps:(nR (lr (mQ d r ((j:Int)+1) s)).1).ps=iE r.v d.ps:=hrem;have hsub:=FN r.v d.ps;refine⟨by omega,⟨hm.r,hm.n,hm.o,hm.lv,?_,?_,hm.e⟩,⟨by omega,by omega,Int.le_refl _,by omega,fun _=>⟨rfl,rfl⟩,by omega,ij g1 hn (by omega) rfl⟩⟩;·rw[hps];omega
   ·rw[hps];exact fun e he=>g6 e (hsub.2 e he)
  rw[if_neg k6]at hdo;by_cases k7:r.k=7;·rw[if_pos k7]at hdo;cases hdo;simp only[qV,mQ,Bool.and_eq_true,Bool.not_eq_true']at hx;obtain⟨⟨⟨hx1,hx2⟩,hx3⟩,hx4⟩:=hx;have hx3:d.l.p=r.p:=of_decide_eq_true hx3;have hx4:d.l.i=r.i:=of_decide_eq_true hx4;exact⟨by omega,⟨hm.r,hm.n,hm.o,hm.lv,hm.lp,hm.p,hm.e⟩,⟨by omega,fun _=>⟨hx2,hx3,hx4⟩,Int.le_refl _,fun _=>hx1,by omega,by omega,ij g1 hn (by omega) rfl⟩⟩
  rw[if_neg k7]at hdo;by_cases k8:r.k=8
  ·rw[if_pos k8]at hdo;cases hdo;refine⟨by omega,⟨xK g1 _,?_,BX g3 _,?_,?_,?_,hm.e⟩,⟨by omega,by omega,Int.le_refl _,by omega,fun _=>⟨rfl,rfl⟩,by omega,zQ g1 hn (by omega) rfl⟩⟩;·intro v hv;obtain⟨_,u,hu,rfl⟩:=nA g1 hv;have:=hm.n u hu;rw[M3];exact this
   ·have:=qz d.vs (kI ((cY d.ps r.c s).map Pn.v));show(cm d.vs (kI ((cY d.ps r.c s).map Pn.v))).length≤j+1;omega
   ·have:=List.length_filter_le (fun e=>!eJ r.c s e) d.ps;show(cY d.ps r.c s).length≤j+1;unfold cY;omega
   ·exact fun e he=>g6 e (List.mem_filter.1 he).1
  rw[if_neg k8]at hdo;cases hdo
def qD (r:Rc):List PV:=[.int .u8 r.k,.int .u64 r.p,.int .u64 r.i,.int .u64 r.s,.int .u64 r.e,.int .u64 r.u,.int .u64 r.v,.int .u64 r.c,.int .u64 r.z,.int .u64 r.m,.str r.n,.str r.t]
def iH (l:List Rc):List (List PV):=l.map qD
@[simp] theorem Hd (l:List Rc):(iH l).length=l.length:=by simp[iH]
theorem EJ {l:List Rc}{i:Nat} (h:i<l.length):rowAt (iH l) (i:Int)=[.int .u8 l[i].k,.int .u64 l[i].p,.int .u64 l[i].i,.int .u64 l[i].s,.int .u64 l[i].e,.int .u64 l[i].u,.int .u64 l[i].v,.int .u64 l[i].c,.int .u64 l[i].z,.int .u64 l[i].m,.str l[i].n,.str l[i].t]:=by simp[rowAt,iH,h,qD]
theorem Gn (l:List Rc) (s:Int) (hm:l.length≤maxLen) (hr:∀r∈l,rh r) (hs:bQ s):za Tryz.prog 24 [] [.pv (.ro (iH l)),.pv (.int .u64 s)] [] (.pv (.bool true)):=by
 refine aw (ag FJ (ag CX (ag Mh (ag A5 (ag Nk (ag zk ah)))))) (by kernel_rfl) (by conv=>lhs;reduce) (by simp) ?_;by_cases hl:(24:Int)<l.length;·simp(config := { maxSteps := 3000000 }) [hl]
 have hl':l.length≤24:=by omega
 apply af;·simp(config := { maxSteps := 3000000 }) [hl];exact⟨rfl,rfl⟩
 apply af;·simp(config := { maxSteps := 3000000 }) [hl];exact⟨rfl,rfl⟩
 apply af;·simp(config := { maxSteps := 3000000 }) [hl];exact⟨rfl,rfl⟩
 rw[bd]
 ·apply af;·simp(config := { maxSteps := 3000000 });exact⟨rfl,rfl⟩
  rw[aM];refine pn (fun x:Nat×Dc=>x.1≤l.length∧FI x.1 x.2) (fun x=>⟨[(0,.pv (.ro (iH l))),(1,.pv (.int .u64 s)),(4,.pv (.bool false)),(5,.ptr 5 0),(6,.pv (.int .i64 (x.1:Int)))],[(5,.box (cellsD x.2))]⟩) (fun x=>l.length-x.1) [] [999996,5000039,6000039] (0,⟨⟨0,0,0,0,false⟩,[],[],false⟩) ⟨by simp,FI.zero⟩ ?_ ?_;·simp[cellsD]
  ·rintro⟨j,d⟩ ⟨hj,hI⟩;have hj:j≤l.length:=hj;have hI:FI j d:=hI;have w2:IntKind.i64.wrap ((j:Int)+1)=(j:Int)+1:=wrap_i64 (by omega);have w3:IntKind.u64.wrap ((j:Int)+1)=(j:Int)+1:=wrap_u64 (by omega);rw[kG];dsimp only;by_cases hlt:j<l.length
   ·have hrj:=hr l[j] (List.getElem_mem hlt);have r1:=EJ hlt;generalize l[j]=r at*;have hok:=hI.ok hrj hs (by omega);have hF:=fun{a:Ap}{e:Int}=>FF (a:=a) (e:=e) hI hrj hs (by omega);apply af;·simp(config := { maxSteps := 3000000 }) [hlt];exact⟨rfl,rfl⟩
    obtain⟨k,rp,ri,rs,re,ru,rv,rc,rz,rm,rn,rt⟩:=r;obtain⟨⟨de,dp,di,du,dh⟩,dps,dvs,dsl⟩:=d;have hok:sT ⟨⟨de,dp,di,du,dh⟩,dps,dvs,dsl,⟨k,rp,ri,rs,re,ru,rv,rc,rz,rm,rn,rt⟩,(j:Int)+1,s⟩:=hok;rw[bd,aM];apply af;·simp(config := { maxSteps := 3000000 }) [hlt,r1];exact⟨rfl,rfl⟩
    rw[bd];cases hfr:xQ rn rt with|false=>
     apply af;·simp(config := { maxSteps := 3000000 }) [hfr];exact⟨rfl,rfl⟩
     apply gN rfl;simp(config := { maxSteps := 3000000 })|true=>
     apply af;·simp(config := { maxSteps := 3000000 }) [hfr];exact⟨rfl,rfl⟩
     apply jv rfl;rw[ly];apply af;·simp(config := { maxSteps := 3000000 }) [w2,w3];exact⟨rfl,rfl⟩
     have hFF:=hI.mono;have hlv:dvs.length≤24:=by have:=hI.lv;simp only at this;omega
     have hlp:dps.length≤24:=by have:=hI.lp;simp only at this;omega
     cases hA:aT ⟨⟨de,dp,di,du,dh⟩,dps,dvs,dsl,⟨k,rp,ri,rs,re,ru,rv,rc,rz,rm,rn,rt⟩,(j:Int)+1,s⟩ with|mk a e=>
     have hF:=hF hA;obtain⟨⟨xe,xp,xi,xu,xh⟩,xps,xvs,xsl,ar,an,asl⟩:=a;apply af;·simp(config := { maxSteps := 3000000 }) [hok,hA,cellsD,bn,aA,ax];exact⟨rfl,rfl⟩
     rw[bd];rcases hF with⟨rfl,hd⟩|⟨rfl,hk,hI',hS⟩
     ·simp only[nR,Dc.mk.injEq]at hd;obtain⟨hd1,hd2,hd3,hd4⟩:=hd;cases hd1;subst hd2 hd3 hd4;have l1:xps.length≤1000000000:=by omega
      have l2:xvs.length≤1000000000:=by omega
      apply af;·simp(config := { maxSteps := 3000000 });exact⟨rfl,rfl⟩
      apply gN rfl;rw[bd];apply af;·simp(config := { maxSteps := 3000000 }) [l1,l2];exact⟨rfl,rfl⟩
      apply jv rfl;simp(config := { maxSteps := 3000000 }) [w2,cellsD];exact⟨j+1,⟨⟨de,dp,di,du,dh⟩,xps,xvs,xsl⟩,⟨by omega,hFF⟩,⟨by omega,rfl,rfl,rfl,rfl,rfl,rfl,rfl,rfl⟩,by omega⟩
     ·obtain⟨g1,g2,g3',g4,g7,g5,g6'⟩:=hS;have hk2:k=1∨k=2∨k=3∨k=4∨k=5∨k=6∨k=7∨k=8:=hk;have hI2:FI (j+1) ⟨⟨xe,xp,xi,xu,xh⟩,xps,xvs,xsl⟩:=hI';clear hk hI';have g3:¬xe<de:=by have:de≤xe:=g3';omega
      have g6:vN ⟨⟨de,dp,di,du,dh⟩,dps,dvs,dsl⟩ ⟨⟨xe,xp,xi,xu,xh⟩,xps,xvs,xsl⟩ k rp ri rs rv ((j:Int)+1):=g6';clear g3' g6';have l1:dvs.length≤100000:=by omega
      have l2:xvs.length≤100000:=by have:xvs.length≤j+1:=hI2.lv;omega
      have oe:bQ xe:=hI2.e;unfold bQ at oe;apply af;·simp(config := { maxSteps := 3000000 });exact⟨rfl,rfl⟩
      apply jv rfl;rw[ly];clear hok hA hI hFF hfr r1;rcases hk2 with rfl|rfl|rfl|rfl|rfl|rfl|rfl|rfl;obtain⟨hx0,hm⟩:=g5 rfl;have hx:(⟨xe,xp,xi,xu,xh⟩:Ls)=⟨de+1,rp,ri,ru,true⟩:=hx0;clear hx0;have hs1:dsl=false:=g4 (by simp);cases hx;subst hs1;have hO:True:=trivial;have w4:IntKind.u64.wrap (de+1)=de+1:=wrap_u64 (by omega);rotate_left;iterate 3 have hs1:dsl=false:=g4 (by simp);have hO:=g1 (by simp);subst hs1;have w4:True:=trivial;rotate_left
      iterate 2 obtain⟨hs0,hx0⟩:=g7 (by simp);have hx:(⟨xe,xp,xi,xu,xh⟩:Ls)=⟨de,dp,di,du,dh⟩:=hx0;have hs1:xsl=dsl:=hs0;clear hs0 hx0;cases hx;subst hs1;have hO:True:=trivial;have w4:True:=trivial;clear g1 g2 g4 g5 g7;cases xsl;rotate_left;rotate_left
      have hs1:dsl=false:=g4 (by simp);obtain⟨h7',h8',h9'⟩:=g2 rfl;have h7:dh=true:=h7';have h8:dp=rp:=h8';have h9:di=ri:=h9';clear h7' h8' h9' g1 g2 g4 g5 g7;subst hs1 h7 h8 h9;have hO:True:=trivial;have w4:True:=trivial;rotate_left;obtain⟨hs0,hx0⟩:=g7 (by simp);have hx:(⟨xe,xp,xi,xu,xh⟩:Ls)=⟨de,dp,di,du,dh⟩:=hx0;have hs1:xsl=dsl:=hs0;clear hs0 hx0;cases hx;subst hs1;have hO:True:=trivial;have w4:True:=trivial;clear g1 g2 g4 g5 g7;cases xsl;all_goals
       apply af;·simp(config := { maxSteps := 3000000 }) [hO];exact⟨rfl,rfl⟩
       rw[bd];apply af;·simp(config := { maxSteps := 3000000 });exact⟨rfl,rfl⟩
       apply jv rfl;rw[ly,bd];apply af;·simp(config := { maxSteps := 3000000 }) [g3,w4];exact⟨rfl,rfl⟩
       apply jv rfl;rw[ly,bd];apply af;·simp(config := { maxSteps := 3000000 }) [l1,l2,g6];exact⟨rfl,rfl⟩
       apply jv rfl;rw[ly];simp(config := { maxSteps := 3000000 }) [w2,cellsD];exact⟨j+1,_,⟨by omega,hI2⟩,⟨by omega,rfl,rfl,rfl,rfl,rfl,rfl,rfl,rfl⟩,by omega⟩
   ·have hja:j=l.length:=by omega
    subst hja;simp(config := { maxSteps := 3000000 })
end Go.Proofs.YtlmkcmfmfahcfaaGreat.Ab
