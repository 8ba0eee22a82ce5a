/- Chapter 18: a state is read, by the program. -/
import Derived.Test.YtifcndkhigakfaaGreatY21
import Derived.Test.YtifcndkhigakfaaGreatY20
import Derived.Test.YtifcndkhigakfaaGreatY15
import Derived.Test.YtifcndkhigakfaaGreatY22
set_option linter.unusedVariables false
set_option linter.unusedSimpArgs false
set_option linter.unnecessarySimpa false
set_option maxHeartbeats 40000000
set_option maxRecDepth 100000
set_option linter.defProp false
namespace Go.Proofs.YtifcndkhigakfaaGreat.Ab
open Go Go.RowKit R
variable {n i:Nat}{ts:List (List UInt8)}{l:List Vn}{ch:Int}
def Q3 {B:List UInt8} (h1:(bJ B 0 3).2.2=0):∃c t n:Int,∃a:Nat,bJ B 0 3=([c,t,n],(a:Int),0)/\cg c/\cg t/\cg n/\a<=B.length:=by
 have hG:(aH B 3 0).2.2=0/\bJ B 0 3=aH B 3 0:=by
  unfold bJ at h1 |-;split at h1;·rename_i h2;exact absurd h1 h2
  ·rename_i h2;exact⟨h1,if_neg h2⟩
 obtain⟨g1,g2⟩:=hG;obtain⟨c,t,n,hx,o1,o2,o3⟩:=nU g1;obtain⟨_,_,i3,i4⟩:=im B 3 0 g1;have i4:=(i4 (by omega)).2;refine⟨c,t,n,(aH B 3 0).2.1.toNat,?_,o1,o2,o3,by omega⟩;rw[g2];exact Prod.ext hx (Prod.ext (by show _=((_:Nat):Int);rw[Int.toNat_of_nonneg (by omega)]) g1)
def IJ {b:List UInt8}{f:Nat}{n:Int}{p:Nat} (h:(aX b f n (p:Int)).2.2=0) (hp:p<=b.length):∃q:Nat,(aX b f n (p:Int)).2.1=(q:Int)/\q<=b.length:=by obtain⟨h1,h2⟩:=sd b f n p h (by omega);exact⟨(aX b f n (p:Int)).2.1.toNat,by omega,by omega⟩
def EB (b:List UInt8):(iX b).1.length<=b.length:=by
 obtain⟨a1,a2,a3,a4⟩:=BV b;unfold iX;split;·exact a2
 ·simp
def Bl:Option Sc->Sc×Int|none=>(zS,220)|some x=>if iW x.ws=true then(x,0) else(zS,220)
def H2 (b:List UInt8):sm b=if(iX b).2=false then(zS,220) else Bl (tG (iX b).1):=rfl
@[simp] noncomputable def O0:List AV->Option (Prop×AV)|[.pv (.ro b)]=>(dec dZ b).map fun l=>(l.length<=1000000,.aN [.agg (aZ (sm l).1),.pv (.int .i64 (sm l).2)])|_=>none
def Sj:aL Tryz.prog 12 O0:=by
 intro ys φ r h hφ;unfold O0 at h;split at h
 ·obtain⟨b,hb,h⟩:=q900.1 h;cases h;cases aK hb;have hl:b.length<=1000000:=hφ;have hW:=EB b;have h3:(3:Int).toNat=3:=rfl;refine aq (ag c_wh (ag uS (ag aae (ag QT (ag RP (ag Qq ah)))))) (by kernel_rfl) (by conv=>lhs;reduce) (by simp) ?_;rw[H2];apply ae;·simp;exact⟨rfl,rfl⟩
  apply ae;·simp[hl];exact⟨rfl,rfl⟩
  generalize iX b=W at*;obtain⟨B,ok⟩:=W;have hB:B.length<=1000000:=by have:B.length<=b.length:=hW;omega
  have l9:B.length<=1000000000:=by omega
  have l8:B.length<=100000000:=by omega
  dsimp only;apply ae;·simp[h3,l9,xw];exact⟨rfl,rfl⟩
  cases ok with|false=>rw[if_pos rfl];refine bB (fun _=>False) ?_ (fun _ h=>h.elim);simp[aZ,zS,BM]|true=>
   rw[if_neg (by simp)];by_cases he:(bJ B 0 3).2.2=0;rotate_left
   ·have hr:tG B=none:=by unfold tG;rw[if_pos he]
    rw[hr];refine bB (fun _=>False) ?_ (fun _ h=>h.elim);simp[he,Bl,aZ,zS,BM]
   obtain⟨c,t,n,a,hA,oc,ot,⟨on1,on2⟩,ha⟩:=Q3 he;have r0:rowAt (b6 [c,t,n]) 0=[.int .u64 c]:=rfl;have r1:rowAt (b6 [c,t,n]) 1=[.int .u64 t]:=rfl;have r2:rowAt (b6 [c,t,n]) 2=[.int .u64 n]:=rfl;have a0:(0:Int)<=(a:Int):=by omega
   have a1:(a:Int)<=B.length:=by omega
   have hR:tG B=if(aX B (B.length+1) n (a:Int)).2.2≠0 then none else Gg B c t (aX B (B.length+1) n (a:Int)).1 (aX B (B.length+1) n (a:Int)).2.1:=by unfold tG;rw[if_neg (by simp[he]),hA];rfl
   rw[hR];simp only[hA];apply ae;·simp;exact⟨rfl,rfl⟩
   apply ae;·simp[r0,r1];exact⟨rfl,rfl⟩
   have hq:=@IJ B (B.length+1) n a;have hv:=Dl B (B.length+1) n (a:Int);have hlen:=qf B (B.length+1) n (a:Int);replace hq:=fun h=>hq h ha;rw[bh];apply ae;·simp[l8,ha,on1,on2,r2,aV];exact⟨rfl,rfl⟩
   generalize aX B (B.length+1) n (a:Int)=T at*;obtain⟨ws,q',pe⟩:=T;generalize nD B (B.length+1) n (a:Int)=q1 at*;have hlen:ws.length<=B.length+1:=hlen;have hw9:ws.length<=1000000000:=by omega
   by_cases hpe:pe=0;rotate_left
   ·rw[if_pos hpe];apply ae;·simp[hpe];exact⟨rfl,rfl⟩
    apply cr rfl;rw[nY];refine bB (fun _=>False) ?_ (fun _ h=>h.elim);simp[hpe,Bl,aZ,zS,BM]
   subst hpe;obtain⟨q,rfl,hqB⟩:=hq rfl;obtain rfl:q1=(q:Int):=hv rfl;rw[if_neg (by simp)];have hcut:(List.take B.length (bytesRow B)).drop q=bytesRow (B.drop q):=by rw[List.take_of_length_le (by simp[bytesRow])];simp[bytesRow,q189]
   have hq0:(q:Int)<=B.length:=by omega
   apply ae;·simp;exact⟨rfl,rfl⟩
   apply cm rfl;have hdl:B.length<=1000000+q:=by omega
   have hdl8:B.length<=100000000+q:=by omega
   have hb1:(∀r∈bytesRow B,r.length=1)=True:=eq_true (bV B);unfold Gg;rw[q66];by_cases hc:c=0
   ·rw[if_pos hc];apply ae;·simp[hc];exact⟨rfl,rfl⟩
    apply cm rfl;apply Au;·simp[hcut,hdl8,hqB,hb1,aW];exact⟨rfl,rfl⟩
    generalize fc (B.drop q)=C at*;obtain⟨cs,ce⟩:=C;by_cases hce:ce=0;rotate_left;·rw[if_pos hce];refine bB (fun _=>False) ?_ (fun _ h=>h.elim);simp[hce,Bl,aZ,zS,BM]
    rw[if_neg (fun h=>h hce)];cases hr:iW ws with|false=>refine bB (fun _=>False) ?_ (fun _ h=>h.elim);simp[hce,hr,hw9,Bl,aZ,zS,BM]|true=>
     apply ae;·simp[hce,hr,hw9];exact⟨rfl,rfl⟩
     simp[hc,hr,Bl,aZ,BM]
   ·rw[if_neg hc];apply ae;·simp[hc];exact⟨rfl,rfl⟩
    apply cr rfl;apply Au;·simp[hcut,hdl,hqB,hb1,aV,aT];exact⟨rfl,rfl⟩
    have hpl:=D0 (B.drop q);rw[q88]at hpl;generalize eR (B.drop q)=C at*;obtain⟨⟨⟨e,p,i,u,h'⟩,ps,vs,sl⟩,ce⟩:=C;by_cases hce:ce=0;rotate_left;·rw[if_pos hce];refine bB (fun _=>False) ?_ (fun _ h=>h.elim);simp[hce,Bl,aZ,zS,BM]
    rw[if_neg (fun h=>h hce)];cases hr:iW ws with|false=>refine bB (fun _=>False) ?_ (fun _ h=>h.elim);simp[hce,hr,hw9,Bl,aZ,zS,BM]|true=>
     apply ae;·simp[hce,hr,hw9];exact⟨rfl,rfl⟩
     simp[hr,Bl,aZ]
 ·cases h
def M5 (x:Sc) (h:Ey x):(kz x).1.length<=66000:=by
 obtain⟨_,_,_,_,_,h⟩:=h;unfold kz at h |-;split;·exact q95 _
 ·rename_i h1;rw[if_neg h1]at h;have h:=h rfl;have h2:=AB 12 (eV x) h;show(mO 12 (eV x)).length<=_;omega
def NQ (x:Sc):Bool:=(x.cs.all fun e=>decide (e.n.length<=100))&&Hz x.d&&decide (x.cs.length<=20)&&decide (x.ws.length<=20)
@[simp] def GSpS (e1 e2 e3 e4:TypeId):List AV->Option (Prop×AV)|[.agg [.pv (.int .u64 c),.pv (.int .u64 t),.pv (.int .u64 e),.pv (.int .u64 p),.pv (.int .u64 i),.pv (.int .u64 u),.pv (.bool h),.fr x ra,.fr y rb,.pv (.bool sl),.fr z rc,.fr w rd]]=>if(x=e1/\y=e2)/\z=e3/\w=e4 then some ((ra.length<=1000000/\rb.length<=1000000/\(∀r∈ra,r.length=3)/\∀r∈rb,r.length=10)/\rc.length<=1000000/\rd.length<=1000000/\(∀r∈rc,r.length=2)/\∀r∈rd,r.length=3,.bI 0 [.aN []]) else none|_=>none
def Qd {a b:En}:a=b↔a.n=b.n/\a.i=b.i:=by cases a;cases b;simp
def Pd {a b:Pn}:a=b↔a.i=b.i/\a.v=b.v/\a.u=b.u:=by cases a;cases b;simp
@[simp] noncomputable def GSS:List AV->Option (Prop×AV)|[.agg xs,.agg ys]=>mG xs fun a=>mG ys fun b=>some ((a.d.ps.length<=1000000000/\a.d.vs.length<=1000000000)/\a.cs.length<=1000000000/\a.ws.length<=1000000000,.pv (.bool (decide (a=b))))|_=>none
def S7:kz (ef 5)=(r5,0)/\(eV (ef 5)).length<=65535:=by
 have hc:ec (ef 5)=(b5,0):=by unfold ec;rw[if_neg (by simp[ef]),if_pos (by simp[ef])];exact Fs
 have hb:eV (ef 5)=[5,0,0]++b5:=by unfold eV;rw[hc];show cW [5,0,0]++([]++b5)=_;rw[allL5];rfl
 refine⟨?_,by rw[hb];simp[b5]⟩;unfold kz;rw[hc,if_neg (by simp[ef,iW]),hb];simp[r5,pc]
@[simp] noncomputable def Ot:List AV->Option (Prop×AV)|[.agg ys]=>mG ys fun x=>some (x=ef 5,.aN [.pv (.ro (bytesRow r5)),.pv (.int .i64 0)])|_=>none
def SM:aL Tryz.prog 9 Ot:=by
 intro ys φ r h hφ;unfold Ot at h;split at h
 ·obtain⟨x,rfl,h2⟩:=eQ h;clear h;cases h2;have hx:x=ef 5:=hφ;subst hx;obtain⟨p1,p2⟩:=S7;have hG:Ju [.agg (aZ (ef 5))]=some (Ey (ef 5),.aN [.pv (.ro (bytesRow (kz (ef 5)).1)),.pv (.int .i64 (kz (ef 5)).2)]):=by simp[aZ,ef]
  rw[p1]at hG;exact Ke _ _ _ hG ⟨⟨Dm,by simp[ef],by simp[ef]⟩,by simp[ef,cg],by simp[ef,cg],by simp[ef],by simp[ef],fun _=>p2⟩
 ·cases h
def vI:∀{l:List Vn},(∀v∈l,kr v/\v.t.length<=100)->(cp l).length<=120*l.length|[],_=>by simp[cp]|n::l,hn=>by have a1:=gY (n:=n.n) ⟨(hn n (by simp)).1.1,(hn n (by simp)).1.2.1⟩;have a0:=(hn n (by simp)).2;have a2:=fp (n:=n.t.length) (by omega);have a3:=vI (l:=l) fun m hm=>hn m (by simp[hm]);unfold cp at a3 |-;simp only[q99,q65,q70,fh,cH]at a3 |-;omega
def L1 {d:Dc} (hf:Hz d=true) (hV:∀v∈d.vs,kr v) (hP:∀e∈d.ps,iV e) (he:cg d.l.e) (hp:cg d.l.p) (hi:cg d.l.i) (hu:cg d.l.u):xK d:=by
 simp only[Hz,q71,decide_eq_true_eq,q85]at hf;obtain⟨⟨h1,h2⟩,h3⟩:=hf;have h4:∀v∈d.vs,kr v/\v.t.length<=1000:=fun v hv=>⟨hV v hv,by have:=h1 v hv;omega⟩;refine⟨by omega,fun v hv=>⟨hV v hv,by have:=h1 v hv;omega⟩,by omega,hP,⟨he,hp,hi,hu⟩,?_⟩;have h6:=vI (l:=d.vs) fun v hv=>⟨hV v hv,h1 v hv⟩;unfold ei;split;·have h7:=gY (n:=(d.vs.length:Int)) ⟨by omega,by omega⟩;show(fV d.vs).length<=100000;unfold fV;rw[q65];omega
 ·exact q95 _
def I9 {x:Sc} (hf:NQ x=true) (hx:Pz x):Ey x:=by
 obtain⟨⟨ot,_,od⟩,oc,oe,ow⟩:=hx;obtain⟨_,oV,oP,o3,o4,o5,o6⟩:=od;simp only[NQ,q71,decide_eq_true_eq]at hf;obtain⟨⟨⟨f1,f2⟩,f3⟩,f4⟩:=hf;have okp:=L1 f2 oV oP o3 o4 o5 o6;refine⟨⟨okp,by omega,oe⟩,oc,ot,ow,by omega,fun _=>?_⟩;have a1:(cW [x.c,x.t,(x.ws.length:Int)]).length<=10*3:=nz (by
  intro n hn;simp only[q78,q102,or_false]at hn;rcases hn with rfl|rfl|rfl;·exact oc
  ·exact ot
  ·exact⟨by omega,by omega⟩);have a2:=lA ow;have a3:(ec x).1.length<=5000:=by
  unfold ec;split
  ·unfold jZ;split;·rename_i hr;have h1:=sX (l:=x.cs) fun e he=>⟨oe e he,qF hr e he⟩;have h2:=qg (n:=(x.cs.length:Int)) ⟨by omega,by omega⟩;show(bk _++fe _).length<=_;rw[q65];omega
   ·exact q95 _
  ·split
   ·simp only[Hz,q71,decide_eq_true_eq,q85]at f2;obtain⟨⟨g1,g2⟩,g3⟩:=f2;have h0:(ei x.d.vs).1.length<=2500:=by
     unfold ei;split;·have h6:=vI (l:=x.d.vs) fun v hv=>⟨oV v hv,g1 v hv⟩;have h7:=gY (n:=(x.d.vs.length:Int)) ⟨by omega,by omega⟩;show(bk _++cp _).length<=_;rw[q65];omega
     ·exact q95 _
    have h1:(cW [x.d.l.e,x.d.l.p,x.d.l.i,x.d.l.u,cA x.d.l.h,cA x.d.sl]).length<=60:=nz (Ex o3 o4 o5 o6);have h2:=lA oP;have h3:=CD (b:=(ei x.d.vs).1) (by omega);have h4:=gY (n:=(x.d.ps.length:Int)) ⟨by omega,by omega⟩;unfold ph;split;·exact q95 _
    ·show(cW [x.d.l.e,x.d.l.p,x.d.l.i,x.d.l.u,cA x.d.l.h,cA x.d.sl]++((bk _++bQ x.d.ps)++cH (ei x.d.vs).1)).length<=_;rw[q65,q65,q65];omega
   ·exact q95 _
 unfold eV;rw[q65,q65];omega
@[simp] noncomputable def GrDI:List AV->Option (Prop×AV)|[.agg ys,.pv (.ro ts)]=>pC ys fun d=>(dec kl ts).map fun ts=>(d.ps.length<=100000/\d.vs.length<=100000/\(∀v∈d.vs,kr v),.aN [.agg [.pv (.int .u64 (fX d ts).1.l.e),.pv (.int .u64 (fX d ts).1.l.p),.pv (.int .u64 (fX d ts).1.l.i),.pv (.int .u64 (fX d ts).1.l.u),.pv (.bool (fX d ts).1.l.h),.pv (.ro (ay (fX d ts).1.ps)),.pv (.ro (aI (fX d ts).1.vs)),.pv (.bool (fX d ts).1.sl)],.pv (.int .i64 (fX d ts).2)])|_=>none
@[simp] noncomputable def GEqE:List AV->Option (Prop×AV)|[.pv (.ro a),.pv (.ro b)]=>(dec fH a).bind fun la=>(dec fH b).map fun lb=>(la.length<=1000000000,.pv (.bool (decide (la=lb))))|_=>none
def abg:aL Tryz.prog 52 GEqE:=by
 intro ys φ r h hφ;unfold GEqE at h;split at h
 ·rename_i ra rb;obtain⟨a,ha,h⟩:=qB.1 h;obtain⟨b,hb,h⟩:=q900.1 h;cases h;cases bm ha;cases bm hb;have hl:a.length<=1000000000:=hφ;refine aq ah (by kernel_rfl) (by conv=>lhs;reduce) (by simp) ?_;by_cases hlen:a.length=b.length
  ·have hlen':(a.length:Int)=b.length:=by omega
   simp[hlen'];refine au (fun i:Nat=>i<=a.length/\a.take i=b.take i) (fun i=>⟨[(0,.pv (.ro (bg a))),(1,.pv (.ro (bg b))),(4,.pv (.bool false)),(12,.pv (.int .i64 a.length)),(13,.pv (.int .i64 i))],[]⟩) (fun i=>a.length-i) [] 0 (by simp) ?_ ?_;·simp[hlen]
   ·rintro i ⟨hi,ht⟩;have w2:IntKind.i64.wrap ((i:Int)+1)=(i:Int)+1:=wrap_i64 (by omega);by_cases hlt:i<a.length
    ·have r1:=fg hlt;have hlb:i<b.length:=by omega
     have r2:=fg hlb;by_cases he:a[i]=b[i];·obtain⟨f1,f2⟩:=Qd.1 he;simp[w2,hlt,hlb,r1,r2,f1,f2];refine⟨i+1,⟨by omega,?_⟩,by omega,by omega⟩;rw[q64 hlt,q64 hlb,ht,he]
     ·have hn:¬a=b:=fun e=>he (by subst e;rfl);have hf:¬(a[i].n=b[i].n/\a[i].i=b[i].i):=fun h=>he (Qd.2 h);simp[w2,hlt,hlb,r1,r2,hn,hf]
    ·simp[hlt];rw[List.take_of_length_le (by omega),List.take_of_length_le (by omega)]at ht;exact ht
  ·have hn:¬a=b:=fun e=>hlen (by rw[e]);have hlen':¬(a.length:Int)=b.length:=by omega
   simp[hlen',hn]
 ·cases h
@[simp] noncomputable def GEqW:List AV->Option (Prop×AV)|[.pv (.ro a),.pv (.ro b)]=>(dec rowP a).bind fun la=>(dec rowP b).map fun lb=>(la.length<=1000000000,.pv (.bool (decide (la=lb))))|_=>none
def SP:aL Tryz.prog 53 GEqW:=by
 intro ys φ r h hφ;unfold GEqW at h;split at h
 ·rename_i ra rb;obtain⟨a,ha,h⟩:=qB.1 h;obtain⟨b,hb,h⟩:=q900.1 h;cases h;cases aM ha;cases aM hb;have hl:a.length<=1000000000:=hφ;refine aq ah (by kernel_rfl) (by conv=>lhs;reduce) (by simp) ?_;by_cases hlen:a.length=b.length
  ·have hlen':(a.length:Int)=b.length:=by omega
   simp[hlen'];refine au (fun i:Nat=>i<=a.length/\a.take i=b.take i) (fun i=>⟨[(0,.pv (.ro (ay a))),(1,.pv (.ro (ay b))),(4,.pv (.bool false)),(12,.pv (.int .i64 a.length)),(13,.pv (.int .i64 i))],[]⟩) (fun i=>a.length-i) [] 0 (by simp) ?_ ?_;·simp[hlen]
   ·rintro i ⟨hi,ht⟩;have w2:IntKind.i64.wrap ((i:Int)+1)=(i:Int)+1:=wrap_i64 (by omega);by_cases hlt:i<a.length
    ·have r1:=dq hlt;have hlb:i<b.length:=by omega
     have r2:=dq hlb;by_cases he:a[i]=b[i];·obtain⟨f1,f2,f3⟩:=Pd.1 he;simp[w2,hlt,hlb,r1,r2,f1,f2,f3];refine⟨i+1,⟨by omega,?_⟩,by omega,by omega⟩;rw[q64 hlt,q64 hlb,ht,he]
     ·have hn:¬a=b:=fun e=>he (by subst e;rfl);have hf:¬(a[i].i=b[i].i/\a[i].v=b[i].v/\a[i].u=b[i].u):=fun h=>he (Pd.2 h);simp[w2,hlt,hlb,r1,r2,hn,hf]
    ·simp[hlt];rw[List.take_of_length_le (by omega),List.take_of_length_le (by omega)]at ht;exact ht
  ·have hn:¬a=b:=fun e=>hlen (by rw[e]);have hlen':¬(a.length:Int)=b.length:=by omega
   simp[hlen',hn]
 ·cases h
def c_sS:aL Tryz.prog 20 GSS:=by
 intro ys φ r h hφ;unfold GSS at h;split at h
 ·obtain⟨a,rfl,h1⟩:=eQ h;obtain⟨b,rfl,h2⟩:=eQ h1;clear h h1;cases h2;obtain⟨c,t,⟨⟨e,p,i,u,h'⟩,ps,vs,sl⟩,cs,ws⟩:=a;obtain⟨c2,t2,⟨⟨e2,p2,i2,u2,h2'⟩,ps2,vs2,sl2⟩,cs2,ws2⟩:=b;obtain⟨⟨l1,l2⟩,l3,l4⟩:=hφ;have l1:ps.length<=1000000000:=l1;have l2:vs.length<=1000000000:=l2;have l3:cs.length<=1000000000:=l3;have l4:ws.length<=1000000000:=l4;refine aq (ag c_SD (ag abg (ag SP ah))) (by kernel_rfl) (by conv=>lhs;reduce) (by simp) ?_;apply ae;·simp[aZ];exact⟨rfl,rfl⟩
  by_cases g1:c=c2
  ·by_cases g2:t=t2
   ·by_cases g3:(⟨⟨e,p,i,u,h'⟩,ps,vs,sl⟩:Dc)=⟨⟨e2,p2,i2,u2,h2'⟩,ps2,vs2,sl2⟩
    ·cases g3;subst g1 g2;by_cases g4:cs=cs2
     ·subst g4;by_cases g5:ws=ws2;·subst g5;simp[l1,l2,l3,l4,cellsD]
      ·simp[l1,l2,l3,l4,cellsD,g5]
     ·simp[l1,l2,l3,l4,cellsD,g4]
    ·have hne:¬((⟨c,t,⟨⟨e,p,i,u,h'⟩,ps,vs,sl⟩,cs,ws⟩:Sc)=⟨c2,t2,⟨⟨e2,p2,i2,u2,h2'⟩,ps2,vs2,sl2⟩,cs2,ws2⟩):=by intro hh;cases hh;exact g3 rfl
     rw[decide_eq_false hne];have g3':=decide_eq_false g3;simp[-decide_eq_false_iff_not,-Dc.mk.injEq,-Ls.mk.injEq,l1,l2,l3,l4,cellsD,g1,g2,g3',g3]
   ·have hne:¬((⟨c,t,⟨⟨e,p,i,u,h'⟩,ps,vs,sl⟩,cs,ws⟩:Sc)=⟨c2,t2,⟨⟨e2,p2,i2,u2,h2'⟩,ps2,vs2,sl2⟩,cs2,ws2⟩):=by intro hh;cases hh;exact g2 rfl
    rw[decide_eq_false hne];simp[g1,g2]
  ·have hne:¬((⟨c,t,⟨⟨e,p,i,u,h'⟩,ps,vs,sl⟩,cs,ws⟩:Sc)=⟨c2,t2,⟨⟨e2,p2,i2,u2,h2'⟩,ps2,vs2,sl2⟩,cs2,ws2⟩):=by intro hh;cases hh;exact g1 rfl
   rw[decide_eq_false hne];simp[g1]
 ·cases h
noncomputable def Jh (x:Sc) (ts:List (List UInt8)):Sc×Int:=if(fX x.d ts).2=0 then(⟨x.c,x.t,(fX x.d ts).1,x.cs,x.ws⟩,0) else(⟨0,0,⟨⟨0,0,0,0,false⟩,[],[],false⟩,[],[]⟩,(fX x.d ts).2)
@[simp] noncomputable def GSIn:List AV->Option (Prop×AV)|[.agg ys,.pv (.ro ts)]=>mG ys fun x=>(dec kl ts).map fun ts=>((x.d.ps.length<=100000/\x.d.vs.length<=100000)/\(x.cs.length<=100000/\x.ws.length<=100000)/\∀v∈x.d.vs,kr v,.aN [.agg (bA 177 132 86 84 (Jh x ts).1),.pv (.int .i64 (Jh x ts).2)])|_=>none
def c_SIn:aL Tryz.prog 23 GSIn:=by
 intro ys φ r h hφ;unfold GSIn at h;split at h
 ·obtain⟨x,rfl,h1⟩:=eQ h;clear h;obtain⟨ts,hts,h2⟩:=q900.1 h1;clear h1;cases h2;cases gD hts;obtain⟨c,t,⟨⟨e,p,i,u,h'⟩,ps,vs,sl⟩,cs,ws⟩:=x;obtain⟨⟨l1,l2⟩,⟨l3,l4⟩,o1⟩:=hφ;have l1:ps.length<=100000:=l1;have l2:vs.length<=100000:=l2;have l3:cs.length<=100000:=l3;have l4:ws.length<=100000:=l4;have o1:(∀v∈vs,kr v)=True:=eq_true o1;have i1:(Tryz.prog.info? 177).isSome=true:=by kernel_rfl
  have i2:(Tryz.prog.info? 132).isSome=true:=by kernel_rfl
  have i3:(Tryz.prog.info? 86).isSome=true:=by kernel_rfl
  have i4:(Tryz.prog.info? 84).isSome=true:=by kernel_rfl
  refine aq (ag c_DIn (ag Lp ah)) (by kernel_rfl) (by conv=>lhs;reduce) (by simp) ?_;apply ae;·simp[aZ];exact⟨rfl,rfl⟩
  unfold Jh;generalize hx:fX ⟨⟨e,p,i,u,h'⟩,ps,vs,sl⟩ ts=q;obtain⟨⟨⟨xe,xp,xi,xu,xh⟩,xps,xvs,xsl⟩,er⟩:=q;apply ae;·simp[l1,l2,o1,hx,aV,aT];exact⟨rfl,rfl⟩
  rw[bh];by_cases he:er=0
  ·apply ae;·simp[he];exact⟨rfl,rfl⟩
   apply cr rfl;apply ae;·simp[l1,l2,l3,l4,bA,aV,aT,aW];exact⟨rfl,rfl⟩
   apply ae;·simp;exact⟨rfl,rfl⟩
   simp[he,bA,aV,aT,aW]
  ·apply ae;·simp[he];exact⟨rfl,rfl⟩
   apply cm rfl;simp[he,bA,i1,i2,i3,i4]
 ·cases h
def vL  (h:i<(gF l ts).length):∃(h1:i<l.length) (h2:i<ts.length),(gF l ts)[i]=dD l[i].n ts[i]:=by unfold gF at h |-;rw[List.length_zipWith]at h;exact⟨by omega,by omega,by simp⟩
def qO {v:Vn} (h:v∈gF l ts):∃u∈l,∃t∈ts,v=dD u.n t:=by obtain⟨i,hi,rfl⟩:=q255.1 h;obtain⟨h1,h2,e⟩:=vL hi;exact⟨_,q84 h1,_,q84 h2,e⟩
def HU (hr:aS l=true) (ts:List (List UInt8)):aS (gF (aQ l) ts)=true/\jI (gF (aQ l) ts)=true:=by
 have hp:=q147.1 (NY hr);refine⟨sb ?_ ?_ ?_,?_⟩;·intro i j hij hj;obtain⟨a1,a2,a3⟩:=vL (i:=i) (l:=aQ l) (ts:=ts) (by omega);obtain⟨b1,b2,b3⟩:=vL hj;rw[a3,b3];exact hp i j a1 b1 hij
 ·intro v hv;obtain⟨u,hu,t,_,rfl⟩:=qO hv;obtain⟨i,hi,rfl⟩:=q255.1 (xP.1 hu).1;exact pW hr hi
 ·intro v hv hb;obtain⟨u,hu,t,_,rfl⟩:=qO hv;exact absurd rfl hb
 ·unfold jI;rw[q85];intro v hv;obtain⟨u,hu,t,_,rfl⟩:=qO hv;exact decide_eq_true rfl
def NT (x:Sc) (ts:List (List UInt8)):Sc:=⟨x.c,x.t,⟨x.d.l,x.d.ps,gF (aQ x.d.vs) ts,x.d.sl⟩,x.cs,x.ws⟩
def SI.inl {x:Sc} (h:SI ch n x) (ht:ts.length=(aQ x.d.vs).length) (h2:∀t∈ts,t.length<=100):Jh x ts=(NT x ts,0)/\SI ch n (NT x ts)/\jI (NT x ts).d.vs=true:=by
 obtain⟨f,dm⟩:=h.JP;have hi:fX x.d ts=(⟨x.d.l,x.d.ps,gF (aQ x.d.vs) ts,x.d.sl⟩,0):=by
  have hv:bX x.d.vs ts=(gF (aQ x.d.vs) ts,0):=by unfold bX;rw[if_neg (by simp[f.r,ht])]
  unfold fX;rw[hv];rfl
 obtain⟨r1,r2⟩:=HU f.r ts;refine⟨?_,⟨h.c,h.t,h.rs,h.lw,h.ow,?_,?_⟩,r2⟩;·unfold Jh;rw[hi];rfl
 ·intro hc;obtain⟨c1,c2,c3,c4⟩:=h.cat hc;refine⟨?_,c2,c3,c4⟩;show(⟨x.d.l,x.d.ps,gF (aQ x.d.vs) ts,x.d.sl⟩:Dc)=BM;rw[c1];rfl
 ·intro hc;obtain⟨c1,c2,c3⟩:=h.doc hc;have il:=MG c2 c3 h2;rw[hi]at il;obtain⟨i1,i2,i3,i4,i5,i6⟩:=il;refine⟨c1,⟨r1,?_,i4,i3,i2,i5,i6,c2.ri,c2.pi⟩,i1⟩;intro v hv;obtain⟨u,hu,t,_,rfl⟩:=qO hv;exact c2.n u (xP.1 hu).1
def SI.few {x:Sc} (h:SI ch n x) (hn:n<=20):NQ x=true:=by
 obtain⟨⟨l1,l2⟩,l3,l4⟩:=h.len;obtain⟨f,dm⟩:=h.JP;have hcs:∀e∈x.cs,e.n.length<=100:=by
  by_cases hc:x.c=0;·obtain⟨c1,c2,c3,c4⟩:=h.cat hc;intro e he;have:=qF c2 e he;omega
  ·rw[(h.doc hc).1];simp
 simp only[NQ,Hz,q71,decide_eq_true_eq,q85];exact⟨⟨⟨hcs,⟨⟨dm.t,by omega⟩,by omega⟩⟩,by omega⟩,by omega⟩
def SI.okW {x:Sc} (h:SI ch n x) (hn:n<=20) (hch:cg ch):Pz x:=by
 obtain⟨⟨l1,l2⟩,l3,l4⟩:=h.len;obtain⟨f,dm⟩:=h.JP;have hcs:∀e∈x.cs,E4 e:=by
  by_cases hc:x.c=0;·exact(h.cat hc).2.2.1
  ·rw[(h.doc hc).1];simp
 have hm:20<=maxLen:=by rw[aF];omega
 exact⟨⟨by rw[h.t];exact⟨by omega,by omega⟩,by omega,by omega,f.o,f.p,f.e,dm.p,dm.i,dm.u⟩,by rw[h.c];exact hch,hcs,h.ow⟩
def SI.Wj {x:Sc} (h:SI ch n x) (hp:jI x.d.vs=true):(ec x).2=0:=by
 unfold ec;by_cases hc:x.c=0;·obtain⟨c1,c2,c3,c4⟩:=h.cat hc;rw[if_pos ⟨hc,c1⟩];unfold jZ;rw[if_pos c2]
 ·obtain⟨c1,c2,c3⟩:=h.doc hc;rw[if_neg (fun h=>hc h.1),if_pos ⟨hc,c1⟩];unfold ph;have:(ei x.d.vs).2=0:=by unfold ei;rw[if_pos ⟨c2.r,hp⟩]
  rw[if_neg (by simp[this,c2.ri])]
def HB {y:Sc} (ok:Ey y) (hc:(ec y).2=0) (hl:(eV y).length<=65535):tG (eV y)=some y:=by
 obtain⟨⟨okD,oc1,oc2⟩,oc,ot,ow,ol,_⟩:=ok;have hB:(eV y).drop 0=cW [y.c,y.t,(y.ws.length:Int)]++(bQ y.ws++(ec y).1):=rfl;have h3:∀n∈([y.c,y.t,(y.ws.length:Int)]:List Int),cg n:=by
  intro n hn;simp only[q78,q102,or_false]at hn;rcases hn with rfl|rfl|rfl;·exact oc
  ·exact ot
  ·exact⟨by omega,by omega⟩
 have hA:=mb [y.c,y.t,(y.ws.length:Int)] 0 _ hB h3;have hA:aH (eV y) 3 ((0:Nat):Int)=([y.c,y.t,(y.ws.length:Int)],((0+(cW [y.c,y.t,(y.ws.length:Int)]).length:Nat):Int),0):=hA;rw[q126,show((0:Nat):Int)=0 from rfl]at hA;have hA:bJ (eV y) 0 3=([y.c,y.t,(y.ws.length:Int)],((cW [y.c,y.t,(y.ws.length:Int)]).length:Int),0):=by unfold bJ;rw[if_neg (by rw[hA];simp),hA]
 have hd1:(eV y).drop (cW [y.c,y.t,(y.ws.length:Int)]).length=bQ y.ws++(ec y).1:=by unfold eV;rw[q106]
 have hpp:=sP y.ws;have hlen:(eV y).length=(cW [y.c,y.t,(y.ws.length:Int)]).length+((bQ y.ws).length+(ec y).1.length):=by unfold eV;simp
 have hP:=qw y.ws ((eV y).length+1) _ _ (by omega) hd1 ow;have hd2:(eV y).drop ((cW [y.c,y.t,(y.ws.length:Int)]).length+(bQ y.ws).length)=(ec y).1:=by rw[<-q115,hd1,q106]
 unfold tG;rw[hA];dsimp only;rw[if_neg (by simp)];rw[show[y.c,y.t,(y.ws.length:Int)].getD 2 0=(y.ws.length:Int) from rfl,show[y.c,y.t,(y.ws.length:Int)].getD 0 0=y.c from rfl,show[y.c,y.t,(y.ws.length:Int)].getD 1 0=y.t from rfl];rw[hP];dsimp only;rw[if_neg (by simp)];unfold Gg;rw[q66,hd2];obtain⟨c,t,d,cs,ws⟩:=y;have oc1:cs.length<=1000000:=oc1;by_cases h0:c=0
 ·rw[if_pos h0];by_cases hdn:d=BM
  ·have e:ec ⟨c,t,d,cs,ws⟩=jZ cs:=by unfold ec;rw[if_pos ⟨h0,hdn⟩]
   rw[e]at hc |-;have hr:aP cs=true:=by
    unfold jZ at hc;split at hc;·assumption
    ·cases hc
   have e2:jZ cs=(vh cs,0):=by unfold jZ;rw[if_pos hr]
   rw[e2];dsimp only;rw[H3 hr oc2 (by omega)];dsimp only;rw[if_neg (by simp),hdn]
  ·have e:ec ⟨c,t,d,cs,ws⟩=([],2):=by unfold ec;rw[if_neg (fun h=>hdn h.2),if_neg (fun h=>h.1 h0)]
   rw[e]at hc;cases hc
 ·rw[if_neg h0];by_cases hcs:cs=[]
  ·have e:ec ⟨c,t,d,cs,ws⟩=ph d:=by unfold ec;rw[if_neg (fun h=>h0 h.1),if_pos ⟨h0,hcs⟩]
   rw[e]at hc |-;rw[D8 hc okD];dsimp only;rw[if_neg (by simp),hcs]
  ·have e:ec ⟨c,t,d,cs,ws⟩=([],2):=by unfold ec;rw[if_neg (fun h=>h0 h.1),if_neg (fun h=>hcs h.2)]
   rw[e]at hc;cases hc
def FD {y:Sc} (ok:Ey y) (h:(kz y).2=0):sm (kz y).1=(y,0):=by
 have hlen:=ok.2.2.2.2.2 h;have hcr:¬((ec y).2≠0\/iW y.ws=false):=fun hh=>by unfold kz at h;rw[if_pos hh]at h;cases h
 have hc:(ec y).2=0:=q280 fun hh=>hcr (.inl hh);have hr:iW y.ws=true:=by cases hh:iW y.ws with|true=>rfl|false=>exact absurd (.inr hh) hcr
 have hput:kz y=(mO 12 (eV y),0):=by unfold kz;rw[if_neg hcr]
 have hT:=JM (k:=12) hlen;have hok:EM [(⟨12,eV y⟩:Fm)]=true:=vJ.2 fun i hi=>by
  have hi0:i=0:=by simpa using hi
  subst hi0;exact⟨rfl,fun h=>by simp at h,fun h=>by omega⟩
 have hW:iX (mO 12 (eV y))=(eV y,true):=by unfold iX;rw[hT];dsimp only;rw[if_pos hok,Cs];simp
 rw[hput];unfold sm;rw[hW];dsimp only;rw[if_neg (by simp),HB ok hc hlen];dsimp only;rw[if_pos hr]
def sA2:Sc:=⟨0,1,⟨⟨0,0,0,0,false⟩,[],[],false⟩,[⟨[97],1⟩],[⟨1,1,1⟩]⟩
def Rl:Sc:=⟨0,2,⟨⟨0,0,0,0,false⟩,[],[],false⟩,[⟨[97],1⟩,⟨[98],2⟩],[⟨1,1,2⟩]⟩
def aA2:fF ⟨0,0,⟨⟨0,0,0,0,false⟩,[],[],false⟩,[],[]⟩ ⟨9,1,1,1,0,0,0,0,0,0,[97],[]⟩ 0=(sA2,0):=by kernel_rfl
def aB2:fF sA2 ⟨9,1,1,2,0,0,0,0,0,0,[98],[]⟩ 0=(Rl,0):=by kernel_rfl
def aC2:fF Rl ⟨9,1,1,2,0,0,0,0,0,0,[99],[]⟩ 0=(Rl,220):=by kernel_rfl
def aD2:fF Rl ⟨7,1,1,3,0,0,0,0,0,0,[],[]⟩ 0=(Rl,220):=by kernel_rfl
def qB2:lK Rl.ws 1 1=(2,true):=by kernel_rfl
def oS02:uJ ⟨0,0,⟨⟨0,0,0,0,false⟩,[],[],false⟩,[],[]⟩ ⟨9,1,1,1,0,0,0,0,0,0,[97],[]⟩ 0:=by simp[uJ,cg]
def oSA2:uJ ⟨0,1,⟨⟨0,0,0,0,false⟩,[],[],false⟩,[⟨[97],1⟩],[⟨1,1,1⟩]⟩ ⟨9,1,1,2,0,0,0,0,0,0,[98],[]⟩ 0:=by simp[uJ,cg]
def oSB2 (r:Rc) (h:r.c=0) (h2:r.v=0):uJ ⟨0,2,⟨⟨0,0,0,0,false⟩,[],[],false⟩,[⟨[97],1⟩,⟨[98],2⟩],[⟨1,1,2⟩]⟩ r 0:=by simp[uJ,cg,h,h2]
def Kt:rowAt (bg [⟨[97],1⟩,⟨[98],2⟩]) 0=[.str [97],.int .u64 1]:=rfl
def KY:rowAt (bg [⟨[97],1⟩,⟨[98],2⟩]) 1=[.str [98],.int .u64 2]:=rfl
def f122:dec oU [[.int .u8 12,.ro [[.int .u8 5],[.int .u8 0],[.int .u8 0],[.int .u8 0],[.int .u8 0],[.int .u8 0],[.int .u8 0],[.int .u8 0],[.int .u8 0],[.int .u8 0],[.int .u8 1],[.int .u8 0]]]]=some [⟨12,[5,0,0]++b5⟩]:=by
 have e:[[PV.int .u8 12,.ro [[.int .u8 5],[.int .u8 0],[.int .u8 0],[.int .u8 0],[.int .u8 0],[.int .u8 0],[.int .u8 0],[.int .u8 0],[.int .u8 0],[.int .u8 0],[.int .u8 1],[.int .u8 0]]]]=gu [⟨12,[5,0,0]++b5⟩]:=by kernel_rfl
 rw[e];exact sy _
def Mh:(pc [⟨12,[5,0,0,0,0,0,0,0,0,0,1,0]⟩]).length<=1000000000:=by have:=uY 12 [5,0,0,0,0,0,0,0,0,0,1,0] (by decide);simp only[pc,mO,fZ,q99,q244,q130,q65,q70,q91]at this |-;omega
@[simp] noncomputable def Qy:List AV->Option (Prop×AV)|[]=>some (True,.pv (.bool true))|_=>none
def Ue:aL Tryz.prog 8 Qy:=by
 intro ys φ r h hφ;unfold Qy at h;split at h
 ·cases h;have kA:=aA2;have kB:=aB2;have kC:=aC2;have kD:=aD2;have kQ:=qB2;unfold sA2 at kA kB;unfold Rl at kB kC kD kQ;have kD2:=oSB2 ⟨7,1,1,3,0,0,0,0,0,0,[],[]⟩ rfl rfl;have kC2:=oSB2 ⟨9,1,1,2,0,0,0,0,0,0,[99],[]⟩ rfl rfl;refine aq (ag c_Bl (ag PH (ag PG (ag SM (ag c_rfP (ag Na ah)))))) (by kernel_rfl) (by conv=>lhs;reduce) (by simp) ?_;apply ae;·simp;exact⟨rfl,rfl⟩
  apply ae;·simp[kA,oS02,bA,fN,aV,aT,aW];exact⟨rfl,rfl⟩
  apply ae;·simp[kB,oSA2,bA,fN,aV,aT,aW];exact⟨rfl,rfl⟩
  apply ae;·simp[kC,kC2,bA,fN,aV,aT,aW];exact⟨rfl,rfl⟩
  apply ae;·simp[kD,kD2,bA,fN,aV,aT,aW];exact⟨rfl,rfl⟩
  apply ae;·simp[kQ];exact⟨rfl,rfl⟩
  apply ae;·simp[ef];exact⟨rfl,rfl⟩
  apply ae;·simp[f122,b5];exact⟨rfl,rfl⟩
  apply ae
  ·refine(show dj _ _ _ _ _ from ?_);apply jJ 12 rfl rfl;·simp[Kt,KY,aW];exact⟨rfl,rfl⟩
   apply jJ 12 rfl rfl;·simp[Kt,KY,aW];exact⟨rfl,rfl⟩
   apply jJ 10 rfl rfl;·simp[Kt,KY,aW];exact⟨rfl,rfl⟩
   apply jJ 8 rfl rfl;·simp[Kt,KY,aW];exact⟨rfl,rfl⟩
   apply jJ 8 rfl rfl;·simp[Kt,KY,aW];exact⟨rfl,rfl⟩
   simp[r5,b5];exact⟨Mh,rfl,rfl⟩
  simp;simp[pc]
 ·cases h
def fD (l:List Rc):List (List PV):=l.map np
@[simp] def LN (l:List Rc):(fD l).length=l.length:=by simp[fD]
def zJ {l:List Rc} (h:i<l.length):rowAt (fD l) (i:Int)=np l[i]:=by simp[rowAt,fD,h]
def Gt (m i:Nat):List (List UInt8):=(List.range m).map fun k=>if k<i then[UInt8.ofNat k,120] else[]
def lL (m i:Nat):(Gt m i).length=m:=by simp[Gt]
def c_stG (ch:Int) (l:List Rc) (s:Int) (hch:cg ch) (hm:l.length<=maxLen) (hr:∀r∈l,yf r) (hs:cg s):yA Tryz.prog 5 [] [.pv (.int .u64 ch),.pv (.ro (fD l)),.pv (.int .u64 s)] [] (.pv (.bool true)):=by
 refine aq (ag Ue (ag c_Bl (ag Rd (ag PH (ag c_sS (ag PG (ag vZ (ag c_SIn (ag Ke (ag Sj ah)))))))))) (by kernel_rfl) (by conv=>lhs;reduce) (by simp) ?_;apply ae;·simp;exact⟨rfl,rfl⟩
 by_cases hl:(20:Int)<l.length;·refine bB (fun _=>False) ?_ (fun _ h=>h.elim);simp[hl]
 have hl':l.length<=20:=by omega
 apply ae;·simp[hl];exact⟨rfl,rfl⟩
 apply ae;·simp;exact⟨rfl,rfl⟩
 refine bB (fun st'=>∃n x,n<=20/\SI ch n x/\st'=⟨look [(0,.ak),(1,.pv (.ro (fD l))),(2,.pv (.int .u64 s)),(6,.pv (.bool false)),(7,.ptr 7 0),(8,.pv (.int .i64 l.length)),(9,.ak),(10,.ak),(11,.ak),(12,.ak),(13,.ak),(14,.ak),(15,.ak),(16,.ak),(17,.ak),(18,.ak),(19,.ak),(20,.ak),(21,.ak),(22,.ak),(23,.ak),(24,.ak),(25,.ak),(26,.ak),(27,.ak),(30,.ak),(37,.pv (.bool false)),(45,.ak),(58,.ak),(66,.ak),(123,.ak),(134,.ak),(151,.ak),(173,.ak),(177,.ak),(208,.ak)],ab [(7,.box (aZ x))]⟩) ?_ ?_
 ·apply ae;·simp;exact⟨rfl,rfl⟩
  rw[aR];refine Am (fun y:Nat×Nat×Sc=>y.1<=l.length/\y.2.1<=y.1/\SI ch y.2.1 y.2.2) (fun y=>⟨[(1,.pv (.ro (fD l))),(2,.pv (.int .u64 s)),(6,.pv (.bool false)),(7,.ptr 7 0),(8,.pv (.int .i64 (y.1:Int)))],[(7,.box (aZ y.2.2))]⟩) (fun y=>l.length-y.1) [] [999996,7000054,8000054,10000054,11000054] (0,0,⟨ch,0,BM,[],[]⟩) ⟨by simp,by simp,SI.zero ch⟩ ?_ ?_;·simp[aZ,BM]
  ·rintro⟨j,n,x⟩ ⟨hj,hn,hI⟩;have hj:j<=l.length:=hj;have hn:n<=j:=hn;have hI:SI ch n x:=hI;have w2:IntKind.i64.wrap ((j:Int)+1)=(j:Int)+1:=wrap_i64 (by omega);rw[ke];try dsimp only
   by_cases hlt:j<l.length
   ·have hrj:=hr l[j] (q84 hlt);have r1:=zJ hlt;generalize l[j]=r at*;have hok:uJ x r s=True:=eq_true (hI.ok hrj hs (by omega));have hst:=hI.step hrj hs (by omega);have hlen:=hI.len;apply ae;·simp[hlt];exact⟨rfl,rfl⟩
    obtain⟨k,rp,ri,rs,re,ru,rv,rc,rz,rm,rn,rt⟩:=r;obtain⟨c,t,⟨⟨de,dp,di,du,dh⟩,ps,vs,sl⟩,cs,ws⟩:=x;rw[bh,aR,bh];cases hfr:FH rn rt with
    |false=>
     apply ae;·simp[hlt,r1,hfr,np];exact⟨rfl,rfl⟩
     apply cm rfl;simp|true=>
     apply ae;·simp[hlt,r1,hfr,np];exact⟨rfl,rfl⟩
     apply cr rfl;rw[nY];generalize hA:fF ⟨c,t,⟨⟨de,dp,di,du,dh⟩,ps,vs,sl⟩,cs,ws⟩ ⟨k,rp,ri,rs,re,ru,rv,rc,rz,rm,rn,rt⟩ s=q at*;obtain⟨⟨xc,xt,⟨⟨xe,xp,xi,xu,xh⟩,xps,xvs,xsl⟩,xcs,xws⟩,e⟩:=q;apply ae;·simp[hlt,r1,np,hok,hA,aZ,bA,aV,aT,aW];exact⟨rfl,rfl⟩
     obtain⟨⟨l1,l2⟩,l3,l4⟩:=hlen;have l1:ps.length<=n:=l1;have l2:vs.length<=n:=l2;have l3:cs.length<=n:=l3;have l4:ws.length<=n:=l4;have m1:ps.length<=1000000000:=by omega
     have m2:vs.length<=1000000000:=by omega
     have m3:cs.length<=1000000000:=by omega
     have m4:ws.length<=1000000000:=by omega
     rcases hst with⟨he,hx⟩|⟨he,ht,hsq,hsl,hI'⟩
     ·have he:e=220:=he;have hx:(⟨xc,xt,⟨⟨xe,xp,xi,xu,xh⟩,xps,xvs,xsl⟩,xcs,xws⟩:Sc)=⟨c,t,⟨⟨de,dp,di,du,dh⟩,ps,vs,sl⟩,cs,ws⟩:=hx;cases hx;subst he;rw[bh];apply ae;·simp;exact⟨rfl,rfl⟩
      apply cm rfl;rw[bh];apply ae;·simp[m1,m2,m3,m4,aV,aT,aW];exact⟨rfl,rfl⟩
      apply cr rfl;simp[w2,aZ];exact⟨j+1,n,⟨c,t,⟨⟨de,dp,di,du,dh⟩,ps,vs,sl⟩,cs,ws⟩,⟨by omega,by omega,hI⟩,⟨by omega,rfl,rfl,rfl,rfl,rfl,rfl,rfl,rfl,rfl,rfl,rfl,rfl⟩,by omega⟩
     ·have he:e=0:=he;subst he;rw[bh];apply ae;·simp;exact⟨rfl,rfl⟩
      apply cr rfl;rw[nY];have n4:xws.length<=1000000000:=by have:xws.length<=n+1:=hI'.lw;omega
      generalize hq:lK ws rp ri=q at*;obtain⟨q1,q2⟩:=q;have hsq:lK xws rp ri=(rs,true):=hsq;apply ae;·simp[hlt,r1,np,m4,hq];exact⟨rfl,rfl⟩
      apply ae;·simp[hlt,r1,np,n4,hsq,aV,aT,aW];exact⟨rfl,rfl⟩
      have ht:xt=t+1:=ht;have htn:t=n:=hI.t;have wt:IntKind.u64.wrap (t+1)=t+1:=wrap_u64 (by omega);subst ht;have hle:q2=true->¬rs<=q1:=fun h=>by have:q1<rs:=hsl h;omega
      cases q2;all_goals
       rw[bh];apply ae;·simp[hlt,r1,np,wt,hle];exact⟨rfl,rfl⟩
       apply cr rfl;rw[nY];simp[w2,aZ];exact⟨j+1,n+1,⟨xc,t+1,⟨⟨xe,xp,xi,xu,xh⟩,xps,xvs,xsl⟩,xcs,xws⟩,⟨by omega,by omega,hI'⟩,⟨by omega,rfl,rfl,rfl,rfl,rfl,rfl,rfl,rfl,rfl,rfl,rfl,rfl⟩,by omega⟩
   ·have hke:j=l.length:=by omega
    subst hke;simp;exact⟨n,by omega,x,hI,rfl⟩
 rintro _ ⟨n,x,hn,hI,rfl⟩;obtain⟨⟨l1,l2⟩,l3,l4⟩:=hI.len;have hdoc:=hI.JP.1;have hsl:=gp x.d.vs;apply ae;·simp[aZ,aT];exact⟨by omega,⟨by omega,by omega⟩,rfl,rfl⟩
 generalize hmm:(aQ x.d.vs).length=m at*;refine bB (fun st'=>st'=⟨look [(0,.ak),(1,.pv (.ro (fD l))),(2,.pv (.int .u64 s)),(6,.pv (.bool false)),(7,.ptr 7 0),(8,.ak),(9,.ak),(10,.ak),(11,.ak),(12,.ak),(13,.ak),(14,.ak),(15,.own 130),(16,.pv (.int .i64 (m:Int))),(17,.ak),(18,.ak),(19,.ak),(20,.ak),(21,.ak),(22,.ak),(23,.ak),(24,.ak),(25,.ak),(26,.ak),(27,.ak),(30,.ak),(37,.ak),(45,.ak),(58,.ak),(66,.ak),(123,.ak),(134,.pv (.bool false)),(151,.ak),(173,.ak),(177,.ak),(208,.ak)],ab [(7,.box (aZ x)),(130,.arr 9 (fG (Gt m m)))]⟩) ?_ ?_
 ·apply ae;·simp;exact⟨rfl,rfl⟩
  rw[aR];refine au (fun i:Nat=>i<=m) (fun i=>⟨[(1,.pv (.ro (fD l))),(2,.pv (.int .u64 s)),(6,.pv (.bool false)),(7,.ptr 7 0),(15,.own 130),(16,.pv (.int .i64 (i:Int)))],[(7,.box (aZ x)),(130,.arr 9 (fG (Gt m i)))]⟩) (fun i=>m-i) [] 0 (by simp) ?_ ?_
  ·simp[aZ];apply q224;·simp[lL]
   ·intro k h1 h2;simp[fG,Gt,kl,si]
  ·intro i hi;have w2:IntKind.i64.wrap ((i:Int)+1)=(i:Int)+1:=wrap_i64 (by omega);have w8:IntKind.u8.wrap (i:Int)=(i:Int):=by rw[wrap_u8];omega
   rw[ke];try dsimp only
   by_cases hlt:i<m
   ·have hb2:bytesOf [[PV.int .u8 (i:Int)],[.int .u8 120]]=some [UInt8.ofNat i,120]:=by
     have:[[PV.int .u8 (i:Int)],[.int .u8 120]]=bytesRow [UInt8.ofNat i,120]:=by simp[bytesRow];omega
     rw[this];exact dH _
    have hset:(fG (Gt m i)).set i [.str [UInt8.ofNat i,120]]=fG (Gt m (i+1)):=by
     apply q224;·simp[lL]
     ·intro k h1 h2;rw[q287];simp only[q291,yE,lL]at h1;by_cases hk:i=k;·subst hk;simp[fG,Gt,kl]
      ·have:(k<i)=(k<i+1):=propext (by omega);simp[fG,Gt,kl,hk,this]
    have r1:=tj (l:=Gt m i) (i:=i) (by rw[lL];exact hlt);simp[hlt,w2,w8,lL,hb2,r1,hset,aZ];exact⟨i+1,by omega,⟨by omega,rfl⟩,by omega⟩
   ·have hke:i=m:=by omega
    subst hke;simp[lL]
 rintro _ rfl;have hm1:(∀t∈Gt m m,t.length<=100):=by intro t ht;unfold Gt at ht;obtain⟨k,_,rfl⟩:=q83.1 ht;split<;>simp
 obtain⟨e1,hI2,hpl⟩:=hI.inl (ts:=Gt m m) (by rw[lL,hmm]) hm1;have c1:x.d.ps.length<=100000:=by omega
 have c2:x.d.vs.length<=100000:=by omega
 have c3:x.cs.length<=100000:=by omega
 have c4:x.ws.length<=100000:=by omega
 have cV:(∀v∈x.d.vs,kr v)=True:=eq_true hdoc.o;obtain⟨c,t,⟨⟨de,dp,di,du,dh⟩,ps,vs,sl⟩,cs,ws⟩:=x;generalize hY:NT ⟨c,t,⟨⟨de,dp,di,du,dh⟩,ps,vs,sl⟩,cs,ws⟩ (Gt m m)=y at*;obtain⟨yc,yt,⟨⟨ye,yp,yi,yu,yh⟩,yps,yvs,ysl⟩,ycs,yws⟩:=y;apply ae;·simp[aZ,c1,c2,c3,c4,cV,e1,bA,aV,aT,aW];exact⟨rfl,rfl⟩
 have LK:=I9 (hI2.few hn) (hI2.okW hn hch);have hcon:=hI2.Wj hpl;have hput:(kz ⟨yc,yt,⟨⟨ye,yp,yi,yu,yh⟩,yps,yvs,ysl⟩,ycs,yws⟩).2=0:=by
  unfold kz;rw[if_neg];rintro(h|h);·exact h hcon
  ·rw[hI2.rs]at h;cases h
 have hpar:=FD LK hput;have hple:=M5 _ LK;have okT:Ey ⟨yc,yt,⟨⟨ye,yp,yi,yu,yh⟩,yps,yvs,ysl⟩,ycs,yws⟩=True:=eq_true LK;apply ae
 ·apply ae;·simp;exact⟨rfl,rfl⟩
  apply cr rfl;simp;exact⟨rfl,rfl⟩
 apply ae;·simp[okT,aV,aT,aW];exact⟨rfl,rfl⟩
 generalize kz ⟨yc,yt,⟨⟨ye,yp,yi,yu,yh⟩,yps,yvs,ysl⟩,ycs,yws⟩=P at*;obtain⟨pb,pe⟩:=P;have hput:pe=0:=hput;subst hput;have hpar:sm pb=(⟨yc,yt,⟨⟨ye,yp,yi,yu,yh⟩,yps,yvs,ysl⟩,ycs,yws⟩,0):=hpar;have hpb:pb.length<=1000000:=by have:pb.length<=66000:=hple;omega
 apply ae;·simp[hpb,hpar,aZ];exact⟨rfl,rfl⟩
 obtain⟨⟨k1,k2⟩,k3,k4⟩:=hI2.len;have k1:yps.length<=n:=k1;have k2:yvs.length<=n:=k2;have k3:ycs.length<=n:=k3;have k4:yws.length<=n:=k4;have m1:yps.length<=1000000000:=by omega
 have m2:yvs.length<=1000000000:=by omega
 have m3:ycs.length<=1000000000:=by omega
 have m4:yws.length<=1000000000:=by omega
 apply ae
 ·apply ae;·simp[m1,m2,m3,m4,aV,aT,aW];exact⟨rfl,rfl⟩
  apply cr rfl;simp;exact⟨rfl,rfl⟩
 refine bB (fun st'=>st'=⟨look [(0,.ak),(1,.pv (.ro (fD l))),(2,.pv (.int .u64 s)),(6,.pv (.bool false)),(7,.ak),(8,.ak),(9,.ak),(10,.ak),(11,.ak),(12,.ak),(13,.ak),(14,.ak),(15,.ak),(16,.ak),(17,.ptr 17 0),(18,.ak),(19,.ak),(20,.ak),(21,.ptr 21 0),(22,.ak),(23,.pv (.int .i64 l.length)),(24,.ak),(25,.ak),(26,.ak),(27,.ak),(30,.ak),(37,.ak),(45,.ak),(58,.ak),(66,.ak),(123,.ak),(134,.ak),(151,.ak),(173,.ak),(177,.pv (.bool false)),(208,.ak)],ab [(17,.box (aZ ⟨yc,yt,⟨⟨ye,yp,yi,yu,yh⟩,yps,yvs,ysl⟩,ycs,yws⟩)),(21,.box (aZ ⟨yc,yt,⟨⟨ye,yp,yi,yu,yh⟩,yps,yvs,ysl⟩,ycs,yws⟩))]⟩) ?_ ?_
 ·apply ae;·simp;exact⟨rfl,rfl⟩
  rw[aR];refine au (fun j:Nat=>j<=l.length) (fun j=>⟨[(1,.pv (.ro (fD l))),(2,.pv (.int .u64 s)),(6,.pv (.bool false)),(17,.ptr 17 0),(21,.ptr 21 0),(23,.pv (.int .i64 (j:Int)))],[(17,.box (aZ ⟨yc,yt,⟨⟨ye,yp,yi,yu,yh⟩,yps,yvs,ysl⟩,ycs,yws⟩)),(21,.box (aZ ⟨yc,yt,⟨⟨ye,yp,yi,yu,yh⟩,yps,yvs,ysl⟩,ycs,yws⟩))]⟩) (fun j=>l.length-j) [] 0 (by simp) ?_ ?_;·simp[aZ]
  ·intro j hj;have w2:IntKind.i64.wrap ((j:Int)+1)=(j:Int)+1:=wrap_i64 (by omega);rw[ke];try dsimp only
   by_cases hlt:j<l.length
   ·have hrj:=hr l[j] (q84 hlt);have r1:=zJ hlt;generalize l[j]=r at*;have hok:uJ ⟨yc,yt,⟨⟨ye,yp,yi,yu,yh⟩,yps,yvs,ysl⟩,ycs,yws⟩ r s=True:=eq_true (hI2.ok hrj hs (by omega));have hst:=hI2.step hrj hs (by omega);obtain⟨k,rp,ri,rs,re,ru,rv,rc,rz,rm,rn,rt⟩:=r;generalize hA:fF ⟨yc,yt,⟨⟨ye,yp,yi,yu,yh⟩,yps,yvs,ysl⟩,ycs,yws⟩ ⟨k,rp,ri,rs,re,ru,rv,rc,rz,rm,rn,rt⟩ s=q at*;obtain⟨⟨xc,xt,⟨⟨xe,xp,xi,xu,xh⟩,xps,xvs,xsl⟩,xcs,xws⟩,e⟩:=q;have hlx:(xps.length<=n+1/\xvs.length<=n+1)/\xcs.length<=n+1/\xws.length<=n+1:=by
     rcases hst with⟨_,hx⟩|⟨_,_,_,_,hx⟩;·have hx:(⟨xc,xt,⟨⟨xe,xp,xi,xu,xh⟩,xps,xvs,xsl⟩,xcs,xws⟩:Sc)=⟨yc,yt,⟨⟨ye,yp,yi,yu,yh⟩,yps,yvs,ysl⟩,ycs,yws⟩:=hx;cases hx;exact⟨⟨by omega,by omega⟩,by omega,by omega⟩
     ·exact hx.len
    clear hst;obtain⟨⟨b1,b2⟩,b3,b4⟩:=hlx;have b1:xps.length<=1000000000:=by omega
    have b2:xvs.length<=1000000000:=by omega
    have b3:xcs.length<=1000000000:=by omega
    have b4:xws.length<=1000000000:=by omega
    apply ae;·simp[hlt];exact⟨rfl,rfl⟩
    rw[bh,aR];apply ae;·simp[hlt,r1,np,hok,hA,aZ,bA,aV,aT,aW];exact⟨rfl,rfl⟩
    apply ae;·simp[hlt,r1,np,hok,hA,aZ,bA,aV,aT,aW];exact⟨rfl,rfl⟩
    apply ae;·simp[b1,b2,b3,b4,aV,aT,aW];exact⟨rfl,rfl⟩
    apply cr rfl;simp[w2,aZ];exact⟨j+1,by omega,by omega,by omega⟩
   ·have hke:j=l.length:=by omega
    subst hke;simp
 rintro _ rfl;simp
def zy {n:Nat}:∀{rows:List (List PV)},(∀r∈rows,sa Tryz.prog (n+2) 71 r)->∃l,rows=fD l/\∀e∈l,yf e
 |[],_=>⟨[],rfl,fun e he=>by cases he⟩|r::rows,h=>by
  obtain⟨c,rfl,hc,_⟩:=Ma (h r (by simp));obtain⟨l,rfl,hl⟩:=zy (rows:=rows) fun r hr=>h r (by simp[hr]);refine⟨c::l,rfl,fun e he=>?_⟩;rcases q78.1 he with rfl|he;·exact hc
  ·exact hl e he
def J7 {row:List PV} (h:sa Tryz.prog (n+3) 67 row):∃l,row=[.ro (fD l)]/\l.length<=maxLen/\∀e∈l,yf e:=by unfold sa at h;rw[Tryz.underlying67]at h;obtain⟨rows,rfl,hm,h⟩:=h;obtain⟨l,rfl,hl⟩:=zy h;exact⟨l,rfl,by simpa using hm,hl⟩
def MC:uG Tryz.prog 67=false:=by unfold uG;rw[Tryz.underlying67]
def N9:ij Tryz.prog 5 67=true:=by kernel_rfl
def NH:Tryz.prog.readableRec 67=true:=by kernel_rfl
def Ka:ij Tryz.prog 5 22=true:=by kernel_rfl
def Ry (ch:Int) (l:List Rc) (s:Int) (hch:cg ch) (h:l.length<=maxLen/\∀r∈l,yf r) (hs:cg s):yA Tryz.prog 5 [] [.pv (.int .u64 ch),.pv (.ro (fD l)),.pv (.int .u64 s)] [] (.pv (.bool true)):=c_stG ch l s hch h.1 h.2 hs
end Go.Proofs.YtifcndkhigakfaaGreat.Ab
