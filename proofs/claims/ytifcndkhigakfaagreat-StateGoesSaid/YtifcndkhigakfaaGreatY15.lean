/- Chapter 16: documents as the reference has them; what is the same; small functions of the law. -/
import Derived.Test.YtifcndkhigakfaaGreatY12
import Derived.Test.YtifcndkhigakfaaGreatY13
import Derived.Test.YtifcndkhigakfaaGreatY14
import Derived.ProofKit
import Derived.Below
import Derived.ChangeSame
import Derived.Carry
import Derived.Deep.Slices
import Derived.Deep.Fields
import Derived.Test.YtifcndkhigakfaaGreatRows
set_option linter.unusedVariables false
set_option linter.unusedSimpArgs false
set_option linter.unnecessarySimpa false
set_option maxHeartbeats 40000000
set_option maxRecDepth 100000
set_option linter.defProp false
namespace Go.Proofs.YtifcndkhigakfaaGreat.Ab
open Go Go.RowKit
def q147:=@List.pairwise_iff_getElem
def q236:=@List.drop_zero
def q272:=@World.cells?_some
def q278:=@Classical.byContradiction
end Go.Proofs.YtifcndkhigakfaaGreat.Ab
namespace Go.Proofs.YtifcndkhigakfaaGreat.Ab
open Go Go.RowKit R
structure Dc where
 l:Ls
 ps:List Pn
 vs:List Vn
 sl:Bool deriving DecidableEq
def cellsD (d:Dc):List AV:=[.pv (.int .u64 d.l.e),.pv (.int .u64 d.l.p),.pv (.int .u64 d.l.i),.pv (.int .u64 d.l.u),.pv (.bool d.l.h),.pv (.ro (ay d.ps)),.pv (.ro (aI d.vs)),.pv (.bool d.sl)]
noncomputable def pC (ys:List AV) (K:Dc->Option (Prop×AV)):Option (Prop×AV):=match ys with|[.pv (.int .u64 e),.pv (.int .u64 p),.pv (.int .u64 i),.pv (.int .u64 u),.pv (.bool h),.pv (.ro a),.pv (.ro b),.pv (.bool sl)]=>(dec rowP a).bind fun ps=>(dec dt b).bind fun vs=>K ⟨⟨e,p,i,u,h⟩,ps,vs,sl⟩|_=>none
@[simp] def withD_eq (e p i u:Int) (h sl:Bool) (a b:List (List PV)) (K:Dc->Option (Prop×AV)):pC [.pv (.int .u64 e),.pv (.int .u64 p),.pv (.int .u64 i),.pv (.int .u64 u),.pv (.bool h),.pv (.ro a),.pv (.ro b),.pv (.bool sl)] K=(dec rowP a).bind fun ps=>(dec dt b).bind fun vs=>K ⟨⟨e,p,i,u,h⟩,ps,vs,sl⟩:=rfl
def oD {ys:List AV}{K:Dc->Option (Prop×AV)}{x:Prop×AV} (h:pC ys K=some x):∃d,ys=cellsD d/\K d=some x:=by
 unfold pC at h;split at h;·obtain⟨ps,hp,h1⟩:=qB.1 h;obtain⟨vs,hv,h2⟩:=qB.1 h1;rw[aM hp,aJ hv];exact⟨_,rfl,h2⟩
 ·cases h
@[simp] noncomputable def GdP:List AV->Option (Prop×AV)|[.agg [.pv (.ro a)]]=>(dec rowP a).map fun l=>(l.length<=100000,.fr 205 (ay l))|_=>none
@[simp] noncomputable def GdV:List AV->Option (Prop×AV)|[.pv (.ro a)]=>(dec dt a).map fun l=>(l.length<=100000,.fr 156 (aI l))|_=>none
@[simp] noncomputable def GdD:List AV->Option (Prop×AV)|[.agg ys]=>pC ys fun d=>some (d.ps.length<=100000/\d.vs.length<=100000,.agg [.pv (.int .u64 d.l.e),.pv (.int .u64 d.l.p),.pv (.int .u64 d.l.i),.pv (.int .u64 d.l.u),.pv (.bool d.l.h),.fr 205 (ay d.ps),.fr 156 (aI d.vs),.pv (.bool d.sl)])|_=>none
noncomputable def fX (d:Dc) (ts:List (List UInt8)):Dc×Int:=if(bX d.vs ts).2=0 then(⟨d.l,d.ps,(bX d.vs ts).1,d.sl⟩,0) else(⟨⟨0,0,0,0,false⟩,[],[],false⟩,(bX d.vs ts).2)
@[simp] noncomputable def GDIn (e1 e2:TypeId):List AV->Option (Prop×AV)|[.agg ys,.pv (.ro ts)]=>pC ys fun d=>(dec kl ts).map fun ts=>(d.ps.length<=100000/\d.vs.length<=100000/\(∀v∈d.vs,kr v),.aN [.agg [.pv (.int .u64 (fX d ts).1.l.e),.pv (.int .u64 (fX d ts).1.l.p),.pv (.int .u64 (fX d ts).1.l.i),.pv (.int .u64 (fX d ts).1.l.u),.pv (.bool (fX d ts).1.l.h),.fr e1 (ay (fX d ts).1.ps),.fr e2 (aI (fX d ts).1.vs),.pv (.bool (fX d ts).1.sl)],.pv (.int .i64 (fX d ts).2)])|_=>none
def c_DIn:aL Tryz.prog 54 (GDIn 177 132):=by
 intro ys φ r h hφ;unfold GDIn at h;split at h
 ·obtain⟨d,hd,h2⟩:=oD h;subst hd;clear h;obtain⟨ts,hts,h3⟩:=q900.1 h2;clear h2;cases h3;cases gD hts;obtain⟨h1,h2,h3⟩:=hφ;have h4:(∀v∈d.vs,kr v)=True:=eq_true h3;have hi1:(Tryz.prog.info? 177).isSome=true:=by kernel_rfl
  have hi2:(Tryz.prog.info? 132).isSome=true:=by kernel_rfl
  refine aq (ag c_Inl (ag P4 ah)) (by kernel_rfl) (by conv=>lhs;reduce) (by simp) ?_;apply ae;·simp[cellsD];exact⟨rfl,rfl⟩
  apply ae;·simp[h2,h4];exact⟨rfl,rfl⟩
  unfold fX;generalize bX d.vs ts=x;obtain⟨x,e⟩:=x;by_cases he:e=0
  ·subst he;apply ae;·simp;exact⟨rfl,rfl⟩
   apply ae;·simp[h1,h2];exact⟨rfl,rfl⟩
   apply ae;·simp;exact⟨rfl,rfl⟩
   simp
  ·simp[he,hi1,hi2]
 ·cases h
def pow7 (i:Nat):2^(7*(i+1))=128*2^(7*i):=by rw[q229,q242];omega
def Er (rest:List UInt8):∀(N n i acc:Nat),n<=N->n*2^(7*i)<2^64->i<=9->(0<n\/i=0)->bW (bj n++rest) i acc=(acc+n*2^(7*i),i+(bj n).length,0):=by intro N;induction N with
 |zero=>
  intro n i acc hN h1 h2 h3;have:n=0:=by omega
  subst this;have:i=0:=by omega
  subst this;rw[cy (by omega)];simp[bW]|succ N ih=>
  intro n i acc hN h1 h2 h3;by_cases hs:n<128
  ·rw[cy hs];have hc:n.toUInt8.toNat=n:=by simp;omega
   simp only[q215,bW,hc];have hno:¬((i=9/\1<n)\/(n=0/\0<i)):=by
    rintro(⟨rfl,h⟩|⟨h,h'⟩);·omega
    ·omega
   rw[if_neg hno,if_pos hs,q109 hs];rfl
  ·rw[fW hs];have hc:(n%128+128).toUInt8.toNat=n%128+128:=by simp;omega
   simp only[q137,bW,hc];have hi9:¬i=9:=by rintro rfl;omega
   have hno:¬((i=9/\1<n%128+128)\/(n%128+128=0/\0<i)):=by
    rintro(⟨h,_⟩|⟨h,_⟩);·exact hi9 h
    ·omega
   have hp:=pow7 i;have hd:n=n%128+128*(n/128):=by omega
   have hm:n*2^(7*i)=n%128*2^(7*i)+n/128*2^(7*(i+1)):=by rw[hp];calc n*2^(7*i)=(n%128+128*(n/128))*2^(7*i):=by rw[<-hd]
    _=n%128*2^(7*i)+n/128*(128*2^(7*i)):=by rw[q151,q168 128 (n/128),Nat.mul_assoc]
   rw[if_neg hno,if_neg (by omega),show(n%128+128)%128=n%128 from by omega];rw[ih (n/128) (i+1) _ (by omega) (by omega) (by omega) (.inl (by omega))];simp only[q70,q69,and_true];omega
def H4 (n:Nat) (rest:List UInt8) (h:n<2^64):bW (bj n++rest) 0 0=(n,(bj n).length,0):=by have:=Er rest n n 0 0 (q92 _) (by simpa using h) (by omega) (.inr rfl);simpa using this
def zB:∀(l pre:List UInt8),(∀x∈pre,128<=x.toNat)->(bW l pre.length (val pre)).2.2=0->(pre++l).take (bW l pre.length (val pre)).2.1=bj (bW l pre.length (val pre)).1
 |[],pre,_,h=>by simp[bW]at h|c::l,pre,hp,h=>by
  unfold bW at h |-;split at h;·cases h
  ·rename_i h0;rw[if_neg h0];by_cases hs:c.toNat<128
   ·rw[if_pos hs];dsimp only;rw[<-qR,vo pre c hp hs];·rw[show pre++c::l=(pre++[c])++l from by simp,show pre.length+1=(pre++[c]).length from by simp,q138]
    ·by_cases hc:c.toNat=0;·right;have:¬0<pre.length:=fun hh=>h0 (.inr ⟨hc,hh⟩);exact q76 (by omega)
     ·exact .inl hc
   ·rw[if_neg hs]at h |-;have e1:pre.length+1=(pre++[c]).length:=by simp
    rw[<-qR,e1]at h |-;have:=zB l (pre++[c]) (by
     intro x hx;rcases q75.1 hx with hx|hx;·exact hp x hx
     ·simp only[q73]at hx;subst hx;omega) h;rw[q77,q215]at this;exact this
def JE {l:List UInt8} (h:(bW l 0 0).2.2=0):l.take (bW l 0 0).2.1=bj (bW l 0 0).1:=zB l [] (by simp) h
def fQ (n:Nat):0<(bj n).length:=by
 by_cases h:n<128;·rw[cy h];simp
 ·rw[fW h];simp
def nZ {b r:List UInt8}{p:Nat} (h:b.drop p=r) (hr:0<r.length):p<b.length/\b.length=p+r.length:=by have:=congrArg List.length h;simp at this;omega
def fm {b:List UInt8}{p n:Nat}{r:List UInt8} (h:b.drop p=bj n++r) (hn:n<2^64):ai b p=((n:Int),(p:Int)+((bj n).length:Int),0):=by have hp:=fQ n;have hl:=(nZ h (by simp;omega)).1;unfold ai;rw[if_neg (by omega),q66,h,H4 n r hn]
def nT {b:List UInt8}{p:Nat}{s r:List UInt8} (h:b.drop p=cH s++r) (hs:s.length<2^64):az b p=(s,(p:Int)+((cH s).length:Int),0):=by
 unfold cH at h |-;rw[q77]at h;have hL:=fm h hs;have hp:=fQ s.length;have hl:=(nZ h (by simp;omega)).2;simp only[q65]at hl;have hd:b.drop (p+(bj s.length).length)=s++r:=by rw[<-q115,h,q106]
 unfold az;rw[hL,if_neg (by simp),if_neg (by dsimp only;omega)];dsimp only;rw[show((p:Int)+((bj s.length).length:Int)).toNat=p+(bj s.length).length from by omega,hd,q66,q138];simp only[q65,q69,true_and,and_true];omega
def nh {b:List UInt8}{p:Int} (h:(ai b p).2.2=0):∃q m:Nat,p=(q:Int)/\(ai b p).1=(m:Int)/\m<2^64/\(ai b p).2.1=((q+(bj m).length:Nat):Int)/\∃r,b.drop q=bj m++r:=by
 have hok:=cJ b p;obtain⟨h1,h2,h3,_⟩:=hok;obtain⟨a1,a2,a3⟩:=h1 h;have hT:ai b p=(((bW (b.drop p.toNat) 0 0).1:Int),p+((bW (b.drop p.toNat) 0 0).2.1:Int),(bW (b.drop p.toNat) 0 0).2.2):=by unfold ai;rw[if_neg (by omega)]
 rw[hT]at h a2 a3 h2 h3 |-;dsimp only at h a2 a3 h2 h3 |-;have hi:=JE h;have hb:(bW (b.drop p.toNat) 0 0).2.1<=(b.drop p.toNat).length:=by simp;omega
 refine⟨p.toNat,(bW (b.drop p.toNat) 0 0).1,by omega,rfl,by omega,?_,(b.drop p.toNat).drop (bW (b.drop p.toNat) 0 0).2.1,?_⟩;·rw[<-hi,q68,q103 hb];omega
 ·rw[<-hi,q127]
def jC (v:Vn):Bool:=decide (v=dD v.n v.t)
def jI (l:List Vn):Bool:=l.all jC
def vD (l:List Vn):Int:=if jI l=true then-1 else(l.findIdx (fun v=>!jC v):Int)
@[simp] def Godd:List AV->Option (Prop×AV)|[.agg [.pv (.int .u64 n),.pv (.int .u64 b),.pv (.int .u64 p),.pv (.int .u64 i),.pv (.int .u64 s),.pv (.int .u64 z),.pv (.int .u64 m),.pv (.str t),.pv (.bool inl),.pv (.bool ej)]]=>some (True,.pv (.bool (!jC ⟨n,b,p,i,s,z,m,t,inl,ej⟩)))|_=>none
def c_odd:aL Tryz.prog 151 Godd:=by
 intro ys φ r h hφ;unfold Godd at h;split at h;·rename_i n b p i s z m t inl ej;cases h;have he:=Kb ⟨n,b,p,i,s,z,m,t,inl,ej⟩ (dD n t);simp only[dD]at he;have hp:jC ⟨n,b,p,i,s,z,m,t,inl,ej⟩=decide ((⟨n,b,p,i,s,z,m,t,inl,ej⟩:Vn)=⟨n,0,0,0,0,0,0,t,true,false⟩):=rfl;refine aq (ag Gk ah) (by kernel_rfl) (by conv=>lhs;reduce) (by simp) ?_;simp[hp]
 ·cases h
def Gl:gz Tryz.prog 151=true:=by kernel_rfl
@[simp] noncomputable def abj:List AV->Option (Prop×AV)|[.pv (.ro a),.bI f []]=>if f=151 then(dec dt a).map fun l=>(l.length<=1000000000,.pv (.int .i64 (vD l))) else none|_=>none
def c_ixO:aL Tryz.prog 197 abj:=by
 intro ys φ r h hφ;unfold abj at h;split at h
 ·rename_i ra f;split at h
  ·rename_i hf;subst hf;obtain⟨a,ha,h⟩:=q900.1 h;cases h;cases aJ ha;refine aq (ag c_odd ah) (by kernel_rfl) (by conv=>lhs;reduce) (by simp) ?_;simp;refine au (fun i:Nat=>i<=a.length/\∀v∈a.take i,jC v=true) (fun i=>⟨[(0,.pv (.ro (aI a))),(1,.bI 151 []),(7,.pv (.int .i64 a.length)),(8,.pv (.int .i64 i))],[]⟩) (fun i=>a.length-i) [] 0 (by simp) ?_ ?_;·simp
   ·rintro i ⟨hi,ht⟩;have w2:IntKind.i64.wrap ((i:Int)+1)=(i:Int)+1:=wrap_i64 (by omega);by_cases hlt:i<a.length;·have r1:=b8 hlt;have he:(⟨a[i].n,a[i].b,a[i].p,a[i].i,a[i].s,a[i].z,a[i].m,a[i].t,a[i].inl,a[i].ej⟩:Vn)=a[i]:=rfl;cases hp:jC a[i]with
     |true=>
      simp[w2,hlt,r1,Gl,he,hp];refine⟨i+1,⟨by omega,fun v hv=>?_⟩,by omega,by omega⟩;rw[q64 hlt,q75]at hv;rcases hv with hv|hv;·exact ht v hv
      ·rw[q73]at hv;rw[hv];exact hp|false=>
      have hall:jI a=false:=by unfold jI;rw[List.all_eq_false];exact⟨a[i],q84 hlt,by simp[hp]⟩
      have hfi:a.findIdx (fun v=>!jC v)=i:=by
       rw[q173 hlt];refine⟨by simp[hp],fun j hj=>?_⟩;have:a[j]∈a.take i:=by rw[q90];exact⟨j,by omega,rfl⟩
       simp[ht _ this]
      have hox:vD a=i:=by unfold vD;rw[hall,if_neg (by simp),hfi]
      simp[w2,hlt,r1,Gl,he,hp,hox]
    ·rw[List.take_of_length_le (by omega)]at ht;have hall:jI a=true:=by unfold jI;rw[q85];exact ht
     have hox:vD a=-1:=by unfold vD;rw[hall,if_pos rfl]
     simp[hlt,hox]
  ·cases h
 ·cases h
@[simp] noncomputable def GcfO:List AV->Option (Prop×AV)|[.pv (.ro a),.bI f []]=>if f=151 then(dec dt a).map fun l=>(l.length<=1000000000,.pv (.bool (!jI l))) else none|_=>none
def Zf:aL Tryz.prog 152 GcfO:=by
 intro ys φ r h hφ;unfold GcfO at h;split at h
 ·rename_i ra f;split at h
  ·rename_i hf;subst hf;obtain⟨a,ha,h⟩:=q900.1 h;cases h;cases aJ ha;refine aq (ag c_ixO ah) (by kernel_rfl) (by conv=>lhs;reduce) (by simp) ?_;have hq:decide (0<=vD a)=!jI a:=by unfold vD;cases hall:jI a<;>simp
   simp[hφ,hq]
  ·cases h
 ·cases h
def fh (v:Vn):List UInt8:=bk v.n++cH v.t
def cp (l:List Vn):List UInt8:=l.flatMap fh
def fV (l:List Vn):List UInt8:=bk l.length++cp l
def ei (l:List Vn):List UInt8×Int:=if aS l=true/\jI l=true then(fV l,0) else([],2)
def gY {n:Int} (h:0<=n/\n<=18446744073709551615):(bk n).length<=10:=fp (by omega)
def zE {v:Vn} (h:kr v) (ht:v.t.length<=1000000):(fh v).length<=1000020:=by have h1:=gY (n:=v.n) ⟨h.1,h.2.1⟩;have h2:=fp (n:=v.t.length) (by omega);simp only[fh,cH,q65];omega
def xY:∀{l:List Vn},(∀v∈l,kr v/\v.t.length<=1000000)->(cp l).length<=1000020*l.length|[],_=>by simp[cp]|n::l,h=>by have h1:=zE (h n (by simp)).1 (h n (by simp)).2;have h2:=xY (l:=l) fun m hm=>h m (by simp[hm]);unfold cp at h2 |-;simp only[q99,q65,q70];omega
def CW (l:List Vn) (e:Vn):cp (l++[e])=cp l++fh e:=by simp[cp]
@[simp] noncomputable def Qt:List AV->Option (Prop×AV)|[.pv (.ro a)]=>(dec dt a).map fun l=>(l.length<=1000/\(∀v∈l,kr v/\v.t.length<=1000000),.aN [.fr 5 (bytesRow (ei l).1),.pv (.int .i64 (ei l).2)])|_=>none
def QS:aL Tryz.prog 108 Qt:=by
 intro ys φ r h hφ;unfold Qt at h;split at h
 ·rename_i ra;obtain⟨a,ha,h⟩:=q900.1 h;cases h;cases aJ ha;obtain⟨hl,hn⟩:=hφ;refine aq (ag IC (ag Zf (ag zL (ag Fy ah)))) (by kernel_rfl) (by conv=>lhs;reduce) (by simp) ?_;have hl9:a.length<=1000000000:=by omega
  cases hr:aS a with
  |false=>
   have hp:ei a=([],2):=by simp[ei,hr]
   simp[hl9,hr,hp]|true=>cases hall:jI a with
  |false=>
   have hp:ei a=([],2):=by simp[ei,hall]
   simp[hl9,hr,hall,hp]|true=>
  have hp:ei a=(fV a,0):=by simp[ei,hr,hall]
  have wl:IntKind.u64.wrap (a.length:Int)=(a.length:Int):=wrap_u64 (by omega);have l0:(0:Int)<=(a.length:Int):=by omega
  have l1:(a.length:Int)<=18446744073709551615:=by omega
  have hv:=gY (n:=(a.length:Int)) ⟨by omega,by omega⟩;simp[wl,l0,l1,hl9,hr,hall,hp];refine au (fun i:Nat=>i<=a.length) (fun i=>⟨[(5,.own 19),(20,.pv (.ro (aI a))),(21,.pv (.int .i64 a.length)),(22,.pv (.int .i64 i))],[(19,.arr 5 (bytesRow (bk a.length++cp (a.take i))))]⟩) (fun i=>a.length-i) [] 0 (by simp) ?_ ?_;·simp[cp]
  ·rintro i hi;have w2:IntKind.i64.wrap ((i:Int)+1)=(i:Int)+1:=wrap_i64 (by omega);by_cases hlt:i<a.length
   ·have r1:=b8 hlt;have ho:=hn _ (q84 hlt);have h1:=zE ho.1 ho.2;have h2:=xY (l:=a.take i) fun n h=>hn n (q96 h);rw[q68]at h2;have h3:(fh a[i]).length=(bk a[i].n).length+(cH a[i].t).length:=by simp[fh]
    obtain⟨⟨o1,o2,_,_⟩,hm6⟩:=ho;simp[w2,hlt,r1,aF,o1,o2,hm6];refine⟨⟨by omega,by omega,bV _⟩,⟨by omega,by omega,bV _⟩,i+1,by omega,⟨by omega,?_⟩,by omega⟩;rw[q64 hlt,CW];simp only[bY,fh,q77]
   ·simp[hlt];rw[List.take_of_length_le (by omega)];rfl
 ·cases h
def sk (b:List UInt8) (q:Int):((az b q).2.2=0->0<=q/\q<(az b q).2.1/\(az b q).2.1<=b.length)/\((az b q).2.2≠0->(az b q).2.1=q):=by
 obtain⟨h1,h2,h3,h4,_⟩:=cJ b q;unfold az;split;·rename_i h;exact⟨fun h'=>absurd h' h,fun _=>rfl⟩
 ·rename_i h;have h0:(ai b q).2.2=0:=by simpa using h
  obtain⟨g1,g2,g3⟩:=h1 h0;split;·exact⟨fun h'=>by simp at h',fun _=>rfl⟩
  ·rename_i h';refine⟨fun _=>?_,fun h=>absurd rfl h⟩;dsimp only;omega
def bM (b:List UInt8) (q:Int):Vn×Int×Int:=if(ai b q).2.2≠0 then(v0,0,(ai b q).2.2) else if(az b (ai b q).2.1).2.2≠0 then(v0,0,(az b (ai b q).2.1).2.2) else(dD (ai b q).1 (az b (ai b q).2.1).1,(az b (ai b q).2.1).2.1,0)
def bz (b:List UInt8):Nat->Int->Int->List Vn×Int×Int|0,_,q=>([],q,0)|f+1,n,q=>if n<=0 then([],q,0) else if(bM b q).2.2≠0 then([],0,(bM b q).2.2) else if(bz b f (n-1) (bM b q).2.1).2.2≠0 then([],0,(bz b f (n-1) (bM b q).2.1).2.2) else((bM b q).1::(bz b f (n-1) (bM b q).2.1).1,(bz b f (n-1) (bM b q).2.1).2.1,0)
def ka (b:List UInt8) (R:List Vn×Int×Int):List Vn×Int:=if R.2.2≠0 then([],R.2.2) else if R.2.1=b.length/\aS R.1=true then(R.1,0) else([],2)
def cG (b:List UInt8):List Vn×Int:=if(ai b 0).2.2≠0 then([],(ai b 0).2.2) else ka b (bz b (b.length+1) (ai b 0).1 (ai b 0).2.1)
def gX (L:List Vn) (q:List Vn×Int×Int):List Vn×Int×Int:=if q.2.2≠0 then([],0,q.2.2) else(L++q.1,q.2.1,0)
def Cf (b:List UInt8):∀(k:Nat) (n p:Int),(bz b k n p).2.2≠0->bz b k n p=([],0,(bz b k n p).2.2)
 |0,n,p,h=>absurd rfl h|k+1,n,p,h=>by
  unfold bz at h |-;split;·rename_i h0;rw[if_pos h0]at h;exact absurd rfl h
  ·rename_i h0;rw[if_neg h0]at h;split;·rfl
   ·split;·rfl
    ·rename_i h1 h2;rw[if_neg h1,if_neg h2]at h;exact absurd rfl h
def wL (b:List UInt8) (k:Nat) (n p:Int):gX [] (bz b k n p)=bz b k n p:=by
 unfold gX;split;·rename_i h;exact(Cf b k n p h).symm
 ·rename_i h;have:(bz b k n p).2.2=0:=by simpa using h
  rw[<-this];rfl
def uj (b:List UInt8) (L:List Vn) (k:Nat) (n p:Int) (hn:0<n) (h:(bM b p).2.2=0):gX L (bz b (k+1) n p)=gX (L++[(bM b p).1]) (bz b k (n-1) (bM b p).2.1):=by
 rw[bz,if_neg (by omega),if_neg (by simpa using h)];by_cases h2:(bz b k (n-1) (bM b p).2.1).2.2=0;·rw[if_neg (by simpa using h2)];simp[gX,h2]
 ·rw[if_pos h2];simp[gX,h2]
def lW (b:List UInt8) (L:List Vn) (k:Nat) (n p:Int) (hn:0<n) (h:(bM b p).2.2≠0):gX L (bz b (k+1) n p)=([],0,(bM b p).2.2):=by rw[bz,if_neg (by omega),if_pos h];simp[gX,h]
def vH (b:List UInt8) (L:List Vn) (k:Nat) (n p:Int) (hn:n<=0):gX L (bz b k n p)=(L,p,0):=by cases k with|zero=>simp[bz,gX]|succ k=>rw[bz,if_pos hn];simp[gX]
@[simp] noncomputable def GQ (e:TypeId):List AV->Option (Prop×AV)|[.pv (.ro b)]=>(dec dZ b).map fun l=>(l.length<=100000000,.aN [.fr e (aI (cG l).1),.pv (.int .i64 (cG l).2)])|_=>none
def c_rVpar:aL Tryz.prog 125 (GQ 156):=by
 intro ys φ r h hφ;unfold GQ at h;split at h
 ·rename_i rb;obtain⟨b,hb,h⟩:=q900.1 h;cases h;cases aK hb;have hl:b.length<=1000000000:=by omega
  refine aq (ag oI (ag (yU oI) (ag Qs ah))) (by kernel_rfl) (by conv=>lhs;reduce) (by simp) ?_;by_cases he:(ai b 0).2.2=0
  ·have hT:cG b=ka b (bz b (b.length+1) (ai b 0).1 (ai b 0).2.1):=by unfold cG;rw[if_neg (by simpa using he)]
   obtain⟨k1,k2,k3,k4,k5⟩:=cJ b 0;obtain⟨j1,j2,j3⟩:=k1 he;generalize hP:cG b=T at*;simp[hl,he];generalize(ai b 0).1=n at*;generalize(ai b 0).2.1=q0 at*;refine au (fun x:Nat×Int×List Vn=>(x.2.2.length:Int)<=n/\0<=x.2.1/\x.2.1<=b.length/\(b.length:Int)<x.1+x.2.1/\x.2.2.length<=x.2.1/\T=ka b (gX x.2.2 (bz b x.1 (n-x.2.2.length) x.2.1))/\∀v∈x.2.2,kr v) (fun x=>⟨[(0,.pv (.ro (bytesRow b))),(4,.pv (.int .u64 n)),(5,.pv (.int .i64 x.2.1)),(7,.own 7)],[(7,.arr 156 (aI x.2.2))]⟩) (fun x=>(b.length-x.2.1).toNat) [] (b.length+1,q0,[]) ?_ ?_ ?_;·exact⟨by simpa using k2,by show 0<=q0;omega,j3,by simp;omega,by simp;omega,by rw[wL];simpa using hT,fun v hv=>by cases hv⟩
   ·simp
   ·rintro⟨f,q,acc⟩ ⟨hn,hq0,hq1,hf,hacc,hG,hokv⟩;dsimp only at hn hq0 hq1 hf hacc hG hokv;have wl:IntKind.u64.wrap (acc.length:Int)=(acc.length:Int):=wrap_u64 (by omega);have hq2:-9223372036854775808<=q:=by omega
    have hq3:q<=9223372036854775807:=by omega
    by_cases hlt:(acc.length:Int)<n
    ·obtain⟨f,rfl⟩:∃g,f=g+1:=⟨f-1,by omega⟩;obtain⟨t1,t2,t2b,t2c,t2d⟩:=cJ b q;by_cases h0:(ai b q).2.2=0
     ·obtain⟨t3,t4,t5⟩:=t1 h0;obtain⟨l1,l2⟩:=sk b (ai b q).2.1;have hq4:-9223372036854775808<=(ai b q).2.1:=by omega
      have hq5:(ai b q).2.1<=9223372036854775807:=by omega
      by_cases h1:(az b (ai b q).2.1).2.2=0
      ·obtain⟨l6,l7,l8⟩:=l1 h1;have hE:bM b q=(dD (ai b q).1 (az b (ai b q).2.1).1,(az b (ai b q).2.1).2.1,0):=by unfold bM;rw[if_neg (by simpa using h0),if_neg (by simpa using h1)]
       rw[uj b acc f (n-acc.length) q (by omega) (by rw[hE]),hE]at hG;simp[wl,hlt,hl,hq2,hq3,hq4,hq5,h0,h1,aF];refine⟨by omega,f,(az b (ai b q).2.1).2.1,acc++[dD (ai b q).1 (az b (ai b q).2.1).1],?_⟩;have hlen:((acc++[(dD (ai b q).1 (az b (ai b q).2.1).1)]).length:Int)=acc.length+1:=by simp
       have hi:n-((acc++[(dD (ai b q).1 (az b (ai b q).2.1).1)]).length:Int)=n-acc.length-1:=by omega
       refine⟨⟨by omega,by omega,l8,by omega,by omega,by rw[hi];exact hG,fun v hv=>by
        rcases q75.1 hv with hv|hv;·exact hokv v hv
        ·rw[q73]at hv;subst hv;exact⟨t2,t2b,q185 0,by show(0:Int)<=18446744073709551615;decide⟩⟩,⟨rfl,?_⟩,by omega⟩;rw[dC];rfl
      ·have hE:bM b q=(v0,0,(az b (ai b q).2.1).2.2):=by unfold bM;rw[if_neg (by simpa using h0),if_pos h1]
       rw[lW b acc f _ q (by omega) (by rw[hE];exact h1),hE]at hG;have hTe:T=([],(az b (ai b q).2.1).2.2):=by rw[hG];simp[ka,h1]
       simp[wl,hlt,hl,hq2,hq3,hq4,hq5,h0,h1,hTe]
     ·have hE:bM b q=(v0,0,(ai b q).2.2):=by unfold bM;rw[if_pos h0]
      rw[lW b acc f _ q (by omega) (by rw[hE];exact h0),hE]at hG;have hTe:T=([],(ai b q).2.2):=by rw[hG];simp[ka,h0]
      simp[wl,hlt,hl,hq2,hq3,h0,hTe]
    ·have hle:n-acc.length<=0:=by omega
     rw[vH b acc f _ q hle]at hG;have ha9:acc.length<=1000000000:=by omega
     by_cases hqb:q=b.length;·cases hrs:aS acc with
      |false=>
       have hTe:T=([],2):=by rw[hG];simp[ka,hrs]
       simp[wl,hlt,ha9,hrs,hqb,hTe];try exact hokv|true=>
       have hTe:T=(acc,0):=by rw[hG];simp[ka,hrs,hqb]
       simp[wl,hlt,ha9,hrs,hqb,hTe];try exact hokv
     ·have hTe:T=([],2):=by rw[hG];simp[ka,hqb]
      simp[wl,hlt,ha9,hqb,hTe];try exact hokv
  ·have hT:cG b=([],(ai b 0).2.2):=by unfold cG;rw[if_pos he]
   simp[hl,he,hT]
 ·cases h
def Ri:aL Tryz.prog 83 (GQ 132):=by
 intro ys φ r h hφ;unfold GQ at h;split at h
 ·rename_i rb;obtain⟨b,hb,h⟩:=q900.1 h;cases h;cases aK hb;have hl:b.length<=1000000000:=by omega
  refine aq (ag tv (ag Be (ag IC ah))) (by kernel_rfl) (by conv=>lhs;reduce) (by simp) ?_;obtain⟨k1,k2,k3,k4,k5⟩:=cJ b 0;have hT1:(ai b 0).2.2=0->cG b=ka b (bz b (b.length+1) (ai b 0).1 (ai b 0).2.1):=fun h=>by unfold cG;rw[if_neg (by simpa using h)]
  have hT2:(ai b 0).2.2≠0->cG b=([],(ai b 0).2.2):=fun h=>by unfold cG;rw[if_pos h]
  generalize hP:cG b=T at*;simp[hl];generalize(ai b 0).1=n at*;generalize(ai b 0).2.1=q0 at*;generalize(ai b 0).2.2=e0 at*;refine au (fun x:Nat×Int×List Vn×Int×Int=>0<=x.2.2.2.1/\x.2.2.2.1<=n/\(x.2.2.2.2=0->T=ka b (gX x.2.2.1 (bz b x.1 (n-x.2.2.2.1) x.2.1))/\0<=x.2.1/\x.2.1<=b.length/\(b.length:Int)<x.1+x.2.1/\(x.2.2.1.length:Int)<=x.2.1)/\(x.2.2.2.2≠0->T=([],x.2.2.2.2))) (fun x=>⟨[(0,.pv (.ro (bytesRow b))),(4,.pv (.int .u64 n)),(5,.pv (.int .i64 x.2.1)),(6,.pv (.int .i64 x.2.2.2.2)),(7,.own 7),(8,.pv (.int .u64 x.2.2.2.1))],[(7,.arr 132 (aI x.2.2.1))]⟩) (fun x=>if x.2.2.2.2=0 then(b.length-x.2.1).toNat+1 else 0) [] (b.length+1,q0,[],0,e0) ?_ ?_ ?_
  ·refine⟨by show(0:Int)<=0;omega,k2,fun h=>⟨?_,?_⟩,hT2⟩;·rw[wL];simpa using hT1 h
   ·have:=k1 h;exact⟨by show 0<=q0;omega,by show q0<=b.length;omega,by show(b.length:Int)<(b.length+1:Nat)+q0;omega,by show(0:Int)<=q0;omega⟩
  ·simp
  ·rintro⟨f,q,acc,m,e⟩ ⟨hm0,hm1,hz,hnz⟩;dsimp only at hm0 hm1 hz hnz;by_cases he:e=0
   ·subst he;obtain⟨hG,g1,g2,g3,g4⟩:=hz rfl;clear hz hnz;have hacc:acc.length<=1000000000:=by omega
    have hq2:-9223372036854775808<=q:=by omega
    have hq3:q<=9223372036854775807:=by omega
    by_cases hlt:m<n
    ·obtain⟨f,rfl⟩:∃g,f=g+1:=⟨f-1,by omega⟩;have wl:IntKind.u64.wrap (m+1)=m+1:=wrap_u64 (by omega);obtain⟨t1,t2,t2b,t2c,t2d⟩:=cJ b q;by_cases h0:(ai b q).2.2=0
     ·obtain⟨t3,t4,t5⟩:=t1 h0;obtain⟨l1,l2⟩:=sk b (ai b q).2.1;have hq4:-9223372036854775808<=(ai b q).2.1:=by omega
      have hq5:(ai b q).2.1<=9223372036854775807:=by omega
      by_cases h1:(az b (ai b q).2.1).2.2=0
      ·obtain⟨l6,l7,l8⟩:=l1 h1;have hE:bM b q=(dD (ai b q).1 (az b (ai b q).2.1).1,(az b (ai b q).2.1).2.1,0):=by unfold bM;rw[if_neg (by simpa using h0),if_neg (by simpa using h1)]
       rw[uj b acc f (n-m) q (by omega) (by rw[hE]),hE]at hG;simp[wl,hlt,hl,hq2,hq3,hq4,hq5,h0,h1,aF];refine⟨⟨by omega,by omega⟩,f,(az b (ai b q).2.1).2.1,acc++[dD (ai b q).1 (az b (ai b q).2.1).1],m+1,0,⟨by omega,by omega,fun _=>⟨by rw[show n-(m+1)=n-m-1 from by omega];exact hG,by omega,l8,by omega,by simp;omega⟩,fun h=>absurd rfl h⟩,⟨⟨rfl,rfl,rfl⟩,by rw[dC];rfl⟩,?_⟩;rw[if_pos rfl];omega
      ·have hE:bM b q=(v0,0,(az b (ai b q).2.1).2.2):=by unfold bM;rw[if_neg (by simpa using h0),if_pos h1]
       rw[lW b acc f _ q (by omega) (by rw[hE];exact h1),hE]at hG;have hTe:T=([],(az b (ai b q).2.1).2.2):=by rw[hG];simp[ka,h1]
       simp[wl,hlt,hl,hq2,hq3,hq4,hq5,h0,h1,hTe,aF];refine⟨⟨by omega,by omega⟩,f,(az b (ai b q).2.1).2.1,acc++[dD (ai b q).1 (az b (ai b q).2.1).1],m+1,(az b (ai b q).2.1).2.2,⟨by omega,by omega,fun h=>absurd h h1,fun _=>rfl⟩,⟨⟨rfl,rfl,rfl⟩,by rw[dC];rfl⟩,?_⟩;rw[if_neg h1];omega
     ·have hE:bM b q=(v0,0,(ai b q).2.2):=by unfold bM;rw[if_pos h0]
      rw[lW b acc f _ q (by omega) (by rw[hE];exact h0),hE]at hG;have hTe:T=([],(ai b q).2.2):=by rw[hG];simp[ka,h0]
      simp[wl,hlt,hl,hq2,hq3,h0,hTe]
    ·rw[vH b acc f _ q (by omega)]at hG;by_cases hqb:q=b.length;·cases hrs:aS acc with
      |false=>
       have hTe:T=([],2):=by rw[hG];simp[ka,hrs]
       simp[hlt,hacc,hrs,hqb,hTe]|true=>
       have hTe:T=(acc,0):=by rw[hG];simp[ka,hrs,hqb]
       simp[hlt,hacc,hrs,hqb,hTe]
     ·have hTe:T=([],2):=by rw[hG];simp[ka,hqb]
      simp[hlt,hacc,hqb,hTe]
   ·have hTe:=hnz he;simp[he,hTe]
 ·cases h
def okW (v:Vn):Prop:=kr v/\jC v=true
def zW (e:Vn):0<(fh e).length:=by have:=fQ e.n.toNat;unfold fh bk;simp only[q65];omega
def ql:∀l:List Vn,l.length<=(cp l).length|[]=>by simp|e::l=>by have h1:=zW e;have h2:=ql l;unfold cp at h2 |-;simp only[q99,q65,q70];omega
def Jn {v:Vn} (h:jC v=true):dD v.n v.t=v:=by unfold jC at h;rw[decide_eq_true_eq]at h;exact h.symm
def E6 {b r:List UInt8}{p:Nat}{e:Vn} (h:b.drop p=fh e++r) (hi:okW e) (hn:e.t.length<2^64):bM b (p:Int)=(e,((p+(fh e).length:Nat):Int),0):=by
 obtain⟨⟨i1,i2,_,_⟩,hpl⟩:=hi;unfold fh at h;rw[q77]at h;have hL:=fm (p:=p) (n:=e.n.toNat) h (by omega);have hd:b.drop (p+(bj e.n.toNat).length)=cH e.t++r:=by rw[<-q115,h];unfold bk;rw[q106]
 have hT:=nT hd hn;have e1:(p:Int)+((bj e.n.toNat).length:Int)=((p+(bj e.n.toNat).length:Nat):Int):=by omega
 have e2:((e.n.toNat:Nat):Int)=e.n:=by omega
 rw[e1,e2]at hL;unfold bM;rw[hL];dsimp only;rw[hT,if_neg (by simp),if_neg (by simp),Jn hpl];simp only[q69,and_true,true_and];have e3:(fh e).length=(bj e.n.toNat).length+(cH e.t).length:=by simp[fh,bk]
 rw[e3];omega
def wP {b:List UInt8}:∀(l:List Vn) (f p:Nat) (r:List UInt8),b.drop p=cp l++r->(∀e∈l,okW e/\e.t.length<2^64)->l.length<=f->bz b f l.length (p:Int)=(l,((p+(cp l).length:Nat):Int),0)
 |[],f,p,r,_,_,_=>by cases f with|zero=>simp[bz,cp]|succ f=>rw[bz,if_pos (by simp)];simp[cp]
 |e::l,f,p,r,h,hn,hf=>by
  obtain⟨f,rfl⟩:∃g,f=g+1:=⟨f-1,by simp at hf;omega⟩;obtain⟨o1,o2⟩:=hn e (by simp);have hc:cp (e::l)=fh e++cp l:=by simp[cp]
  rw[hc,q77]at h;have hE:=E6 h o1 o2;have hd:b.drop (p+(fh e).length)=cp l++r:=by rw[<-q115,h,q106]
  have ih:=wP l f _ r hd (fun m hm=>hn m (by simp[hm])) (by simp at hf;omega);have hlen:(((e::l).length:Nat):Int)-1=(l.length:Int):=by simp
  rw[bz,if_neg (by simp only[q70];omega),hE];dsimp only;rw[hlen,ih,if_neg (by simp),if_neg (by simp),hc];simp only[q65,q69,true_and,and_true];omega
def EI {l:List Vn} (hr:aS l=true) (hn:∀e∈l,okW e/\e.t.length<2^64) (hl:l.length<2^64):cG (fV l)=(l,0):=by
 have hv:bk (l.length:Int)=bj l.length:=by unfold bk;rw[q66]
 have h0:(fV l).drop 0=bj l.length++cp l:=by rw[q236,fV,hv]
 have hL:=fm (p:=0) h0 hl;have hd:(fV l).drop (bj l.length).length=cp l++[]:=by rw[fV,hv,q106,q130]
 have hlen:(fV l).length=(bj l.length).length+(cp l).length:=by rw[fV,hv,q65]
 have hp:=ql l;have hG:=wP l ((fV l).length+1) _ [] hd hn (by omega);have e1:((0:Nat):Int)+((bj l.length).length:Int)=(((bj l.length).length:Nat):Int):=by omega
 rw[e1]at hL;unfold cG;rw[show(0:Int)=((0:Nat):Int) from rfl,hL,if_neg (by simp)];dsimp only;rw[hG];unfold ka;rw[if_neg (by simp),if_pos ⟨by rw[hlen],hr⟩];rfl
def sM {b:List UInt8}{q:Int} (h:(az b q).2.2=0):∃k:Nat,q=(k:Int)/\(az b q).2.1=((k+(cH (az b q).1).length:Nat):Int)/\∃r,b.drop k=cH (az b q).1++r:=by
 by_cases h1:(ai b q).2.2=0
 ·obtain⟨k,m,rfl,hm,hm2,hq,r,hr⟩:=nh h1;have hp:=fQ m;have hl:=(nZ hr (by simp;omega)).2;simp only[q65]at hl;by_cases h2:(b.length:Int)-(ai b (k:Int)).2.1<(ai b (k:Int)).1;·unfold az at h;rw[if_neg (by simpa using h1),if_pos h2]at h;cases h
  ·have hT:az b (k:Int)=(r.take m,((k+(bj m).length:Nat):Int)+(m:Int),0):=by
    unfold az;rw[if_neg (by simpa using h1),if_neg h2,hm,hq];have hd:b.drop (k+(bj m).length)=r:=by rw[<-q115,hr,q106]
    rw[q66,q66,hd]
   rw[hm,hq]at h2;have hrm:m<=r.length:=by omega
   have hvt:cH (r.take m)=bj m++r.take m:=by unfold cH;rw[q68,q103 hrm]
   rw[hT];dsimp only;refine⟨k,rfl,?_,r.drop m,?_⟩;·rw[hvt,q65,q68,q103 hrm];omega
   ·rw[hvt,q77,q127,hr]
 ·unfold az at h;rw[if_pos h1]at h;exact absurd h h1
def E8 {b:List UInt8}{q:Int} (h:(bM b q).2.2=0):∃k:Nat,q=(k:Int)/\(bM b q).2.1=((k+(fh (bM b q).1).length:Nat):Int)/\okW (bM b q).1/\∃r,b.drop k=fh (bM b q).1++r:=by
 by_cases h1:(ai b q).2.2=0
 ·by_cases h2:(az b (ai b q).2.1).2.2=0
  ·have hE:bM b q=(dD (ai b q).1 (az b (ai b q).2.1).1,(az b (ai b q).2.1).2.1,0):=by unfold bM;rw[if_neg (by simpa using h1),if_neg (by simpa using h2)]
   obtain⟨k,m,rfl,hm,hm2,hq,r,hr⟩:=nh h1;obtain⟨k2,hk2,ht,r2,hr2⟩:=sM h2;rw[hq]at hk2;have hk:k2=k+(bj m).length:=by omega
   have hb:fh (dD (ai b (k:Int)).1 (az b (ai b (k:Int)).2.1).1)=bj m++cH (az b (ai b (k:Int)).2.1).1:=by unfold fh bk dD;dsimp only;rw[hm,q66]
   rw[hE];dsimp only;rw[hb];refine⟨k,rfl,?_,⟨⟨?_,?_,q185 0,?_⟩,?_⟩,r2,?_⟩;·rw[ht,hk,q65];congr 1;omega
   ·show 0<=(ai b (k:Int)).1;omega
   ·show(ai b (k:Int)).1<=18446744073709551615;omega
   ·show(0:Int)<=18446744073709551615;decide
   ·simp[jC,dD]
   ·have hd:b.drop k2=r:=by rw[hk,<-q115,hr,q106]
    rw[hr2]at hd;rw[q77,hd,hr]
  ·unfold bM at h;rw[if_neg (by simpa using h1),if_pos h2]at h;exact absurd h h2
 ·unfold bM at h;rw[if_pos h1]at h;exact absurd h h1
def xb {b:List UInt8}:∀(f:Nat) (n:Int) (k:Nat),(bz b f n (k:Int)).2.2=0->0<=n->k<=b.length->b.length<f+k->((bz b f n (k:Int)).1.length:Int)=n/\(bz b f n (k:Int)).2.1=((k+(cp (bz b f n (k:Int)).1).length:Nat):Int)/\(∀e∈(bz b f n (k:Int)).1,okW e)/\∃r,b.drop k=cp (bz b f n (k:Int)).1++r
 |0,n,k,h,hn,hk,hf=>by omega|f+1,n,k,h,hn,hk,hf=>by
  by_cases h0:n<=0
  ·have hC:bz b (f+1) n (k:Int)=([],(k:Int),0):=by rw[bz,if_pos h0]
   rw[hC];refine⟨by simp;omega,by simp[cp],fun e he=>(by cases he),b.drop k,by simp[cp]⟩
  ·by_cases h1:(bM b (k:Int)).2.2=0
   ·by_cases h2:(bz b f (n-1) (bM b (k:Int)).2.1).2.2=0
    ·have hC:bz b (f+1) n (k:Int)=((bM b (k:Int)).1::(bz b f (n-1) (bM b (k:Int)).2.1).1,(bz b f (n-1) (bM b (k:Int)).2.1).2.1,0):=by rw[bz,if_neg h0,if_neg (by simpa using h1),if_neg (by simpa using h2)]
     obtain⟨k',hk',he,ho,r,hr⟩:=E8 h1;have:k'=k:=by omega
     subst this;have hp:=zW (bM b (k':Int)).1;have hl:=(nZ hr (by simp;omega)).2;simp only[q65]at hl;rw[he]at h2 hC;obtain⟨g1,g2,g3,r2,g4⟩:=xb f (n-1) _ h2 (by omega) (by omega) (by omega);rw[hC];generalize bz b f (n-1) _=R at*;generalize bM b (k':Int)=E at*;have hc:cp (E.1::R.1)=fh E.1++cp R.1:=by simp[cp]
     dsimp only;rw[hc];refine⟨by simp;omega,?_,fun e hh=>?_,r2,?_⟩;·rw[g2,q65];congr 1;omega
     ·rcases q78.1 hh with rfl|hh;·exact ho
      ·exact g3 e hh
     ·have hd:b.drop (k'+(fh E.1).length)=r:=by rw[<-q115,hr,q106]
      rw[g4]at hd;rw[q77,hd,hr]
    ·rw[bz,if_neg h0,if_neg (by simpa using h1),if_pos h2]at h;exact absurd h h2
   ·rw[bz,if_neg h0,if_pos h1]at h;exact absurd h h1
def Fi {b:List UInt8} (h:(cG b).2=0):aS (cG b).1=true/\fV (cG b).1=b/\(∀e∈(cG b).1,okW e)/\(cG b).1.length<=b.length:=by
 by_cases h0:(ai b 0).2.2=0
 ·have hP:cG b=ka b (bz b (b.length+1) (ai b 0).1 (ai b 0).2.1):=by unfold cG;rw[if_neg (by simpa using h0)]
  obtain⟨k,m,hk,hm,hm2,hq,r,hr⟩:=nh h0;have:k=0:=by omega
  subst this;rw[q236]at hr;have hbl:=congrArg List.length hr;simp only[q65]at hbl;have e1:((0+(bj m).length:Nat):Int)=(((bj m).length:Nat):Int):=by omega
  rw[hm,hq,e1]at hP;rw[hP]at h |-;by_cases h1:(bz b (b.length+1) (m:Int) (((bj m).length:Nat):Int)).2.2=0
  ·obtain⟨g1,g2,g3,r2,g4⟩:=xb (b.length+1) (m:Int) _ h1 (by omega) (by omega) (by omega);generalize bz b (b.length+1) (m:Int) _=R at*;by_cases h2:R.2.1=b.length/\aS R.1=true
   ·have hF:ka b R=(R.1,0):=by unfold ka;rw[if_neg (by simpa using h1),if_pos h2]
    rw[hF];obtain⟨h3,h4⟩:=h2;have hr2:b.drop (bj m).length=r:=by rw[hr,q106]
    rw[g4]at hr2;have hr2l:=congrArg List.length hr2;simp only[q65]at hr2l;have:r2=[]:=q76 (by omega);subst this;rw[q130]at hr2;have hp:=ql R.1;refine⟨h4,?_,g3,by dsimp only;omega⟩;show bk (R.1.length:Int)++cp R.1=b;rw[g1,hr2];unfold bk;rw[q66,<-hr]
   ·unfold ka at h;rw[if_neg (by simpa using h1),if_neg h2]at h;cases h
  ·unfold ka at h;rw[if_pos h1]at h;exact absurd h h1
 ·unfold cG at h;rw[if_pos h0]at h;exact absurd h h0
def Ei (b:List UInt8):(cG b).1.length<=b.length:=by
 by_cases h:(cG b).2=0;·exact(Fi h).2.2.2
 ·unfold cG ka at h |-;split;·simp
  ·rename_i h1;rw[if_neg h1]at h;split;·simp
   ·rename_i h2;rw[if_neg h2]at h;split;·rename_i h3;rw[if_pos h3]at h;exact absurd rfl h
    ·simp
def cA (b:Bool):Int:=if b=true then 1 else 0
def B5 (b:Bool):cg (cA b):=by cases b<;>simp[cA,cg]
@[simp] def OF:List AV->Option (Prop×AV)|[.pv (.bool b)]=>some (True,.pv (.int .u64 (cA b)))|_=>none
def SS:aL Tryz.prog 111 OF:=by
 intro ys φ r h hφ;unfold OF at h;split at h;·rename_i b;cases h;refine aq ah (by kernel_rfl) (by conv=>lhs;reduce) (by simp) ?_;cases b<;>simp[cA]
 ·cases h
@[simp] noncomputable def J3:List AV->Option (Prop×AV)|[.pv .nil,.pv (.int .i64 n)]=>some (0<=n/\n<=1000000,.fr 5 [])|_=>none
def Mq:pL Tryz.prog 153 J3:=by
 intro ys φ r h hφ;unfold J3 at h;split at h
 ·rename_i n;cases h;obtain⟨h1,h2⟩:=hφ;have hinf:(Tryz.prog.info? 5).isSome=true:=by kernel_rfl
  have w0:IntKind.i64.wrap 0=0:=wrap_i64 (by omega);have w1:IntKind.i64.wrap n=n:=wrap_i64 (by omega);refine oL ah (by kernel_rfl) (by conv=>lhs;reduce) (by simp) (by simp[dv,nL,j5]) (by simp) ?_;have hn0:¬n<0:=by omega
  by_cases h0:0<n;·simp[hn0,h0,w0,w1,hinf];omega
  ·simp[hn0,h0,w0,w1,hinf]
 ·cases h
@[simp] noncomputable def Qm:List AV->Option (Prop×AV)|[.pv (.ro [[.ro a],[.ro b],[.ro c]])]=>(dec dZ a).bind fun la=>(dec dZ b).bind fun lb=>(dec dZ c).map fun lc=>(la.length<=200000/\lb.length<=200000/\lc.length<=200000,.fr 5 (bytesRow (la++(lb++lc))))|_=>none
def RQ:aL Tryz.prog 110 Qm:=by
 intro ys φ r h hφ;unfold Qm at h;split at h
 ·rename_i ra rb rc;obtain⟨a,ha,h⟩:=qB.1 h;obtain⟨b,hb,h⟩:=qB.1 h;obtain⟨c,hc,h⟩:=q900.1 h;cases h;cases aK ha;cases aK hb;cases aK hc;obtain⟨hla,hlb,hlc⟩:=hφ;have w1:IntKind.i64.wrap 1=1:=wrap_i64 (by omega);have w2:IntKind.i64.wrap 2=2:=wrap_i64 (by omega);have w3:IntKind.i64.wrap 3=3:=wrap_i64 (by omega);have wa:IntKind.i64.wrap (a.length:Int)=a.length:=wrap_i64 (by omega);have wab:IntKind.i64.wrap ((a.length:Int)+(b.length:Int))=(a.length:Int)+(b.length:Int):=wrap_i64 (by omega);have wabc:IntKind.i64.wrap ((a.length:Int)+(b.length:Int)+(c.length:Int))=(a.length:Int)+(b.length:Int)+(c.length:Int):=wrap_i64 (by omega);have r0:rowAt [[PV.ro (bytesRow a)],[PV.ro (bytesRow b)],[PV.ro (bytesRow c)]] 0=[.ro (bytesRow a)]:=rfl;have r1:rowAt [[PV.ro (bytesRow a)],[PV.ro (bytesRow b)],[PV.ro (bytesRow c)]] 1=[.ro (bytesRow b)]:=rfl;have r2:rowAt [[PV.ro (bytesRow a)],[PV.ro (bytesRow b)],[PV.ro (bytesRow c)]] 2=[.ro (bytesRow c)]:=rfl;have ga:¬((a.length:Int)<0):=by omega
  have gab:¬((a.length:Int)+(b.length:Int)<0):=by omega
  have gabc:¬((a.length:Int)+(b.length:Int)+(c.length:Int)<0):=by omega
  have gc:(a.length:Int)+(b.length:Int)+(c.length:Int)<=1000000:=by omega
  have gd:(0:Int)<=(a.length:Int)+(b.length:Int)+(c.length:Int):=by omega
  refine aq (ft (p:=0) (k:=997) Mq (by kernel_rfl) ah) (by kernel_rfl) (by conv=>lhs;reduce) (by simp) ?_;simp;refine au (fun i:Nat=>i=0\/i=1\/i=2\/i=3) (fun i=>⟨[(0,.pv (.ro [[.ro (bytesRow a)],[.ro (bytesRow b)],[.ro (bytesRow c)]])),(2,.own 2),(3,.pv (.int .i64 (if i=0 then 0 else if i=1 then(a.length:Int) else if i=2 then(a.length:Int)+(b.length:Int) else(a.length:Int)+(b.length:Int)+(c.length:Int)))),(9,.pv (.ro [[.ro (bytesRow a)],[.ro (bytesRow b)],[.ro (bytesRow c)]])),(10,.pv (.int .i64 3)),(11,.pv (.int .i64 i))],[(2,.arr 5 [])]⟩) (fun i=>3-i) [] 0 (by simp) ?_ ?_;·simp
  ·rintro i (rfl|rfl|rfl|rfl);·simp[r0,wa,ga,w1]
   ·simp[r1,wab,gab,w2]
   ·simp[r2,wabc,gabc,w3]
   ·simp[gc,gd];refine au (fun i:Nat=>i=0\/i=1\/i=2\/i=3) (fun i=>⟨[(0,.pv (.ro [[.ro (bytesRow a)],[.ro (bytesRow b)],[.ro (bytesRow c)]])),(2,.own 2),(6,.own 24),(25,.pv (.ro [[.ro (bytesRow a)],[.ro (bytesRow b)],[.ro (bytesRow c)]])),(26,.pv (.int .i64 3)),(27,.pv (.int .i64 i))],[(2,.arr 5 []),(24,.arr 5 (if i=0 then[] else if i=1 then bytesRow a else if i=2 then bytesRow a++bytesRow b else bytesRow a++(bytesRow b++bytesRow c)))]⟩) (fun i=>3-i) [] 0 (by simp) ?_ ?_;·simp
    ·rintro i (rfl|rfl|rfl|rfl);·simp[r0,w1,aF];exact⟨by omega,by omega,bV _⟩
     ·simp[r1,w2,aF];exact⟨by omega,by omega,bV _⟩
     ·simp[r2,w3,aF];exact⟨by omega,by omega,bV _⟩
     ·simp[bY]
 ·cases h
noncomputable def ph (d:Dc):List UInt8×Int:=if(ei d.vs).2≠0\/eD d.ps=false then([],2) else(cW [d.l.e,d.l.p,d.l.i,d.l.u,cA d.l.h,cA d.sl]++(jb d.ps++cH (ei d.vs).1),0)
def xK (d:Dc):Prop:=d.vs.length<=1000/\(∀v∈d.vs,kr v/\v.t.length<=1000000)/\d.ps.length<=1000/\(∀e∈d.ps,iV e)/\(cg d.l.e/\cg d.l.p/\cg d.l.i/\cg d.l.u)/\(ei d.vs).1.length<=100000
def Ex {e p i u:Int}{h s:Bool} (o3:cg e) (o4:cg p) (o5:cg i) (o6:cg u):∀n∈[e,p,i,u,cA h,cA s],cg n:=by
 intro n hn;simp only[q78,q102,or_false]at hn;rcases hn with rfl|rfl|rfl|rfl|rfl|rfl;·exact o3
 ·exact o4
 ·exact o5
 ·exact o6
 ·exact B5 _
 ·exact B5 _
def CD {b:List UInt8} (h:b.length<=18446744073709551615):(cH b).length<=b.length+10:=by have:=fp h;unfold cH;rw[q65];omega
def Kw {ps:List Pn} (o2:∀e∈ps,iV e) (l2:ps.length<=1000):(jb ps).length<=40000:=by have h1:=gU (n:=(ps.length:Int)) (by unfold cg;omega);have h2:=lA o2;unfold jb;rw[q65];omega
@[simp] noncomputable def PY:List AV->Option (Prop×AV)|[.agg ys]=>pC ys fun d=>some (xK d,.aN [.fr 5 (bytesRow (ph d).1),.pv (.int .i64 (ph d).2)])|_=>none
def TB:aL Tryz.prog 63 PY:=by
 intro ys φ r h hφ;unfold PY at h;split at h
 ·obtain⟨d,rfl,h2⟩:=oD h;clear h;cases h2;obtain⟨⟨e,p,i,u,h'⟩,ps,vs,sl⟩:=d;obtain⟨l1,o1,l2,o2,⟨o3,o4,o5,o6⟩,l3⟩:=hφ;have l1:vs.length<=1000:=l1;have l2:ps.length<=1000:=l2;have l3:(ei vs).1.length<=100000:=l3;have o1:(∀v∈vs,kr v/\v.t.length<=1000000)=True:=eq_true o1;have o7:(∀e∈ps,iV e)=True:=eq_true o2;have o2:∀e∈ps,iV e:=o2;have o3:cg e:=o3;have o4:cg p:=o4;have o5:cg i:=o5;have o6:cg u:=o6;have o8:=Ex o3 o4 o5 o6 (h:=h') (s:=sl);have a1:(cW [e,p,i,u,cA h',cA sl]).length<=60:=nz o8;have a2:=Kw o2 l2;have l4:ps.length<=1000000:=by omega
  have l5:ps.length<=1000000000:=by omega
  have l6:(ei vs).1.length<=1000000:=by omega
  have d6:dec ez [[.int .u64 e],[.int .u64 p],[.int .u64 i],[.int .u64 u],[.int .u64 (cA h')],[.int .u64 (cA sl)]]=some [e,p,i,u,cA h',cA sl]:=oy [e,p,i,u,cA h',cA sl];refine aq (ag QS (ag xV (ag SS (ag (xI Jo) (ag (xI SD) (ag (xI Fy) (ag RQ ah))))))) (by kernel_rfl) (by conv=>lhs;reduce) (by simp) ?_;unfold ph;apply ae;·simp[cellsD];exact⟨rfl,rfl⟩
  apply ae;·simp[l1,o1];exact⟨rfl,rfl⟩
  generalize hx:ei vs=x at*;obtain⟨b,x⟩:=x;by_cases he:x=0;·subst he;cases hr:eD ps with|false=>simp[hr,l5]|true=>
   rw[if_neg (by simp)];apply ae;·simp[hr,l5];exact⟨rfl,rfl⟩
   apply ae;·simp;exact⟨rfl,rfl⟩
   apply ae;·simp[d6,o8,a1,a2,l3,l4,l6,o7];exact⟨⟨by omega,by omega,by have:b.length<=100000:=l3;have:=CD (b:=b) (by omega);omega⟩,iv _,rfl,rfl⟩
   simp
  ·simp[he]
 ·cases h
def qf (b:List UInt8):∀(k:Nat) (n p:Int),(aX b k n p).1.length<=k
 |0,n,p=>by simp[aX]|k+1,n,p=>by
  unfold aX;split;·simp
  ·split;·simp
   ·split;·simp
    ·have:=qf b k (n-1) (aH b 3 p).2.1;simp only[q70];omega
def HI (b:List UInt8) (p:Int):(dM b p).1.length<=b.length+1:=by
 unfold dM;split;·simp
 ·split;·simp
  ·split;·simp
   ·exact qf b _ _ _
def mb {b:List UInt8}:∀(l:List Int) (p:Nat) (r:List UInt8),b.drop p=cW l++r->(∀n∈l,cg n)->aH b l.length (p:Int)=(l,((p+(cW l).length:Nat):Int),0)
 |[],p,r,_,_=>by simp[aH,cW]|n::l,p,r,h,hn=>by
  obtain⟨o1,o2⟩:=hn n (by simp);have hc:cW (n::l)=bk n++cW l:=by simp[cW]
  rw[hc,q77]at h;have hL:=fm (p:=p) (n:=n.toNat) h (by omega);have hd:b.drop (p+(bk n).length)=cW l++r:=by rw[<-q115,h,q106]
  have ih:=mb l _ r hd fun m hm=>hn m (by simp[hm]);have e1:(p:Int)+((bj n.toNat).length:Int)=((p+(bk n).length:Nat):Int):=by unfold bk;omega
  have e2:((n.toNat:Nat):Int)=n:=by omega
  rw[e1,e2]at hL;rw[q70,aH,hL];dsimp only;rw[ih,if_neg (by simp),if_neg (by simp),hc];simp only[q65,q69,true_and,and_true];omega
def Lh (e:Pn):0<(uC e).length:=by have:=fQ e.i.toNat;unfold uC bk;simp only[q65];omega
def sP:∀l:List Pn,l.length<=(bQ l).length|[]=>by simp|e::l=>by have h1:=Lh e;have h2:=sP l;unfold bQ at h2 |-;simp only[q99,q65,q70];omega
def qw {b:List UInt8}:∀(l:List Pn) (k p:Nat) (r:List UInt8),l.length<=k->b.drop p=bQ l++r->(∀e∈l,iV e)->aX b k (l.length:Int) (p:Int)=(l,((p+(bQ l).length:Nat):Int),0)
 |[],k,p,r,_,_,_=>by cases k<;>simp[aX,bQ]|e::l,0,p,r,hk,_,_=>absurd hk (by simp)|e::l,k+1,p,r,hk,h,ho=>by
  have hc:bQ (e::l)=uC e++bQ l:=by simp[bQ]
  rw[hc,q77]at h;obtain⟨o1,o2,o3⟩:=ho e (by simp);have hA:=mb [e.i,e.v,e.u] p (bQ l++r) (by rw[nW];exact h) (by
   intro n hn;simp only[q78,q102,or_false]at hn;rcases hn with rfl|rfl|rfl;·exact o1
   ·exact o2
   ·exact o3);rw[nW]at hA;have hA:aH b 3 (p:Int)=([e.i,e.v,e.u],((p+(uC e).length:Nat):Int),0):=hA;have hd:b.drop (p+(uC e).length)=bQ l++r:=by rw[<-q115,h,q106]
  have ih:=qw l k _ r (by simpa using hk) hd fun m hm=>ho m (by simp[hm]);have e1:(((e::l).length:Nat):Int)-1=(l.length:Int):=by simp
  rw[aX,if_neg (by simp only[q70];omega),hA,e1];dsimp only;rw[ih,if_neg (by simp),if_neg (by simp),hc];simp only[FE,q65,q69,true_and,and_true];omega
def It {b:List UInt8}{p:Nat}{l:List Pn}{r:List UInt8} (h:b.drop p=jb l++r) (ho:∀e∈l,iV e) (hl:l.length<2^64) (hr:eD l=true):dM b (p:Int)=(l,((p+(jb l).length:Nat):Int),0):=by
 unfold jb at h;rw[q77]at h;have hv:bk (l.length:Int)=bj l.length:=by unfold bk;rw[q66]
 rw[hv]at h;have hL:=fm (p:=p) h hl;have hd:b.drop (p+(bj l.length).length)=bQ l++r:=by rw[<-q115,h,q106]
 have hlen:l.length<=b.length+1:=by have h1:=sP l;have h2:=congrArg List.length hd;simp only[q88,q65]at h2;omega
 have hG:=qw l (b.length+1) _ r hlen hd ho;have e1:(p:Int)+((bj l.length).length:Int)=((p+(bj l.length).length:Nat):Int):=by omega
 rw[e1]at hL;unfold dM;rw[hL];dsimp only;rw[hG,if_neg (by simp),if_neg (by simp),if_neg (by simp[hr])];unfold jb;rw[hv];simp only[q65,q69,true_and,and_true];omega
def rh (l:List Pn):eD l=true↔l.Pairwise (fun a b=>a.i<b.i):=by
 rw[sH,q147];constructor;·intro h i j hi hj hij;obtain⟨k,rfl⟩:∃k,j=i+1+k:=⟨j-(i+1),by omega⟩;clear hij;induction k with|zero=>exact h i hj|succ k ih=>have h1:=ih (by omega);have h2:=h (i+1+k) hj;exact Int.lt_trans h1 h2
 ·intro h k hk;exact h k (k+1) (by omega) hk (by omega)
def EO {l:List Pn} (n s:Int) (h:eD l=true):eD (iN l n s)=true:=by rw[rh]at h |-;exact h.filter _
def sd (b:List UInt8):∀(k:Nat) (n p:Int),(aX b k n p).2.2=0->p<=b.length->p<=(aX b k n p).2.1/\(aX b k n p).2.1<=b.length
 |0,n,p,_,hp=>⟨q185 _,hp⟩|k+1,n,p,h,hp=>by
  unfold aX at h |-;split at h;·rename_i h1;rw[if_pos h1];exact⟨q185 _,hp⟩
  ·rename_i h1;rw[if_neg h1];split at h;·rename_i h2;exact absurd h h2
   ·rename_i h2;rw[if_neg h2];split at h;·rename_i h3;exact absurd h h3
    ·rename_i h3;rw[if_neg h3];have h2:(aH b 3 p).2.2=0:=by simpa using h2
     have h3:(aX b k (n-1) (aH b 3 p).2.1).2.2=0:=by simpa using h3
     obtain⟨_,_,g3,g4⟩:=im b 3 p h2;obtain⟨g5,g6⟩:=g4 (by omega);have:=sd b k (n-1) _ h3 g6;exact⟨by show p<=(aX b k (n-1) (aH b 3 p).2.1).2.1;omega,this.2⟩
def Kx (b:List UInt8) (p:Int) (h:(dM b p).2.2=0):0<=(dM b p).2.1/\(dM b p).2.1<=b.length:=by
 unfold dM at h |-;split at h;·rename_i h1;exact absurd h h1
 ·rename_i h1;rw[if_neg h1];split at h;·rename_i h2;exact absurd h h2
  ·rename_i h2;rw[if_neg h2];split at h;·cases h
   ·rename_i h3;rw[if_neg h3];have h1:(ai b p).2.2=0:=by simpa using h1
    obtain⟨g1,g2,g3⟩:=(cJ b p).1 h1;have:=sd b (b.length+1) (ai b p).1 (ai b p).2.1 h g3;omega
def Io (b:List UInt8) (h:(bJ b 0 6).2.2=0):∃x0 x1 x2 x3 x4 x5,(bJ b 0 6).1=[x0,x1,x2,x3,x4,x5]/\0<=(bJ b 0 6).2.1/\(bJ b 0 6).2.1<=b.length:=by
 unfold bJ at h |-;split at h;·rename_i h1;exact absurd h h1
 ·rename_i h1;rw[if_neg h1];obtain⟨g1,g2,g3,g4⟩:=im b 6 0 h;obtain⟨_,g5⟩:=g4 (by omega);match hl:(aH b 6 0).1,g1 with|[x0,x1,x2,x3,x4,x5],_=>exact⟨x0,x1,x2,x3,x4,x5,rfl,by omega,g5⟩
def vV (b:List UInt8) (q:Int) (h:(az b q).2.2=0):(az b q).1.length<=b.length:=by obtain⟨k,_,_,r,hr⟩:=sM h;have:=congrArg List.length hr;simp only[q88,q65,cH]at this;omega
def zD:Dc:=⟨⟨0,0,0,0,false⟩,[],[],false⟩
noncomputable def eR (b:List UInt8):Dc×Int:=if(bJ b 0 6).2.2≠0 then(zD,(bJ b 0 6).2.2) else if(dM b (bJ b 0 6).2.1).2.2≠0 then(zD,(dM b (bJ b 0 6).2.1).2.2) else if 1<(bJ b 0 6).1.getD 4 0\/1<(bJ b 0 6).1.getD 5 0 then(zD,2) else if(az b (dM b (bJ b 0 6).2.1).2.1).2.2≠0 then(zD,(az b (dM b (bJ b 0 6).2.1).2.1).2.2) else if(az b (dM b (bJ b 0 6).2.1).2.1).2.1<b.length then(zD,11) else if(cG (az b (dM b (bJ b 0 6).2.1).2.1).1).2≠0 then(zD,(cG (az b (dM b (bJ b 0 6).2.1).2.1).1).2) else(⟨⟨(bJ b 0 6).1.getD 0 0,(bJ b 0 6).1.getD 1 0,(bJ b 0 6).1.getD 2 0,(bJ b 0 6).1.getD 3 0,decide ((bJ b 0 6).1.getD 4 0=1)⟩,(dM b (bJ b 0 6).2.1).1,(cG (az b (dM b (bJ b 0 6).2.1).2.1).1).1,decide ((bJ b 0 6).1.getD 5 0=1)⟩,0)
@[simp] noncomputable def Pk (e1 e2:TypeId):List AV->Option (Prop×AV)|[.pv (.ro b)]=>(dec dZ b).map fun l=>(l.length<=1000000,.aN [.agg [.pv (.int .u64 (eR l).1.l.e),.pv (.int .u64 (eR l).1.l.p),.pv (.int .u64 (eR l).1.l.i),.pv (.int .u64 (eR l).1.l.u),.pv (.bool (eR l).1.l.h),.fr e1 (ay (eR l).1.ps),.fr e2 (aI (eR l).1.vs),.pv (.bool (eR l).1.sl)],.pv (.int .i64 (eR l).2)])|_=>none
def RP:aL Tryz.prog 46 (Pk 177 132):=by
 intro ys φ r h hφ;unfold Pk at h;split at h
 ·obtain⟨b,hb,h⟩:=q900.1 h;cases h;cases aK hb;have hl:b.length<=1000000:=hφ;have l9:b.length<=1000000000:=by omega
  have l8:b.length<=100000000:=by omega
  have h6:(6:Int).toNat=6:=rfl;have hi1:(Tryz.prog.info? 177).isSome=true:=by kernel_rfl
  have hi2:(Tryz.prog.info? 132).isSome=true:=by kernel_rfl
  refine aq (ag uS (ag abf (ag Be (ag Ri ah)))) (by kernel_rfl) (by conv=>lhs;reduce) (by simp) ?_;unfold eR;apply ae;·simp;exact⟨rfl,rfl⟩
  apply ae;·simp[h6,l9];exact⟨rfl,rfl⟩
  have hA:=Io b;generalize bJ b 0 6=A at*;obtain⟨la,a,ea⟩:=A;by_cases he:ea=0;rotate_left;·simp[he,hi1,hi2,zD]
  subst he;obtain⟨x0,x1,x2,x3,x4,x5,rfl,k1,k2⟩:=hA rfl;have k3:-9223372036854775808<=a:=by have:(0:Int)<=a:=k1;omega
  have k4:a<=9223372036854775807:=by have:a<=b.length:=k2;omega
  apply ae;·simp;exact⟨rfl,rfl⟩
  apply ae;·simp[l8,k3,k4];exact⟨rfl,rfl⟩
  have hP:=Kx b a;dsimp only;generalize dM b a=Q at*;obtain⟨ps,q,ep⟩:=Q;by_cases hp:ep=0;rotate_left;·simp[hp,hi1,hi2,zD]
  subst hp;obtain⟨m1,m2⟩:=hP rfl;have m3:-9223372036854775808<=q:=by have:(0:Int)<=q:=m1;omega
  have m4:q<=9223372036854775807:=by have:q<=b.length:=m2;omega
  have r0:rowAt (b6 [x0,x1,x2,x3,x4,x5]) 0=[.int .u64 x0]:=rfl;have r1:rowAt (b6 [x0,x1,x2,x3,x4,x5]) 1=[.int .u64 x1]:=rfl;have r2:rowAt (b6 [x0,x1,x2,x3,x4,x5]) 2=[.int .u64 x2]:=rfl;have r3:rowAt (b6 [x0,x1,x2,x3,x4,x5]) 3=[.int .u64 x3]:=rfl;have r4:rowAt (b6 [x0,x1,x2,x3,x4,x5]) 4=[.int .u64 x4]:=rfl;have r5:rowAt (b6 [x0,x1,x2,x3,x4,x5]) 5=[.int .u64 x5]:=rfl;by_cases h4:1<x4;·simp[r4,r5,h4,hi1,hi2,zD]
  by_cases h5:1<x5;·simp[r4,r5,h4,h5,hi1,hi2,zD]
  apply ae;·simp[r4,r5,h4,h5];exact⟨rfl,rfl⟩
  apply ae;·simp[l9,m3,m4];exact⟨rfl,rfl⟩
  have hT:=sk b q;have hN:=vV b q;dsimp only;generalize az b q=T at*;obtain⟨s,t,et⟩:=T;by_cases ht:et=0;rotate_left;·simp[ht,h4,h5,hi1,hi2,zD]
  subst ht;have hN:s.length<=b.length:=hN rfl;have lN:s.length<=100000000:=by omega
  by_cases hq:t<b.length;·simp[hq,h4,h5,hi1,hi2,zD]
  apply ae;·simp[hq];exact⟨rfl,rfl⟩
  apply ae;·simp[lN];exact⟨rfl,rfl⟩
  dsimp only;generalize cG s=V at*;obtain⟨vs,ev⟩:=V;by_cases hv:ev=0;rotate_left;·simp[hv,hq,h4,h5,hi1,hi2,zD]
  subst hv;apply ae;·simp;exact⟨rfl,rfl⟩
  simp[r0,r1,r2,r3,r4,r5,hq,h4,h5]
 ·cases h
def B9 (b:Bool):¬1<cA b:=by cases b<;>decide
def yV (b:Bool):decide (cA b=1)=b:=by cases b<;>rfl
def Fv {l:List Vn} (h:(ei l).2=0):aS l=true/\jI l=true/\(ei l).1=fV l:=by
 unfold ei at h |-;split at h;·rename_i h1;rw[if_pos h1];exact⟨h1.1,h1.2,rfl⟩
 ·cases h
def Hm {d:Dc} (h:(ph d).2=0):(ei d.vs).2=0/\eD d.ps=true/\(ph d).1=cW [d.l.e,d.l.p,d.l.i,d.l.u,cA d.l.h,cA d.sl]++(jb d.ps++cH (ei d.vs).1):=by
 unfold ph at h |-;split at h;·cases h
 ·rename_i h1;rw[if_neg h1];refine⟨q278 fun h2=>h1 (Or.inl h2),?_,rfl⟩;cases hr:eD d.ps;·exact absurd (q247 hr) h1
  ·rfl
def D8 {d:Dc} (h:(ph d).2=0) (ok:xK d):eR (ph d).1=(d,0):=by
 obtain⟨hv,hr,hb⟩:=Hm h;obtain⟨v1,v2,v3⟩:=Fv hv;obtain⟨l1,o1,l2,o2,⟨o3,o4,o5,o6⟩,l3⟩:=ok;rw[v3]at hb l3;rw[hb];generalize hB:cW [d.l.e,d.l.p,d.l.i,d.l.u,cA d.l.h,cA d.sl]++(jb d.ps++cH (fV d.vs))=B;have hA:bJ B 0 6=([d.l.e,d.l.p,d.l.i,d.l.u,cA d.l.h,cA d.sl],((0+(cW [d.l.e,d.l.p,d.l.i,d.l.u,cA d.l.h,cA d.sl]).length:Nat):Int),0):=by have:=mb (b:=B) [d.l.e,d.l.p,d.l.i,d.l.u,cA d.l.h,cA d.sl] 0 (jb d.ps++cH (fV d.vs)) (by rw[q236,<-hB]) (Ex o3 o4 o5 o6);unfold bJ;have e:aH B 6 0=([d.l.e,d.l.p,d.l.i,d.l.u,cA d.l.h,cA d.sl],((0+(cW [d.l.e,d.l.p,d.l.i,d.l.u,cA d.l.h,cA d.sl]).length:Nat):Int),0):=this;rw[e,if_neg (by simp)]
 generalize hq:cW [d.l.e,d.l.p,d.l.i,d.l.u,cA d.l.h,cA d.sl]=X at*;rw[q126]at hA;have h1:B.drop X.length=jb d.ps++cH (fV d.vs):=by rw[<-hB,q106]
 have hP:=It h1 o2 (by omega) hr;have h2:B.drop (X.length+(jb d.ps).length)=cH (fV d.vs)++[]:=by rw[<-q115,h1,q106,q130]
 have hT:=nT h2 (by omega);have hl:B.length=X.length+(jb d.ps).length+(cH (fV d.vs)).length:=by rw[<-hB];simp only[q65];omega
 have hV:cG (fV d.vs)=(d.vs,0):=EI v1 (fun e he=>⟨⟨(o1 e he).1,q85.1 v2 e he⟩,by have:=(o1 e he).2;omega⟩) (by omega);obtain⟨⟨e,p,i,u,h'⟩,ps,vs,sl⟩:=d;unfold eR;rw[hA];dsimp only at*;rw[if_neg (by simp),hP];dsimp only;rw[if_neg (by simp),if_neg (by show¬(1<cA h'\/1<cA sl);exact fun hx=>hx.elim (B9 _) (B9 _)),hT];dsimp only;rw[if_neg (by simp),if_neg (by omega),hV];rw[if_neg (by simp)];show((⟨⟨e,p,i,u,decide (cA h'=1)⟩,ps,vs,decide (cA sl=1)⟩:Dc),(0:Int))=_;rw[yV,yV]
def D0 (b:List UInt8):(eR b).1.ps.length<=b.length+1/\(eR b).1.vs.length<=b.length:=by
 have z:zD.ps.length<=b.length+1/\zD.vs.length<=b.length:=⟨q95 _,q95 _⟩;unfold eR;split;·exact z
 split;·exact z
 split;·exact z
 split;·exact z
 rename_i h4;split;·exact z
 split;·exact z
 have h5:=Ei (az b (dM b (bJ b 0 6).2.1).2.1).1;have h6:=vV b (dM b (bJ b 0 6).2.1).2.1 (by simpa using h4);exact⟨HI b _,q113 h5 h6⟩
end Go.Proofs.YtifcndkhigakfaaGreat.Ab
namespace Go.Proofs.YtifcndkhigakfaaGreat.Ab
open Go Go.RowKit Go.WideShapes Go.ChangeShapes
def sa (P:Program):Nat->TypeId->List PV->Prop|0,_,_=>False|n+1,t,row=>match P.underlying t with|some .bool=>∃b,row=[.bool b]|some (.int k)=>∃m,row=[.int k m]/\(Lit.int k m).wf=true|some .string=>∃l,row=[.str l]/\l.length<=maxLen|some (.slice e)=>∃rows,row=[.ro rows]/\rows.length<=maxLen/\∀r∈rows,sa P n e r|some (.struct fs)=>row.length=P.cellsOf t/\∀f∈fs.toList,sa P n f.type ((row.drop f.offset).take (P.cellsOf f.type))|_=>False
def ub (P:Program) (T:Nat):Nat->List Field->Bool|o,[]=>o==T|o,f::fs=>f.offset==o&&ub P T (o+P.cellsOf f.type) fs
def ij (P:Program):Nat->TypeId->Bool|0,_=>false|n+1,t=>match P.underlying t with|some .bool|some (.int _)|some .string=>true|some (.slice e)=>decide (0<P.cellsOf e)&&ij P n e|some (.struct fs)=>ub P (P.cellsOf t) 0 fs.toList&&fs.toList.all fun f=>ij P n f.type|_=>false
section
variable{H:Type}{enc:TypeId×Value->H}{P:Program}{w:World}{base:Nat}{spare:Nat->Bool}{held:Bool}
def qe (w:World) (cs:List Value) (row:List PV):Prop:=∀(i:Nat) (v:Value) (p:PV),cs[i]?=some v->row[i]?=some p->v.oneCell'=true/\dA (fun b=>b<w.heap.size) w v p
def CG {T:Nat}:∀{fs:List Field}{o:Nat},ub P T o fs=true->o<=T|[],o,h=>by simp only[ub,beq_iff_eq]at h;omega|f::fs,o,h=>by simp only[ub,q71,beq_iff_eq]at h;have:=CG h.2;omega
def ua {n T:Nat}{cs:List Value} (hT:cs.length=T):∀(fs:List Field) (o:Nat),ub P T o fs=true->(∀f∈fs,∃r:List PV,r.length=((cs.drop f.offset).take (P.cellsOf f.type)).length/\sa P n f.type r/\qe w ((cs.drop f.offset).take (P.cellsOf f.type)) r)->∃row:List PV,row.length=T-o/\(∀f∈fs,o<=f.offset/\sa P n f.type ((row.drop (f.offset-o)).take (P.cellsOf f.type)))/\qe w (cs.drop o) row
 |[],o,h,_=>by simp only[ub,beq_iff_eq]at h;exact⟨[],by simp;omega,fun f hf=>by simp at hf,fun i v p _ hp=>by simp at hp⟩|f::fs,o,h,hf=>by
  simp only[ub,q71,beq_iff_eq]at h;obtain⟨h1,h2⟩:=h;have hle:=CG h2;obtain⟨r,hr1,hr2,hr3⟩:=hf f (by simp);obtain⟨row,g1,g2,g3⟩:=ua hT fs _ h2 fun f' hf'=>hf f' (by simp[hf']);have hrl:r.length=P.cellsOf f.type:=by rw[hr1,h1];simp;omega
  refine⟨r++row,by simp[hrl,g1];omega,fun f' hf'=>?_,fun i v p hv hp=>?_⟩
  ·rcases q78.1 hf' with rfl|hf';·refine⟨by omega,?_⟩;rw[h1,q235,q236,<-hrl,List.take_left'];exact hr2;rfl
   ·obtain⟨k1,k2⟩:=g2 f' hf';refine⟨by omega,?_⟩;rw[show f'.offset-o=r.length+(f'.offset-(o+P.cellsOf f.type)) from by omega,List.drop_append,q212 (by omega),q153,q237];exact k2
  ·by_cases hi:i<r.length;·rw[q86 hi]at hp;refine hr3 i v p ?_ hp;rw[h1,q81,if_pos (by omega)];exact hv
   ·rw[q98 (by omega)]at hp;refine g3 (i-r.length) v p ?_ hp;rw[q89]at hv |-;rw[<-hv];congr 1;omega
def Jv:∀(n:Nat) (fuel:Nat) (t:TypeId) (cs:List Value) (x:DataW H×List MemPlace),ij P n t=true->DataW.trod enc P w base spare held fuel t cs=some x->∃row:List PV,row.length=cs.length/\sa P n t row/\qe w cs row:=by intro n;induction n with|zero=>intro fuel t cs x hp;simp[ij]at hp|succ n ih=>
 intro fuel t cs x hp h;have hone:∀(v:Value) (p:PV),cs=[v]->v.oneCell'=true->dA (fun b=>b<w.heap.size) w v p->qe w cs [p]:=by rintro v p rfl h1 h2 i v' p' hv hp;cases i with|zero=>simp at hv hp;subst hv hp;exact⟨h1,h2⟩|succ i=>simp at hp
 unfold ij at hp;split at hp;·rename_i hu;cases fuel with|zero=>simp[DataW.trod]at h|succ fuel=>
  simp only[DataW.trod,hu]at h;split at h;all_goals(try(simp_all;done))
  rename_i b hb;exact⟨[.bool b],rfl,by unfold sa;rw[hu];exact⟨b,rfl⟩,hone _ _ rfl rfl (.bool b)⟩
 ·rename_i k hu;cases fuel with|zero=>simp[DataW.trod]at h|succ fuel=>
   simp only[DataW.trod,hu]at h;split at h;all_goals(try(simp_all;done))
   rename_i _ k3 k2 m hk;simp only[qr,TypeDesc.int.injEq]at hk;subst hk;split at h;·rename_i hw;obtain⟨rfl,hw⟩:=hw;exact⟨[.int k2 m],rfl,by unfold sa;rw[hu];exact⟨m,rfl,hw⟩,hone _ _ rfl rfl (.int k2 m)⟩
   ·cases h
 ·rename_i hu;cases fuel with|zero=>simp[DataW.trod]at h|succ fuel=>
   simp only[DataW.trod,hu]at h;split at h;all_goals(try(simp_all;done))
   rename_i s hcs;split at h;·rename_i hs;refine⟨[.str s.data.toList],rfl,by unfold sa;rw[hu];exact⟨_,rfl,by rw[q87];exact hs⟩,hone _ _ rfl rfl ?_⟩;have:dA (fun b=>b<w.heap.size) w (.string ⟨s.data.toList.toArray⟩) (.str s.data.toList):=.str _;rwa[q139]at this
   ·cases h
 ·rename_i e hu;simp only[q71,decide_eq_true_eq]at hp;obtain⟨hC,hp⟩:=hp;rcases Go.Deep.open_slice hu h with⟨rfl,_⟩|⟨a,len,cap,m,n',D,Pl,rfl,hb,hl,hm,hmm,_,hi⟩;·exact⟨[.ro []],rfl,by unfold sa;rw[hu];exact⟨[],rfl,by simp,fun r hr=>by simp at hr⟩,hone _ _ rfl rfl (.zk none 0)⟩
  ·have hlm:len<=m:=by rw[hmm];split<;>omega
   have hrow:∀i,i<len->∃(cs':List Value) (row:List PV),w.cells? base (a.add (i*P.cellsOf e)) (P.cellsOf e)=some cs'/\row.length=cs'.length/\sa P n e row/\qe w cs' row:=fun i hil=>by obtain⟨cs',hc,ht⟩:=hi i (by omega);obtain⟨row,h1,h2,h3⟩:=ih n' e cs' _ hp ht;exact⟨cs',row,hc,h1,h2,h3⟩
   have hrow':∀i:Nat,∃(cs':List Value) (row:List PV),i<len->w.cells? base (a.add (i*P.cellsOf e)) (P.cellsOf e)=some cs'/\row.length=cs'.length/\sa P n e row/\qe w cs' row:=fun i=>by
    by_cases hil:i<len;·obtain⟨cs',row,h1⟩:=hrow i hil;exact⟨cs',row,fun _=>h1⟩
    ·exact⟨[],[],fun h=>absurd h hil⟩
   let F:Nat->List Value:=fun i=>(hrow' i).choose;let R:Nat->List PV:=fun i=>(hrow' i).choose_spec.choose;have hFR:∀i,i<len->w.cells? base (a.add (i*P.cellsOf e)) (P.cellsOf e)=some (F i)/\(R i).length=(F i).length/\sa P n e (R i)/\qe w (F i) (R i):=fun i hil=>(hrow' i).choose_spec.choose_spec hil;have hRl:∀i,i<len->(R i).length=P.cellsOf e/\∀j,j<P.cellsOf e->w.cell? ((a.add (i*P.cellsOf e)).add j)=(F i)[j]?:=fun i hil=>by obtain⟨h1,h2,_⟩:=hFR i hil;obtain⟨_,h4,h5⟩:=q272 h1;exact⟨by rw[h2,h4],h5⟩
   have hll:((List.range len).map R).length=len:=by simp
   have hget:∀(i:Nat) (r:List PV),((List.range len).map R)[i]?=some r->i<len/\r=R i:=fun i r hr=>by
    rw[q79,q900]at hr;obtain⟨k,hk,rfl⟩:=hr;have hil:i<len:=by have:=(q63.1 hk).1;simpa using this
    rw[List.getElem?_range hil]at hk;injection hk with hk;exact⟨hil,by rw[hk]⟩
   refine⟨[.ro ((List.range len).map R)],rfl,?_,hone _ _ rfl rfl ?_⟩;·unfold sa;rw[hu];refine⟨_,rfl,by rw[hll];omega,fun r hr=>?_⟩;obtain⟨i,hi1,rfl⟩:=q83.1 hr;exact(hFR i (by simpa using hi1)).2.2.1
   ·by_cases hz:len=0;·subst hz;exact .zk _ _
    ·have hS:a.block<w.heap.size:=by
      have h0:=(hRl 0 (by omega)).2 0 hC;obtain⟨h1,h2,h3,_⟩:=hFR 0 (by omega);have hlen:(F 0).length=P.cellsOf e:=(q272 h1).2.1;rw[q62 (by omega)]at h0;rw[gE]at h0;rcases q141 a.block w.heap.size with h'|h';·exact h'
      ·exfalso;have hbk:=bN a (0*P.cellsOf e+0);unfold World.cell? at h0;rw[hbk,Array.getElem?_eq_none h']at h0;simp at h0
     have key:=dA.ro (S:=fun b=>b<w.heap.size) (w:=w) a cap ((List.range len).map R) (P.cellsOf e) (fun i j=>(F i).getD j undef) hS (by rw[hll];exact hl) (fun r hr=>by obtain⟨i,hi1,rfl⟩:=q83.1 hr;exact(hRl i (by simpa using hi1)).1) (fun i j hi1 hj=>by rw[hll]at hi1;have h5:=(hRl i hi1).2 j hj;rw[gE]at h5;rw[h5];obtain⟨h1,h2,h3,_⟩:=hFR i hi1;have hlen:(F i).length=P.cellsOf e:=(q272 h1).2.1;rw[q80,q62 (by omega)];rfl) (fun i j r p hr hp=>by
      obtain⟨hil,rfl⟩:=hget i r hr;obtain⟨h1,h2,h3,h4⟩:=hFR i hil;have hj:j<(F i).length:=by rw[<-h2];exact(q63.1 hp).1
      have hv:(F i)[j]?=some (F i)[j]:=q62 hj;rw[q80,hv];exact(h4 j _ p hv hp).1) (fun i j r p hr hp=>by
      obtain⟨hil,rfl⟩:=hget i r hr;obtain⟨h1,h2,h3,h4⟩:=hFR i hil;have hj:j<(F i).length:=by rw[<-h2];exact(q63.1 hp).1
      have hv:(F i)[j]?=some (F i)[j]:=q62 hj;rw[q80,hv];exact(h4 j _ p hv hp).2);rw[hll]at key;exact key
 ·rename_i fs hu;simp only[q71,q85]at hp;obtain⟨ht,hall⟩:=hp;obtain⟨ys,n',hn',hy,hlen,hyl,hf⟩:=DataW.trod_struct hu h;obtain⟨row,g1,g2,g3⟩:=ua (w:=w) (P:=P) (n:=n) hlen fs.toList 0 ht fun f hfm=>by
   obtain⟨j,hj⟩:=q116 hfm;have hj':fs[j]?=some f:=by simpa using hj
   have h1:=hf j f hj';have hjl:j<ys.length:=by rw[hyl];exact(q67.1 hj').1
   rw[q62 hjl]at h1;exact ih n' f.type _ _ (hall f hfm) h1
  refine⟨row,by rw[g1];omega,?_,by simpa using g3⟩;unfold sa;rw[hu];exact⟨by rw[g1];omega,fun f hfm=>by simpa using(g2 f hfm).2⟩
 ·cases hp
end
def uG (P:Program) (t:TypeId):Bool:=match P.underlying t with|some (.struct _)=>true|_=>false
def H6 (P:Program) (t:TypeId) (row:List PV):AV:=if uG P t=true then .agg (row.map .pv) else match row with|[p]=>.pv p|_=>.ak
def rW (P:Program):List TypeId->List (List PV)->List AV|t::ts,r::rs=>H6 P t r::rW P ts rs|_,_=>[]
section
variable{H:Type}{enc:TypeId×Value->H}{P:Program}{w:World}
def NV {n base b0:Nat}{spare:Nat->Bool}{held:Bool}{r:Reach}{t:TypeId}{v:Value}{d:DataW H}{ps:List MemPlace} (hp:ij P n t=true) (hv:Value.okWide P w r b0 t v) (h:DataW.Trod enc P w base spare held t v d ps) (β:Nat->Value) (D:Nat->Prop):∃row,sa P n t row/\RV P (fun b=>b<w.heap.size) w β D v (H6 P t row):=by
 obtain⟨fuel,h⟩:=h;obtain⟨row,h1,h2,h3⟩:=Jv n fuel t _ _ hp h;refine⟨row,h2,?_⟩;have hone:v.cells=#[v]->uG P t=false->RV P (fun b=>b<w.heap.size) w β D v (H6 P t row):=by intro hc hs;rw[hc]at h1 h3;match row,h1 with|[p],_=>simp only[H6,hs];exact .pv _ _ (h3 0 v p rfl rfl).2
 cases n with|zero=>simp[ij]at hp|succ n=>
  unfold ij at hp;split at hp;·rename_i hu;obtain⟨b,rfl⟩:=okWide_bool hu hv;exact hone rfl (by simp[uG,hu])
  ·rename_i k hu;obtain⟨m,rfl⟩:=okWide_int hu hv;exact hone rfl (by simp[uG,hu])
  ·rename_i hu;obtain⟨s,rfl⟩:=okWide_string hu hv;exact hone rfl (by simp[uG,hu])
  ·rename_i e hu;obtain⟨a,len,cap,rfl⟩:=okWide_slice hu hv;exact hone rfl (by simp[uG,hu])
  ·rename_i fs hu;obtain⟨cs,rfl,hsz⟩:=okWide_struct hu hv;have hs:uG P t=true:=by simp[uG,hu]
   simp only[H6,hs,if_true];have hcs:(Value.agg cs).cells.toList=cs.toList:=rfl;rw[hcs]at h1 h3;have:=RV.agg (P:=P) (S:=fun b=>b<w.heap.size) (w:=w) (β:=β) (D:=D) (row.map .pv) cs.toList (by simp[h1]) (fun i c u hc hu=>by rw[q79,q900]at hc;obtain⟨p,hp,rfl⟩:=hc;exact .pv _ _ (h3 i u p hu hp).2);rwa[q139]at this
  ·cases hp
def ti {n base b0:Nat}{spare:Nat->Bool}{held:Bool}{r:Reach} (β:Nat->Value) (D:Nat->Prop):∀(ts:List TypeId) (vs:List Value) (ds:List (DataW H)) (ps:List MemPlace),DataW.TrodAll enc P w base spare held ts vs ds ps->(∀t∈ts,ij P n t=true)->(∀(j:Nat) (t:TypeId) (v:Value),ts[j]?=some t->vs[j]?=some v->Value.okWide P w r b0 t v)->∃rows:List (List PV),rows.length=ts.length/\vs.length=ts.length/\ds.length=ts.length/\(∀(j:Nat) (t:TypeId) (r:List PV),ts[j]?=some t->rows[j]?=some r->sa P n t r)/\(rW P ts rows).length=ts.length/\∀(i:Nat) (v:Value) (y:AV),vs[i]?=some v->(rW P ts rows)[i]?=some y->RV P (fun b=>b<w.heap.size) w β D v y
 |[],[],[],ps,h,_,_=>⟨[],rfl,rfl,rfl,fun j t r h=>by simp at h,rfl,fun i v y h=>by simp at h⟩|t::ts,v::vs,d::ds,ps,h,hp,hv=>by
  obtain⟨p,q,h1,h2,rfl⟩:=h;obtain⟨rows,g1,g2,g3,g4,g5,g6⟩:=ti β D ts vs ds q h2 (fun t ht=>hp t (by simp[ht])) (fun j t v h1 h2=>hv (j+1) t v (by simpa using h1) (by simpa using h2));obtain⟨row,k1,k2⟩:=NV (hp t (by simp)) (hv 0 t v rfl rfl) h1 β D;refine⟨row::rows,by simp[g1],by simp[g2],by simp[g3],fun j t' r ht hr=>?_,by simp[rW,g5],fun i v' y hv' hy=>?_⟩;·cases j with|zero=>simp at ht hr;subst ht hr;exact k1|succ j=>exact g4 j t' r (by simpa using ht) (by simpa using hr)
  ·cases i with|zero=>simp[rW]at hv' hy;subst hv' hy;exact k2|succ i=>exact g6 i v' y (by simpa using hv') (by simpa[rW]using hy)
 |[],[],_::_,_,h,_,_=>h.elim|[],_::_,_,_,h,_,_=>h.elim|_::_,[],_,_,h,_,_=>h.elim|_::_,_::_,[],_,h,_,_=>h.elim
def ES (P:Program) (n:Nat) (f:FuncId) (ts:List TypeId):Prop:=∀rows:List (List PV),rows.length=ts.length->(∀(j:Nat) (t:TypeId) (r:List PV),ts[j]?=some t->rows[j]?=some r->sa P n t r)->yA P f [] (rW P ts rows) [] (.pv (.bool true))
def Iz {n b0:Nat}{r:Reach}{f:FuncId}{ts:List TypeId}{vs:List Value}{ds:List (DataW H)}{ps:List MemPlace} (hcon:ES P n f ts) (hA:DataW.TrodAll enc P w 0 (fun _=>true) true ts vs ds ps) (hp:∀t∈ts,ij P n t=true) (hv:∀(j:Nat) (t:TypeId) (v:Value),ts[j]?=some t->vs[j]?=some v->Value.okWide P w r b0 t v):Calls P f vs.toArray w fun e w'=>e=.returned (.bool true)/\Below w.heap.size w w':=by
 obtain⟨rows,g1,g2,g3,g4,g5,g6⟩:=ti (fun _=>.nilIface) (fun _=>False) ts vs ds ps hA hp hv;have hS:∀b,bn (fun b=>b<w.heap.size) w.heap.size (fun _=>.nilIface) (ab []) w b↔b<w.heap.size:=by
  intro b;constructor;·exact fun h=>h.2.1
  ·exact fun h=>⟨.inl h,h,fun⟨t,o,ho,_⟩=>by cases ho⟩
 have hD:aE (ab [])=fun _=>False:=by
  funext t;apply propext;constructor;·rintro⟨o,ho⟩;cases ho
  ·exact False.elim
 refine(hcon rows g1 g4 w (fun b=>b<w.heap.size) (fun _=>.nilIface) vs (fun b h=>h) (fun t b ⟨o,ho⟩=>by cases ho) ⟨(fun t o ho=>by cases ho),(fun t t' b ⟨o,ho⟩=>by cases ho)⟩ (by rw[g2,g5]) (fun i v y h1 h2=>?_)).mono ?_;·rw[hD];exact(g6 i v y h1 h2).mono (fun b hb=>⟨(hS b).2 hb,rfl⟩) (fun t ht=>ht.elim)
 ·rintro e w' ⟨v,β',rfl,hf,_,_,hr⟩;have hvb:v=.bool true:=by have hr:RV P _ w' β' _ v (.pv (.bool true)):=hr;exact hr.fj
  subst hvb;exact⟨rfl,hf.os,hf.tape,hf.output,hf.size,fun k hk=>hf.block k hk fun⟨t,o,ho,_⟩=>by cases ho⟩
def pI (hl:laidOutB P=true) {W W':World} (hb:Below W.heap.size W W'):∀(ts:List TypeId) (vs:List Value) (ds:List (DataW H)) (ps:List MemPlace),DataW.TrodAll enc P W 0 (fun _=>true) true ts vs ds ps->(∀t∈ts,P.readableRec t=true/\t<P.types.size)->(∀x∈ps,x.block<W.heap.size)->∀sp:Nat->Bool,(∀x∈ps,sp x.block=true)->DataW.TrodAll enc P W' 0 sp true ts vs ds ps|[],[],[],ps,h,_,_,_,_=>h|t::ts,v::vs,d::ds,ps,h,hr,hlt,sp,hsp=>by obtain⟨p,q,h1,h2,rfl⟩:=h;obtain⟨hr1,hr2⟩:=hr t (by simp);exact⟨p,q,WideElems.Trod_stays hl hr1 hr2 h1 (fun x hx=>hb.same (hlt x (by simp[hx]))) (fun x hx=>hsp x (by simp[hx])),pI hl hb ts vs ds q h2 (fun t ht=>hr t (by simp[ht])) (fun x hx=>hlt x (by simp[hx])) sp (fun x hx=>hsp x (by simp[hx])),rfl⟩|[],[],_::_,_,h,_,_,_,_=>h.elim|[],_::_,_,_,h,_,_,_,_=>h.elim|_::_,[],_,_,h,_,_,_,_=>h.elim|_::_,_::_,[],_,h,_,_,_,_=>h.elim
def yK {f:Func}{s:ChangeSpec}{apart fresh handsOn again:Bool}{W W':World}{args:Array Value}{v:Value}{ds gs:List (DataW H)}{before pa pv:List MemPlace} (hW:DataW.Whole enc P f.params.toList s.vars apart W args.toList ds gs before) (hres:∀(b:Nat) (sp:Nat->Bool) (hd:Bool),DataW.TrodAll enc P W' b sp hd f.resultTypes.toList (v.resultList f.resultTypes.size) (s.fn H (ds++gs)).results []) (hargs:∀sp:Nat->Bool,(∀p∈before,sp p.block=true)->DataW.TrodAll enc P W' 0 sp true f.params.toList args.toList (s.fn H (ds++gs)).args pa) (hvars:∀sp:Nat->Bool,(∀p∈before,sp p.block=true)->DataW.TrodVars enc P W' sp s.vars (s.fn H (ds++gs)).vars pv) (hps:before=pa++pv) (hb:Below W.heap.size W W') (hok:∀(j:Nat) (t:TypeId) (r:Value),f.resultTypes[j]?=some t->(v.resultList f.resultTypes.size)[j]?=some r->Value.okWide P W' .any 0 t r):s.post enc P f apart fresh handsOn again W args v W':=by
 have hlt:∀p∈before,p.block<W.heap.size:=fun p hp=>hW.lt p hp;have hold:∀p∈before,(fun b=>decide (b<W.heap.size)) p.block=true:=fun p hp=>by simpa using hlt p hp
 refine⟨ds,gs,before,[],pa,pv,hW,hres _ _ _,hargs _ hold,hvars _ hold,World.keptBut_mono (fun p hp=>⟨hp,?_⟩) (hb.frame (·∈before)),fun _=>?_⟩;·rw[hps,q75]at hp;exact q247 hp
 ·obtain⟨_,_,_,_,_,hz,hn⟩:=hW;refine⟨hok,_,_,([]++pa)++pv,⟨[]++pa,pv,trodAll_append (hargs _ (fun _ _=>rfl)) (hres _ _ _),hvars _ (fun _ _=>rfl),rfl,?_,?_⟩,?_⟩
  ·intro b off hp;have hin:MemPlace.cell b off∈before:=by rw[hps];simpa using hp
   rw[hb.frozen (hlt _ hin)];exact hz b off hin
  ·intro ha;have:=hn ha;rw[hps]at this;simpa using this
  ·intro p hp _;rw[hps];simpa using hp
def Ly {n:Nat}{f:FuncId}{fn:Func}{s:ChangeSpec}{apart fresh handsOn again:Bool}{W:World}{base:Nat}{args:Array Value}{ds gs:List (DataW H)}{before:List MemPlace}{tb:TypeId} (hl:laidOutB P=true) (hcon:ES P n f fn.params.toList) (hpl:∀t∈fn.params.toList,ij P n t=true/\P.readableRec t=true/\t<P.types.size) (hrt:fn.resultTypes=#[tb]) (htb:P.underlying tb=some .bool) (hsv:s.vars=[]) (hspec:∀ds:List (DataW H),ds.length=fn.params.toList.length->s.fn H (ds++[])={results:=[.lit (.bool true)],args:=ds}) (hval:∀(j:Nat) t v,fn.params[j]?=some t->args[j]?=some v->Value.okWide P W .any base t v) (hW:DataW.Whole enc P fn.params.toList s.vars apart W args.toList ds gs before):Calls P f args W fun e W'=>∃v,e=.returned v/\s.post enc P fn apart fresh handsOn again W args v W':=by
 have hW':=hW;obtain⟨p,q,hA,hV,hpq,hfz,hnd⟩:=hW';rw[hsv]at hV;obtain⟨rfl,rfl⟩:gs=[]/\q=[]:=by cases gs with|nil=>exact⟨rfl,hV⟩|cons g gs=>exact hV.elim
 have hval':∀(j:Nat) (t:TypeId) (v:Value),fn.params.toList[j]?=some t->args.toList[j]?=some v->Value.okWide P W .any base t v:=fun j t v h1 h2=>hval j t v (by simpa using h1) (by simpa using h2);obtain⟨rows,_,_,hdl,_⟩:=ti (fun _=>.nilIface) (fun _=>False) _ _ _ _ hA (fun t ht=>(hpl t ht).1) hval';have hsp:=hspec ds hdl;have hc:=Iz hcon hA (fun t ht=>(hpl t ht).1) hval';have hargs:args.toList.toArray=args:=by simp
 rw[hargs]at hc;refine hc.mono ?_;rintro e W' ⟨rfl,hb⟩;refine⟨_,rfl,yK (pa:=p) (pv:=[]) hW ?_ ?_ ?_ hpq hb ?_⟩;·intro b sp hd;rw[hsp,hrt];exact trodAll_mk1 ⟨1,by simp[DataW.trod,Value.cells,htb]⟩
 ·intro sp hs;rw[hsp];exact pI hl hb _ _ _ _ hA (fun t ht=>(hpl t ht).2) (fun x hx=>hW.lt x (by rw[hpq];simpa using hx)) sp (fun x hx=>hs x (by rw[hpq];simpa using hx))
 ·intro sp hs;rw[hsp,hsv];exact rfl
 ·exact ok_one hrt rfl (okWide_bool_mk htb true)
end
end Go.Proofs.YtifcndkhigakfaaGreat.Ab
namespace Go.Proofs.YtifcndkhigakfaaGreat.Ab
open Go Go.RowKit R
def Tryz.own:ownKnob Tryz.prog.godebug=none:=by kernel_rfl
def Tryz.laidOut:laidOutB Tryz.prog=true:=by kernel_rfl
def GD {n:Nat}{row:List PV} (h:sa Tryz.prog (n+1) 9 row):∃l,row=[.str l]:=by unfold sa at h;rw[Tryz.underlying9]at h;obtain⟨l,h,_⟩:=h;exact⟨l,h⟩
def gI {n:Nat}{row:List PV} (h:sa Tryz.prog (n+1) 22 row):∃m,row=[.int .u64 m]/\cg m:=by
 unfold sa at h;rw[Tryz.underlying22]at h;obtain⟨m,rfl,hw⟩:=h;refine⟨m,rfl,?_⟩;have:IntKind.u64.min<=m/\m<=IntKind.u64.max:=by simpa[Lit.wf]using hw
 simp[IntKind.min,IntKind.max,IntKind.signed,IntKind.bits]at this;unfold cg;omega
def Ta {n:Nat}{row:List PV} (h:sa Tryz.prog (n+1) 5 row):∃m,row=[.int .u8 m]/\0<=m:=by
 unfold sa at h;rw[Tryz.underlying5]at h;obtain⟨m,rfl,hw⟩:=h;refine⟨m,rfl,?_⟩;have:IntKind.u8.min<=m/\m<=IntKind.u8.max:=by simpa[Lit.wf]using hw
 simp[IntKind.min,IntKind.max,IntKind.signed,IntKind.bits]at this;omega
def okDc (d:Dc):Prop:=d.vs.length<=maxLen/\(∀v∈d.vs,kr v)/\(∀e∈d.ps,iV e)/\cg d.l.e/\cg d.l.p/\cg d.l.i/\cg d.l.u
end Go.Proofs.YtifcndkhigakfaaGreat.Ab
