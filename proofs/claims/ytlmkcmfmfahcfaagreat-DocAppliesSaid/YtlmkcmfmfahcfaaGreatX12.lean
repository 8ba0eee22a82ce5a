/- Chapter 15: Add and Inlined, both sides. -/
import Derived.Test.YtlmkcmfmfahcfaaGreatX11
import Derived.Sort.Defs
import Derived.Sort.WalkC
set_option linter.unusedVariables false
set_option linter.unusedSimpArgs false
set_option linter.unnecessarySimpa false
set_option maxHeartbeats 40000000
set_option maxRecDepth 100000
namespace Go.Proofs.YtlmkcmfmfahcfaaGreat.Ab
open Go Go.RowKit R
def cM (l:List Vn) (v:Vn):List Vn×Int:=if bE l=false∨v.dT=true∨v.n=0∨(0<l.length∧v.n≤jm l) then([],2) else if bH v≠0∧(fy l (bH v)).isSome=false then([],150) else(l++[v],0)
@[simp] noncomputable def Dr (e:TypeId):List AV→Option (Prop×AV)|[.pv (.ro a),.agg [.pv (.int .u64 n),.pv (.int .u64 b),.pv (.int .u64 p),.pv (.int .u64 i),.pv (.int .u64 s),.pv (.int .u64 z),.pv (.int .u64 m),.pv (.str t),.pv (.bool inl),.pv (.bool dT)]]=>(dec cF a).map fun l=>(l.length≤100000∧(∀v∈l,gZ v)∧gZ ⟨n,b,p,i,s,z,m,t,inl,dT⟩,.aK [.fr e (aC (cM l ⟨n,b,p,i,s,z,m,t,inl,dT⟩).1),.pv (.int .i64 (cM l ⟨n,b,p,i,s,z,m,t,inl,dT⟩).2)])|_=>none
theorem Jh:bn Tryz.prog 116 (Dr 73):=by
 intro ys φ r h hφ;unfold Dr at h;split at h
 ·rename_i ra n b p i s z m t inl dT;obtain⟨a,ha,h⟩:=Option.map_eq_some_iff.1 h;cases h;cases aI ha;obtain⟨hl5,hov,hvv⟩:=hφ;have hl9:a.length≤1000000000:=by omega
  have hl6:a.length≤1000000:=by omega
  have fl:∀l,bq (aC l):=ax;have hbv:(if inl=true then 0 else b)=bH ⟨n,b,p,i,s,z,m,t,inl,dT⟩:=rfl;refine aB (ai HD (ai xS (ai JO (ai BE aj)))) (by kernel_rfl) fn116 (by simp) ?_;unfold body116;by_cases h0:0<a.length
  ·have w1:IntKind.i64.wrap ((a.length:Int)-1)=(a.length:Int)-1:=wrap_i64 (by omega);have hlt:a.length-1<a.length:=by omega
   have r1:=bh hlt;rw[show((a.length-1:Nat):Int)=(a.length:Int)-1 from by omega]at r1;have hln:a[a.length-1].n=jm a:=by unfold jm;rw[List.getLast?_eq_getElem?,List.getElem?_eq_getElem hlt];rfl
   rw[hln]at r1;have b1:1≤(a.length:Int):=by omega
   have b2:(a.length:Int)-1<a.length:=by omega
   cases hr:bE a with|false=>
    have hi:cM a ⟨n,b,p,i,s,z,m,t,inl,dT⟩=([],2):=by simp[cM,hr]
    simp(config := { maxSteps := 3000000 }) [hl9,hl6,hr,hi,fl,w1,r1,h0,b1,b2]|true=>cases dT with
   |true=>
    have hi:cM a ⟨n,b,p,i,s,z,m,t,inl,true⟩=([],2):=by simp[cM,hr]
    simp(config := { maxSteps := 3000000 }) [hl9,hl6,hr,hi,fl,w1,r1,h0,b1,b2]|false=>
   by_cases hn:n=0
   ·have hi:cM a ⟨n,b,p,i,s,z,m,t,inl,false⟩=([],2):=by simp[cM,hr,hn]
    simp(config := { maxSteps := 3000000 }) [hl9,hl6,hr,hi,fl,w1,r1,h0,b1,b2,hn];try(rw[←hn];simp[hi])
   by_cases hle:n≤jm a
   ·have hi:cM a ⟨n,b,p,i,s,z,m,t,inl,false⟩=([],2):=by simp[cM,hr,hn,hle,h0]
    simp(config := { maxSteps := 3000000 }) [hl9,hl6,hr,hi,fl,w1,r1,h0,b1,b2,hn,hle]
   by_cases hb:bH ⟨n,b,p,i,s,z,m,t,inl,false⟩=0
   ·have hi:cM a ⟨n,b,p,i,s,z,m,t,inl,false⟩=(a++[⟨n,b,p,i,s,z,m,t,inl,false⟩],0):=by simp[cM,hr,hn,hle,h0,hb]
    simp(config := { maxSteps := 3000000 }) [hl9,hl6,hr,fl,w1,r1,h0,b1,b2,hn,hle,hbv,bD,hb,hi,aQ];exact⟨⟨by omega,by omega⟩,by rw[cr];rfl⟩
   ·cases hg:(fy a (bH ⟨n,b,p,i,s,z,m,t,inl,false⟩)).isSome with|false=>
     have hi:cM a ⟨n,b,p,i,s,z,m,t,inl,false⟩=([],150):=by simp[cM,hr,hn,hle,h0,hb,hg]
     simp(config := { maxSteps := 3000000 }) [hl9,hl6,hr,fl,w1,r1,h0,b1,b2,hn,hle,hbv,bD,hb,hi,hg]|true=>
     have hi:cM a ⟨n,b,p,i,s,z,m,t,inl,false⟩=(a++[⟨n,b,p,i,s,z,m,t,inl,false⟩],0):=by simp[cM,hr,hn,hle,h0,hb,hg]
     simp(config := { maxSteps := 3000000 }) [hl9,hl6,hr,fl,w1,r1,h0,b1,b2,hn,hle,hbv,bD,hb,hi,hg,aQ];exact⟨⟨by omega,by omega⟩,by rw[cr];rfl⟩
  ·have:a=[]:=List.eq_nil_of_length_eq_zero (by omega);subst this;have hr:bE []=true:=rfl;have r0:∀k:Int,rowAt [] k=[]:=fun k=>by simp[rowAt]
   have hd0:dec cF []=some []:=AJ [];have hg0:∀q,fy [] q=none:=fun q=>rfl;have f0:bq []:=ax [];cases dT with
   |true=>
    have hi:cM [] ⟨n,b,p,i,s,z,m,t,inl,true⟩=([],2):=by simp[cM,hr]
    simp(config := { maxSteps := 3000000 }) [hr,hi,r0,hd0,f0]|false=>
   by_cases hn:n=0
   ·have hi:cM [] ⟨n,b,p,i,s,z,m,t,inl,false⟩=([],2):=by simp[cM,hr,hn]
    simp(config := { maxSteps := 3000000 }) [hr,hi,r0,hd0,f0,hn];try(rw[←hn];simp[hi])
   by_cases hb:bH ⟨n,b,p,i,s,z,m,t,inl,false⟩=0
   ·have hi:cM [] ⟨n,b,p,i,s,z,m,t,inl,false⟩=([⟨n,b,p,i,s,z,m,t,inl,false⟩],0):=by simp[cM,hr,hn,hb]
    simp(config := { maxSteps := 3000000 }) [hr,hi,r0,hd0,f0,hg0,hn,hb,hbv,aQ,v0,bD];rfl
   ·have hi:cM [] ⟨n,b,p,i,s,z,m,t,inl,false⟩=([],150):=by simp[cM,hr,hn,hb,hg0]
    simp(config := { maxSteps := 3000000 }) [hr,hi,r0,hd0,f0,hg0,hn,hb,hbv,v0,bD]
 ·cases h
theorem Dv:bn Tryz.prog 71 (Dr 92):=by
 intro ys φ r h hφ;unfold Dr at h;split at h
 ·rename_i ra n b p i s z m t inl dT;obtain⟨a,ha,h⟩:=Option.map_eq_some_iff.1 h;cases h;cases aI ha;obtain⟨hl5,hov,hvv⟩:=hφ;have hl9:a.length≤1000000000:=by omega
  have hl6:a.length≤1000000:=by omega
  have fl:∀l,bq (aC l):=ax;have hbv:(if inl=true then 0 else b)=bH ⟨n,b,p,i,s,z,m,t,inl,dT⟩:=rfl;have hbp:0≤bH ⟨n,b,p,i,s,z,m,t,inl,dT⟩:=m5 hvv;refine aB (ai F9 (ai xG (ai Gh aj))) (by kernel_rfl) fn71 (by simp) ?_;unfold body71;cases hr:bE a with
  |false=>
   have hi:cM a ⟨n,b,p,i,s,z,m,t,inl,dT⟩=([],2):=by simp[cM,hr]
   simp(config := { maxSteps := 3000000 }) [hl9,hl6,hr,hi,fl];exact hov|true=>cases dT with
  |true=>
   have hi:cM a ⟨n,b,p,i,s,z,m,t,inl,true⟩=([],2):=by simp[cM,hr]
   simp(config := { maxSteps := 3000000 }) [hl9,hl6,hr,hi,fl];exact hov|false=>
  by_cases hn:n=0
  ·have hi:cM a ⟨n,b,p,i,s,z,m,t,inl,false⟩=([],2):=by simp[cM,hr,hn]
   simp(config := { maxSteps := 3000000 }) [hl9,hl6,hr,hi,fl,hn];refine⟨hov,?_⟩;try(rw[←hn];simp[hi])
  simp(config := { maxSteps := 3000000 }) [hl9,hl6,hr,fl,hn];refine⟨hov,?_⟩;refine ay (fun i:Nat=>i≤a.length∧∀j (h:j<a.length),j<i→a[j].n<n) (fun i'=>⟨[(0,.pv (.ro (aC a))),(3,.ptr 3 0),(6,.pv (.int .i64 i'))],[(3,.box [.pv (.int .u64 n),.pv (.int .u64 b),.pv (.int .u64 p),.pv (.int .u64 i),.pv (.int .u64 s),.pv (.int .u64 z),.pv (.int .u64 m),.pv (.str t),.pv (.bool inl),.pv (.bool false)])]⟩) (fun i=>a.length-i) [] 0 (by simp) ?_ ?_;·simp
  ·rintro k ⟨hk,ht⟩;have w2:IntKind.i64.wrap ((k:Int)+1)=(k:Int)+1:=wrap_i64 (by omega);by_cases hlt:k<a.length
   ·have r1:=bh hlt;by_cases hge:n≤a[k].n
    ·have hla:=yz hr hlt;have hi:cM a ⟨n,b,p,i,s,z,m,t,inl,false⟩=([],2):=by
      have h1:0<a.length:=by omega
      have h2:n≤jm a:=by omega
      simp[cM,h1,h2]
     simp(config := { maxSteps := 3000000 }) [w2,hlt,r1,hge,hi]
    ·simp(config := { maxSteps := 3000000 }) [w2,hlt,r1,hge];refine⟨k+1,⟨by omega,fun j hj hjk=>?_⟩,by omega,by omega⟩;by_cases hjk':j=k;·subst hjk';omega
     ·exact ht j hj (by omega)
   ·have hle:¬(0<a.length∧n≤jm a):=by
     rintro⟨h0,hle⟩;have hlt':a.length-1<a.length:=by omega
     have h1:=ht (a.length-1) hlt' (by omega);have h2:jm a=a[a.length-1].n:=by unfold jm;rw[List.getLast?_eq_getElem?,List.getElem?_eq_getElem hlt'];rfl
     omega
    have hle':0<a.length→jm a<n:=fun h1=>by
     by_cases h2:n≤jm a;·exact absurd ⟨h1,h2⟩ hle
     ·omega
    by_cases hb:bH ⟨n,b,p,i,s,z,m,t,inl,false⟩=0
    ·have hi:cM a ⟨n,b,p,i,s,z,m,t,inl,false⟩=(a++[⟨n,b,p,i,s,z,m,t,inl,false⟩],0):=by simp[cM,hr,hn,hb];exact fun h1=>hle' (by first|exact h1|exact List.length_pos_iff.2 h1)
     simp(config := { maxSteps := 3000000 }) [hlt,hl6,hbv,hb,hi,aQ];exact⟨⟨by omega,by omega,fV a⟩,⟨by omega,by omega⟩,by rw[cr];rfl⟩
    ·have hb':0<bH ⟨n,b,p,i,s,z,m,t,inl,false⟩:=by omega
     cases hg:(fy a (bH ⟨n,b,p,i,s,z,m,t,inl,false⟩)).isSome with|false=>
      have hi:cM a ⟨n,b,p,i,s,z,m,t,inl,false⟩=([],150):=by simp[cM,hr,hn,hb,hg];exact fun h1=>hle' (by first|exact h1|exact List.length_pos_iff.2 h1)
      simp(config := { maxSteps := 3000000 }) [hlt,hl6,hbv,hb,hb',hi,hg,bD]|true=>
      have hi:cM a ⟨n,b,p,i,s,z,m,t,inl,false⟩=(a++[⟨n,b,p,i,s,z,m,t,inl,false⟩],0):=by simp[cM,hr,hn,hb,hg];exact fun h1=>hle' (by first|exact h1|exact List.length_pos_iff.2 h1)
      simp(config := { maxSteps := 3000000 }) [hlt,hl6,hbv,hb,hb',hi,hg,bD,aQ];exact⟨⟨by omega,by omega,fV a⟩,⟨by omega,by omega⟩,by rw[cr];rfl⟩
 ·cases h
def WC (l:List Vn) (ts:List (List UInt8)):List Vn:=List.zipWith (fun(v:Vn) t=>wL v.n t) l ts
def jD (l:List Vn) (ts:List (List UInt8)):List Vn×Int:=if bE l=false∨ts.length≠(aY l).length then([],2) else(WC (aY l) ts,0)
@[simp] noncomputable def YN (e:TypeId):List AV→Option (Prop×AV)|[.pv (.ro a),.pv (.ro ts)]=>(dec cF a).bind fun l=>(dec CO ts).map fun ts=>(l.length≤100000∧(∀v∈l,gZ v),.aK [.fr e (aC (jD l ts).1),.pv (.int .i64 (jD l ts).2)])|_=>none
structure Dc where
 l:Ls
 ps:List Pn
 vs:List Vn
 sl:Bool deriving DecidableEq
def cellsD (d:Dc):List AV:=[.pv (.int .u64 d.l.e),.pv (.int .u64 d.l.p),.pv (.int .u64 d.l.i),.pv (.int .u64 d.l.u),.pv (.bool d.l.h),.pv (.ro (aD d.ps)),.pv (.ro (aC d.vs)),.pv (.bool d.sl)]
noncomputable def gW (ys:List AV) (K:Dc→Option (Prop×AV)):Option (Prop×AV):=match ys with|[.pv (.int .u64 e),.pv (.int .u64 p),.pv (.int .u64 i),.pv (.int .u64 u),.pv (.bool h),.pv (.ro a),.pv (.ro b),.pv (.bool sl)]=>(dec rowP a).bind fun ps=>(dec cF b).bind fun vs=>K ⟨⟨e,p,i,u,h⟩,ps,vs,sl⟩|_=>none
@[simp] theorem Sa (e p i u:Int) (h sl:Bool) (a b:List (List PV)) (K:Dc→Option (Prop×AV)):gW [.pv (.int .u64 e),.pv (.int .u64 p),.pv (.int .u64 i),.pv (.int .u64 u),.pv (.bool h),.pv (.ro a),.pv (.ro b),.pv (.bool sl)] K=(dec rowP a).bind fun ps=>(dec cF b).bind fun vs=>K ⟨⟨e,p,i,u,h⟩,ps,vs,sl⟩:=rfl
theorem eo {ys:List AV}{K:Dc→Option (Prop×AV)}{x:Prop×AV} (h:gW ys K=some x):∃d,ys=cellsD d∧K d=some x:=by
 unfold gW at h;split at h;·obtain⟨ps,hp,h1⟩:=Option.bind_eq_some_iff.1 h;obtain⟨vs,hv,h2⟩:=Option.bind_eq_some_iff.1 h1;rw[aL hp,aI hv];exact⟨_,rfl,h2⟩
 ·cases h
@[simp] noncomputable def Yx:List AV→Option (Prop×AV)|[.agg [.pv (.ro a)]]=>(dec rowP a).map fun l=>(l.length≤100000,.fr 123 (aD l))|_=>none
theorem Pe:bn Tryz.prog 27 Yx:=by
 intro ys φ r h hφ;unfold Yx at h;split at h
 ·obtain⟨a,ha,h⟩:=Option.map_eq_some_iff.1 h;cases h;cases aL ha;have hl:a.length≤100000:=hφ;refine aB aj (by kernel_rfl) fn27 (by simp) ?_;unfold body27;simp(config := { maxSteps := 3000000 });refine ay (fun i:Nat=>i≤a.length) (fun i=>⟨[(1,.ptr 1 0),(2,.own 2),(3,.own 3),(4,.pv (.int .i64 i))],[(1,.box [.pv (.ro (aD a))]),(2,.arr 123 []),(3,.arr 123 (aD (a.take i)))]⟩) (fun i=>a.length-i) [] 0 (by simp) ?_ ?_;·simp
  ·intro i hi;have w2:IntKind.i64.wrap ((i:Int)+1)=(i:Int)+1:=wrap_i64 (by omega);by_cases hlt:i<a.length;·have r1:=cC hlt;simp(config := { maxSteps := 3000000 }) [w2,hlt,r1,aQ];refine⟨⟨by omega,by omega⟩,i+1,by omega,⟨by omega,?_⟩,by omega⟩;rw[List.take_succ_eq_append_getElem hlt,cD];rfl
   ·simp(config := { maxSteps := 3000000 }) [hlt];rw[List.take_of_length_le (by omega)]
 ·cases h
@[simp] noncomputable def X6:List AV→Option (Prop×AV)|[.pv (.ro a)]=>(dec cF a).map fun l=>(l.length≤100000,.fr 92 (aC l))|_=>none
theorem Og:bn Tryz.prog 28 X6:=by
 intro ys φ r h hφ;unfold X6 at h;split at h
 ·obtain⟨a,ha,h⟩:=Option.map_eq_some_iff.1 h;cases h;cases aI ha;have hl:a.length≤100000:=hφ;refine aB aj (by kernel_rfl) fn28 (by simp) ?_;unfold body28;simp(config := { maxSteps := 3000000 });refine ay (fun i:Nat=>i≤a.length) (fun i=>⟨[(0,.pv (.ro (aC a))),(2,.own 2),(3,.own 3),(4,.pv (.int .i64 i))],[(2,.arr 92 []),(3,.arr 92 (aC (a.take i)))]⟩) (fun i=>a.length-i) [] 0 (by simp) ?_ ?_;·simp
  ·intro i hi;have w2:IntKind.i64.wrap ((i:Int)+1)=(i:Int)+1:=wrap_i64 (by omega);by_cases hlt:i<a.length;·have r1:=bh hlt;simp(config := { maxSteps := 3000000 }) [w2,hlt,r1,aQ];refine⟨⟨by omega,by omega⟩,i+1,by omega,⟨by omega,?_⟩,by omega⟩;rw[List.take_succ_eq_append_getElem hlt,cr];rfl
   ·simp(config := { maxSteps := 3000000 }) [hlt];rw[List.take_of_length_le (by omega)]
 ·cases h
@[simp] noncomputable def Ya:List AV→Option (Prop×AV)|[.agg ys]=>gW ys fun d=>some (d.ps.length≤100000∧d.vs.length≤100000,.agg [.pv (.int .u64 d.l.e),.pv (.int .u64 d.l.p),.pv (.int .u64 d.l.i),.pv (.int .u64 d.l.u),.pv (.bool d.l.h),.fr 123 (aD d.ps),.fr 92 (aC d.vs),.pv (.bool d.sl)])|_=>none
theorem XB:bn Tryz.prog 9 Ya:=by
 intro ys φ r h hφ;unfold Ya at h;split at h;·obtain⟨d,hd,h2⟩:=eo h;subst hd;clear h;cases h2;obtain⟨h1,h2⟩:=hφ;refine aB (ai Pe (ai Og aj)) (by kernel_rfl) fn9 (by simp) ?_;unfold body9;simp(config := { maxSteps := 3000000 }) [cellsD,h1,h2]
 ·cases h
noncomputable def uu (d:Dc) (ts:List (List UInt8)):Dc×Int:=if(jD d.vs ts).2=0 then(⟨d.l,d.ps,(jD d.vs ts).1,d.sl⟩,0) else(⟨⟨0,0,0,0,false⟩,[],[],false⟩,(jD d.vs ts).2)
@[simp] noncomputable def YK (e1 e2:TypeId):List AV→Option (Prop×AV)|[.agg ys,.pv (.ro ts)]=>gW ys fun d=>(dec CO ts).map fun ts=>(d.ps.length≤100000∧d.vs.length≤100000∧(∀v∈d.vs,gZ v),.aK [.agg [.pv (.int .u64 (uu d ts).1.l.e),.pv (.int .u64 (uu d ts).1.l.p),.pv (.int .u64 (uu d ts).1.l.i),.pv (.int .u64 (uu d ts).1.l.u),.pv (.bool (uu d ts).1.l.h),.fr e1 (aD (uu d ts).1.ps),.fr e2 (aC (uu d ts).1.vs),.pv (.bool (uu d ts).1.sl)],.pv (.int .i64 (uu d ts).2)])|_=>none
def wZ (n t:List UInt8):Bool:=decide (n.length≤100)&&decide (t.length≤100)
@[simp] def GG:List AV→Option (Prop×AV)|[.agg [.pv (.int .u8 k),.pv (.int .u64 p),.pv (.int .u64 i),.pv (.int .u64 s),.pv (.int .u64 e),.pv (.int .u64 u),.pv (.int .u64 v),.pv (.int .u64 c),.pv (.int .u64 z),.pv (.int .u64 m),.pv (.str n),.pv (.str t)]]=>some (True,.pv (.bool (wZ n t)))|_=>none
theorem IJ:bn Tryz.prog 7 GG:=by
 intro ys φ r h hφ;unfold GG at h;split at h;·rename_i k p i s e u v c z m n t;cases h;refine aB aj (by kernel_rfl) fn7 (by simp) ?_;unfold body7;have e1:∀l:List UInt8,decide ((l.length:Int)≤100)=decide (l.length≤100):=fun l=>decide_eq_decide.2 (by omega);have e2:∀l:List UInt8,((l.length:Int)≤100)=(l.length≤100):=fun l=>propext (by omega);by_cases h1:n.length≤100<;>simp(config := { maxSteps := 3000000 }) [wZ,h1,e1,e2]
 ·cases h
def xV (d:Dc):Bool:=d.vs.all (fun v=>decide (v.t.length≤100))&&decide (d.ps.length≤20)&&decide (d.vs.length≤20)
@[simp] noncomputable def G6:List AV→Option (Prop×AV)|[.agg ys]=>gW ys fun d=>some (d.vs.length≤maxLen,.pv (.bool (xV d)))|_=>none
theorem H0:bn Tryz.prog 6 G6:=by
 intro ys φ r h hφ;unfold G6 at h;split at h
 ·obtain⟨d,hd,h2⟩:=eo h;subst hd;clear h;cases h2;obtain⟨⟨e,p,i,u,h'⟩,ps,vs,sl⟩:=d;have hl:vs.length≤maxLen:=hφ;rw[aQ]at hl;refine aB aj (by kernel_rfl) fn6 (by simp) ?_;unfold body6;simp(config := { maxSteps := 3000000 }) [cellsD];refine ay (fun i:Nat=>i≤vs.length∧∀v∈vs.take i,v.t.length≤100) (fun j=>⟨[(1,.ptr 1 0),(2,.pv (.bool false)),(3,.pv (.int .i64 j))],[(1,.box [.pv (.int .u64 e),.pv (.int .u64 p),.pv (.int .u64 i),.pv (.int .u64 u),.pv (.bool h'),.pv (.ro (aD ps)),.pv (.ro (aC vs)),.pv (.bool sl)])]⟩) (fun i=>vs.length-i) [] 0 (by simp) ?_ ?_;·simp
  ·rintro j ⟨hj,ht⟩;by_cases hlt:j<vs.length
   ·have r1:=bh hlt;have w2:IntKind.i64.wrap ((j:Int)+1)=(j:Int)+1:=wrap_i64 (by omega);by_cases h1:(100:Int)<vs[j].t.length
    ·have hf:xV ⟨⟨e,p,i,u,h'⟩,ps,vs,sl⟩=false:=by
      unfold xV;have:(vs.all fun v=>decide (v.t.length≤100))=false:=by rw[List.all_eq_false];exact⟨vs[j],List.getElem_mem hlt,by simp;omega⟩
      simp[this]
     simp(config := { maxSteps := 3000000 }) [w2,hlt,r1,h1,hf]
    ·have h1':(vs[j].t.length:Int)≤100:=by omega
     simp(config := { maxSteps := 3000000 }) [w2,hlt,r1,h1,h1'];refine⟨j+1,⟨by omega,fun v hv=>?_⟩,by omega,by omega⟩;rw[List.take_succ_eq_append_getElem hlt,List.mem_append]at hv;rcases hv with hv|hv;·exact ht v hv
     ·simp only[List.mem_singleton]at hv;subst hv;omega
   ·rw[List.take_of_length_le (by omega)]at ht;have hf:xV ⟨⟨e,p,i,u,h'⟩,ps,vs,sl⟩=(decide (ps.length≤20)&&decide (vs.length≤20)):=by
     unfold xV;have:(vs.all fun v=>decide (v.t.length≤100))=true:=by rw[List.all_eq_true];exact fun v hv=>decide_eq_true (ht v hv)
     simp[this]
    have e1:∀n:Nat,decide ((n:Int)≤20)=decide (n≤20):=fun n=>decide_eq_decide.2 (by omega);by_cases h2:(ps.length:Int)≤20<;>simp(config := { maxSteps := 3000000 }) [hlt,hf,h2,←e1]
 ·cases h
theorem FR {a b:Vn}:a=b↔a.n=b.n∧a.b=b.b∧a.p=b.p∧a.i=b.i∧a.s=b.s∧a.z=b.z∧a.m=b.m∧a.t=b.t∧a.inl=b.inl∧a.dT=b.dT:=by cases a;cases b;simp
@[simp] noncomputable def YT:List AV→Option (Prop×AV)|[.pv (.ro a),.pv (.ro b)]=>(dec cF a).bind fun a=>(dec cF b).map fun b=>(a.length≤1000000000,.pv (.bool (decide (a=b))))|_=>none
@[simp] noncomputable def Yp:List AV→Option (Prop×AV)|[.agg xs,.agg ys]=>gW xs fun a=>gW ys fun b=>some (a.ps.length≤1000000000∧a.vs.length≤1000000000,.pv (.bool (decide (a=b))))|_=>none
theorem PO:bn Tryz.prog 13 Yp:=by
 intro ys φ r h hφ;unfold Yp at h;split at h
 ·obtain⟨a,ha,h1⟩:=eo h;obtain⟨b,hb,h2⟩:=eo h1;subst ha hb;clear h h1;cases h2;obtain⟨⟨e,p,i,u,h'⟩,ps,vs,sl⟩:=a;obtain⟨⟨e2,p2,i2,u2,h2'⟩,ps2,vs2,sl2⟩:=b;obtain⟨h1,h2⟩:=hφ;have h1:ps.length≤1000000000:=h1;have h2:vs.length≤1000000000:=h2;refine aB (ai Dj aj) (by kernel_rfl) fn13 (by simp) ?_;unfold body13;apply af;·simp(config := { maxSteps := 3000000 }) [cellsD];exact⟨rfl,rfl⟩
  rw[bA];simp(config := { maxSteps := 3000000 }) [h1];refine⟨fun hx a1 a2 a3 a4 a5 a6 a7 a8=>?_,?_⟩;·subst a1 a2 a3 a4 a5 a6 a7 a8;simp at hx
  ·rintro rfl rfl rfl rfl rfl rfl rfl hlen;have hlen:vs.length=vs2.length:=by omega
   refine ay (fun i:Nat=>i≤vs.length∧vs.take i=vs2.take i) (fun j=>⟨[(2,.ptr 2 0),(3,.ptr 3 0),(5,.pv (.int .i64 j))],[(2,.box [.pv (.int .u64 e),.pv (.int .u64 p),.pv (.int .u64 i),.pv (.int .u64 u),.pv (.bool h'),.pv (.ro (aD ps)),.pv (.ro (aC vs)),.pv (.bool sl)]),(3,.box [.pv (.int .u64 e),.pv (.int .u64 p),.pv (.int .u64 i),.pv (.int .u64 u),.pv (.bool h'),.pv (.ro (aD ps)),.pv (.ro (aC vs2)),.pv (.bool sl)])]⟩) (fun i=>vs.length-i) [] 0 (by simp) ?_ ?_;·simp
   ·rintro j ⟨hj,ht⟩;have w2:IntKind.i64.wrap ((j:Int)+1)=(j:Int)+1:=wrap_i64 (by omega);by_cases hlt:j<vs.length
    ·have r1:=bh hlt;have hlb:j<vs2.length:=by omega
     have r2:=bh hlb;by_cases he:vs[j]=vs2[j];·obtain⟨f1,f2,f3,f4,f5,f6,f7,f8,f9,f10⟩:=FR.1 he;simp(config := { maxSteps := 3000000 }) [w2,hlt,hlb,r1,r2,f1,f2,f3,f4,f5,f6,f7,f8,f9,f10];refine⟨j+1,⟨by omega,?_⟩,by omega,by omega⟩;rw[List.take_succ_eq_append_getElem hlt,List.take_succ_eq_append_getElem hlb,ht,he]
     ·have hn:¬vs=vs2:=fun e=>he (by subst e;rfl);simp(config := { maxSteps := 3000000 }) [w2,hlt,hlb,r1,r2,hn];exact fun f1 f2 f3 f4 f5 f6 f7 f8 f9 f10=>absurd (FR.2 ⟨f1,f2,f3,f4,f5,f6,f7,f8,f9,f10⟩) he
    ·simp(config := { maxSteps := 3000000 }) [hlt];rw[List.take_of_length_le (by omega),List.take_of_length_le (by omega)]at ht;exact ht
 ·cases h
@[simp] def Ta (e1 e2:TypeId):List AV→Option (Prop×AV)|[.agg [.pv (.int .u64 e),.pv (.int .u64 p),.pv (.int .u64 i),.pv (.int .u64 u),.pv (.bool h),.fr x ra,.fr y rb,.pv (.bool sl)]]=>if x=e1∧y=e2 then some (ra.length≤1000000∧rb.length≤1000000∧(∀r∈ra,r.length=3)∧∀r∈rb,r.length=10,.bB 0 [.aK []]) else none|_=>none
theorem SV:df Tryz.prog 14 (Ta 94 73):=by
 intro ys φ r h hφ;unfold Ta at h;split at h
 ·rename_i e p i u h' x ra y rb sl;split at h
  ·rename_i hxy;obtain⟨rfl,rfl⟩:=hxy;cases h;obtain⟨l1,l2,l3,l4⟩:=hφ;refine b5 aj (by kernel_rfl) fn14 (by simp) rfl (by simp) ?_;unfold body14;apply af;·simp(config := { maxSteps := 3000000 });exact⟨rfl,rfl⟩
   rw[bA];apply af;·simp(config := { maxSteps := 3000000 });exact⟨rfl,rfl⟩
   rw[aP];refine ay (fun x:Nat×List (List PV)=>x.1≤ra.length∧x.2.length=ra.length∧∀r∈x.2,r.length=3) (fun x=>⟨[(1,.ptr 1 0),(2,.pv (.int .i64 (x.1:Int)))],[(1,.box [.pv (.int .u64 e),.pv (.int .u64 p),.pv (.int .u64 i),.pv (.int .u64 u),.pv (.bool h'),.own 998,.own 1998,.pv (.bool sl)]),(998,.arr 94 x.2),(1998,.arr 73 rb)]⟩) (fun x=>ra.length-x.1) [] (0,ra) ⟨by simp,rfl,l3⟩ ?_ ?_;·simp
   ·rintro⟨j,b⟩ ⟨hj,hb,hr⟩;have hj:j≤ra.length:=hj;have hb:b.length=ra.length:=hb;have hr:∀r∈b,r.length=3:=hr;have w2:IntKind.i64.wrap ((j:Int)+1)=(j:Int)+1:=wrap_i64 (by omega);by_cases hlt:j<ra.length
    ·have r1:(rowAt b (j:Int)).length=3:=by simp only[rowAt,Int.toNat_natCast,List.getD_eq_getElem?_getD,List.getElem?_eq_getElem (show j<b.length by omega),Option.getD_some];exact hr _ (List.getElem_mem _)
     have r2:(rowAt b (j:Int)).drop 3=[]:=List.drop_eq_nil_of_le (by omega);simp(config := { maxSteps := 3000000 }) [w2,hlt,r1,r2,hb];exact⟨j+1,_,⟨by omega,by rw[List.length_set];exact hb,fun r hr'=>(List.mem_or_eq_of_mem_set hr').elim (hr r) fun e=>by rw[e];rfl⟩,⟨by omega,rfl⟩,by omega⟩
    ·have hja:j=ra.length:=by omega
     subst hja;simp(config := { maxSteps := 3000000 }) [hb];refine ay (fun x:Nat×List (List PV)=>x.1≤rb.length∧x.2.length=rb.length∧∀r∈x.2,r.length=10) (fun x=>⟨[(1,.ptr 1 0),(3,.pv (.int .i64 (x.1:Int)))],[(1,.box [.pv (.int .u64 e),.pv (.int .u64 p),.pv (.int .u64 i),.pv (.int .u64 u),.pv (.bool h'),.own 998,.own 1998,.pv (.bool sl)]),(998,.arr 94 b),(1998,.arr 73 x.2)]⟩) (fun x=>rb.length-x.1) [] (0,rb) ⟨by simp,rfl,l4⟩ ?_ ?_;·simp
     ·rintro⟨j,c⟩ ⟨hj,hc,hr⟩;have hj:j≤rb.length:=hj;have hc:c.length=rb.length:=hc;have hr:∀r∈c,r.length=10:=hr;have w2:IntKind.i64.wrap ((j:Int)+1)=(j:Int)+1:=wrap_i64 (by omega);by_cases hlt:j<rb.length
      ·have r1:(rowAt c (j:Int)).length=10:=by simp only[rowAt,Int.toNat_natCast,List.getD_eq_getElem?_getD,List.getElem?_eq_getElem (show j<c.length by omega),Option.getD_some];exact hr _ (List.getElem_mem _)
       have r2:(rowAt c (j:Int)).drop 10=[]:=List.drop_eq_nil_of_le (by omega);simp(config := { maxSteps := 3000000 }) [w2,hlt,r1,r2,hc];exact⟨j+1,_,⟨by omega,by rw[List.length_set];exact hc,fun r hr'=>(List.mem_or_eq_of_mem_set hr').elim (hr r) fun e=>by rw[e];rfl⟩,⟨by omega,rfl⟩,by omega⟩
      ·simp(config := { maxSteps := 3000000 }) [hlt,hc]
  ·cases h
 ·cases h
def uD (f:Nat):PV:=.val (.func (.func f) #[] #[])
def jr:List (PV×PV):=[(.int .u8 1,uD 80),(.int .u8 2,uD 81),(.int .u8 3,uD 82),(.int .u8 4,uD 83),(.int .u8 5,uD 84),(.int .u8 6,uD 85),(.int .u8 7,uD 86),(.int .u8 8,uD 87)]
def Cp:List AV→Option (Prop×AV)|[]=>some (True,.pv (.mv jr))|_=>none
@[simp] theorem R5:Cp []=some (True,.pv (.mv jr)):=rfl
theorem II:bn Tryz.prog 33 Cp:=by
 intro ys φ r h hφ;unfold Cp at h;split at h;·cases h;refine aB aj (by kernel_rfl) fn33 (by simp) ?_;unfold body33;simp(config := { maxSteps := 3000000 }) [jr,uD]
 ·cases h
def vq (acc:List Int) (x:Int):List Int:=if acc.getLast?=some x then acc else acc++[x]
def iX (l:List Int):List Int:=l.foldl vq []
theorem AS (l:List Int) (x:Int):iX (l++[x])=vq (iX l) x:=by simp[iX,List.foldl_append]
theorem BD (acc:List Int) (x:Int):(vq acc x).getLast?=some x:=by
 unfold vq;split;·assumption
 ·simp
theorem iq {l:List Int}{i:Nat} (h:i<l.length):iX (l.take (i+1))=vq (iX (l.take i)) l[i]:=by rw[List.take_succ_eq_append_getElem h,AS]
theorem sB {l:List Int}{i:Nat} (h:i<l.length):(iX (l.take (i+1))).getLast?=some l[i]:=by rw[iq h,BD]
theorem Dy (acc:List Int) (x:Int):(vq acc x).length≤acc.length+1:=by unfold vq;split<;>simp
theorem qL (l:List Int):∀i,(iX (l.take i)).length≤i
 |0=>by simp[iX]|i+1=>by
  by_cases h:i<l.length;·rw[iq h];have:=Dy (iX (l.take i)) l[i];have:=qL l i;omega
  ·rw[List.take_of_length_le (by omega)];have:=qL l i;rw[List.take_of_length_le (by omega)]at this;omega
theorem yO (acc:List Int) (x y:Int):y∈vq acc x↔y∈acc∨y=x:=by
 unfold vq;split
 ·rename_i h;constructor;·exact .inl
  ·rintro(h1|rfl);·exact h1
   ·exact List.mem_of_getLast? h
 ·simp
theorem yn (acc:List Int) (x:Int) (h:acc.Pairwise (·<·)) (hx:∀y∈acc,y≤x):(vq acc x).Pairwise (·<·):=by
 unfold vq;split;·exact h
 ·rename_i hl;rw[List.pairwise_append];refine⟨h,by simp,?_⟩;intro a ha b hb;simp at hb;subst hb;have h1:=hx a ha;rcases Int.lt_or_eq_of_le h1 with h2|rfl;·exact h2
  ·exfalso;apply hl;obtain⟨l1,l2,rfl⟩:=List.append_of_mem ha;cases l2 with|nil=>simp|cons c l2=>have:=(List.pairwise_append.1 h).2.1;have h3:=(List.pairwise_cons.1 this).1 c (by simp);have h4:=hx c (by simp);omega
theorem oE:∀(l acc:List Int),l.Pairwise (·≤·)→acc.Pairwise (·<·)→(∀y∈acc,∀x∈l,y≤x)→(l.foldl vq acc).Pairwise (·<·)
 |[],acc,_,h,_=>h|x::l,acc,h1,h2,h3=>by
  rw[List.pairwise_cons]at h1;refine oE l _ h1.2 (yn acc x h2 fun y hy=>h3 y hy x (by simp)) ?_;intro y hy z hz;rcases(yO acc x y).1 hy with h|rfl;·exact h3 y h z (by simp[hz])
  ·exact h1.1 z hz
theorem uM (y:Int):∀(l acc:List Int),y∈l.foldl vq acc↔y∈acc∨y∈l|[],acc=>by simp|x::l,acc=>by rw[List.foldl_cons,uM y l,yO,List.mem_cons,or_assoc]
theorem pr:∀(a b:List Int),a.Pairwise (·<·)→b.Pairwise (·<·)→(∀y,y∈a↔y∈b)→a=b
 |[],[],_,_,_=>rfl|[],y::b,_,_,h=>by have:=(h y).2 (by simp);simp at this|x::a,[],_,_,h=>by have:=(h x).1 (by simp);simp at this|x::a,y::b,ha,hb,h=>by
  rw[List.pairwise_cons]at ha hb;have hxy:x=y:=by
   have h1:=(h x).1 (by simp);have h2:=(h y).2 (by simp);rw[List.mem_cons]at h1 h2;rcases h1 with h1|h1;·exact h1
   ·rcases h2 with h2|h2;·exact h2.symm
    ·have:=ha.1 y h2;have:=hb.1 x h1;omega
  subst hxy;rw[pr a b ha.2 hb.2 fun z=>?_];have hz:=h z;rw[List.mem_cons,List.mem_cons]at hz;constructor
  ·intro h1;rcases hz.1 (.inr h1) with rfl|h2;·have:=ha.1 z h1;omega
   ·exact h2
  ·intro h1;rcases hz.2 (.inr h1) with rfl|h2;·have:=hb.1 z h1;omega
   ·exact h2
def qg (l:List Int):List Int:=l.mergeSort fun x y=>decide (x≤y)
def lj (l:List Int):List Int:=iX (qg l)
theorem wq (l:List Int):(qg l).Pairwise (·≤·):=by have:=List.pairwise_mergeSort (le:=fun x y:Int=>decide (x≤y)) (fun a b c h1 h2=>by simp at h1 h2 ⊢;omega) (fun a b=>by simp;omega) l;exact this.imp (by simp)
theorem BZ {l a:List Int} (h:a.Pairwise (·<·)) (hm:∀y,y∈a↔y∈l):a=lj l:=by
 apply pr _ _ h;·exact oE _ _ (wq l) .nil (by simp)
 ·intro y;unfold lj iX;rw[uM,hm y];simp[qg]
theorem tB (l:List Int):(lj l).length≤l.length:=by have:=qL (qg l) (qg l).length;rw[List.take_of_length_le (Nat.le_refl _)]at this;unfold lj;simpa[qg]using this
theorem tl (l:List Int) (i:Nat) (x:Int):(bU l).set i [.int .u64 x]=bU (l.set i x):=by unfold bU;rw[List.map_set];rfl
theorem tj (l:List Int):∀r∈bU l,r.length=1:=by intro r hr;simp only[bU,List.mem_map]at hr;obtain⟨c,_,rfl⟩:=hr;rfl
@[simp] noncomputable def Tc:List AV→Option (Prop×AV)|[.fr e a]=>if e=22 then(dec dq a).map fun l=>(l.length≤1000000,.fr 22 (bU (iX l))) else none|_=>none
theorem Ri:si Tryz.prog 141 Tc:=by
 intro ys φ r h hφ;unfold Tc at h;split at h
 ·rename_i e ra;split at h
  ·rename_i he;subst he;obtain⟨a,ha,h⟩:=Option.map_eq_some_iff.1 h;cases h;cases dm ha;have hl6:a.length≤1000000:=hφ;refine mr aj (by kernel_rfl) fn141 (by simp) (by simp[cB,kL,il]) (by simp) ?_;unfold body141;by_cases h2:a.length<2
   ·have h2':(a.length:Int)<2:=by omega
    have hc:iX a=a:=by match a,h2 with|[],_=>rfl|[x],_=>rfl
    simp(config := { maxSteps := 3000000 }) [h2,h2',hc]
   ·have h2':¬(a.length:Int)<2:=by omega
    have w1:IntKind.i64.wrap 1=1:=wrap_i64 (by omega);apply af;·simp(config := { maxSteps := 3000000 });exact⟨rfl,rfl⟩
    apply af;·simp(config := { maxSteps := 3000000 }) [h2,h2'];exact⟨rfl,rfl⟩
    rw[bA];simp(config := { maxSteps := 3000000 });refine ay (fun i:Nat=>1≤i∧i≤a.length∧iX (a.take i)=a.take i) (fun i=>⟨[(0,.own 998),(3,.pv (.int .i64 i))],[(998,.arr 22 (bU a))]⟩) (fun i=>a.length-i) [] 1 ⟨by omega,by omega,by cases a with|nil=>rfl|cons x a=>rfl⟩ ?_ ?_;·simp[w1]
    ·rintro i ⟨hi1,hi2,hi3⟩;have w2:IntKind.i64.wrap ((i:Int)+1)=(i:Int)+1:=wrap_i64 (by omega);by_cases hlt:i<a.length
     ·obtain⟨p,rfl⟩:∃p,i=p+1:=⟨i-1,by omega⟩;have hpl:p<a.length:=by omega
      have w3:IntKind.i64.wrap (p:Int)=(p:Int):=wrap_i64 (by omega);have r1:rowAt (bU a) ((p:Int)+1)=[.int .u64 a[p+1]]:=by have:=eD hlt;simpa using this
      have r2:=eD hpl;have q1:(0:Int)≤(p:Int)+1:=by omega
      have q2:(p:Int)+1<a.length:=by omega
      have q3:(p:Int)<a.length:=by omega
      have hla:=sB hpl;by_cases hq:a[p+1]=a[p]
      ·apply af;·simp(config := { maxSteps := 3000000 }) [hlt,q2];exact⟨rfl,rfl⟩
       rw[bA];rw[aP];apply af;·simp(config := { maxSteps := 3000000 }) [w3,r1,r2,q1,q2,q3,hq];exact⟨hpl,rfl,rfl⟩
       apply ie rfl;apply af;·simp(config := { maxSteps := 3000000 }) [q1,q2];exact⟨⟨by omega,tj a⟩,rfl,rfl⟩
       rw[bA];apply af;·simp(config := { maxSteps := 3000000 });exact⟨rfl,rfl⟩
       rw[aP];obtain⟨i,hi⟩:∃i,i=p+1:=⟨_,rfl⟩;have hst:iX (a.take (i+1))=a.take i:=by subst hi;rw[iq hlt,vq,if_pos (by rw[hla,hq]),hi3]
       refine ay (fun x:Nat×Nat×List Int=>1≤x.2.1∧x.1<i+x.2.1∧i+x.2.1≤a.length∧x.2.2.length=a.length∧x.2.2.take x.1=iX (a.take (i+x.2.1))∧x.2.2.drop (i+x.2.1-1)=a.drop (i+x.2.1-1)) (fun x=>⟨[(0,.own 998),(3,.pv (.int .i64 x.1)),(4,.sub 998 22 i a.length),(5,.pv (.int .i64 x.2.1))],[(998,.arr 22 (bU x.2.2))]⟩) (fun x=>a.length-x.2.1) [] (i,1,a) ?_ ?_ ?_;·exact⟨Nat.le_refl _,by show i<i+1;omega,by show i+1≤a.length;omega,rfl,hst.symm,rfl⟩
       ·simp;omega
       ·rintro⟨k,j,b⟩ ⟨h1,h3,h4,h5,h6,h7⟩;dsimp only at h1 h3 h4 h5 h6 h7;obtain⟨m,hm⟩:∃m,m=i+j-1:=⟨_,rfl⟩;rw[←hm]at h7;have hm1:i+j=m+1:=by omega
        rw[hm1]at h6;have u2:IntKind.i64.wrap ((j:Int)+1)=(j:Int)+1:=wrap_i64 (by omega);have u3:IntKind.i64.wrap ((k:Int)+1)=(k:Int)+1:=wrap_i64 (by omega);have u4:IntKind.i64.wrap ((j:Int)-1)=(j:Int)-1:=wrap_i64 (by omega);have u5:(i:Int)+((j:Int)-1)=(m:Int):=by omega
        obtain⟨n,hn⟩:∃n,n=m+1:=⟨_,rfl⟩;have u6:(i:Int)+(j:Int)=(n:Int):=by omega
        rw[←hn]at h6;by_cases hjl:(j:Int)<(a.length:Int)-(i:Int)
        ·have hna:n<a.length:=by omega
         have hma:m<a.length:=by omega
         have hnb:n<b.length:=by omega
         have hmb:m<b.length:=by omega
         have hkb:k<b.length:=by omega
         have e1:=List.drop_eq_getElem_cons hmb;have e2:=List.drop_eq_getElem_cons hma;have e3:b[m]=a[m]∧b.drop n=a.drop n:=by rw[h7,e2]at e1;injection e1 with e1 e4;exact⟨e1.symm,by rw[hn];exact e4.symm⟩
         have e4:b[n]=a[n]:=by have e5:=List.drop_eq_getElem_cons hnb;have e6:=List.drop_eq_getElem_cons hna;rw[e3.2,e6]at e5;injection e5 with e5 _;exact e5.symm
         have r3:=eD hnb;have r4:=eD hmb;have r5:=eD hkb;rw[e4]at r3;rw[e3.1]at r4;have hla:(iX (a.take n)).getLast?=some a[m]:=by rw[hn];exact sB hma
         have hstep:=iq hna;have hin:i+(j+1)=n+1:=by omega
         have j1:(0:Int)≤(j:Int)-1:=by omega
         have j2:(j:Int)-1<(a.length:Int)-(i:Int):=by omega
         have j3:(k:Int)<(b.length:Int):=by omega
         by_cases hq2:a[n]=a[m];·rw[vq,if_pos (by rw[hla,hq2])]at hstep;simp(config := { maxSteps := 3000000 }) [hjl,u2,u3,u4,u5,u6,r3,r4,j1,j2,j3,hq2];exact⟨hnb,by omega,hmb,k,j+1,b,⟨by omega,by omega,by omega,h5,by rw[hin,hstep,h6],by rw[hin];exact e3.2⟩,⟨⟨rfl,by omega⟩,rfl⟩,by omega⟩
         ·rw[vq,if_neg (by rw[hla];simp;exact fun h=>hq2 h.symm)]at hstep;simp(config := { maxSteps := 3000000 }) [hjl,u2,u3,u4,u5,u6,r3,r4,j1,j2,j3,hq2,tl,r5];refine⟨hnb,by omega,hmb,hnb,hkb,k+1,j+1,b.set k a[n],⟨by omega,by omega,by omega,by rw[List.length_set];exact h5,?_,?_⟩,⟨⟨by omega,by omega⟩,rfl⟩,by omega⟩;·rw[hin,hstep,←h6,List.take_succ_eq_append_getElem (by simp;omega)];simp[List.take_set_of_le]
          ·rw[hin,Nat.add_sub_cancel,List.drop_set_of_lt (by omega)];exact e3.2
        ·have hma:m+1=a.length:=by omega
         have h6:b.take k=iX a:=by rw[h6,hn,hma,List.take_length]
         have h3r:=tj b;simp(config := { maxSteps := 3000000 }) [hjl];refine⟨⟨by omega,h3r⟩,⟨by omega,?_⟩,?_⟩
         ·rintro x (hx|⟨_,rfl⟩|hx);·exact h3r x (List.mem_of_mem_take hx)
          ·rfl
          ·exact h3r x (List.mem_of_mem_drop hx)
         ·rw[List.take_append_of_le_length (by simp;omega),List.take_take,Nat.min_self,←h6];simp[bU,List.map_take]
      ·have hst:iX (a.take (p+1+1))=a.take (p+1+1):=by rw[iq hlt,vq,if_neg (by rw[hla];simp;exact fun h=>hq h.symm),hi3,←List.take_succ_eq_append_getElem hlt]
       simp(config := { maxSteps := 3000000 }) [w2,w3,r1,r2,q1,q2,q3,hq];exact⟨hpl,p+2,⟨by omega,by omega,hst⟩,by rw[wrap_i64 (by omega)];omega,by omega⟩
     ·have hia:i=a.length:=by omega
      subst hia;rw[List.take_length]at hi3;simp(config := { maxSteps := 3000000 }) [hi3]
  ·cases h
 ·cases h
@[simp] noncomputable def X4:List AV→Option (Prop×AV)|[.pv (.ro a),.pv (.ro b)]=>(dec dq a).bind fun la=>(dec dq b).map fun lb=>(la.length≤1000000000,.pv (.bool (decide (la=lb))))|_=>none
theorem BK {o L:List Int}{k:Nat}{x:Int} (hk:k<o.length) (hL:L=o.take (k+1)++x::o.drop (k+1)):(L.set k x).set (k+1) o[k]=o.take k++x::o.drop k:=by
 subst hL;have h1:o.take (k+1)=o.take k++[o[k]]:=List.take_succ_eq_append_getElem hk;have h2:o.drop k=o[k]::o.drop (k+1):=List.drop_eq_getElem_cons hk;have h3:(o.take k).length=k:=by rw[List.length_take];omega
 generalize o[k]=y at*;generalize o.drop (k+1)=B at*;rw[h1,h2];generalize o.take k=A at*;subst h3;simp[List.set_append]
theorem yh {o:List Int}{k:Nat}{x:Int} (hkl:k≤o.length) (ho:o.Pairwise (·<·)) (h:∀y∈o.drop k,x<y) (hk:∀j (hj:j<o.length),k=j+1→o[j]<x):(o.take k++x::o.drop k).Pairwise (·<·):=by
 have hto:∀y∈o.take k,y<x:=by intro y hy;rw[List.mem_take_iff_getElem]at hy;obtain⟨i,hi,rfl⟩:=hy;cases k with|zero=>omega|succ j=>
  have h1:=hk j (by omega) rfl;by_cases hij:i=j;·subst hij;exact h1
  ·have:=(List.pairwise_iff_getElem.1 ho) i j (by omega) (by omega) (by omega);omega
 have hsp:=ho;rw[←List.take_append_drop k o,List.pairwise_append]at hsp;rw[List.pairwise_append,List.pairwise_cons];refine⟨hsp.1,⟨h,hsp.2.1⟩,?_⟩;intro a ha b hb;rw[List.mem_cons]at hb;rcases hb with rfl|hb;·exact hto a ha
 ·exact hsp.2.2 a ha b hb
@[simp] noncomputable def Yg:List AV→Option (Prop×AV)|[.pv (.ro a)]=>(dec rowP a).map fun l=>(l.length≤1000000,.fr 22 (bU (lj (l.map Pn.v))))|_=>none
theorem Wk:bn Tryz.prog 77 Yg:=by
 intro ys φ r h hφ;unfold Yg at h;split at h
 ·rename_i ra;obtain⟨a,ha,h⟩:=Option.map_eq_some_iff.1 h;cases h;cases aL ha;have hl6:a.length≤1000000:=hφ;refine aB (ai RJ aj) (by kernel_rfl) fn77 (by simp) ?_;unfold body77;simp(config := { maxSteps := 3000000 });refine ay (fun x:Nat×List Int=>x.1≤a.length∧x.2.Pairwise (·<·)∧(∀y,y∈x.2↔y∈(a.take x.1).map Pn.v)∧x.2.length≤x.1) (fun x=>⟨[(0,.pv (.ro (aD a))),(3,.own 3),(4,.pv (.int .i64 (x.1:Int)))],[(3,.arr 22 (bU x.2))]⟩) (fun x=>a.length-x.1) [] (0,[]) ⟨by simp,.nil,by simp,by simp⟩ ?_ ?_;·simp
  ·rintro⟨i,o⟩ ⟨hi,ho,hm,hol⟩;have hi:i≤a.length:=hi;have ho:o.Pairwise (·<·):=ho;have hm:∀y,y∈o↔y∈(a.take i).map Pn.v:=hm;have hol:o.length≤i:=hol;have w2:IntKind.i64.wrap ((i:Int)+1)=(i:Int)+1:=wrap_i64 (by omega);by_cases hlt:i<a.length
   ·have r1:=cC hlt;have htk:(a.take (i+1)).map Pn.v=(a.take i).map Pn.v++[a[i].v]:=by rw[List.take_succ_eq_append_getElem hlt,List.map_append];rfl
    have hofm:CT (a.take i) a[i].v=true↔a[i].v∈o:=by rw[hm];unfold CT;simp only[List.any_eq_true,decide_eq_true_eq,List.mem_map]
    obtain⟨x,hx⟩:∃x,x=a[i].v:=⟨_,rfl⟩;rw[←hx]at r1 htk hofm;have htl:(a.take i).length≤1000000000:=by rw[List.length_take];omega
    have h3:=c9 a;by_cases hof:CT (a.take i) x=true
    ·simp(config := { maxSteps := 3000000 }) [w2,hlt,r1,kz,hof,htl,h3];refine⟨⟨by omega,h3⟩,by omega,i+1,o,⟨by omega,ho,?_,by omega⟩,⟨by omega,rfl⟩,by omega⟩;intro y;rw[←List.map_take,htk,List.mem_append,←hm y,List.mem_singleton];constructor;·exact .inl
     ·rintro(h|rfl);·exact h
      ·exact hofm.1 hof
    ·have hof':CT (a.take i) x=false:=by simpa using hof
     have hxo:x∉o:=fun h=>hof (hofm.2 h);have hap:bU o++[[PV.int .u64 x]]=bU (o++[x]):=by rw[l9];rfl
     have w4:IntKind.i64.wrap ((o.length:Int)+1-1)=(o.length:Int):=by rw[wrap_i64 (by omega)];omega
     apply af;·simp(config := { maxSteps := 3000000 }) [hlt];exact⟨rfl,rfl⟩
     rw[bA];rw[aP];apply af;·simp(config := { maxSteps := 3000000 }) [hlt,r1,kz,hof',htl,h3];exact⟨⟨by omega,h3⟩,by omega,rfl,rfl⟩
     apply af;·simp(config := { maxSteps := 3000000 }) [hlt,r1,hap,aQ];exact⟨⟨by omega,by omega⟩,rfl,rfl⟩
     apply af;·simp(config := { maxSteps := 3000000 }) [w4];exact⟨rfl,rfl⟩
     rw[aP];have w6:IntKind.i64.wrap (o.length:Int)=(o.length:Int):=wrap_i64 (by omega);refine ay (fun y:Nat×List Int=>y.1≤o.length∧y.2=o.take y.1++x::o.drop y.1∧∀z∈o.drop y.1,x<z) (fun y=>⟨[(0,.pv (.ro (aD a))),(3,.own 3),(4,.pv (.int .i64 (i:Int))),(5,.pv (.int .i64 (y.1:Int)))],[(3,.arr 22 (bU y.2))]⟩) (fun y=>y.1) [] (o.length,o++[x]) ⟨Nat.le_refl _,by simp,by simp⟩ ?_ ?_;·simp[w6]
     ·rintro⟨k,L⟩ ⟨hk,hL,hgt⟩;have hk:k≤o.length:=hk;have hL:L=o.take k++x::o.drop k:=hL;have hgt:∀z∈o.drop k,x<z:=hgt;have hLl:L.length=o.length+1:=by rw[hL];simp;omega
      have hout:(∀j (hj:j<o.length),k=j+1→o[j]<x)→(i+1≤a.length∧L.Pairwise (·<·)∧(∀y,y∈L↔y∈(a.take (i+1)).map Pn.v)∧L.length≤i+1):=by
       intro h;refine⟨by omega,by rw[hL];exact yh hk ho hgt h,?_,by omega⟩;intro y;rw[htk,List.mem_append,←hm y,hL,List.mem_append,List.mem_cons,List.mem_singleton];conv=>rhs;rw[←List.take_append_drop k o,List.mem_append]
       constructor
       ·rintro(h|h|h);·exact .inl (.inl h)
        ·exact .inr h
        ·exact .inl (.inr h)
       ·rintro((h|h)|h);·exact .inl h
        ·exact .inr (.inr h)
        ·exact .inr (.inl h)
      have r3:=eD (l:=L) (i:=k) (by omega);have e3:L[k]=x:=by subst hL;rw[List.getElem_append_right (by simp;omega)];simp[Nat.min_eq_left hk]
      rw[e3]at r3;cases k with|zero=>have w3:IntKind.i64.wrap (-1)=-1:=wrap_i64 (by omega);have r4:rowAt (bU L) (-1)=[.int .u64 x]:=r3;have r3:rowAt (bU L) 0=[.int .u64 x]:=r3;simp(config := { maxSteps := 3000000 }) [w3,r3,r4,w2];have h:=hout (fun j hj hj2=>absurd hj2 (by omega));exact⟨i+1,L,by rw[←List.map_take];exact h,⟨by omega,rfl⟩,by omega⟩|succ j=>
       have w3:IntKind.i64.wrap ((j:Int)+1-1)=(j:Int):=by rw[wrap_i64 (by omega)];omega
       have w5:IntKind.i64.wrap (j:Int)=(j:Int):=wrap_i64 (by omega);have r3:rowAt (bU L) ((j:Int)+1)=[.int .u64 x]:=by simpa using r3
       have hjo:j<o.length:=by omega
       have r4:=eD (l:=L) (i:=j) (by omega);have e4:L[j]=o[j]:=by subst hL;rw[List.getElem_append_left (by simp;omega)];simp
       rw[e4]at r4;have q2:(0:Int)≤(j:Int)+1:=by omega
       have q3:(j:Int)+1<(L.length:Int):=by omega
       have q4:(j:Int)<(L.length:Int):=by omega
       have q5:(0:Int)<(j:Int)+1:=by omega
       have q4':j<L.length:=by omega
       have r5:rowAt (bU (L.set j x)) ((j:Int)+1)=[.int .u64 x]:=by have h1:=eD (l:=L.set j x) (i:=j+1) (by rw[List.length_set];omega);rw[List.getElem_set_ne (by omega),e3]at h1;simpa using h1
       have e5:=BK hjo hL;have hgt2:∀z∈o.drop j,x<o[j]→x<z:=by
        intro z hz h;rw[List.drop_eq_getElem_cons hjo,List.mem_cons]at hz;rcases hz with rfl|hz;·exact h
        ·exact hgt z hz
       by_cases hq:x<o[j];·simp(config := { maxSteps := 3000000 }) [w3,w5,r3,r4,q2,q3,q4,q5,hq,tl,r5];exact⟨q4',j,(L.set j x).set (j+1) o[j],⟨by omega,e5,fun z hz=>hgt2 z hz hq⟩,⟨rfl,rfl⟩,by omega⟩
       ·simp(config := { maxSteps := 3000000 }) [w3,w5,r3,r4,q2,q3,q4,q5,hq,w2];have h:=hout (fun j' hj' hj2=>by
         obtain rfl:j'=j:=by omega
         have:o[j']≠x:=fun h=>hxo (h▸List.getElem_mem hj');omega);exact⟨q4',i+1,L,by rw[←List.map_take];exact h,⟨by omega,rfl⟩,by omega⟩
   ·have hia:i=a.length:=by omega
    subst hia;have hv:=BZ ho (l:=a.map Pn.v) (by rw[List.take_length]at hm;exact hm);simp(config := { maxSteps := 3000000 }) [←hv]
 ·cases h
@[simp] noncomputable def YW:List AV→Option (Prop×AV)|[.aK [.agg [.fr e a]]]=>if e=94 then(dec rowP a).map fun l=>(l.length≤1000000,.bB 0 [.aK [],.agg [.fr 94 (aD (l.map fun _=>⟨77,77,0⟩))]]) else none|_=>none
end Go.Proofs.YtlmkcmfmfahcfaaGreat.Ab
namespace Go.Proofs.YtlmkcmfmfahcfaaGreat.Ab
open Go Go.RowKit Go.Sort R
@[simp] noncomputable def Rs:List AV→Option (Prop×AV)|[.pv (.int .u64 a)]=>some (True,.pv (.bool false))|_=>none
theorem Om:bn Tryz.prog 165 Rs:=by
 intro ys φ r h hφ;unfold Rs at h;split at h;·cases h;refine aB aj (by kernel_rfl) fn165 (by simp) ?_;unfold body165;simp(config := { maxSteps := 3000000 })
 ·cases h
@[simp] noncomputable def Gs:List AV→Option (Prop×AV)|[.pv (.int k a),.pv (.int m b)]=>some (k=.u64∧m=.u64,.pv (.bool (ltInt a b)))|_=>none
theorem lF:bn Tryz.prog 155 Gs:=by
 intro ys φ r h hφ;unfold Gs at h;split at h;·cases h;obtain⟨rfl,rfl⟩:=hφ;refine aB (ai Om aj) (by kernel_rfl) fn155 (by simp) ?_;unfold body155;simp(config := { maxSteps := 3000000 }) [ltInt]
 ·cases h
def rA (d:Array Int):List (List PV):=bU d.toList
@[simp] theorem AT (d:Array Int):(rA d).length=d.size:=by simp[rA]
def gA (d:Array Int) (i:Nat):Int:=d[i]!
theorem bd {d:Array Int}{i:Nat} (h:i<d.size):rowAt (rA d) (i:Int)=[.int .u64 (gA d i)]:=by have:=eD (l:=d.toList) (i:=i) (by simpa using h);unfold rA gA;rw[this,getElem!_pos d i h];rfl
@[simp] theorem Wg (d:Array Int) (i:Nat) (x:Int):(rA d).set i [.int .u64 x]=rA (d.setIfInBounds i x):=by unfold rA bU;rw[Array.toList_setIfInBounds,List.map_set];rfl
theorem vQ (l:List Int):bU l=rA l.toArray:=rfl
theorem size_swp (d:Array Int) (i j:Nat):(swp d i j).size=d.size:=by simp[swp]
noncomputable def zK (F:Array Int→Nat→Nat→Array Int):List AV→Option (Prop×AV)|[.aK [.fr e a],.pv (.int .i64 p),.pv (.int .i64 q)]=>if e=22 then(dec dq a).map fun l=>(0≤p∧p≤q∧q≤(l.length:Int)∧l.length≤1000000,.bB 0 [.aK [],.fr 22 (rA (F l.toArray p.toNat q.toNat))]) else none|_=>none
theorem gx (d:Array Int):dec dq (rA d)=some d.toList:=zY _
@[simp] theorem Vf (F:Array Int→Nat→Nat→Array Int) (e:TypeId) (d:Array Int) (p q:Int):zK F [.aK [.fr e (rA d)],.pv (.int .i64 p),.pv (.int .i64 q)]=if e=22 then some (0≤p∧p≤q∧q≤(d.size:Int)∧d.size≤1000000,.bB 0 [.aK [],.fr 22 (rA (F d p.toNat q.toNat))]) else none:=by show(if e=22 then(dec dq (rA d)).map _ else none)=_;rw[gx];simp
theorem qF {F:Array Int→Nat→Nat→Array Int}{ys:List AV}{φ:Prop}{r:AV} (h:zK F ys=some (φ,r)):∃(d:Array Int) (p q:Int),ys=[.aK [.fr 22 (rA d)],.pv (.int .i64 p),.pv (.int .i64 q)]∧φ=(0≤p∧p≤q∧q≤(d.size:Int)∧d.size≤1000000)∧r=.bB 0 [.aK [],.fr 22 (rA (F d p.toNat q.toNat))]:=by
 unfold zK at h;split at h
 ·split at h;·rename_i e;subst e;obtain⟨l,hl,h⟩:=Option.map_eq_some_iff.1 h;cases h;cases dm hl;exact⟨l.toArray,_,_,by rw[vQ],by simp,rfl⟩
  ·cases h
 ·cases h
theorem kW (a:Nat):∀(j:Nat) (d:Array Int),(insInner ltInt a j d).size=d.size
 |0,d=>rfl|j+1,d=>by
  unfold insInner;split;·rw[kW a j,size_swp]
  ·rfl
theorem H9:df Tryz.prog 149 (zK (insertionSort ltInt)):=by
 intro ys φ r h hφ;obtain⟨d,p,q,rfl,rfl,rfl⟩:=qF h;obtain⟨h1,h2,h3,h4⟩:=hφ;obtain⟨a,rfl⟩:∃a:Nat,p=a:=⟨p.toNat,by omega⟩;obtain⟨b,rfl⟩:∃b:Nat,q=b:=⟨q.toNat,by omega⟩;rw[Int.toNat_natCast,Int.toNat_natCast];refine b5 (ai lF aj) (by kernel_rfl) fn149 (by simp) rfl (by simp) ?_;unfold body149;have w0:IntKind.i64.wrap ((a:Int)+1)=(a:Int)+1:=wrap_i64 (by omega);generalize hW:insertionSort ltInt d a b=W;simp(config := { maxSteps := 3000000 }) [w0];refine ay (fun x:Nat×Array Int=>(a+1≤x.1∧x.1≤max (a+1) b)∧x.2.size=d.size∧insOuter ltInt a b x.1 x.2=W) (fun x=>⟨[(0,.own 999),(1,.pv (.int .i64 (a:Int))),(2,.pv (.int .i64 (b:Int))),(6,.pv (.int .i64 (x.1:Int)))],[(999,.arr 22 (rA x.2))]⟩) (fun x=>max (a+1) b-x.1) [] (a+1,d) ⟨⟨Nat.le_refl _,Nat.le_max_left _ _⟩,rfl,hW⟩ ?_ ?_;·simp
 ·rintro⟨i,D⟩ ⟨⟨hi1,hi2⟩,hD,hI⟩;have hi1:a+1≤i:=hi1;have hi2:i≤max (a+1) b:=hi2;have hD:D.size=d.size:=hD;have hI:insOuter ltInt a b i D=W:=hI;have w2:IntKind.i64.wrap ((i:Int)+1)=(i:Int)+1:=wrap_i64 (by omega);by_cases hlt:i<b
  ·unfold insOuter at hI;rw[if_pos hlt]at hI;obtain⟨T,hT⟩:∃T,T=insInner ltInt a i D:=⟨_,rfl⟩;rw[←hT]at hI;have hTs:T.size=d.size:=by rw[hT,kW,hD]
   apply af;·simp(config := { maxSteps := 3000000 }) [hlt];exact⟨rfl,rfl⟩
   rw[bA];rw[aP];apply af;·simp(config := { maxSteps := 3000000 });exact⟨rfl,rfl⟩
   rw[aP];refine ay (fun y:Nat×Array Int=>(a≤y.1∧y.1≤i)∧y.2.size=d.size∧insInner ltInt a y.1 y.2=T) (fun y=>⟨[(0,.own 999),(1,.pv (.int .i64 (a:Int))),(2,.pv (.int .i64 (b:Int))),(6,.pv (.int .i64 (i:Int))),(7,.pv (.int .i64 (y.1:Int)))],[(999,.arr 22 (rA y.2))]⟩) (fun y=>y.1) [] (i,D) ⟨⟨by omega,Nat.le_refl _⟩,hD,hT.symm⟩ ?_ ?_;·simp
   ·rintro⟨j,E⟩ ⟨⟨hj1,hj2⟩,hE,hJ⟩;have hj1:a≤j:=hj1;have hj2:j≤i:=hj2;have hE:E.size=d.size:=hE;have hJ:insInner ltInt a j E=T:=hJ;have q3:(j:Int)<(E.size:Int):=by omega
    have r1:=bd (d:=E) (i:=j) (by omega);cases j with|zero=>
     have ha0:a=0:=by omega
     subst ha0;have hJ:E=T:=hJ;subst hJ;have w3:IntKind.i64.wrap (-1)=-1:=wrap_i64 (by omega);have r2:rowAt (rA E) (-1)=[.int .u64 (gA E 0)]:=bd (d:=E) (i:=0) (by omega);have r1:rowAt (rA E) 0=[.int .u64 (gA E 0)]:=r1;simp(config := { maxSteps := 3000000 }) [w3,r1,r2,w2];exact⟨i+1,E,⟨by omega,hE,hI⟩,⟨by omega,rfl⟩,by omega⟩|succ k=>
     have w3:IntKind.i64.wrap ((k:Int)+1-1)=(k:Int):=by rw[wrap_i64 (by omega)];omega
     have w4:IntKind.i64.wrap (k:Int)=(k:Int):=wrap_i64 (by omega);have r1:rowAt (rA E) ((k:Int)+1)=[.int .u64 (gA E (k+1))]:=by simpa using r1
     have r2:=bd (d:=E) (i:=k) (by omega);have q2:(0:Int)≤(k:Int)+1:=by omega
     have q3:(k:Int)+1<(E.size:Int):=by omega
     have q4:(k:Int)<(E.size:Int):=by omega
     unfold insInner at hJ;by_cases hja:a<k+1
     ·have q1:(a:Int)<(k:Int)+1:=by omega
      cases hl:ltInt E[k+1]! E[k]! with|true=>have hl2:ltInt (gA E (k+1)) (gA E k)=true:=hl;rw[hl,if_pos (by simp;omega)]at hJ;have r3:=bd (d:=E.setIfInBounds (k+1) (gA E k)) (i:=k) (by rw[Array.size_setIfInBounds];omega);simp(config := { maxSteps := 3000000 }) [w3,w4,r1,r2,r3,q1,q2,q3,q4,hl2];exact⟨by omega,k,swp E (k+1) k,⟨by omega,by rw[size_swp,hE],hJ⟩,⟨rfl,rfl⟩,by omega⟩|false=>have hl2:ltInt (gA E (k+1)) (gA E k)=false:=hl;rw[hl,if_neg (by simp)]at hJ;subst hJ;simp(config := { maxSteps := 3000000 }) [w3,w4,r1,r2,q1,q2,q3,q4,hl2,w2];exact⟨by omega,i+1,E,⟨by omega,hE,hI⟩,⟨by omega,rfl⟩,by omega⟩
     ·have q1:¬(a:Int)<(k:Int)+1:=by omega
      rw[if_neg (by simp;omega)]at hJ;subst hJ;simp(config := { maxSteps := 3000000 }) [w3,w4,r1,r2,q1,q2,q3,q4,w2];exact⟨i+1,E,⟨by omega,hE,hI⟩,⟨by omega,rfl⟩,by omega⟩
  ·unfold insOuter at hI;rw[if_neg hlt]at hI;subst hI;simp(config := { maxSteps := 3000000 }) [hlt]
theorem kg {d:Array Int}{i:Nat} (h:d.size≤i):rowAt (rA d) (i:Int)=[]:=by unfold rowAt;rw[Int.toNat_natCast,List.getD_eq_getElem?_getD,List.getElem?_eq_none (by rw[AT];exact h)];rfl
theorem lX (f:Fr):f.st=⟨look f.vs,ab f.os⟩:=rfl
noncomputable def Jt:List AV→Option (Prop×AV)|[.aK [.fr e a],.pv (.int .i64 lo),.pv (.int .i64 hi),.pv (.int .i64 fi)]=>if e=22 then(dec dq a).map fun l=>((0≤lo∧lo≤1000000)∧0≤hi∧0≤fi∧fi+hi≤(l.length:Int)∧l.length≤1000000,.bB 0 [.aK [],.fr 22 (rA (siftDown ltInt hi.toNat fi.toNat lo.toNat l.toArray))]) else none|_=>none
@[simp] theorem UQ (e:TypeId) (d:Array Int) (lo hi fi:Int):Jt [.aK [.fr e (rA d)],.pv (.int .i64 lo),.pv (.int .i64 hi),.pv (.int .i64 fi)]=if e=22 then some ((0≤lo∧lo≤1000000)∧0≤hi∧0≤fi∧fi+hi≤(d.size:Int)∧d.size≤1000000,.bB 0 [.aK [],.fr 22 (rA (siftDown ltInt hi.toNat fi.toNat lo.toNat d))]) else none:=by show(if e=22 then(dec dq (rA d)).map _ else none)=_;rw[gx];simp
theorem O1:df Tryz.prog 160 Jt:=by
 intro ys φ r h hφ;unfold Jt at h;split at h
 ·rename_i e ra lo hi fi;split at h
  ·rename_i he;subst he;obtain⟨l,hl,h⟩:=Option.map_eq_some_iff.1 h;cases h;cases dm hl;obtain⟨⟨h1,h2⟩,h3,h4,h5,h6⟩:=hφ;obtain⟨lo,rfl⟩:∃a:Nat,lo=a:=⟨lo.toNat,by omega⟩;obtain⟨hi,rfl⟩:∃a:Nat,hi=a:=⟨hi.toNat,by omega⟩;obtain⟨fi,rfl⟩:∃a:Nat,fi=a:=⟨fi.toNat,by omega⟩;rw[Int.toNat_natCast,Int.toNat_natCast,Int.toNat_natCast,vQ];obtain⟨d,hd⟩:∃d,d=l.toArray:=⟨_,rfl⟩;have hds:d.size=l.length:=by rw[hd];simp
   rw[←hd];generalize hW:siftDown ltInt hi fi lo d=W;refine b5 (ai lF aj) (by kernel_rfl) fn160 (by simp) rfl (by simp) ?_;unfold body160;simp(config := { maxSteps := 3000000 });refine ay (fun x:Nat×Array Int=>x.1≤1000000∧x.2.size=l.length∧siftDown ltInt hi fi x.1 x.2=W) (fun x=>⟨[(0,.own 999),(1,.pv (.int .i64 (lo:Int))),(2,.pv (.int .i64 (hi:Int))),(3,.pv (.int .i64 (fi:Int))),(8,.pv (.int .i64 (x.1:Int)))],[(999,.arr 22 (rA x.2))]⟩) (fun x=>hi-x.1) [] (lo,d) ⟨by show lo≤_;omega,hds,hW⟩ ?_ ?_;·simp
   ·rintro⟨i,D⟩ ⟨hi1,hD,hI⟩;have hi1:i≤1000000:=hi1;have hD:D.size=l.length:=hD;have hI:siftDown ltInt hi fi i D=W:=hI;have w1:IntKind.i64.wrap (2*(i:Int))=2*(i:Int):=wrap_i64 (by omega);have w2:IntKind.i64.wrap (2*(i:Int)+1)=2*(i:Int)+1:=wrap_i64 (by omega);have w3:IntKind.i64.wrap (2*(i:Int)+1+1)=2*(i:Int)+2:=by rw[wrap_i64 (by omega)];omega
    obtain⟨r0,e0⟩:∃r0,r0=fi+i:=⟨_,rfl⟩;obtain⟨c1,e1⟩:∃c1,c1=fi+(2*i+1):=⟨_,rfl⟩;obtain⟨c2,e2⟩:∃c2,c2=fi+(2*i+2):=⟨_,rfl⟩;have w4:IntKind.i64.wrap ((fi:Int)+(2*(i:Int)+1))=(c1:Int):=by rw[wrap_i64 (by omega)];omega
    have w5:IntKind.i64.wrap ((c1:Int)+1)=(c2:Int):=by rw[wrap_i64 (by omega)];omega
    have w6:IntKind.i64.wrap ((fi:Int)+(i:Int))=(r0:Int):=by rw[wrap_i64 (by omega)];omega
    have w7:IntKind.i64.wrap ((fi:Int)+(2*(i:Int)+2))=(c2:Int):=by rw[wrap_i64 (by omega)];omega
    unfold siftDown at hI;rw[←e0,←e1,←e2,show c1+1=c2 by omega]at hI;by_cases hc:2*i+1≥hi
    ·rw[dif_pos hc]at hI;subst hI;have hc2:(hi:Int)≤2*(i:Int)+1:=by omega
     simp(config := { maxSteps := 3000000 }) [w1,w2,hc2]
    ·rw[dif_neg hc]at hI;have hc2:¬(hi:Int)≤2*(i:Int)+1:=by omega
     have q1:r0<D.size:=by omega
     have r1:=bd q1;have q2:c1<D.size:=by omega
     have r2:=bd q2;rw[lX,aP];apply af;·simp(config := { maxSteps := 3000000 }) [w1,w2];exact⟨rfl,rfl⟩
     apply af;·simp(config := { maxSteps := 3000000 }) [hc2];exact⟨rfl,rfl⟩
     by_cases hg1:2*i+2<hi
     ·have g1:2*(i:Int)+2<(hi:Int):=by omega
      have q4:c2<D.size:=by omega
      have r4:=bd q4;cases hg2:ltInt D[c1]! D[c2]! with
      |true=>
       have hg3:ltInt (gA D c1) (gA D c2)=true:=hg2;rw[if_pos (by rw[hg2];simp;omega),dif_pos hg1]at hI;apply af;·simp(config := { maxSteps := 3000000 }) [w3,w4,w5,g1,q2,q4,r2,r4,hg3];exact⟨rfl,rfl⟩
       cases hb:ltInt D[r0]! D[c2]! with|false=>have hb2:ltInt (gA D r0) (gA D c2)=false:=hb;rw[hb,if_pos (by simp)]at hI;subst hI;simp(config := { maxSteps := 3000000 }) [w6,w7,q1,q4,r1,r4,hb2]|true=>
        have hb2:ltInt (gA D r0) (gA D c2)=true:=hb;rw[hb,if_neg (by simp)]at hI;have z1:=bd (d:=D.setIfInBounds r0 (gA D c2)) (i:=c2) (by rw[Array.size_setIfInBounds];omega);apply af;·simp(config := { maxSteps := 3000000 }) [w6,w7,q1,q4,r1,r4,hb2];exact⟨rfl,rfl⟩
        simp(config := { maxSteps := 3000000 }) [w6,w7,q1,q4,r1,r4,z1];exact⟨2*i+2,swp D r0 c2,⟨by omega,by rw[size_swp,hD],hI⟩,⟨by omega,rfl⟩,by omega⟩
      |false=>
       have hg3:ltInt (gA D c1) (gA D c2)=false:=hg2;rw[if_neg (by rw[hg2];simp)]at hI;apply af;·simp(config := { maxSteps := 3000000 }) [w3,w4,w5,g1,q2,q4,r2,r4,hg3];exact⟨rfl,rfl⟩
       cases hb:ltInt D[r0]! D[c1]! with|false=>have hb2:ltInt (gA D r0) (gA D c1)=false:=hb;rw[hb,if_pos (by simp)]at hI;subst hI;simp(config := { maxSteps := 3000000 }) [w6,w4,q1,q2,r1,r2,hb2]|true=>
        have hb2:ltInt (gA D r0) (gA D c1)=true:=hb;rw[hb,if_neg (by simp)]at hI;have z1:=bd (d:=D.setIfInBounds r0 (gA D c1)) (i:=c1) (by rw[Array.size_setIfInBounds];omega);apply af;·simp(config := { maxSteps := 3000000 }) [w6,w4,q1,q2,r1,r2,hb2];exact⟨rfl,rfl⟩
        simp(config := { maxSteps := 3000000 }) [w6,w4,q1,q2,r1,r2,z1];exact⟨2*i+1,swp D r0 c1,⟨by omega,by rw[size_swp,hD],hI⟩,⟨by omega,rfl⟩,by omega⟩
     ·have g1:¬2*(i:Int)+2<(hi:Int):=by omega
      rw[if_neg (by simp;omega)]at hI;rcases Nat.lt_or_ge c2 D.size with q4|q4
      ·have r4:=bd q4;apply af;·simp(config := { maxSteps := 3000000 }) [w3,w4,w5,g1,q2,q4,r2,r4];exact⟨rfl,rfl⟩
       cases hb:ltInt D[r0]! D[c1]! with|false=>have hb2:ltInt (gA D r0) (gA D c1)=false:=hb;rw[hb,if_pos (by simp)]at hI;subst hI;simp(config := { maxSteps := 3000000 }) [w6,w4,q1,q2,r1,r2,hb2]|true=>
        have hb2:ltInt (gA D r0) (gA D c1)=true:=hb;rw[hb,if_neg (by simp)]at hI;have z1:=bd (d:=D.setIfInBounds r0 (gA D c1)) (i:=c1) (by rw[Array.size_setIfInBounds];omega);apply af;·simp(config := { maxSteps := 3000000 }) [w6,w4,q1,q2,r1,r2,hb2];exact⟨rfl,rfl⟩
        simp(config := { maxSteps := 3000000 }) [w6,w4,q1,q2,r1,r2,z1];exact⟨2*i+1,swp D r0 c1,⟨by omega,by rw[size_swp,hD],hI⟩,⟨by omega,rfl⟩,by omega⟩
      ·have r4:=kg q4;apply af;·simp(config := { maxSteps := 3000000 }) [w3,w4,w5,g1,q2,r2,r4];exact⟨rfl,rfl⟩
       cases hb:ltInt D[r0]! D[c1]! with|false=>have hb2:ltInt (gA D r0) (gA D c1)=false:=hb;rw[hb,if_pos (by simp)]at hI;subst hI;simp(config := { maxSteps := 3000000 }) [w6,w4,q1,q2,r1,r2,hb2]|true=>
        have hb2:ltInt (gA D r0) (gA D c1)=true:=hb;rw[hb,if_neg (by simp)]at hI;have z1:=bd (d:=D.setIfInBounds r0 (gA D c1)) (i:=c1) (by rw[Array.size_setIfInBounds];omega);apply af;·simp(config := { maxSteps := 3000000 }) [w6,w4,q1,q2,r1,r2,hb2];exact⟨rfl,rfl⟩
        simp(config := { maxSteps := 3000000 }) [w6,w4,q1,q2,r1,r2,z1];exact⟨2*i+1,swp D r0 c1,⟨by omega,by rw[size_swp,hD],hI⟩,⟨by omega,rfl⟩,by omega⟩
  ·cases h
 ·cases h
theorem ph (hi fi:Nat):∀(n root:Nat) (d:Array Int),hi-root≤n→(siftDown ltInt hi fi root d).size=d.size:=by intro n;induction n with|zero=>intro root d h;unfold siftDown;rw[dif_pos (by omega)]|succ n ih=>
 intro root d h;unfold siftDown;split;·rfl
 ·split
  ·split;·rfl
   ·split;·rw[ih _ _ (by omega),size_swp]
    ·rfl
  ·split;·rfl
   ·rw[ih _ _ (by omega),size_swp]
theorem ry (hi fi:Nat):∀(k:Nat) (d:Array Int),(heapBuild ltInt hi fi k d).size=d.size|0,d=>rfl|k+1,d=>by unfold heapBuild;rw[ry hi fi k,ph hi fi hi k d (by omega)]
theorem Ir:df Tryz.prog 150 (zK (heapSort ltInt)):=by
 intro ys φ r h hφ;obtain⟨d,p,q,rfl,rfl,rfl⟩:=qF h;obtain⟨h1,h2,h3,h4⟩:=hφ;obtain⟨a,rfl⟩:∃a:Nat,p=a:=⟨p.toNat,by omega⟩;obtain⟨b,rfl⟩:∃b:Nat,q=b:=⟨q.toNat,by omega⟩;rw[Int.toNat_natCast,Int.toNat_natCast];refine b5 (aZ (ks:=[2,0,0,0]) O1 (by kernel_rfl) aj) (by kernel_rfl) fn150 (by simp) rfl (by simp) ?_;unfold body150;obtain⟨m,hm⟩:∃m,m=b-a:=⟨_,rfl⟩;have w0:IntKind.i64.wrap ((b:Int)-(a:Int))=(m:Int):=by rw[wrap_i64 (by omega)];omega
 have w1:IntKind.i64.wrap ((m:Int)-1)=(m:Int)-1:=wrap_i64 (by omega);obtain⟨k0,hk0⟩:∃k0,k0=(m-1)/2+1:=⟨_,rfl⟩;have w2:((m:Int)-1).tdiv 2=(k0:Int)-1:=by
  rcases Nat.eq_zero_or_pos m with h0|h0
  ·have:k0=1:=by omega
   rw[h0,this];decide
  ·rw[Int.tdiv_eq_ediv_of_nonneg (by omega)];omega
 have w3:IntKind.i64.wrap ((k0:Int)-1)=(k0:Int)-1:=wrap_i64 (by omega);unfold heapSort;rw[←hm,←hk0];generalize hW:heapPop ltInt a m (heapBuild ltInt m a k0 d)=W;generalize hB:heapBuild ltInt m a k0 d=B at hW;apply af;·simp(config := { maxSteps := 3000000 });exact⟨rfl,rfl⟩
 apply af;·simp(config := { maxSteps := 3000000 });exact⟨rfl,rfl⟩
 apply af;·simp(config := { maxSteps := 3000000 }) [w0];exact⟨rfl,rfl⟩
 apply af
 ·simp(config := { maxSteps := 3000000 }) [w1,w2,w3];refine ay (fun x:Nat×Array Int=>x.1≤k0∧x.2.size=d.size∧heapBuild ltInt m a x.1 x.2=B) (fun x=>⟨[(0,.own 999),(6,.pv (.int .i64 (a:Int))),(7,.pv (.int .i64 0)),(8,.pv (.int .i64 (m:Int))),(9,.pv (.int .i64 ((x.1:Int)-1)))],[(999,.arr 22 (rA x.2))]⟩) (fun x=>x.1) [] (k0,d) ⟨Nat.le_refl _,rfl,hB⟩ ?_ ?_;·simp
  ·rintro⟨k,D⟩ ⟨hk,hD,hI⟩;have hk:k≤k0:=hk;have hD:D.size=d.size:=hD;have hI:heapBuild ltInt m a k D=B:=hI;cases k with|zero=>have hI:D=B:=hI;rw[hI];simp(config := { maxSteps := 3000000 });exact⟨rfl,rfl⟩|succ k=>
    have hI:heapBuild ltInt m a k (siftDown ltInt m a k D)=B:=hI;have hs:=ph m a m k D (by omega);have v1:(k:Int)+1-1=(k:Int):=by omega
    have v2:IntKind.i64.wrap ((k:Int)-1)=(k:Int)-1:=wrap_i64 (by omega);have v3:(k:Int)≤1000000:=by omega
    have v4:(a:Int)+(m:Int)≤(D.size:Int):=by omega
    have v5:D.size≤1000000:=by omega
    simp(config := { maxSteps := 3000000 }) [v1,v2,v3,v4,v5];exact⟨k,siftDown ltInt m a k D,⟨by omega,by rw[hs,hD],hI⟩,⟨rfl,rfl⟩,by omega⟩
 have hBs:B.size=d.size:=by rw[←hB,ry]
 apply af;·simp(config := { maxSteps := 3000000 }) [w1];exact⟨rfl,rfl⟩
 rw[aP];refine ay (fun x:Nat×Array Int=>x.1≤m∧x.2.size=d.size∧heapPop ltInt a x.1 x.2=W) (fun x=>⟨[(0,.own 999),(6,.pv (.int .i64 (a:Int))),(7,.pv (.int .i64 0)),(10,.pv (.int .i64 ((x.1:Int)-1)))],[(999,.arr 22 (rA x.2))]⟩) (fun x=>x.1) [] (m,B) ⟨Nat.le_refl _,hBs,hW⟩ ?_ ?_;·simp
 ·rintro⟨k,D⟩ ⟨hk,hD,hI⟩;have hk:k≤m:=hk;have hD:D.size=d.size:=hD;have hI:heapPop ltInt a k D=W:=hI;cases k with|zero=>have hI:D=W:=hI;rw[hI];simp(config := { maxSteps := 3000000 })|succ k=>
   have hI:heapPop ltInt a k (siftDown ltInt k a 0 (swp D a (a+k)))=W:=hI;have hs:=ph k a k 0 (swp D a (a+k)) (by omega);have v1:(k:Int)+1-1=(k:Int):=by omega
   have v2:IntKind.i64.wrap ((k:Int)-1)=(k:Int)-1:=wrap_i64 (by omega);obtain⟨c,hc⟩:∃c,c=a+k:=⟨_,rfl⟩;rw[←hc]at hI hs;have v3:IntKind.i64.wrap ((a:Int)+(k:Int))=(c:Int):=by rw[wrap_i64 (by omega)];omega
   have q1:a<D.size:=by omega
   have q2:c<D.size:=by omega
   have r1:=bd q1;have r2:=bd q2;have r3:=bd (d:=D.setIfInBounds a (gA D c)) (i:=c) (by rw[Array.size_setIfInBounds];omega);have v4:(a:Int)+(k:Int)≤(D.size:Int):=by omega
   have v5:D.size≤1000000:=by omega
   apply af;·simp(config := { maxSteps := 3000000 }) [v1];exact⟨rfl,rfl⟩
   rw[bA];rw[aP];apply af;·simp(config := { maxSteps := 3000000 }) [v1,v3,q1,q2,r1,r2,r3];exact⟨rfl,rfl⟩
   rw[show(D.setIfInBounds a (gA D c)).setIfInBounds c (gA D a)=swp D a c from rfl];have v6:(swp D a c).size=D.size:=size_swp _ _ _;simp(config := { maxSteps := 3000000 }) [v1,v2,v4,v5,v6];exact⟨k,siftDown ltInt k a 0 (swp D a c),⟨by omega,by rw[hs,size_swp,hD],hI⟩,⟨rfl,rfl⟩,by omega⟩
theorem Sc:df Tryz.prog 153 (zK reverseRange):=by
 intro ys φ r h hφ;obtain⟨d,p,q,rfl,rfl,rfl⟩:=qF h;obtain⟨h1,h2,h3,h4⟩:=hφ;obtain⟨a,rfl⟩:∃a:Nat,p=a:=⟨p.toNat,by omega⟩;obtain⟨b,rfl⟩:∃b:Nat,q=b:=⟨q.toNat,by omega⟩;rw[Int.toNat_natCast,Int.toNat_natCast];refine b5 aj (by kernel_rfl) fn153 (by simp) rfl (by simp) ?_;unfold body153;have w0:IntKind.i64.wrap ((b:Int)-1)=(b:Int)-1:=wrap_i64 (by omega);unfold reverseRange;generalize hW:reverseLoop a (b-1) d=W;simp(config := { maxSteps := 3000000 }) [w0];refine ay (fun x:(Nat×Nat)×Array Int=>(a≤x.1.1∧x.1.1≤b)∧x.1.2≤b∧x.2.size=d.size∧reverseLoop x.1.1 (x.1.2-1) x.2=W) (fun x=>⟨[(0,.own 999),(6,.pv (.int .i64 (x.1.1:Int))),(7,.pv (.int .i64 ((x.1.2:Int)-1)))],[(999,.arr 22 (rA x.2))]⟩) (fun x=>x.1.2) [] ((a,b),d) ⟨⟨Nat.le_refl _,by show a≤b;omega⟩,Nat.le_refl _,rfl,hW⟩ ?_ ?_;·simp
 ·rintro⟨⟨i,j⟩,D⟩ ⟨⟨hi1,hi2⟩,hj,hD,hI⟩;have hi1:a≤i:=hi1;have hi2:i≤b:=hi2;have hj:j≤b:=hj;have hD:D.size=d.size:=hD;have hI:reverseLoop i (j-1) D=W:=hI;unfold reverseLoop at hI;by_cases hlt:i<j-1
  ·rw[if_pos hlt]at hI;obtain⟨c,hc⟩:∃c,c=j-1:=⟨_,rfl⟩;rw[←hc]at hI;have e1:(j:Int)-1=(c:Int):=by omega
   have g1:i<c:=by omega
   have w1:IntKind.i64.wrap ((i:Int)+1)=(i:Int)+1:=wrap_i64 (by omega);have w2:IntKind.i64.wrap ((c:Int)-1)=(c:Int)-1:=wrap_i64 (by omega);have q1:i<D.size:=by omega
   have q2:c<D.size:=by omega
   have r1:=bd q1;have r2:=bd q2;have r3:=bd (d:=D.setIfInBounds i (gA D c)) (i:=c) (by rw[Array.size_setIfInBounds];omega);simp(config := { maxSteps := 3000000 }) [e1,g1,w1,w2,q1,q2,r1,r2,r3];exact⟨i+1,c,swp D i c,⟨by omega,by omega,by rw[size_swp,hD],hI⟩,⟨⟨by omega,rfl⟩,rfl⟩,by omega⟩
  ·rw[if_neg hlt]at hI;subst hI;have g1:¬(i:Int)<(j:Int)-1:=by omega
   simp(config := { maxSteps := 3000000 }) [g1]
theorem j8 {rows:List (List PV)}{l:List Int} (h:dec dq rows=some l):∃d:Array Int,rows=rA d∧l=d.toList:=⟨l.toArray,by rw[dm h,vQ],by simp⟩
noncomputable def XC:List AV→Option (Prop×AV)|[.pv (.ro a),.pv (.int .i64 p),.pv (.int .i64 q),.aK [.bx [.pv (.int .i64 s)]]]=>(dec dq a).map fun l=>((0≤p∧p<(l.length:Int))∧(0≤q∧q<(l.length:Int))∧(0≤s∧s≤1000)∧l.length≤1000000,.bB 0 [.aK [.pv (.int .i64 ((order2 ltInt l.toArray p.toNat q.toNat s.toNat).1:Int)),.pv (.int .i64 ((order2 ltInt l.toArray p.toNat q.toNat s.toNat).2.1:Int))],.bx [.pv (.int .i64 ((order2 ltInt l.toArray p.toNat q.toNat s.toNat).2.2:Int))]])|_=>none
@[simp] theorem WI (d:Array Int) (p q s:Int):XC [.pv (.ro (rA d)),.pv (.int .i64 p),.pv (.int .i64 q),.aK [.bx [.pv (.int .i64 s)]]]=some ((0≤p∧p<(d.size:Int))∧(0≤q∧q<(d.size:Int))∧(0≤s∧s≤1000)∧d.size≤1000000,.bB 0 [.aK [.pv (.int .i64 ((order2 ltInt d p.toNat q.toNat s.toNat).1:Int)),.pv (.int .i64 ((order2 ltInt d p.toNat q.toNat s.toNat).2.1:Int))],.bx [.pv (.int .i64 ((order2 ltInt d p.toNat q.toNat s.toNat).2.2:Int))]]):=by show(dec dq (rA d)).map _=_;rw[gx];simp
theorem PG:df Tryz.prog 166 XC:=by
 intro ys φ r h hφ;unfold XC at h;split at h
 ·rename_i ra p q s;obtain⟨l,hl,h⟩:=Option.map_eq_some_iff.1 h;cases h;obtain⟨d,rfl,rfl⟩:=j8 hl;obtain⟨⟨h1,h2⟩,⟨h3,h4⟩,⟨h5,h6⟩,h7⟩:=hφ;obtain⟨a,rfl⟩:∃a:Nat,p=a:=⟨p.toNat,by omega⟩;obtain⟨b,rfl⟩:∃a:Nat,q=a:=⟨q.toNat,by omega⟩;obtain⟨m,rfl⟩:∃a:Nat,s=a:=⟨s.toNat,by omega⟩;rw[Array.length_toList]at h2 h4 h7;rw[Int.toNat_natCast,Int.toNat_natCast,Int.toNat_natCast,Array.toArray_toList];have q1:a<d.size:=by omega
  have q2:b<d.size:=by omega
  have r1:=bd q1;have r2:=bd q2;have w1:IntKind.i64.wrap ((m:Int)+1)=(m:Int)+1:=wrap_i64 (by omega);refine b5 (ai lF aj) (by kernel_rfl) fn166 (by simp) rfl (by simp) ?_;unfold body166;cases hb:ltInt d[b]! d[a]! with
  |true=>
   have hb2:ltInt (gA d b) (gA d a)=true:=hb;have hx:order2 ltInt d a b m=(b,a,m+1):=by unfold order2;rw[hb,if_pos rfl]
   simp(config := { maxSteps := 3000000 }) [q1,q2,r1,r2,hb2,hx,w1]|false=>
   have hb2:ltInt (gA d b) (gA d a)=false:=hb;have hx:order2 ltInt d a b m=(a,b,m):=by unfold order2;rw[hb,if_neg (by simp)]
   simp(config := { maxSteps := 3000000 }) [q1,q2,r1,r2,hb2,hx,w1]
 ·cases h
theorem ku (d:Array Int) (a b s:Nat):(order2 ltInt d a b s).2.2≤s+1∧(((order2 ltInt d a b s).1=a∧(order2 ltInt d a b s).2.1=b)∨((order2 ltInt d a b s).1=b∧(order2 ltInt d a b s).2.1=a)):=by
 unfold order2;split;·exact⟨Nat.le_refl _,.inr ⟨rfl,rfl⟩⟩
 ·exact⟨Nat.le_add_right _ _,.inl ⟨rfl,rfl⟩⟩
noncomputable def HJ:List AV→Option (Prop×AV)|[.pv (.ro a),.pv (.int .i64 p),.pv (.int .i64 q),.pv (.int .i64 u),.aK [.bx [.pv (.int .i64 s)]]]=>(dec dq a).map fun l=>((0≤p∧p<(l.length:Int))∧(0≤q∧q<(l.length:Int))∧(0≤u∧u<(l.length:Int))∧(0≤s∧s≤900)∧l.length≤1000000,.bB 0 [.pv (.int .i64 ((median ltInt l.toArray p.toNat q.toNat u.toNat s.toNat).1:Int)),.bx [.pv (.int .i64 ((median ltInt l.toArray p.toNat q.toNat u.toNat s.toNat).2:Int))]])|_=>none
@[simp] theorem Ur (d:Array Int) (p q u s:Int):HJ [.pv (.ro (rA d)),.pv (.int .i64 p),.pv (.int .i64 q),.pv (.int .i64 u),.aK [.bx [.pv (.int .i64 s)]]]=some ((0≤p∧p<(d.size:Int))∧(0≤q∧q<(d.size:Int))∧(0≤u∧u<(d.size:Int))∧(0≤s∧s≤900)∧d.size≤1000000,.bB 0 [.pv (.int .i64 ((median ltInt d p.toNat q.toNat u.toNat s.toNat).1:Int)),.bx [.pv (.int .i64 ((median ltInt d p.toNat q.toNat u.toNat s.toNat).2:Int))]]):=by show(dec dq (rA d)).map _=_;rw[gx];simp
theorem CW (d:Array Int) (a b c s:Nat):median ltInt d a b c s=((order2 ltInt d (order2 ltInt d a b s).1 (order2 ltInt d (order2 ltInt d a b s).2.1 c (order2 ltInt d a b s).2.2).1 (order2 ltInt d (order2 ltInt d a b s).2.1 c (order2 ltInt d a b s).2.2).2.2).2.1,(order2 ltInt d (order2 ltInt d a b s).1 (order2 ltInt d (order2 ltInt d a b s).2.1 c (order2 ltInt d a b s).2.2).1 (order2 ltInt d (order2 ltInt d a b s).2.1 c (order2 ltInt d a b s).2.2).2.2).2.2):=rfl
theorem Ei (d:Array Int) (a b c s n:Nat) (ha:a<n) (hb:b<n) (hc:c<n):(median ltInt d a b c s).1<n∧(median ltInt d a b c s).2≤s+3:=by rw[CW];have h1:=ku d a b s;generalize order2 ltInt d a b s=r1 at*;have h2:=ku d r1.2.1 c r1.2.2;generalize order2 ltInt d r1.2.1 c r1.2.2=r2 at*;have h3:=ku d r1.1 r2.1 r2.2.2;show(order2 ltInt d r1.1 r2.1 r2.2.2).2.1<n∧(order2 ltInt d r1.1 r2.1 r2.2.2).2.2≤s+3;generalize order2 ltInt d r1.1 r2.1 r2.2.2=r3 at*;omega
theorem Ft:df Tryz.prog 164 HJ:=by
 intro ys φ r h hφ;unfold HJ at h;split at h
 ·rename_i ra p q u s;obtain⟨l,hl,h⟩:=Option.map_eq_some_iff.1 h;cases h;obtain⟨d,rfl,rfl⟩:=j8 hl;obtain⟨⟨h1,h2⟩,⟨h3,h4⟩,⟨h8,h9⟩,⟨h5,h6⟩,h7⟩:=hφ;obtain⟨a,rfl⟩:∃a:Nat,p=a:=⟨p.toNat,by omega⟩;obtain⟨b,rfl⟩:∃a:Nat,q=a:=⟨q.toNat,by omega⟩;obtain⟨c,rfl⟩:∃a:Nat,u=a:=⟨u.toNat,by omega⟩;obtain⟨m,rfl⟩:∃a:Nat,s=a:=⟨s.toNat,by omega⟩;rw[Array.length_toList]at h2 h4 h7 h9;rw[Int.toNat_natCast,Int.toNat_natCast,Int.toNat_natCast,Int.toNat_natCast,Array.toArray_toList];refine b5 (aZ (ks:=[0,0,0,2]) PG (by kernel_rfl) aj) (by kernel_rfl) fn164 (by simp) rfl (by simp) ?_;unfold body164;have e1:=ku d a b m;generalize hr1:order2 ltInt d a b m=r1 at*;have e2:=ku d r1.2.1 c r1.2.2;generalize hr2:order2 ltInt d r1.2.1 c r1.2.2=r2 at*;have e3:=ku d r1.1 r2.1 r2.2.2;have hx:median ltInt d a b c m=((order2 ltInt d r1.1 r2.1 r2.2.2).2.1,(order2 ltInt d r1.1 r2.1 r2.2.2).2.2):=by rw[CW,hr1,hr2]
  generalize hr3:order2 ltInt d r1.1 r2.1 r2.2.2=r3 at*;rw[hx];have n1:a<d.size:=by omega
  have n2:b<d.size:=by omega
  have n3:c<d.size:=by omega
  have n4:r1.1<d.size:=by omega
  have n5:r1.2.1<d.size:=by omega
  have n6:r2.1<d.size:=by omega
  have n7:(m:Int)≤1000:=by omega
  have n8:(r1.2.2:Int)≤1000:=by omega
  have n9:(r2.2.2:Int)≤1000:=by omega
  apply af;·simp(config := { maxSteps := 3000000 });exact⟨rfl,rfl⟩
  apply af;·simp(config := { maxSteps := 3000000 }) [n1,n2,n7,h7,hr1];exact⟨rfl,rfl⟩
  apply af;·simp(config := { maxSteps := 3000000 }) [n3,n5,n8,h7,hr2];exact⟨rfl,rfl⟩
  apply af;·simp(config := { maxSteps := 3000000 }) [n4,n6,n9,h7,hr3];exact⟨rfl,rfl⟩
  simp(config := { maxSteps := 3000000 })
 ·cases h
noncomputable def Hc:List AV→Option (Prop×AV)|[.pv (.ro a),.pv (.int .i64 p),.aK [.bx [.pv (.int .i64 s)]]]=>(dec dq a).map fun l=>((1≤p∧p+1<(l.length:Int))∧(0≤s∧s≤900)∧l.length≤1000000,.bB 0 [.pv (.int .i64 ((medianAdjacent ltInt l.toArray p.toNat s.toNat).1:Int)),.bx [.pv (.int .i64 ((medianAdjacent ltInt l.toArray p.toNat s.toNat).2:Int))]])|_=>none
@[simp] theorem Uq (d:Array Int) (p s:Int):Hc [.pv (.ro (rA d)),.pv (.int .i64 p),.aK [.bx [.pv (.int .i64 s)]]]=some ((1≤p∧p+1<(d.size:Int))∧(0≤s∧s≤900)∧d.size≤1000000,.bB 0 [.pv (.int .i64 ((medianAdjacent ltInt d p.toNat s.toNat).1:Int)),.bx [.pv (.int .i64 ((medianAdjacent ltInt d p.toNat s.toNat).2:Int))]]):=by show(dec dq (rA d)).map _=_;rw[gx];simp
theorem P7:df Tryz.prog 163 Hc:=by
 intro ys φ r h hφ;unfold Hc at h;split at h
 ·rename_i ra p s;obtain⟨l,hl,h⟩:=Option.map_eq_some_iff.1 h;cases h;obtain⟨d,rfl,rfl⟩:=j8 hl;obtain⟨⟨h1,h2⟩,⟨h5,h6⟩,h7⟩:=hφ;obtain⟨a,rfl⟩:∃a:Nat,p=a:=⟨p.toNat,by omega⟩;obtain⟨m,rfl⟩:∃a:Nat,s=a:=⟨s.toNat,by omega⟩;rw[Array.length_toList]at h2 h7;rw[Int.toNat_natCast,Int.toNat_natCast,Array.toArray_toList];have w1:IntKind.i64.wrap ((a:Int)-1)=((a-1:Nat):Int):=by rw[wrap_i64 (by omega)];omega
  have w2:IntKind.i64.wrap ((a:Int)+1)=((a+1:Nat):Int):=by rw[wrap_i64 (by omega)];omega
  unfold medianAdjacent;obtain⟨x,hx⟩:∃x,x=a-1:=⟨_,rfl⟩;obtain⟨y,hy⟩:∃y,y=a+1:=⟨_,rfl⟩;rw[←hx]at w1 ⊢;rw[←hy]at w2 ⊢;generalize hR:median ltInt d x a y m=R;have n1:x<d.size:=by omega
  have n2:a<d.size:=by omega
  have n3:y<d.size:=by omega
  have n4:(m:Int)≤900:=by omega
  refine b5 (aZ (ks:=[0,0,0,0,2]) Ft (by kernel_rfl) aj) (by kernel_rfl) fn163 (by simp) rfl (by simp) ?_;unfold body163;simp(config := { maxSteps := 3000000 }) [w1,w2,n1,n2,n3,n4,h7,hR]
 ·cases h
def ey:Hint→Int|.unknown=>0|.increasing=>1|.decreasing=>2
theorem tU (d:Array Int) (a s n:Nat) (h1:1≤a) (h2:a+1<n):(medianAdjacent ltInt d a s).1<n∧(medianAdjacent ltInt d a s).2≤s+3:=Ei d _ _ _ s n (by omega) (by omega) h2
theorem Am {d:Array Int}{a b:Nat} (h:¬b-a≥8):choosePivot ltInt d a b=(a+(b-a)/4*2,.increasing):=by unfold choosePivot;simp only[if_neg h];rfl
theorem ER {d:Array Int}{a b:Nat} (h:b-a≥8) (h2:¬b-a≥50):choosePivot ltInt d a b=((median ltInt d (a+(b-a)/4*1) (a+(b-a)/4*2) (a+(b-a)/4*3) 0).1,if(median ltInt d (a+(b-a)/4*1) (a+(b-a)/4*2) (a+(b-a)/4*3) 0).2=0 then .increasing else if(median ltInt d (a+(b-a)/4*1) (a+(b-a)/4*2) (a+(b-a)/4*3) 0).2=12 then .decreasing else .unknown):=by unfold choosePivot;simp only[if_pos h,if_neg h2]
theorem DZ {d:Array Int}{a b:Nat} (h2:b-a≥50) {ri rj rk m:Nat×Nat} (e1:medianAdjacent ltInt d (a+(b-a)/4*1) 0=ri) (e2:medianAdjacent ltInt d (a+(b-a)/4*2) ri.2=rj) (e3:medianAdjacent ltInt d (a+(b-a)/4*3) rj.2=rk) (e4:median ltInt d ri.1 rj.1 rk.1 rk.2=m):choosePivot ltInt d a b=(m.1,if m.2=0 then .increasing else if m.2=12 then .decreasing else .unknown):=by unfold choosePivot;simp only[if_pos (show b-a≥8 by omega),if_pos h2,e1,e2,e3,e4]
noncomputable def J1:List AV→Option (Prop×AV)|[.pv (.ro a),.pv (.int .i64 p),.pv (.int .i64 q)]=>(dec dq a).map fun l=>(0≤p∧p≤q∧q≤(l.length:Int)∧l.length≤1000000,.aK [.pv (.int .i64 ((choosePivot ltInt l.toArray p.toNat q.toNat).1:Int)),.pv (.int .i64 (ey (choosePivot ltInt l.toArray p.toNat q.toNat).2))])|_=>none
@[simp] theorem Vd (d:Array Int) (p q:Int):J1 [.pv (.ro (rA d)),.pv (.int .i64 p),.pv (.int .i64 q)]=some (0≤p∧p≤q∧q≤(d.size:Int)∧d.size≤1000000,.aK [.pv (.int .i64 ((choosePivot ltInt d p.toNat q.toNat).1:Int)),.pv (.int .i64 (ey (choosePivot ltInt d p.toNat q.toNat).2))]):=by show(dec dq (rA d)).map _=_;rw[gx];simp
theorem Qz:bn Tryz.prog 152 J1:=by
 intro ys φ r h hφ;unfold J1 at h;split at h
 ·rename_i ra p q;obtain⟨l,hl,h⟩:=Option.map_eq_some_iff.1 h;cases h;obtain⟨d,rfl,rfl⟩:=j8 hl;obtain⟨h1,h2,h3,h7⟩:=hφ;obtain⟨a,rfl⟩:∃a:Nat,p=a:=⟨p.toNat,by omega⟩;obtain⟨b,rfl⟩:∃a:Nat,q=a:=⟨q.toNat,by omega⟩;rw[Array.length_toList]at h3 h7;rw[Int.toNat_natCast,Int.toNat_natCast,Array.toArray_toList];obtain⟨n,hn⟩:∃n,n=b-a:=⟨_,rfl⟩;obtain⟨f,hf⟩:∃f,f=n/4:=⟨_,rfl⟩;obtain⟨i,hi⟩:∃i,i=a+f*1:=⟨_,rfl⟩;obtain⟨j,hj⟩:∃j,j=a+f*2:=⟨_,rfl⟩;obtain⟨k,hk⟩:∃k,k=a+f*3:=⟨_,rfl⟩;have w0:IntKind.i64.wrap ((b:Int)-(a:Int))=(n:Int):=by rw[wrap_i64 (by omega)];omega
  have w1:(n:Int).tdiv 4=(f:Int):=by rw[Int.tdiv_eq_ediv_of_nonneg (by omega)];omega
  have w2:IntKind.i64.wrap (f:Int)=(f:Int):=wrap_i64 (by omega);have w3:IntKind.i64.wrap ((f:Int)*2)=(f:Int)*2:=wrap_i64 (by omega);have w4:IntKind.i64.wrap ((f:Int)*3)=(f:Int)*3:=wrap_i64 (by omega);have w5:IntKind.i64.wrap ((a:Int)+(f:Int))=(i:Int):=by rw[wrap_i64 (by omega)];omega
  have w6:IntKind.i64.wrap ((a:Int)+(f:Int)*2)=(j:Int):=by rw[wrap_i64 (by omega)];omega
  have w7:IntKind.i64.wrap ((a:Int)+(f:Int)*3)=(k:Int):=by rw[wrap_i64 (by omega)];omega
  refine aB (aZ (ks:=[0,0,2]) P7 (by kernel_rfl) (aZ (ks:=[0,0,0,0,2]) Ft (by kernel_rfl) aj)) (by kernel_rfl) fn152 (by simp) ?_;unfold body152;generalize hC:choosePivot ltInt d a b=C;apply af;·simp(config := { maxSteps := 3000000 });exact⟨rfl,rfl⟩
  apply af;·simp(config := { maxSteps := 3000000 }) [w0];exact⟨rfl,rfl⟩
  apply af;·simp(config := { maxSteps := 3000000 });exact⟨rfl,rfl⟩
  apply af;·simp(config := { maxSteps := 3000000 }) [w1,w2,w5];exact⟨rfl,rfl⟩
  apply af;·simp(config := { maxSteps := 3000000 }) [w1,w2,w3,w6];exact⟨rfl,rfl⟩
  apply af;·simp(config := { maxSteps := 3000000 }) [w1,w2,w4,w7];exact⟨rfl,rfl⟩
  by_cases g8:n≥8
  ·have c8:(8:Int)≤(n:Int):=by omega
   by_cases g50:n≥50
   ·have c50:(50:Int)≤(n:Int):=by omega
    obtain⟨ri,e1⟩:∃ri,medianAdjacent ltInt d i 0=ri:=⟨_,rfl⟩;obtain⟨rj,e2⟩:∃rj,medianAdjacent ltInt d j ri.2=rj:=⟨_,rfl⟩;obtain⟨rk,e3⟩:∃rk,medianAdjacent ltInt d k rj.2=rk:=⟨_,rfl⟩;obtain⟨m,e4⟩:∃m,median ltInt d ri.1 rj.1 rk.1 rk.2=m:=⟨_,rfl⟩;have m1:=tU d i 0 d.size (by omega) (by omega);have m2:=tU d j ri.2 d.size (by omega) (by omega);have m3:=tU d k rj.2 d.size (by omega) (by omega);rw[e1]at m1;rw[e2]at m2;rw[e3]at m3;have hx:=DZ (d:=d) (a:=a) (b:=b) (by omega) (ri:=ri) (rj:=rj) (rk:=rk) (m:=m) (by rw[←hn,←hf,←hi,e1]) (by rw[←hn,←hf,←hj,e2]) (by rw[←hn,←hf,←hk,e3]) e4;rw[hC]at hx;have p1:(1:Int)≤(i:Int)∧(i:Int)+1<(d.size:Int):=by omega
    have p2:(1:Int)≤(j:Int)∧(j:Int)+1<(d.size:Int):=by omega
    have p3:(1:Int)≤(k:Int)∧(k:Int)+1<(d.size:Int):=by omega
    have s1:(ri.2:Int)≤900:=by omega
    have s2:(rj.2:Int)≤900:=by omega
    have s3:(rk.2:Int)≤900:=by omega
    have t1:ri.1<d.size:=m1.1;have t2:rj.1<d.size:=m2.1;have t3:rk.1<d.size:=m3.1;apply af
    ·apply af;·simp(config := { maxSteps := 3000000 }) [c8];exact⟨rfl,rfl⟩
     apply ie rfl;apply af
     ·apply af;·simp(config := { maxSteps := 3000000 }) [c50];exact⟨rfl,rfl⟩
      apply ie rfl;apply af;·simp(config := { maxSteps := 3000000 }) [p1,h7,e1];exact⟨rfl,rfl⟩
      apply af;·simp(config := { maxSteps := 3000000 }) [p2,s1,h7,e2];exact⟨rfl,rfl⟩
      simp(config := { maxSteps := 3000000 }) [p3,s2,h7,e3];exact⟨rfl,rfl⟩
     simp(config := { maxSteps := 3000000 }) [t1,t2,t3,s3,h7,e4];exact⟨rfl,rfl⟩
    by_cases z0:m.2=0
    ·rw[if_pos z0]at hx;subst hx;have y0:(m.2:Int)=0:=by omega
     simp(config := { maxSteps := 3000000 }) [y0,ey]
    ·rw[if_neg z0]at hx;have y0:¬(m.2:Int)=0:=by omega
     by_cases z1:m.2=12
     ·rw[if_pos z1]at hx;subst hx;have y1:(m.2:Int)=12:=by omega
      simp(config := { maxSteps := 3000000 }) [z0,y0,y1,ey]
     ·rw[if_neg z1]at hx;subst hx;have y1:¬(m.2:Int)=12:=by omega
      simp(config := { maxSteps := 3000000 }) [z0,z1,y0,y1,ey]
   ·have c50:¬(50:Int)≤(n:Int):=by omega
    have hx:=ER (d:=d) (a:=a) (b:=b) (by omega) (by omega);rw[←hn,←hf,←hi,←hj,←hk,hC]at hx;obtain⟨m,e4⟩:∃m,median ltInt d i j k 0=m:=⟨_,rfl⟩;rw[e4]at hx;have t1:i<d.size:=by omega
    have t2:j<d.size:=by omega
    have t3:k<d.size:=by omega
    apply af
    ·apply af;·simp(config := { maxSteps := 3000000 }) [c8];exact⟨rfl,rfl⟩
     apply ie rfl;apply af;·simp(config := { maxSteps := 3000000 }) [c50];exact⟨rfl,rfl⟩
     simp(config := { maxSteps := 3000000 }) [t1,t2,t3,h7,e4];exact⟨rfl,rfl⟩
    by_cases z0:m.2=0
    ·rw[if_pos z0]at hx;subst hx;have y0:(m.2:Int)=0:=by omega
     simp(config := { maxSteps := 3000000 }) [y0,ey]
    ·rw[if_neg z0]at hx;have y0:¬(m.2:Int)=0:=by omega
     by_cases z1:m.2=12
     ·rw[if_pos z1]at hx;subst hx;have y1:(m.2:Int)=12:=by omega
      simp(config := { maxSteps := 3000000 }) [z0,y0,y1,ey]
     ·rw[if_neg z1]at hx;subst hx;have y1:¬(m.2:Int)=12:=by omega
      simp(config := { maxSteps := 3000000 }) [z0,z1,y0,y1,ey]
  ·have c8:¬(8:Int)≤(n:Int):=by omega
   have hx:=Am (d:=d) (a:=a) (b:=b) (by omega);rw[←hn,←hf,←hj,hC]at hx;subst hx;simp(config := { maxSteps := 3000000 }) [c8,ey]
 ·cases h
def CB:List UInt8:=0::1::(List.replicate 2 2++(List.replicate 4 3++(List.replicate 8 4++(List.replicate 16 5++(List.replicate 32 6++(List.replicate 64 7++List.replicate 128 8))))))
theorem DV:∀n:Nat,n<256→1≤n→1<<<bitsLen n≤2*n:=by decide+kernel
@[simp] noncomputable def Fe:List AV→Option (Prop×AV)|[.pv (.int .u64 n)]=>some (0≤n∧n<256,.pv (.int .i64 (bitsLen n.toNat:Int)))|_=>none
theorem kk:∀n:Nat,n<256→CB[n]?=some (bitsLen n).toUInt8∧bitsLen n≤8:=by decide+kernel
theorem Eg:bn Tryz.prog 159 Fe:=by
 intro ys φ r h hφ;unfold Fe at h;split at h
 ·rename_i x;cases h;obtain⟨h1,h2⟩:=hφ;obtain⟨n,rfl⟩:∃n:Nat,x=n:=⟨x.toNat,by omega⟩;rw[Int.toNat_natCast];obtain⟨e1,e2⟩:=kk n (by omega);have w1:IntKind.u8.wrap (n:Int)=(n:Int):=by rw[wrap_u8];omega
  have c1:¬(4294967296:Int)≤(n:Int):=by omega
  have c2:¬(65536:Int)≤(n:Int):=by omega
  have c3:¬(256:Int)≤(n:Int):=by omega
  refine aB aj (by kernel_rfl) fn159 (by simp) ?_;unfold body159;apply af;·simp(config := { maxSteps := 3000000 });exact⟨rfl,rfl⟩
  apply af;·simp(config := { maxSteps := 3000000 }) [c1];exact⟨rfl,rfl⟩
  apply af;·simp(config := { maxSteps := 3000000 }) [c2];exact⟨rfl,rfl⟩
  apply af;·simp(config := { maxSteps := 3000000 }) [c3];exact⟨rfl,rfl⟩
  simp(config := { maxSteps := 3000000 }) [w1];refine⟨by omega,?_⟩;show IntKind.i64.wrap (IntKind.i64.wrap ((CB[n]?.getD 0).toNat:Int))=_;rw[e1];have e3:((bitsLen n).toUInt8.toNat:Int)=(bitsLen n:Int):=by rw[show(bitsLen n).toUInt8.toNat=bitsLen n%256 from rfl,Nat.mod_eq_of_lt (by omega)]
  show IntKind.i64.wrap (IntKind.i64.wrap ((bitsLen n).toUInt8.toNat:Int))=_;have e4:IntKind.i64.wrap (bitsLen n:Int)=(bitsLen n:Int):=wrap_i64 (by omega);rw[e3,e4,e4]
 ·cases h
theorem F3:bn Tryz.prog 148 Fe:=by
 intro ys φ r h hφ;unfold Fe at h;split at h;·rename_i x;cases h;refine aB (ai Eg aj) (by kernel_rfl) fn148 (by simp) ?_;unfold body148;simp(config := { maxSteps := 3000000 }) [hφ]
 ·cases h
theorem tW (a b:UInt64):vt .xor .u64 (a.toNat:Int) (b.toNat:Int)=.int .u64 ((a^^^b).toNat:Int):=by
 have h1:(BitVec.ofInt 64 (a.toNat:Int)).toNat=a.toNat:=by rw[BitVec.ofInt_natCast,BitVec.toNat_ofNat,Nat.mod_eq_of_lt a.toNat_lt]
 have h2:(BitVec.ofInt 64 (b.toNat:Int)).toNat=b.toNat:=by rw[BitVec.ofInt_natCast,BitVec.toNat_ofNat,Nat.mod_eq_of_lt b.toNat_lt]
 unfold vt;have h4:(BitVec.ofInt IntKind.u64.bits (a.toNat:Int)^^^BitVec.ofInt IntKind.u64.bits (b.toNat:Int)).toNat=(a^^^b).toNat:=by show(BitVec.ofInt 64 (a.toNat:Int)^^^BitVec.ofInt 64 (b.toNat:Int)).toNat=_;rw[BitVec.toNat_xor,h1,h2,UInt64.toNat_xor]
 simp only[h4];refine congrArg _ ?_;exact wrap_u64 (by have:=(a^^^b).toNat_lt;omega)
theorem Dl (a b:UInt64):vt .and .u64 (a.toNat:Int) (b.toNat:Int)=.int .u64 ((a.toNat&&&b.toNat:Nat):Int):=by
 have h1:(BitVec.ofInt 64 (a.toNat:Int)).toNat=a.toNat:=by rw[BitVec.ofInt_natCast,BitVec.toNat_ofNat,Nat.mod_eq_of_lt a.toNat_lt]
 have h2:(BitVec.ofInt 64 (b.toNat:Int)).toNat=b.toNat:=by rw[BitVec.ofInt_natCast,BitVec.toNat_ofNat,Nat.mod_eq_of_lt b.toNat_lt]
 unfold vt;have h4:(BitVec.ofInt IntKind.u64.bits (a.toNat:Int)&&&BitVec.ofInt IntKind.u64.bits (b.toNat:Int)).toNat=a.toNat&&&b.toNat:=by show(BitVec.ofInt 64 (a.toNat:Int)&&&BitVec.ofInt 64 (b.toNat:Int)).toNat=_;rw[BitVec.toNat_and,h1,h2]
 simp only[h4];refine congrArg _ ?_;exact wrap_u64 (by have:=(a&&&b).toNat_lt;rw[UInt64.toNat_and]at this;omega)
theorem uo (n:Nat):IntKind.u64.wrap (n:Int)=((n%2^64:Nat):Int):=by simp only[IntKind.wrap,IntKind.bits,IntKind.signed];simp
theorem yT (a:UInt64) (k:UInt64) (h:k.toNat<64):IntKind.u64.wrap ((a.toNat:Int)*2^k.toNat)=((a<<<k).toNat:Int):=by rw[show(a.toNat:Int)*2^k.toNat=((a.toNat*2^k.toNat:Nat):Int) by simp,uo,UInt64.toNat_shiftLeft,Nat.mod_eq_of_lt h,Nat.shiftLeft_eq]
theorem E4 (a:UInt64) (k:UInt64) (h:k.toNat<64):(a.toNat:Int).fdiv (2^k.toNat)=((a>>>k).toNat:Int):=by rw[UInt64.toNat_shiftRight,Nat.mod_eq_of_lt h,Nat.shiftRight_eq_div_pow,show((2:Int)^k.toNat)=((2^k.toNat:Nat):Int) by simp];rw[Int.natCast_ediv];exact Int.fdiv_eq_ediv_of_nonneg _ (Int.natCast_nonneg _)
@[simp] noncomputable def P8:List AV→Option (Prop×AV)|[.aK [.bx [.pv (.int .u64 n)]]]=>some (0≤n∧n<18446744073709551616,.bB 0 [.pv (.int .u64 ((xorNext (UInt64.ofNat n.toNat)).toNat:Int)),.bx [.pv (.int .u64 ((xorNext (UInt64.ofNat n.toNat)).toNat:Int))]])|_=>none
theorem Rp:df Tryz.prog 162 P8:=by
 intro ys φ r h hφ;unfold P8 at h;split at h
 ·rename_i x;cases h;obtain⟨h1,h2⟩:=hφ;obtain⟨a,rfl⟩:∃a:UInt64,x=a.toNat:=⟨UInt64.ofNat x.toNat,by rw[UInt64.toNat_ofNat'];omega⟩;rw[Int.toNat_natCast,UInt64.ofNat_toNat];obtain⟨b1,hb1⟩:∃b1,b1=a<<<13:=⟨_,rfl⟩;obtain⟨c1,hc1⟩:∃c1,c1=a^^^b1:=⟨_,rfl⟩;obtain⟨b2,hb2⟩:∃b2,b2=c1>>>7:=⟨_,rfl⟩;obtain⟨c2,hc2⟩:∃c2,c2=c1^^^b2:=⟨_,rfl⟩;obtain⟨b3,hb3⟩:∃b3,b3=c2<<<17:=⟨_,rfl⟩;obtain⟨c3,hc3⟩:∃c3,c3=c2^^^b3:=⟨_,rfl⟩;have s1:IntKind.u64.wrap ((a.toNat:Int)*2^min 13 IntKind.u64.bits)=(b1.toNat:Int):=by rw[hb1];exact yT a 13 (by decide)
  have s2:(c1.toNat:Int).fdiv (2^min 7 IntKind.u64.bits)=(b2.toNat:Int):=by rw[hb2];exact E4 c1 7 (by decide)
  have s3:IntKind.u64.wrap ((c2.toNat:Int)*2^min 17 IntKind.u64.bits)=(b3.toNat:Int):=by rw[hb3];exact yT c2 17 (by decide)
  have x1:=tW a b1;have x2:=tW c1 b2;have x3:=tW c2 b3;rw[←hc1]at x1;rw[←hc2]at x2;rw[←hc3]at x3;have hx:xorNext a=c3:=by rw[hc3,hb3,hc2,hb2,hc1,hb1];rfl
  rw[hx];refine b5 aj (by kernel_rfl) fn162 (by simp) rfl (by simp) ?_;unfold body162;apply af;·simp(config := { maxSteps := 3000000 });exact⟨rfl,rfl⟩
  apply af;·simp(config := { maxSteps := 3000000 }) [s1,x1];exact⟨rfl,rfl⟩
  apply af;·simp(config := { maxSteps := 3000000 }) [s2,x2];exact⟨rfl,rfl⟩
  apply af;·simp(config := { maxSteps := 3000000 }) [s3,x3];exact⟨rfl,rfl⟩
  simp(config := { maxSteps := 3000000 })
 ·cases h
@[simp] noncomputable def S9:List AV→Option (Prop×AV)|[.pv (.int .i64 n)]=>some (0≤n∧n<256,.pv (.int .u64 ((1<<<bitsLen n.toNat:Nat):Int)))|_=>none
theorem OB:bn Tryz.prog 161 S9:=by
 intro ys φ r h hφ;unfold S9 at h;split at h
 ·rename_i x;cases h;obtain⟨h1,h2⟩:=hφ;obtain⟨n,rfl⟩:∃n:Nat,x=n:=⟨x.toNat,by omega⟩;rw[Int.toNat_natCast];have e2:=(kk n (by omega)).2;have w1:IntKind.u64.wrap (n:Int)=(n:Int):=wrap_u64 (by omega);have h3:n<256:=by omega
  obtain⟨m,hm⟩:∃m,m=bitsLen n:=⟨_,rfl⟩;rw[←hm]at e2 ⊢;have hp:1<<<m=2^m:=by rw[Nat.shiftLeft_eq,Nat.one_mul]
  have hle:2^m≤2^8:=Nat.pow_le_pow_right (by omega) e2;have w2:IntKind.u64.wrap (2^min m IntKind.u64.bits)=((1<<<m:Nat):Int):=by rw[show min m IntKind.u64.bits=m from Nat.min_eq_left (by show m≤64;omega),hp,show((2:Int)^m)=((2^m:Nat):Int) by simp];exact wrap_u64 ⟨Int.natCast_nonneg _,Int.le_trans (Int.ofNat_le.2 hle) (by decide)⟩
  generalize 1<<<m=M at*;refine aB (ai F3 aj) (by kernel_rfl) fn161 (by simp) ?_;unfold body161;simp(config := { maxSteps := 3000000 }) [w1,h3,←hm,w2];exact h2
 ·cases h
theorem B5 (a n m:Nat) (st:UInt64×Array Int) (idx:Nat):(breakStep a n m st idx).2.size=st.2.size:=by unfold breakStep;exact size_swp _ _ _
noncomputable def zh (F:Array Int→Nat→Nat→Array Int):List AV→Option (Prop×AV)|[.aK [.fr e a],.pv (.int .i64 p),.pv (.int .i64 q)]=>if e=22 then(dec dq a).map fun l=>(0≤p∧p≤q∧q≤(l.length:Int)∧l.length≤200,.bB 0 [.aK [],.fr 22 (rA (F l.toArray p.toNat q.toNat))]) else none|_=>none
@[simp] theorem Rk (F:Array Int→Nat→Nat→Array Int) (e:TypeId) (d:Array Int) (p q:Int):zh F [.aK [.fr e (rA d)],.pv (.int .i64 p),.pv (.int .i64 q)]=if e=22 then some (0≤p∧p≤q∧q≤(d.size:Int)∧d.size≤200,.bB 0 [.aK [],.fr 22 (rA (F d p.toNat q.toNat))]) else none:=by show(if e=22 then(dec dq (rA d)).map _ else none)=_;rw[gx];simp
theorem Aa {F:Array Int→Nat→Nat→Array Int}{ys:List AV}{φ:Prop}{r:AV} (h:zh F ys=some (φ,r)):∃(d:Array Int) (p q:Int),ys=[.aK [.fr 22 (rA d)],.pv (.int .i64 p),.pv (.int .i64 q)]∧φ=(0≤p∧p≤q∧q≤(d.size:Int)∧d.size≤200)∧r=.bB 0 [.aK [],.fr 22 (rA (F d p.toNat q.toNat))]:=by
 unfold zh at h;split at h
 ·split at h;·rename_i e;subst e;obtain⟨l,hl,h⟩:=Option.map_eq_some_iff.1 h;cases h;cases dm hl;exact⟨l.toArray,_,_,by rw[vQ],by simp,rfl⟩
  ·cases h
 ·cases h
theorem SH:df Tryz.prog 151 (zh breakPatterns):=by
 intro ys φ r h hφ;obtain⟨d,p,q,rfl,rfl,rfl⟩:=Aa h;obtain⟨h1,h2,h3,h4⟩:=hφ;obtain⟨a,rfl⟩:∃a:Nat,p=a:=⟨p.toNat,by omega⟩;obtain⟨b,rfl⟩:∃b:Nat,q=b:=⟨q.toNat,by omega⟩;rw[Int.toNat_natCast,Int.toNat_natCast];obtain⟨n,hn⟩:∃n,n=b-a:=⟨_,rfl⟩;have w0:IntKind.i64.wrap ((b:Int)-(a:Int))=(n:Int):=by rw[wrap_i64 (by omega)];omega
 refine b5 (ai OB (aZ (ks:=[2]) Rp (by kernel_rfl) aj)) (by kernel_rfl) fn151 (by simp) rfl (by simp) ?_;unfold body151;generalize hW:breakPatterns d a b=W;unfold breakPatterns at hW;rw[←hn]at hW;apply af;·simp(config := { maxSteps := 3000000 }) [w0];exact⟨rfl,rfl⟩
 by_cases h8:n≥8
 ·have c8:(8:Int)≤(n:Int):=by omega
  simp only[if_pos h8]at hW;obtain⟨f,hf⟩:∃f,f=n/4:=⟨_,rfl⟩;obtain⟨ix,hix⟩:∃ix,ix=a+f*2-1:=⟨_,rfl⟩;obtain⟨M,hM⟩:∃M,M=1<<<bitsLen n:=⟨_,rfl⟩;rw[←hf,←hix,←hM]at hW;have h2b:=(kk n (by omega)).2;have hMp:1≤M∧M≤256:=by
   have hp:M=2^bitsLen n:=by rw[hM,Nat.shiftLeft_eq,Nat.one_mul]
   have hle:2^bitsLen n≤2^8:=Nat.pow_le_pow_right (by omega) h2b;have:0<2^bitsLen n:=Nat.pow_pos (by omega);omega
  have v1:(n:Int).tdiv 4=(f:Int):=by rw[Int.tdiv_eq_ediv_of_nonneg (by omega)];omega
  have v2:IntKind.i64.wrap (f:Int)=(f:Int):=wrap_i64 (by omega);have v3:IntKind.i64.wrap ((f:Int)*2)=(f:Int)*2:=wrap_i64 (by omega);obtain⟨y,hy⟩:∃y,y=a+f*2:=⟨_,rfl⟩;have v4:IntKind.i64.wrap ((a:Int)+(f:Int)*2)=(y:Int):=by rw[wrap_i64 (by omega)];omega
  have v5:IntKind.i64.wrap ((y:Int)-1)=(ix:Int):=by rw[wrap_i64 (by omega)];omega
  have v6:IntKind.i64.wrap ((y:Int)+1)=(y:Int)+1:=wrap_i64 (by omega);have v7:IntKind.u64.wrap (n:Int)=(n:Int):=wrap_u64 (by omega);have v8:(n:Int)<256:=by omega
  obtain⟨r0,hr0⟩:∃r0,r0=UInt64.ofNat n:=⟨_,rfl⟩;have hr1:(r0.toNat:Int)=(n:Int):=by rw[hr0,UInt64.toNat_ofNat',Nat.mod_eq_of_lt (by omega)]
  rw[←hr0]at hW;obtain⟨st,hst⟩:∃st:Nat→UInt64×Array Int,(st 0=(r0,d))∧∀t,st (t+1)=breakStep a n M (st t) (ix+t):=⟨Nat.rec (r0,d) fun t s=>breakStep a n M s (ix+t),rfl,fun _=>rfl⟩;have hW3:(st 3).2=W:=by rw[hst.2 2,hst.2 1,hst.2 0,hst.1];exact hW
  have hsz:∀t,(st t).2.size=d.size:=by intro t;induction t with|zero=>rw[hst.1]|succ t ih=>rw[hst.2,B5,ih]
  apply af;·simp(config := { maxSteps := 3000000 }) [c8];exact⟨rfl,rfl⟩
  apply ie rfl;apply af;·simp(config := { maxSteps := 3000000 }) [v7];exact⟨rfl,rfl⟩
  apply af;·simp(config := { maxSteps := 3000000 }) [v8,←hM];exact⟨rfl,rfl⟩
  apply af;·simp(config := { maxSteps := 3000000 }) [v1,v2,v3,v4,v5];exact⟨rfl,rfl⟩
  rw[aP];refine ay (fun t:Nat=>t≤3) (fun t=>⟨[(0,.own 999),(1,.pv (.int .i64 (a:Int))),(6,.pv (.int .i64 (n:Int))),(7,.ptr 7 0),(8,.pv (.int .u64 (M:Int))),(9,.pv (.int .i64 ((ix:Int)+(t:Int))))],[(999,.arr 22 (rA (st t).2)),(7,.box [.pv (.int .u64 ((st t).1.toNat:Int))])]⟩) (fun t=>3-t) [] 0 (by omega) ?_ ?_;·simp[hst.1,hr1]
  ·intro t ht;have hD:=hsz t;have hs:=hst.2 t;have hM2:M≤2*n:=by rw[hM];exact DV n (by omega) (by omega)
   rcases hq:st t with⟨r,D⟩;rw[hq]at hD hs;have hD:D.size=d.size:=hD;rw[lX];dsimp only;by_cases ht3:t<3
   ·obtain⟨i,hi⟩:∃i,i=ix+t:=⟨_,rfl⟩;obtain⟨r',hr'⟩:∃r',r'=xorNext r:=⟨_,rfl⟩;obtain⟨o,ho⟩:∃o,o=r'.toNat&&&(M-1):=⟨_,rfl⟩;obtain⟨o2,ho2⟩:∃o2,o2=if o≥n then o-n else o:=⟨_,rfl⟩;have hs:st (t+1)=(r',swp D i (a+o2)):=by rw[hs,ho2,ho,hr',hi];rfl
    have ole:o≤M-1:=by rw[ho];exact Nat.and_le_right
    have o2lt:o2<n:=by rw[ho2];split<;>omega
    obtain⟨c,hc⟩:∃c,c=a+o2:=⟨_,rfl⟩;rw[←hc]at hs;have z1:(ix:Int)+(t:Int)=(i:Int):=by omega
    have z2:(i:Int)≤(y:Int)+1:=by omega
    have z3:(r.toNat:Int)<18446744073709551616:=by have:=r.toNat_lt;omega
    have z4:IntKind.u64.wrap ((M:Int)-1)=(M:Int)-1:=wrap_u64 (by omega);have z5:vt .and .u64 (r'.toNat:Int) ((M:Int)-1)=.int .u64 (o:Int):=by have:=Dl r' (UInt64.ofNat (M-1));rw[UInt64.toNat_ofNat',Nat.mod_eq_of_lt (by omega:M-1<2^64)]at this;rw[show(M:Int)-1=((M-1:Nat):Int) by omega,this,ho]
    have z6:IntKind.i64.wrap (o:Int)=(o:Int):=wrap_i64 (by omega);have z7:IntKind.i64.wrap ((i:Int)+1)=(i:Int)+1:=wrap_i64 (by omega);have z8:IntKind.i64.wrap ((a:Int)+(o2:Int))=(c:Int):=by rw[wrap_i64 (by omega)];omega
    have q1:i<D.size:=by omega
    have q2:c<D.size:=by omega
    have r1:=bd q1;have r2:=bd q2;have r3:=bd (d:=D.setIfInBounds i (gA D c)) (i:=c) (by rw[Array.size_setIfInBounds];omega);apply af;·simp(config := { maxSteps := 3000000 }) [v1,v2,v3,v4,v6,z1,z2];exact⟨rfl,rfl⟩
    rw[bA];rw[aP];apply af;·simp(config := { maxSteps := 3000000 }) [z3,←hr',z4,z5,z6,z1];exact⟨rfl,rfl⟩
    by_cases hon:o≥n
    ·rw[if_pos hon]at ho2;have k1:(n:Int)≤(o:Int):=by omega
     have k2:IntKind.i64.wrap ((o:Int)-(n:Int))=(o2:Int):=by rw[wrap_i64 (by omega)];omega
     apply af;·simp(config := { maxSteps := 3000000 }) [k1,k2];exact⟨rfl,rfl⟩
     simp(config := { maxSteps := 3000000 }) [z8,z7,q1,q2,r1,r2,r3];exact⟨t+1,by omega,⟨by omega,by rw[hs];rfl,by rw[hs]⟩,by omega⟩
    ·rw[if_neg hon]at ho2;subst ho2;have k1:¬(n:Int)≤(o2:Int):=by omega
     apply af;·simp(config := { maxSteps := 3000000 }) [k1];exact⟨rfl,rfl⟩
     simp(config := { maxSteps := 3000000 }) [z8,z7,q1,q2,r1,r2,r3];exact⟨t+1,by omega,⟨by omega,by rw[hs];rfl,by rw[hs]⟩,by omega⟩
   ·have:t=3:=by omega
    subst this;have z1:¬(ix:Int)+3≤(y:Int)+1:=by omega
    rw[hq]at hW3;have hW3:D=W:=hW3;subst hW3;simp(config := { maxSteps := 3000000 }) [v1,v2,v3,v4,v6,z1]
 ·have c8:¬(8:Int)≤(n:Int):=by omega
  simp only[if_neg h8]at hW;subst hW;simp(config := { maxSteps := 3000000 }) [c8]
noncomputable def IH:List AV→Option (Prop×AV)|[.aK [.fr e a],.pv (.int .i64 p),.pv (.int .i64 q),.pv (.int .i64 v)]=>if e=22 then(dec dq a).map fun l=>((0≤p∧p≤v)∧v<q∧q≤(l.length:Int)∧l.length≤1000000,.bB 0 [.pv (.int .i64 ((partitionEqual ltInt l.toArray p.toNat q.toNat v.toNat).1:Int)),.fr 22 (rA (partitionEqual ltInt l.toArray p.toNat q.toNat v.toNat).2)]) else none|_=>none
@[simp] theorem VG (e:TypeId) (d:Array Int) (p q v:Int):IH [.aK [.fr e (rA d)],.pv (.int .i64 p),.pv (.int .i64 q),.pv (.int .i64 v)]=if e=22 then some ((0≤p∧p≤v)∧v<q∧q≤(d.size:Int)∧d.size≤1000000,.bB 0 [.pv (.int .i64 ((partitionEqual ltInt d p.toNat q.toNat v.toNat).1:Int)),.fr 22 (rA (partitionEqual ltInt d p.toNat q.toNat v.toNat).2)]) else none:=by show(if e=22 then(dec dq (rA d)).map _ else none)=_;rw[gx];simp
theorem RY:df Tryz.prog 156 IH:=by
 intro ys φ r h hφ;unfold IH at h;split at h
 ·rename_i e ra p q v;split at h
  ·rename_i he;subst he;obtain⟨l,hl,h⟩:=Option.map_eq_some_iff.1 h;cases h;obtain⟨d,rfl,rfl⟩:=j8 hl;obtain⟨⟨h1,h2⟩,h3,h4,h5⟩:=hφ;rw[Array.length_toList]at h4 h5;obtain⟨a,rfl⟩:∃a:Nat,p=a:=⟨p.toNat,by omega⟩;obtain⟨b,rfl⟩:∃a:Nat,q=a:=⟨q.toNat,by omega⟩;obtain⟨c,rfl⟩:∃a:Nat,v=a:=⟨v.toNat,by omega⟩;rw[Int.toNat_natCast,Int.toNat_natCast,Int.toNat_natCast,Array.toArray_toList];refine b5 (ai lF aj) (by kernel_rfl) fn156 (by simp) rfl (by simp) ?_;unfold body156;unfold partitionEqual;generalize hW:partEqLoop ltInt a (a+1) (b-1) (swp d a c)=W;have q1:a<d.size:=by omega
   have q2:c<d.size:=by omega
   have r1:=bd q1;have r2:=bd q2;have r3:=bd (d:=d.setIfInBounds a (gA d c)) (i:=c) (by rw[Array.size_setIfInBounds];omega);obtain⟨i0,hi0⟩:∃i0,i0=a+1:=⟨_,rfl⟩;obtain⟨j0,hj0⟩:∃j0,j0=b-1:=⟨_,rfl⟩;have w1:IntKind.i64.wrap ((a:Int)+1)=(i0:Int):=by rw[wrap_i64 (by omega)];omega
   have w2:IntKind.i64.wrap ((b:Int)-1)=(j0:Int):=by rw[wrap_i64 (by omega)];omega
   rw[←hi0,←hj0]at hW;apply af;·simp(config := { maxSteps := 3000000 });exact⟨rfl,rfl⟩
   apply af;·simp(config := { maxSteps := 3000000 }) [q1,q2,r1,r2,r3];exact⟨rfl,rfl⟩
   rw[show(d.setIfInBounds a (gA d c)).setIfInBounds c (gA d a)=swp d a c from rfl];apply af;·simp(config := { maxSteps := 3000000 }) [w1,w2];exact⟨rfl,rfl⟩
   rw[bA]
   ·rw[aP];refine ay (fun x:(Nat×Nat)×Array Int=>(a<x.1.1∧x.1.1≤x.1.2+1)∧x.1.2<b∧x.2.size=d.size∧partEqLoop ltInt a x.1.1 x.1.2 x.2=W) (fun x=>⟨[(0,.own 999),(1,.pv (.int .i64 (a:Int))),(9,.pv (.int .i64 (x.1.1:Int))),(10,.pv (.int .i64 (x.1.2:Int)))],[(999,.arr 22 (rA x.2))]⟩) (fun x=>x.1.2) [] ((i0,j0),swp d a c) ⟨⟨by show a<i0;omega,by show i0≤j0+1;omega⟩,by show j0<b;omega,size_swp _ _ _,hW⟩ ?_ ?_;·simp
    ·rintro⟨⟨i,j⟩,D⟩ ⟨⟨g1,g2⟩,g3,g4,g5⟩;have g1:a<i:=g1;have g2:i≤j+1:=g2;have g3:j<b:=g3;have g4:D.size=d.size:=g4;have g5:partEqLoop ltInt a i j D=W:=g5;have qa:a<D.size:=by omega
     have ra:=bd qa;obtain⟨pU,hpU⟩:∃pU:Int→Bool,pU=fun x=>!ltInt D[a]! x:=⟨_,rfl⟩;obtain⟨pD,hpD⟩:∃pD:Int→Bool,pD=fun x=>ltInt D[a]! x:=⟨_,rfl⟩;obtain⟨i2,hi2⟩:∃i2,i2=scanUp pU D j i:=⟨_,rfl⟩;obtain⟨j2,hj2⟩:∃j2,j2=scanDown pD D i2 j:=⟨_,rfl⟩;have u1:=scanUp_spec pU D j _ i rfl;rw[←hi2]at u1;have u2:=scanDown_spec pD D i2 j;rw[←hj2]at u2;have u3:i≤i2∧i2≤j+1:=⟨u1.1,u1.2.1 g2⟩;have u4:j2≤j∧i2≤j2+1:=⟨u2.1,u2.2.1 u3.2⟩;rw[lX];dsimp only;rw[aP];apply af
     ·rw[aP];refine ay (fun s:Nat=>i≤s∧s≤j+1∧scanUp pU D j s=i2) (fun s=>⟨[(0,.own 999),(1,.pv (.int .i64 (a:Int))),(9,.pv (.int .i64 (s:Int))),(10,.pv (.int .i64 (j:Int)))],[(999,.arr 22 (rA D))]⟩) (fun s=>j+1-s) [] i (by refine⟨?_,?_,?_⟩<;>first|omega|exact hi2.symm) ?_ ?_;·simp
      ·rintro s ⟨l1,l2,l3⟩;by_cases hc:s≤j
       ·have ws:IntKind.i64.wrap ((s:Int)+1)=((s+1:Nat):Int):=by rw[wrap_i64 (by omega)];omega
        have c1:(s:Int)≤(j:Int):=by omega
        have q1:s<D.size:=by omega
        have r1:=bd q1;cases hb:(!ltInt (gA D a) (gA D s)) with|true=>have e:=scanUp_go pU D j s hc (by rw[hpU];exact hb);rw[e]at l3;obtain⟨s',hs'⟩:∃s',s'=s+1:=⟨_,rfl⟩;rw[←hs']at ws l3;simp(config := { maxSteps := 3000000 }) [c1,q1,qa,r1,ra,hb,ws];exact⟨s',⟨by omega,by omega,l3⟩,rfl,by omega⟩|false=>have e:=scanUp_end pU D j s (.inr (by rw[hpU];exact hb));rw[e]at l3;subst l3;simp(config := { maxSteps := 3000000 }) [c1,q1,qa,r1,ra,hb];try exact⟨rfl,rfl⟩
       ·have c1:¬(s:Int)≤(j:Int):=by omega
        have e:=scanUp_end pU D j s (.inl hc);rw[e]at l3;subst l3;rcases Nat.lt_or_ge s D.size with q1|q1;·have r1:=bd q1;simp(config := { maxSteps := 3000000 }) [c1,q1,qa,r1,ra];try exact⟨rfl,rfl⟩
        ·have r1:=kg q1;simp(config := { maxSteps := 3000000 }) [c1,qa,r1,ra];try exact⟨rfl,rfl⟩
     apply af
     ·rw[aP];refine ay (fun s:Nat=>i2≤s+1∧s≤j∧scanDown pD D i2 s=j2) (fun s=>⟨[(0,.own 999),(1,.pv (.int .i64 (a:Int))),(9,.pv (.int .i64 (i2:Int))),(10,.pv (.int .i64 (s:Int)))],[(999,.arr 22 (rA D))]⟩) (fun s=>s) [] j (by refine⟨?_,?_,?_⟩<;>first|omega|exact hj2.symm) ?_ ?_;·simp
      ·rintro s ⟨l1,l2,l3⟩;by_cases hc:i2≤s
       ·have ws:IntKind.i64.wrap ((s:Int)-1)=((s-1:Nat):Int):=by rw[wrap_i64 (by omega)];omega
        have c1:(i2:Int)≤(s:Int):=by omega
        have q1:s<D.size:=by omega
        have r1:=bd q1;cases hb:ltInt (gA D a) (gA D s) with|true=>have e:=scanDown_go pD D i2 s hc (by omega) (by rw[hpD];exact hb);rw[e]at l3;obtain⟨s',hs'⟩:∃s',s'=s-1:=⟨_,rfl⟩;rw[←hs']at ws l3;simp(config := { maxSteps := 3000000 }) [c1,q1,qa,r1,ra,hb,ws];exact⟨s',⟨by omega,by omega,l3⟩,rfl,by omega⟩|false=>have e:=scanDown_end pD D i2 s (.inr (by rw[hpD];exact hb));rw[e]at l3;subst l3;simp(config := { maxSteps := 3000000 }) [c1,q1,qa,r1,ra,hb];try exact⟨rfl,rfl⟩
       ·have c1:¬(i2:Int)≤(s:Int):=by omega
        have e:=scanDown_end pD D i2 s (.inl hc);rw[e]at l3;subst l3;rcases Nat.lt_or_ge s D.size with q1|q1;·have r1:=bd q1;simp(config := { maxSteps := 3000000 }) [c1,q1,qa,r1,ra];try exact⟨rfl,rfl⟩
        ·have r1:=kg q1;simp(config := { maxSteps := 3000000 }) [c1,qa,r1,ra];try exact⟨rfl,rfl⟩
     by_cases hgt:i2>j2
     ·have k1:(j2:Int)<(i2:Int):=by omega
      have e:=partEq_break ltInt a i j D (by rw[hi2,hpU]) (by rw[hj2,hpD]) hgt;rw[e]at g5;have e1:(i2:Int)=(W.1:Int):=by rw[←g5]
      have e2:rA D=rA W.2:=by rw[←g5]
      simp(config := { maxSteps := 3000000 }) [k1];exact⟨e1,e2⟩
     ·have k1:¬(j2:Int)<(i2:Int):=by omega
      have e:=partEq_go ltInt a i j D (by rw[hi2,hpU]) (by rw[hj2,hpD]) hgt;rw[e]at g5;have lt2:=scans_lt ltInt a i j D (by omega) (i2:=i2) (j2:=j2) (by rw[hi2,hpU]) (by rw[hj2,hpD]) (by omega);have z1:i2<D.size:=by omega
      have z2:j2<D.size:=by omega
      have r1:=bd z1;have r2:=bd z2;have r3:=bd (d:=D.setIfInBounds i2 (gA D j2)) (i:=j2) (by rw[Array.size_setIfInBounds];omega);have v1:IntKind.i64.wrap ((i2:Int)+1)=(i2:Int)+1:=wrap_i64 (by omega);obtain⟨j3,hj3⟩:∃j3,j3=j2-1:=⟨_,rfl⟩;have v2:IntKind.i64.wrap ((j2:Int)-1)=(j3:Int):=by rw[wrap_i64 (by omega)];omega
      rw[←hj3]at g5;apply af;·simp(config := { maxSteps := 3000000 }) [k1];exact⟨rfl,rfl⟩
      apply af;·simp(config := { maxSteps := 3000000 }) [z1,z2,r1,r2,r3];exact⟨rfl,rfl⟩
      simp(config := { maxSteps := 3000000 }) [v1,v2];exact⟨i2+1,j3,swp D i2 j2,⟨⟨by omega,by omega⟩,by omega,by rw[size_swp,g4],g5⟩,⟨⟨by omega,rfl⟩,rfl⟩,by omega⟩
  ·cases h
 ·cases h
end Go.Proofs.YtlmkcmfmfahcfaaGreat.Ab
