/- Chapter 16: documents as the reference has them; what is the same; small functions of the law. -/
import Derived.Test.YtifcndkhigakfaaGreatX12
import Derived.Test.YtifcndkhigakfaaGreatChecked
import Derived.RangeFuncBox
import Derived.RangeFuncLeaves
import Derived.Shelf.Abstract
import Derived.WalkKit
import Derived.OwnWalkIn
import Derived.TacticsInMore
import Derived.LoopNIn
import Derived.LoopIn
import Derived.Maps.AppendAt
import Derived.Laws.CopyRow
import Derived.Laws.NewBlocks
import Derived.Lib.AppendZerosOnto
import Derived.Lib.Overlaps
import Derived.Lib.Walk
import Derived.Lib.SliceRun
import Derived.Laws.Externs
set_option linter.unusedVariables false
set_option linter.unusedSimpArgs false
set_option linter.unnecessarySimpa false
set_option maxHeartbeats 40000000
set_option maxRecDepth 100000
namespace Go.Proofs.YtifcndkhigakfaaGreat.Ab
open Go Go.RowKit R
structure Dc where
 l:Ls
 ps:List Pn
 vs:List Vn
 sl:Bool deriving DecidableEq
def cellsD (d:Dc):List AV:=[.pv (.int .u64 d.l.e),.pv (.int .u64 d.l.p),.pv (.int .u64 d.l.i),.pv (.int .u64 d.l.u),.pv (.bool d.l.h),.pv (.ro (aF d.ps)),.pv (.ro (ba d.vs)),.pv (.bool d.sl)]
noncomputable def n8 (ys:List AV) (K:Dc→Option (Prop×AV)):Option (Prop×AV):=match ys with|[.pv (.int .u64 e),.pv (.int .u64 p),.pv (.int .u64 i),.pv (.int .u64 u),.pv (.bool h),.pv (.ro a),.pv (.ro b),.pv (.bool sl)]=>(dec rowP a).bind fun ps=>(dec dG b).bind fun vs=>K ⟨⟨e,p,i,u,h⟩,ps,vs,sl⟩|_=>none
@[simp] theorem Yj (e p i u:Int) (h sl:Bool) (a b:List (List PV)) (K:Dc→Option (Prop×AV)):n8 [.pv (.int .u64 e),.pv (.int .u64 p),.pv (.int .u64 i),.pv (.int .u64 u),.pv (.bool h),.pv (.ro a),.pv (.ro b),.pv (.bool sl)] K=(dec rowP a).bind fun ps=>(dec dG b).bind fun vs=>K ⟨⟨e,p,i,u,h⟩,ps,vs,sl⟩:=rfl
theorem fx {ys:List AV}{K:Dc→Option (Prop×AV)}{x:Prop×AV} (h:n8 ys K=some x):∃d,ys=cellsD d∧K d=some x:=by
 unfold n8 at h;split at h;·obtain⟨ps,hp,h1⟩:=Option.bind_eq_some_iff.1 h;obtain⟨vs,hv,h2⟩:=Option.bind_eq_some_iff.1 h1;rw[bf hp,bB hv];exact⟨_,rfl,h2⟩
 ·cases h
@[simp] noncomputable def GdP:List AV→Option (Prop×AV)|[.agg [.pv (.ro a)]]=>(dec rowP a).map fun l=>(l.length≤100000,.fr 205 (aF l))|_=>none
theorem c_dP:aR Tryz.prog 76 GdP:=by
 intro ys φ r h hφ;unfold GdP at h;split at h
 ·obtain⟨a,ha,h⟩:=Option.map_eq_some_iff.1 h;cases h;cases bf ha;have hl:a.length≤100000:=hφ;refine aq aj (by kernel_rfl) (by conv=>lhs;reduce) (by simp) ?_;simp;refine au (fun i:Nat=>i≤a.length) (fun i=>⟨[(1,.ptr 1 0),(2,.own 2),(3,.own 3),(4,.pv (.int .i64 i))],[(1,.box [.pv (.ro (aF a))]),(2,.arr 205 []),(3,.arr 205 (aF (a.take i)))]⟩) (fun i=>a.length-i) [] 0 (by simp) ?_ ?_;·simp
  ·intro i hi;have w2:IntKind.i64.wrap ((i:Int)+1)=(i:Int)+1:=wrap_i64 (by omega);by_cases hlt:i<a.length;·have r1:=bM hlt;simp[w2,hlt,r1,aw];refine⟨⟨by omega,by omega⟩,i+1,by omega,⟨by omega,?_⟩,by omega⟩;rw[List.take_succ_eq_append_getElem hlt,eH];rfl
   ·simp[hlt];rw[List.take_of_length_le (by omega)]
 ·cases h
@[simp] noncomputable def GdV:List AV→Option (Prop×AV)|[.pv (.ro a)]=>(dec dG a).map fun l=>(l.length≤100000,.fr 156 (ba l))|_=>none
theorem c_dV:aR Tryz.prog 77 GdV:=by
 intro ys φ r h hφ;unfold GdV at h;split at h
 ·obtain⟨a,ha,h⟩:=Option.map_eq_some_iff.1 h;cases h;cases bB ha;have hl:a.length≤100000:=hφ;refine aq aj (by kernel_rfl) (by conv=>lhs;reduce) (by simp) ?_;simp;refine au (fun i:Nat=>i≤a.length) (fun i=>⟨[(0,.pv (.ro (ba a))),(2,.own 2),(3,.own 3),(4,.pv (.int .i64 i))],[(2,.arr 156 []),(3,.arr 156 (ba (a.take i)))]⟩) (fun i=>a.length-i) [] 0 (by simp) ?_ ?_;·simp
  ·intro i hi;have w2:IntKind.i64.wrap ((i:Int)+1)=(i:Int)+1:=wrap_i64 (by omega);by_cases hlt:i<a.length;·have r1:=dI hlt;simp[w2,hlt,r1,aw];refine⟨⟨by omega,by omega⟩,i+1,by omega,⟨by omega,?_⟩,by omega⟩;rw[List.take_succ_eq_append_getElem hlt,iH];rfl
   ·simp[hlt];rw[List.take_of_length_le (by omega)]
 ·cases h
@[simp] noncomputable def GdD:List AV→Option (Prop×AV)|[.agg ys]=>n8 ys fun d=>some (d.ps.length≤100000∧d.vs.length≤100000,.agg [.pv (.int .u64 d.l.e),.pv (.int .u64 d.l.p),.pv (.int .u64 d.l.i),.pv (.int .u64 d.l.u),.pv (.bool d.l.h),.fr 205 (aF d.ps),.fr 156 (ba d.vs),.pv (.bool d.sl)])|_=>none
theorem c_dD:aR Tryz.prog 41 GdD:=by
 intro ys φ r h hφ;unfold GdD at h;split at h;·obtain⟨d,hd,h2⟩:=fx h;subst hd;clear h;cases h2;obtain⟨h1,h2⟩:=hφ;refine aq (af c_dP (af c_dV aj)) (by kernel_rfl) (by conv=>lhs;reduce) (by simp) ?_;simp[cellsD,h1,h2]
 ·cases h
noncomputable def yB (d:Dc) (ts:List (List UInt8)):Dc×Int:=if(mr d.vs ts).2=0 then(⟨d.l,d.ps,(mr d.vs ts).1,d.sl⟩,0) else(⟨⟨0,0,0,0,false⟩,[],[],false⟩,(mr d.vs ts).2)
@[simp] noncomputable def GDIn (e1 e2:TypeId):List AV→Option (Prop×AV)|[.agg ys,.pv (.ro ts)]=>n8 ys fun d=>(dec G7 ts).map fun ts=>(d.ps.length≤100000∧d.vs.length≤100000∧(∀v∈d.vs,pD v),.aS [.agg [.pv (.int .u64 (yB d ts).1.l.e),.pv (.int .u64 (yB d ts).1.l.p),.pv (.int .u64 (yB d ts).1.l.i),.pv (.int .u64 (yB d ts).1.l.u),.pv (.bool (yB d ts).1.l.h),.fr e1 (aF (yB d ts).1.ps),.fr e2 (ba (yB d ts).1.vs),.pv (.bool (yB d ts).1.sl)],.pv (.int .i64 (yB d ts).2)])|_=>none
theorem pow7 (i:Nat):2^(7*(i+1))=128*2^(7*i):=by rw[Nat.mul_add,Nat.pow_add];omega
theorem BS (rest:List UInt8):∀(N n i acc:Nat),n≤N→n*2^(7*i)<2^64→i≤9→(0<n∨i=0)→bL (bp n++rest) i acc=(acc+n*2^(7*i),i+(bp n).length,0):=by intro N;induction N with
 |zero=>
  intro n i acc hN h1 h2 h3;have:n=0:=by omega
  subst this;have:i=0:=by omega
  subst this;rw[cj (by omega)];simp[bL]|succ N ih=>
  intro n i acc hN h1 h2 h3;by_cases hs:n<128
  ·rw[cj hs];have hc:n.toUInt8.toNat=n:=by simp;omega
   simp only[List.singleton_append,bL,hc];have hno:¬((i=9∧1<n)∨(n=0∧0<i)):=by
    rintro(⟨rfl,h⟩|⟨h,h'⟩);·omega
    ·omega
   rw[if_neg hno,if_pos hs,Nat.mod_eq_of_lt hs];rfl
  ·rw[eZ hs];have hc:(n%128+128).toUInt8.toNat=n%128+128:=by simp;omega
   simp only[List.cons_append,bL,hc];have hi9:¬i=9:=by rintro rfl;omega
   have hno:¬((i=9∧1<n%128+128)∨(n%128+128=0∧0<i)):=by
    rintro(⟨h,_⟩|⟨h,_⟩);·exact hi9 h
    ·omega
   have hp:=pow7 i;have hd:n=n%128+128*(n/128):=by omega
   have hm:n*2^(7*i)=n%128*2^(7*i)+n/128*2^(7*(i+1)):=by rw[hp];calc n*2^(7*i)=(n%128+128*(n/128))*2^(7*i):=by rw[←hd]
    _=n%128*2^(7*i)+n/128*(128*2^(7*i)):=by rw[Nat.add_mul,Nat.mul_comm 128 (n/128),Nat.mul_assoc]
   rw[if_neg hno,if_neg (by omega),show(n%128+128)%128=n%128 from by omega];rw[ih (n/128) (i+1) _ (by omega) (by omega) (by omega) (.inl (by omega))];simp only[List.length_cons,Prod.mk.injEq,and_true];omega
theorem EA (n:Nat) (rest:List UInt8) (h:n<2^64):bL (bp n++rest) 0 0=(n,(bp n).length,0):=by have:=BS rest n n 0 0 (Nat.le_refl _) (by simpa using h) (by omega) (.inr rfl);simpa using this
theorem wM:∀(l pre:List UInt8),(∀x∈pre,128≤x.toNat)→(bL l pre.length (val pre)).2.2=0→(pre++l).take (bL l pre.length (val pre)).2.1=bp (bL l pre.length (val pre)).1
 |[],pre,_,h=>by simp[bL]at h|c::l,pre,hp,h=>by
  unfold bL at h ⊢;split at h;·cases h
  ·rename_i h0;rw[if_neg h0];by_cases hs:c.toNat<128
   ·rw[if_pos hs];dsimp only;rw[←pj,sG pre c hp hs];·rw[show pre++c::l=(pre++[c])++l from by simp,show pre.length+1=(pre++[c]).length from by simp,List.take_left]
    ·by_cases hc:c.toNat=0;·right;have:¬0<pre.length:=fun hh=>h0 (.inr ⟨hc,hh⟩);exact List.eq_nil_of_length_eq_zero (by omega)
     ·exact .inl hc
   ·rw[if_neg hs]at h ⊢;have e1:pre.length+1=(pre++[c]).length:=by simp
    rw[←pj,e1]at h ⊢;have:=wM l (pre++[c]) (by
     intro x hx;rcases List.mem_append.1 hx with hx|hx;·exact hp x hx
     ·simp only[List.mem_singleton]at hx;subst hx;omega) h;rw[List.append_assoc,List.singleton_append]at this;exact this
theorem Hj {l:List UInt8} (h:(bL l 0 0).2.2=0):l.take (bL l 0 0).2.1=bp (bL l 0 0).1:=wM l [] (by simp) h
theorem gJ (n:Nat):0<(bp n).length:=by
 by_cases h:n<128;·rw[cj h];simp
 ·rw[eZ h];simp
theorem lX {b r:List UInt8}{p:Nat} (h:b.drop p=r) (hr:0<r.length):p<b.length∧b.length=p+r.length:=by have:=congrArg List.length h;simp at this;omega
theorem CV {b:List UInt8}{p n:Nat}{r:List UInt8} (h:b.drop p=bp n++r) (hn:n<2^64):ah b p=((n:Int),(p:Int)+((bp n).length:Int),0):=by have hp:=gJ n;have hl:=(lX h (by simp;omega)).1;unfold ah;rw[if_neg (by omega),Int.toNat_natCast,h,EA n r hn]
theorem gO {b:List UInt8}{p:Int} (h:(ah b p).2.2=0):∃q m:Nat,p=(q:Int)∧(ah b p).1=(m:Int)∧m<2^64∧(ah b p).2.1=((q+(bp m).length:Nat):Int)∧∃r,b.drop q=bp m++r:=by
 have hok:=bT b p;obtain⟨h1,h2,h3,_⟩:=hok;obtain⟨a1,a2,a3⟩:=h1 h;have hT:ah b p=(((bL (b.drop p.toNat) 0 0).1:Int),p+((bL (b.drop p.toNat) 0 0).2.1:Int),(bL (b.drop p.toNat) 0 0).2.2):=by unfold ah;rw[if_neg (by omega)]
 rw[hT]at h a2 a3 h2 h3 ⊢;dsimp only at h a2 a3 h2 h3 ⊢;have hi:=Hj h;have hb:(bL (b.drop p.toNat) 0 0).2.1≤(b.drop p.toNat).length:=by simp;omega
 refine⟨p.toNat,(bL (b.drop p.toNat) 0 0).1,by omega,rfl,by omega,?_,(b.drop p.toNat).drop (bL (b.drop p.toNat) 0 0).2.1,?_⟩;·rw[←hi,List.length_take,Nat.min_eq_left hb];omega
 ·rw[←hi,List.take_append_drop]
def gn (v:Vn):Bool:=decide (v=eo v.n v.t)
def iw (l:List Vn):Bool:=l.all gn
def uA (l:List Vn):Int:=if iw l=true then-1 else(l.findIdx (fun v=>!gn v):Int)
@[simp] def U4:List AV→Option (Prop×AV)|[.agg [.pv (.int .u64 n),.pv (.int .u64 b),.pv (.int .u64 p),.pv (.int .u64 i),.pv (.int .u64 s),.pv (.int .u64 z),.pv (.int .u64 m),.pv (.str t),.pv (.bool inl),.pv (.bool fU)]]=>some (True,.pv (.bool (!gn ⟨n,b,p,i,s,z,m,t,inl,fU⟩)))|_=>none
theorem XZ:aR Tryz.prog 151 U4:=by
 intro ys φ r h hφ;unfold U4 at h;split at h;·rename_i n b p i s z m t inl fU;cases h;have he:=F6 ⟨n,b,p,i,s,z,m,t,inl,fU⟩ (eo n t);simp only[eo]at he;have hp:gn ⟨n,b,p,i,s,z,m,t,inl,fU⟩=decide ((⟨n,b,p,i,s,z,m,t,inl,fU⟩:Vn)=⟨n,0,0,0,0,0,0,t,true,false⟩):=rfl;refine aq (af Jc aj) (by kernel_rfl) (by conv=>lhs;reduce) (by simp) ?_;simp[hp]
 ·cases h
theorem CZ:ib Tryz.prog 151=true:=by kernel_rfl
@[simp] noncomputable def Ws:List AV→Option (Prop×AV)|[.pv (.ro a),.bZ f []]=>if f=151 then(dec dG a).map fun l=>(l.length≤1000000000,.pv (.int .i64 (uA l))) else none|_=>none
theorem TG:aR Tryz.prog 197 Ws:=by
 intro ys φ r h hφ;unfold Ws at h;split at h
 ·rename_i ra f;split at h
  ·rename_i hf;subst hf;obtain⟨a,ha,h⟩:=Option.map_eq_some_iff.1 h;cases h;cases bB ha;refine aq (af XZ aj) (by kernel_rfl) (by conv=>lhs;reduce) (by simp) ?_;simp;refine au (fun i:Nat=>i≤a.length∧∀v∈a.take i,gn v=true) (fun i=>⟨[(0,.pv (.ro (ba a))),(1,.bZ 151 []),(7,.pv (.int .i64 a.length)),(8,.pv (.int .i64 i))],[]⟩) (fun i=>a.length-i) [] 0 (by simp) ?_ ?_;·simp
   ·rintro i ⟨hi,ht⟩;have w2:IntKind.i64.wrap ((i:Int)+1)=(i:Int)+1:=wrap_i64 (by omega);by_cases hlt:i<a.length;·have r1:=dI hlt;have he:(⟨a[i].n,a[i].b,a[i].p,a[i].i,a[i].s,a[i].z,a[i].m,a[i].t,a[i].inl,a[i].fU⟩:Vn)=a[i]:=rfl;cases hp:gn a[i]with
     |true=>
      simp[w2,hlt,r1,CZ,he,hp];refine⟨i+1,⟨by omega,fun v hv=>?_⟩,by omega,by omega⟩;rw[List.take_succ_eq_append_getElem hlt,List.mem_append]at hv;rcases hv with hv|hv;·exact ht v hv
      ·rw[List.mem_singleton]at hv;rw[hv];exact hp|false=>
      have hall:iw a=false:=by unfold iw;rw[List.all_eq_false];exact⟨a[i],List.getElem_mem hlt,by simp[hp]⟩
      have hfi:a.findIdx (fun v=>!gn v)=i:=by
       rw[List.findIdx_eq hlt];refine⟨by simp[hp],fun j hj=>?_⟩;have:a[j]∈a.take i:=by rw[List.mem_take_iff_getElem];exact⟨j,by omega,rfl⟩
       simp[ht _ this]
      have hox:uA a=i:=by unfold uA;rw[hall,if_neg (by simp),hfi]
      simp[w2,hlt,r1,CZ,he,hp,hox]
    ·rw[List.take_of_length_le (by omega)]at ht;have hall:iw a=true:=by unfold iw;rw[List.all_eq_true];exact ht
     have hox:uA a=-1:=by unfold uA;rw[hall,if_pos rfl]
     simp[hlt,hox]
  ·cases h
 ·cases h
@[simp] noncomputable def ZC:List AV→Option (Prop×AV)|[.pv (.ro a),.bZ f []]=>if f=151 then(dec dG a).map fun l=>(l.length≤1000000000,.pv (.bool (!iw l))) else none|_=>none
theorem TU:aR Tryz.prog 152 ZC:=by
 intro ys φ r h hφ;unfold ZC at h;split at h
 ·rename_i ra f;split at h
  ·rename_i hf;subst hf;obtain⟨a,ha,h⟩:=Option.map_eq_some_iff.1 h;cases h;cases bB ha;refine aq (af TG aj) (by kernel_rfl) (by conv=>lhs;reduce) (by simp) ?_;have hq:decide (0≤uA a)=!iw a:=by unfold uA;cases hall:iw a<;>simp
   simp[hφ,hq]
  ·cases h
 ·cases h
def eN (v:Vn):List UInt8:=bd v.n++dq v.t
def cu (l:List Vn):List UInt8:=l.flatMap eN
def jy (l:List Vn):List UInt8:=bd l.length++cu l
def cV (l:List Vn):List UInt8×Int:=if db l=true∧iw l=true then(jy l,0) else([],2)
theorem ff {n:Int} (h:0≤n∧n≤18446744073709551615):(bd n).length≤10:=ed (by omega)
theorem qt {v:Vn} (h:pD v) (ht:v.t.length≤1000000):(eN v).length≤1000020:=by have h1:=ff (n:=v.n) ⟨h.1,h.2.1⟩;have h2:=ed (n:=v.t.length) (by omega);simp only[eN,dq,List.length_append];omega
theorem nS:∀{l:List Vn},(∀v∈l,pD v∧v.t.length≤1000000)→(cu l).length≤1000020*l.length|[],_=>by simp[cu]|n::l,h=>by have h1:=qt (h n (by simp)).1 (h n (by simp)).2;have h2:=nS (l:=l) fun m hm=>h m (by simp[hm]);unfold cu at h2 ⊢;simp only[List.flatMap_cons,List.length_append,List.length_cons];omega
theorem qM (l:List Vn) (e:Vn):cu (l++[e])=cu l++eN e:=by simp[cu]
@[simp] noncomputable def Dp:List AV→Option (Prop×AV)|[.pv (.ro a)]=>(dec dG a).map fun l=>(l.length≤1000∧(∀v∈l,pD v∧v.t.length≤1000000),.aS [.fr 5 (bytesRow (cV l).1),.pv (.int .i64 (cV l).2)])|_=>none
theorem M1:aR Tryz.prog 108 Dp:=by
 intro ys φ r h hφ;unfold Dp at h;split at h
 ·rename_i ra;obtain⟨a,ha,h⟩:=Option.map_eq_some_iff.1 h;cases h;cases bB ha;obtain⟨hl,hn⟩:=hφ;refine aq (af aaj (af TU (af xw (af Cb aj)))) (by kernel_rfl) (by conv=>lhs;reduce) (by simp) ?_;have hl9:a.length≤1000000000:=by omega
  cases hr:db a with
  |false=>
   have hp:cV a=([],2):=by simp[cV,hr]
   simp[hl9,hr,hp]|true=>cases hall:iw a with
  |false=>
   have hp:cV a=([],2):=by simp[cV,hall]
   simp[hl9,hr,hall,hp]|true=>
  have hp:cV a=(jy a,0):=by simp[cV,hr,hall]
  have wl:IntKind.u64.wrap (a.length:Int)=(a.length:Int):=wrap_u64 (by omega);have l0:(0:Int)≤(a.length:Int):=by omega
  have l1:(a.length:Int)≤18446744073709551615:=by omega
  have hv:=ff (n:=(a.length:Int)) ⟨by omega,by omega⟩;simp[wl,l0,l1,hl9,hr,hall,hp];refine au (fun i:Nat=>i≤a.length) (fun i=>⟨[(5,.own 19),(20,.pv (.ro (ba a))),(21,.pv (.int .i64 a.length)),(22,.pv (.int .i64 i))],[(19,.arr 5 (bytesRow (bd a.length++cu (a.take i))))]⟩) (fun i=>a.length-i) [] 0 (by simp) ?_ ?_;·simp[cu]
  ·rintro i hi;have w2:IntKind.i64.wrap ((i:Int)+1)=(i:Int)+1:=wrap_i64 (by omega);by_cases hlt:i<a.length
   ·have r1:=dI hlt;have ho:=hn _ (List.getElem_mem hlt);have h1:=qt ho.1 ho.2;have h2:=nS (l:=a.take i) fun n h=>hn n (List.mem_of_mem_take h);rw[List.length_take]at h2;have h3:(eN a[i]).length=(bd a[i].n).length+(dq a[i].t).length:=by simp[eN]
    obtain⟨⟨o1,o2,_,_⟩,hm6⟩:=ho;simp[w2,hlt,r1,aw,o1,o2,hm6];refine⟨⟨by omega,by omega,aL _⟩,⟨by omega,by omega,aL _⟩,i+1,by omega,⟨by omega,?_⟩,by omega⟩;rw[List.take_succ_eq_append_getElem hlt,qM];simp only[aM,eN,List.append_assoc]
   ·simp[hlt];rw[List.take_of_length_le (by omega)];rfl
 ·cases h
theorem sC (v:Vn):gn v=true↔(v.inl=true∧v.fU=false∧v.b=0∧v.p=0∧v.i=0∧v.s=0∧v.z=0∧v.m=0):=by
 unfold gn;rw[decide_eq_true_eq,←Lt];simp only[eo];constructor;·rintro⟨_,h1,h2,h3,h4,h5,h6,_,h7,h8⟩;exact⟨h7,h8,h1,h2,h3,h4,h5,h6⟩
 ·rintro⟨h7,h8,h1,h2,h3,h4,h5,h6⟩;exact⟨trivial,h1,h2,h3,h4,h5,h6,trivial,h7,h8⟩
theorem IB:aR Tryz.prog 71 Dp:=by
 intro ys φ r h hφ;unfold Dp at h;split at h
 ·rename_i ra;obtain⟨a,ha,h⟩:=Option.map_eq_some_iff.1 h;cases h;cases bB ha;obtain⟨hl,hn⟩:=hφ;refine aq (af Ms (af nD (af xL aj))) (by kernel_rfl) (by conv=>lhs;reduce) (by simp) ?_;have hl9:a.length≤1000000000:=by omega
  have hov:∀v∈a,pD v:=fun v hv=>(hn v hv).1;cases hr:db a with
  |false=>
   have hp:cV a=([],2):=by simp[cV,hr]
   simp[hl9,hr,hp];exact hov|true=>
  have wl:IntKind.u64.wrap (a.length:Int)=(a.length:Int):=wrap_u64 (by omega);have l0:(0:Int)≤(a.length:Int):=by omega
  have l1:(a.length:Int)≤18446744073709551615:=by omega
  have hv:=ff (n:=(a.length:Int)) ⟨by omega,by omega⟩;simp[wl,l0,l1,hl9,hr];refine⟨hov,?_⟩;refine au (fun i:Nat=>i≤a.length∧∀v∈a.take i,gn v=true) (fun i=>⟨[(0,.pv (.ro (ba a))),(4,.own 13),(5,.pv (.int .i64 i))],[(13,.arr 5 (bytesRow (bd a.length++cu (a.take i))))]⟩) (fun i=>a.length-i) [] 0 (by simp) ?_ ?_;·simp[cu]
  ·rintro i ⟨hi,ht⟩;have w2:IntKind.i64.wrap ((i:Int)+1)=(i:Int)+1:=wrap_i64 (by omega);by_cases hlt:i<a.length;·have r1:=dI hlt;cases hpl:gn a[i]with
    |false=>
     have hall:iw a=false:=by unfold iw;rw[List.all_eq_false];exact⟨a[i],List.getElem_mem hlt,by simp[hpl]⟩
     have hp:cV a=([],2):=by simp[cV,hall]
     have hnot:¬(a[i].inl=true∧a[i].fU=false∧a[i].b=0∧a[i].p=0∧a[i].i=0∧a[i].s=0∧a[i].z=0∧a[i].m=0):=by rw[←sC,hpl];simp
     cases e0:a[i].inl with|false=>simp[hlt,r1,hp,e0]|true=>cases e1:a[i].fU with|true=>simp[hlt,r1,hp,e0,e1]|false=>
     by_cases e2:a[i].b=0;rotate_left;·simp[hlt,r1,hp,e0,e1,e2]
     by_cases e3:a[i].p=0;rotate_left;·simp[hlt,r1,hp,e0,e1,e2,e3]
     by_cases e4:a[i].i=0;rotate_left;·simp[hlt,r1,hp,e0,e1,e2,e3,e4]
     by_cases e5:a[i].s=0;rotate_left;·simp[hlt,r1,hp,e0,e1,e2,e3,e4,e5]
     by_cases e6:a[i].z=0;rotate_left;·simp[hlt,r1,hp,e0,e1,e2,e3,e4,e5,e6]
     by_cases e7:a[i].m=0;rotate_left;·simp[hlt,r1,hp,e0,e1,e2,e3,e4,e5,e6,e7]
     exact absurd ⟨e0,e1,e2,e3,e4,e5,e6,e7⟩ hnot
    |true=>
     obtain⟨e1,e2,e3,e4,e5,e6,e7,e8⟩:=(sC _).1 hpl;have ho:=hn _ (List.getElem_mem hlt);have h1:=qt ho.1 ho.2;have h2:=nS (l:=a.take i) fun n h=>hn n (List.mem_of_mem_take h);rw[List.length_take]at h2;have h3:(eN a[i]).length=(bd a[i].n).length+(dq a[i].t).length:=by simp[eN]
     obtain⟨⟨o1,o2,_,_⟩,hm6⟩:=ho;simp[w2,hlt,r1,aw,o1,o2,hm6,e1,e2,e3,e4,e5,e6,e7,e8];refine⟨⟨by omega,by omega,aL _⟩,⟨by omega,by omega,aL _⟩,i+1,⟨by omega,fun v hv=>?_⟩,⟨by omega,?_⟩,by omega⟩
     ·rw[List.take_succ_eq_append_getElem hlt,List.mem_append]at hv;rcases hv with hv|hv;·exact ht v hv
      ·rw[List.mem_singleton]at hv;rw[hv];exact hpl
     ·rw[List.take_succ_eq_append_getElem hlt,qM];simp only[aM,eN,List.append_assoc]
   ·rw[List.take_of_length_le (by omega)]at ht;have hall:iw a=true:=by unfold iw;rw[List.all_eq_true];exact ht
    have hp:cV a=(jy a,0):=by simp[cV,hr,hall]
    simp[hlt,hp];rw[List.take_of_length_le (by omega)];rfl
 ·cases h
theorem mR (b:List UInt8) (q:Int):((ay b q).2.2=0→0≤q∧q<(ay b q).2.1∧(ay b q).2.1≤b.length)∧((ay b q).2.2≠0→(ay b q).2.1=q):=by
 obtain⟨h1,h2,h3,h4,_⟩:=bT b q;unfold ay;split;·rename_i h;exact⟨fun h'=>absurd h' h,fun _=>rfl⟩
 ·rename_i h;have h0:(ah b q).2.2=0:=by simpa using h
  obtain⟨g1,g2,g3⟩:=h1 h0;split;·exact⟨fun h'=>by simp at h',fun _=>rfl⟩
  ·rename_i h';refine⟨fun _=>?_,fun h=>absurd rfl h⟩;dsimp only;omega
def bF (b:List UInt8) (q:Int):Vn×Int×Int:=if(ah b q).2.2≠0 then(v0,0,(ah b q).2.2) else if(ay b (ah b q).2.1).2.2≠0 then(v0,0,(ay b (ah b q).2.1).2.2) else(eo (ah b q).1 (ay b (ah b q).2.1).1,(ay b (ah b q).2.1).2.1,0)
def bz (b:List UInt8):Nat→Int→Int→List Vn×Int×Int|0,_,q=>([],q,0)|f+1,n,q=>if n≤0 then([],q,0) else if(bF b q).2.2≠0 then([],0,(bF b q).2.2) else if(bz b f (n-1) (bF b q).2.1).2.2≠0 then([],0,(bz b f (n-1) (bF b q).2.1).2.2) else((bF b q).1::(bz b f (n-1) (bF b q).2.1).1,(bz b f (n-1) (bF b q).2.1).2.1,0)
def jL (b:List UInt8) (R:List Vn×Int×Int):List Vn×Int:=if R.2.2≠0 then([],R.2.2) else if R.2.1=b.length∧db R.1=true then(R.1,0) else([],2)
def cf (b:List UInt8):List Vn×Int:=if(ah b 0).2.2≠0 then([],(ah b 0).2.2) else jL b (bz b (b.length+1) (ah b 0).1 (ah b 0).2.1)
def gu (L:List Vn) (q:List Vn×Int×Int):List Vn×Int×Int:=if q.2.2≠0 then([],0,q.2.2) else(L++q.1,q.2.1,0)
theorem zg (b:List UInt8):∀(k:Nat) (n p:Int),(bz b k n p).2.2≠0→bz b k n p=([],0,(bz b k n p).2.2)
 |0,n,p,h=>absurd rfl h|k+1,n,p,h=>by
  unfold bz at h ⊢;split;·rename_i h0;rw[if_pos h0]at h;exact absurd rfl h
  ·rename_i h0;rw[if_neg h0]at h;split;·rfl
   ·split;·rfl
    ·rename_i h1 h2;rw[if_neg h1,if_neg h2]at h;exact absurd rfl h
theorem uD (b:List UInt8) (k:Nat) (n p:Int):gu [] (bz b k n p)=bz b k n p:=by
 unfold gu;split;·rename_i h;exact(zg b k n p h).symm
 ·rename_i h;have:(bz b k n p).2.2=0:=by simpa using h
  rw[←this];rfl
theorem rH (b:List UInt8) (L:List Vn) (k:Nat) (n p:Int) (hn:0<n) (h:(bF b p).2.2=0):gu L (bz b (k+1) n p)=gu (L++[(bF b p).1]) (bz b k (n-1) (bF b p).2.1):=by
 rw[bz,if_neg (by omega),if_neg (by simpa using h)];by_cases h2:(bz b k (n-1) (bF b p).2.1).2.2=0;·rw[if_neg (by simpa using h2)];simp[gu,h2]
 ·rw[if_pos h2];simp[gu,h2]
theorem kH (b:List UInt8) (L:List Vn) (k:Nat) (n p:Int) (hn:0<n) (h:(bF b p).2.2≠0):gu L (bz b (k+1) n p)=([],0,(bF b p).2.2):=by rw[bz,if_neg (by omega),if_pos h];simp[gu,h]
theorem s9 (b:List UInt8) (L:List Vn) (k:Nat) (n p:Int) (hn:n≤0):gu L (bz b k n p)=(L,p,0):=by cases k with|zero=>simp[bz,gu]|succ k=>rw[bz,if_pos hn];simp[gu]
@[simp] noncomputable def DR (e:TypeId):List AV→Option (Prop×AV)|[.pv (.ro b)]=>(dec di b).map fun l=>(l.length≤100000000,.aS [.fr e (ba (cf l).1),.pv (.int .i64 (cf l).2)])|_=>none
theorem J8:aR Tryz.prog 125 (DR 156):=by
 intro ys φ r h hφ;unfold DR at h;split at h
 ·rename_i rb;obtain⟨b,hb,h⟩:=Option.map_eq_some_iff.1 h;cases h;cases aE hb;have hl:b.length≤1000000000:=by omega
  refine aq (af gz (af (qy gz) (af Ms aj))) (by kernel_rfl) (by conv=>lhs;reduce) (by simp) ?_;by_cases he:(ah b 0).2.2=0
  ·have hT:cf b=jL b (bz b (b.length+1) (ah b 0).1 (ah b 0).2.1):=by unfold cf;rw[if_neg (by simpa using he)]
   obtain⟨k1,k2,k3,k4,k5⟩:=bT b 0;obtain⟨j1,j2,j3⟩:=k1 he;generalize hP:cf b=T at*;simp[hl,he];generalize(ah b 0).1=n at*;generalize(ah b 0).2.1=q0 at*;refine au (fun x:Nat×Int×List Vn=>(x.2.2.length:Int)≤n∧0≤x.2.1∧x.2.1≤b.length∧(b.length:Int)<x.1+x.2.1∧x.2.2.length≤x.2.1∧T=jL b (gu x.2.2 (bz b x.1 (n-x.2.2.length) x.2.1))∧∀v∈x.2.2,pD v) (fun x=>⟨[(0,.pv (.ro (bytesRow b))),(4,.pv (.int .u64 n)),(5,.pv (.int .i64 x.2.1)),(7,.own 7)],[(7,.arr 156 (ba x.2.2))]⟩) (fun x=>(b.length-x.2.1).toNat) [] (b.length+1,q0,[]) ?_ ?_ ?_;·exact⟨by simpa using k2,by show 0≤q0;omega,j3,by simp;omega,by simp;omega,by rw[uD];simpa using hT,fun v hv=>by cases hv⟩
   ·simp
   ·rintro⟨f,q,acc⟩ ⟨hn,hq0,hq1,hf,hacc,hG,hokv⟩;dsimp only at hn hq0 hq1 hf hacc hG hokv;have wl:IntKind.u64.wrap (acc.length:Int)=(acc.length:Int):=wrap_u64 (by omega);have hq2:-9223372036854775808≤q:=by omega
    have hq3:q≤9223372036854775807:=by omega
    by_cases hlt:(acc.length:Int)<n
    ·obtain⟨f,rfl⟩:∃g,f=g+1:=⟨f-1,by omega⟩;obtain⟨t1,t2,t2b,t2c,t2d⟩:=bT b q;by_cases h0:(ah b q).2.2=0
     ·obtain⟨t3,t4,t5⟩:=t1 h0;obtain⟨l1,l2⟩:=mR b (ah b q).2.1;have hq4:-9223372036854775808≤(ah b q).2.1:=by omega
      have hq5:(ah b q).2.1≤9223372036854775807:=by omega
      by_cases h1:(ay b (ah b q).2.1).2.2=0
      ·obtain⟨l6,l7,l8⟩:=l1 h1;have hE:bF b q=(eo (ah b q).1 (ay b (ah b q).2.1).1,(ay b (ah b q).2.1).2.1,0):=by unfold bF;rw[if_neg (by simpa using h0),if_neg (by simpa using h1)]
       rw[rH b acc f (n-acc.length) q (by omega) (by rw[hE]),hE]at hG;simp[wl,hlt,hl,hq2,hq3,hq4,hq5,h0,h1,aw];refine⟨by omega,f,(ay b (ah b q).2.1).2.1,acc++[eo (ah b q).1 (ay b (ah b q).2.1).1],?_⟩;have hlen:((acc++[(eo (ah b q).1 (ay b (ah b q).2.1).1)]).length:Int)=acc.length+1:=by simp
       have hi:n-((acc++[(eo (ah b q).1 (ay b (ah b q).2.1).1)]).length:Int)=n-acc.length-1:=by omega
       refine⟨⟨by omega,by omega,l8,by omega,by omega,by rw[hi];exact hG,fun v hv=>by
        rcases List.mem_append.1 hv with hv|hv;·exact hokv v hv
        ·rw[List.mem_singleton]at hv;subst hv;exact⟨t2,t2b,Int.le_refl 0,by show(0:Int)≤18446744073709551615;decide⟩⟩,⟨rfl,?_⟩,by omega⟩;rw[iH];rfl
      ·have hE:bF b q=(v0,0,(ay b (ah b q).2.1).2.2):=by unfold bF;rw[if_neg (by simpa using h0),if_pos h1]
       rw[kH b acc f _ q (by omega) (by rw[hE];exact h1),hE]at hG;have hTe:T=([],(ay b (ah b q).2.1).2.2):=by rw[hG];simp[jL,h1]
       simp[wl,hlt,hl,hq2,hq3,hq4,hq5,h0,h1,hTe]
     ·have hE:bF b q=(v0,0,(ah b q).2.2):=by unfold bF;rw[if_pos h0]
      rw[kH b acc f _ q (by omega) (by rw[hE];exact h0),hE]at hG;have hTe:T=([],(ah b q).2.2):=by rw[hG];simp[jL,h0]
      simp[wl,hlt,hl,hq2,hq3,h0,hTe]
    ·have hle:n-acc.length≤0:=by omega
     rw[s9 b acc f _ q hle]at hG;have ha9:acc.length≤1000000000:=by omega
     by_cases hqb:q=b.length;·cases hrs:db acc with
      |false=>
       have hTe:T=([],2):=by rw[hG];simp[jL,hrs]
       simp[wl,hlt,ha9,hrs,hqb,hTe];try exact hokv|true=>
       have hTe:T=(acc,0):=by rw[hG];simp[jL,hrs,hqb]
       simp[wl,hlt,ha9,hrs,hqb,hTe];try exact hokv
     ·have hTe:T=([],2):=by rw[hG];simp[jL,hqb]
      simp[wl,hlt,ha9,hqb,hTe];try exact hokv
  ·have hT:cf b=([],(ah b 0).2.2):=by unfold cf;rw[if_pos he]
   simp[hl,he,hT]
 ·cases h
theorem MU:aR Tryz.prog 83 (DR 132):=by
 intro ys φ r h hφ;unfold DR at h;split at h
 ·rename_i rb;obtain⟨b,hb,h⟩:=Option.map_eq_some_iff.1 h;cases h;cases aE hb;have hl:b.length≤1000000000:=by omega
  refine aq (af qi (af yx (af aaj aj))) (by kernel_rfl) (by conv=>lhs;reduce) (by simp) ?_;obtain⟨k1,k2,k3,k4,k5⟩:=bT b 0;have hT1:(ah b 0).2.2=0→cf b=jL b (bz b (b.length+1) (ah b 0).1 (ah b 0).2.1):=fun h=>by unfold cf;rw[if_neg (by simpa using h)]
  have hT2:(ah b 0).2.2≠0→cf b=([],(ah b 0).2.2):=fun h=>by unfold cf;rw[if_pos h]
  generalize hP:cf b=T at*;simp[hl];generalize(ah b 0).1=n at*;generalize(ah b 0).2.1=q0 at*;generalize(ah b 0).2.2=e0 at*;refine au (fun x:Nat×Int×List Vn×Int×Int=>0≤x.2.2.2.1∧x.2.2.2.1≤n∧(x.2.2.2.2=0→T=jL b (gu x.2.2.1 (bz b x.1 (n-x.2.2.2.1) x.2.1))∧0≤x.2.1∧x.2.1≤b.length∧(b.length:Int)<x.1+x.2.1∧(x.2.2.1.length:Int)≤x.2.1)∧(x.2.2.2.2≠0→T=([],x.2.2.2.2))) (fun x=>⟨[(0,.pv (.ro (bytesRow b))),(4,.pv (.int .u64 n)),(5,.pv (.int .i64 x.2.1)),(6,.pv (.int .i64 x.2.2.2.2)),(7,.own 7),(8,.pv (.int .u64 x.2.2.2.1))],[(7,.arr 132 (ba x.2.2.1))]⟩) (fun x=>if x.2.2.2.2=0 then(b.length-x.2.1).toNat+1 else 0) [] (b.length+1,q0,[],0,e0) ?_ ?_ ?_
  ·refine⟨by show(0:Int)≤0;omega,k2,fun h=>⟨?_,?_⟩,hT2⟩;·rw[uD];simpa using hT1 h
   ·have:=k1 h;exact⟨by show 0≤q0;omega,by show q0≤b.length;omega,by show(b.length:Int)<(b.length+1:Nat)+q0;omega,by show(0:Int)≤q0;omega⟩
  ·simp
  ·rintro⟨f,q,acc,m,e⟩ ⟨hm0,hm1,hz,hnz⟩;dsimp only at hm0 hm1 hz hnz;by_cases he:e=0
   ·subst he;obtain⟨hG,g1,g2,g3,g4⟩:=hz rfl;clear hz hnz;have hacc:acc.length≤1000000000:=by omega
    have hq2:-9223372036854775808≤q:=by omega
    have hq3:q≤9223372036854775807:=by omega
    by_cases hlt:m<n
    ·obtain⟨f,rfl⟩:∃g,f=g+1:=⟨f-1,by omega⟩;have wl:IntKind.u64.wrap (m+1)=m+1:=wrap_u64 (by omega);obtain⟨t1,t2,t2b,t2c,t2d⟩:=bT b q;by_cases h0:(ah b q).2.2=0
     ·obtain⟨t3,t4,t5⟩:=t1 h0;obtain⟨l1,l2⟩:=mR b (ah b q).2.1;have hq4:-9223372036854775808≤(ah b q).2.1:=by omega
      have hq5:(ah b q).2.1≤9223372036854775807:=by omega
      by_cases h1:(ay b (ah b q).2.1).2.2=0
      ·obtain⟨l6,l7,l8⟩:=l1 h1;have hE:bF b q=(eo (ah b q).1 (ay b (ah b q).2.1).1,(ay b (ah b q).2.1).2.1,0):=by unfold bF;rw[if_neg (by simpa using h0),if_neg (by simpa using h1)]
       rw[rH b acc f (n-m) q (by omega) (by rw[hE]),hE]at hG;simp[wl,hlt,hl,hq2,hq3,hq4,hq5,h0,h1,aw];refine⟨⟨by omega,by omega⟩,f,(ay b (ah b q).2.1).2.1,acc++[eo (ah b q).1 (ay b (ah b q).2.1).1],m+1,0,⟨by omega,by omega,fun _=>⟨by rw[show n-(m+1)=n-m-1 from by omega];exact hG,by omega,l8,by omega,by simp;omega⟩,fun h=>absurd rfl h⟩,⟨⟨rfl,rfl,rfl⟩,by rw[iH];rfl⟩,?_⟩;rw[if_pos rfl];omega
      ·have hE:bF b q=(v0,0,(ay b (ah b q).2.1).2.2):=by unfold bF;rw[if_neg (by simpa using h0),if_pos h1]
       rw[kH b acc f _ q (by omega) (by rw[hE];exact h1),hE]at hG;have hTe:T=([],(ay b (ah b q).2.1).2.2):=by rw[hG];simp[jL,h1]
       simp[wl,hlt,hl,hq2,hq3,hq4,hq5,h0,h1,hTe,aw];refine⟨⟨by omega,by omega⟩,f,(ay b (ah b q).2.1).2.1,acc++[eo (ah b q).1 (ay b (ah b q).2.1).1],m+1,(ay b (ah b q).2.1).2.2,⟨by omega,by omega,fun h=>absurd h h1,fun _=>rfl⟩,⟨⟨rfl,rfl,rfl⟩,by rw[iH];rfl⟩,?_⟩;rw[if_neg h1];omega
     ·have hE:bF b q=(v0,0,(ah b q).2.2):=by unfold bF;rw[if_pos h0]
      rw[kH b acc f _ q (by omega) (by rw[hE];exact h0),hE]at hG;have hTe:T=([],(ah b q).2.2):=by rw[hG];simp[jL,h0]
      simp[wl,hlt,hl,hq2,hq3,h0,hTe]
    ·rw[s9 b acc f _ q (by omega)]at hG;by_cases hqb:q=b.length;·cases hrs:db acc with
      |false=>
       have hTe:T=([],2):=by rw[hG];simp[jL,hrs]
       simp[hlt,hacc,hrs,hqb,hTe]|true=>
       have hTe:T=(acc,0):=by rw[hG];simp[jL,hrs,hqb]
       simp[hlt,hacc,hrs,hqb,hTe]
     ·have hTe:T=([],2):=by rw[hG];simp[jL,hqb]
      simp[hlt,hacc,hqb,hTe]
   ·have hTe:=hnz he;simp[he,hTe]
 ·cases h
def okW (v:Vn):Prop:=pD v∧gn v=true
theorem vZ (e:Vn):0<(eN e).length:=by have:=gJ e.n.toNat;unfold eN bd;simp only[List.length_append];omega
theorem ud:∀l:List Vn,l.length≤(cu l).length|[]=>by simp|e::l=>by have h1:=vZ e;have h2:=ud l;unfold cu at h2 ⊢;simp only[List.flatMap_cons,List.length_append,List.length_cons];omega
theorem kf {b:List UInt8}{q:Int} (h:(ay b q).2.2=0):∃k:Nat,q=(k:Int)∧(ay b q).2.1=((k+(dq (ay b q).1).length:Nat):Int)∧∃r,b.drop k=dq (ay b q).1++r:=by
 by_cases h1:(ah b q).2.2=0
 ·obtain⟨k,m,rfl,hm,hm2,hq,r,hr⟩:=gO h1;have hp:=gJ m;have hl:=(lX hr (by simp;omega)).2;simp only[List.length_append]at hl;by_cases h2:(b.length:Int)-(ah b (k:Int)).2.1<(ah b (k:Int)).1;·unfold ay at h;rw[if_neg (by simpa using h1),if_pos h2]at h;cases h
  ·have hT:ay b (k:Int)=(r.take m,((k+(bp m).length:Nat):Int)+(m:Int),0):=by
    unfold ay;rw[if_neg (by simpa using h1),if_neg h2,hm,hq];have hd:b.drop (k+(bp m).length)=r:=by rw[←List.drop_drop,hr,List.drop_left]
    rw[Int.toNat_natCast,Int.toNat_natCast,hd]
   rw[hm,hq]at h2;have hrm:m≤r.length:=by omega
   have hvt:dq (r.take m)=bp m++r.take m:=by unfold dq;rw[List.length_take,Nat.min_eq_left hrm]
   rw[hT];dsimp only;refine⟨k,rfl,?_,r.drop m,?_⟩;·rw[hvt,List.length_append,List.length_take,Nat.min_eq_left hrm];omega
   ·rw[hvt,List.append_assoc,List.take_append_drop,hr]
 ·unfold ay at h;rw[if_pos h1]at h;exact absurd h h1
theorem Bu {b:List UInt8}{q:Int} (h:(bF b q).2.2=0):∃k:Nat,q=(k:Int)∧(bF b q).2.1=((k+(eN (bF b q).1).length:Nat):Int)∧okW (bF b q).1∧∃r,b.drop k=eN (bF b q).1++r:=by
 by_cases h1:(ah b q).2.2=0
 ·by_cases h2:(ay b (ah b q).2.1).2.2=0
  ·have hE:bF b q=(eo (ah b q).1 (ay b (ah b q).2.1).1,(ay b (ah b q).2.1).2.1,0):=by unfold bF;rw[if_neg (by simpa using h1),if_neg (by simpa using h2)]
   obtain⟨k,m,rfl,hm,hm2,hq,r,hr⟩:=gO h1;obtain⟨k2,hk2,ht,r2,hr2⟩:=kf h2;rw[hq]at hk2;have hk:k2=k+(bp m).length:=by omega
   have hb:eN (eo (ah b (k:Int)).1 (ay b (ah b (k:Int)).2.1).1)=bp m++dq (ay b (ah b (k:Int)).2.1).1:=by unfold eN bd eo;dsimp only;rw[hm,Int.toNat_natCast]
   rw[hE];dsimp only;rw[hb];refine⟨k,rfl,?_,⟨⟨?_,?_,Int.le_refl 0,?_⟩,?_⟩,r2,?_⟩;·rw[ht,hk,List.length_append];congr 1;omega
   ·show 0≤(ah b (k:Int)).1;omega
   ·show(ah b (k:Int)).1≤18446744073709551615;omega
   ·show(0:Int)≤18446744073709551615;decide
   ·simp[gn,eo]
   ·have hd:b.drop k2=r:=by rw[hk,←List.drop_drop,hr,List.drop_left]
    rw[hr2]at hd;rw[List.append_assoc,hd,hr]
  ·unfold bF at h;rw[if_neg (by simpa using h1),if_pos h2]at h;exact absurd h h2
 ·unfold bF at h;rw[if_pos h1]at h;exact absurd h h1
theorem tj {b:List UInt8}:∀(f:Nat) (n:Int) (k:Nat),(bz b f n (k:Int)).2.2=0→0≤n→k≤b.length→b.length<f+k→((bz b f n (k:Int)).1.length:Int)=n∧(bz b f n (k:Int)).2.1=((k+(cu (bz b f n (k:Int)).1).length:Nat):Int)∧(∀e∈(bz b f n (k:Int)).1,okW e)∧∃r,b.drop k=cu (bz b f n (k:Int)).1++r
 |0,n,k,h,hn,hk,hf=>by omega|f+1,n,k,h,hn,hk,hf=>by
  by_cases h0:n≤0
  ·have hC:bz b (f+1) n (k:Int)=([],(k:Int),0):=by rw[bz,if_pos h0]
   rw[hC];refine⟨by simp;omega,by simp[cu],fun e he=>(by cases he),b.drop k,by simp[cu]⟩
  ·by_cases h1:(bF b (k:Int)).2.2=0
   ·by_cases h2:(bz b f (n-1) (bF b (k:Int)).2.1).2.2=0
    ·have hC:bz b (f+1) n (k:Int)=((bF b (k:Int)).1::(bz b f (n-1) (bF b (k:Int)).2.1).1,(bz b f (n-1) (bF b (k:Int)).2.1).2.1,0):=by rw[bz,if_neg h0,if_neg (by simpa using h1),if_neg (by simpa using h2)]
     obtain⟨k',hk',he,ho,r,hr⟩:=Bu h1;have:k'=k:=by omega
     subst this;have hp:=vZ (bF b (k':Int)).1;have hl:=(lX hr (by simp;omega)).2;simp only[List.length_append]at hl;rw[he]at h2 hC;obtain⟨g1,g2,g3,r2,g4⟩:=tj f (n-1) _ h2 (by omega) (by omega) (by omega);rw[hC];generalize bz b f (n-1) _=R at*;generalize bF b (k':Int)=E at*;have hc:cu (E.1::R.1)=eN E.1++cu R.1:=by simp[cu]
     dsimp only;rw[hc];refine⟨by simp;omega,?_,fun e hh=>?_,r2,?_⟩;·rw[g2,List.length_append];congr 1;omega
     ·rcases List.mem_cons.1 hh with rfl|hh;·exact ho
      ·exact g3 e hh
     ·have hd:b.drop (k'+(eN E.1).length)=r:=by rw[←List.drop_drop,hr,List.drop_left]
      rw[g4]at hd;rw[List.append_assoc,hd,hr]
    ·rw[bz,if_neg h0,if_neg (by simpa using h1),if_pos h2]at h;exact absurd h h2
   ·rw[bz,if_neg h0,if_pos h1]at h;exact absurd h h1
theorem nT {b:List UInt8} (h:(cf b).2=0):db (cf b).1=true∧jy (cf b).1=b∧(∀e∈(cf b).1,okW e)∧(cf b).1.length≤b.length:=by
 by_cases h0:(ah b 0).2.2=0
 ·have hP:cf b=jL b (bz b (b.length+1) (ah b 0).1 (ah b 0).2.1):=by unfold cf;rw[if_neg (by simpa using h0)]
  obtain⟨k,m,hk,hm,hm2,hq,r,hr⟩:=gO h0;have:k=0:=by omega
  subst this;rw[List.drop_zero]at hr;have hbl:=congrArg List.length hr;simp only[List.length_append]at hbl;have e1:((0+(bp m).length:Nat):Int)=(((bp m).length:Nat):Int):=by omega
  rw[hm,hq,e1]at hP;rw[hP]at h ⊢;by_cases h1:(bz b (b.length+1) (m:Int) (((bp m).length:Nat):Int)).2.2=0
  ·obtain⟨g1,g2,g3,r2,g4⟩:=tj (b.length+1) (m:Int) _ h1 (by omega) (by omega) (by omega);generalize bz b (b.length+1) (m:Int) _=R at*;by_cases h2:R.2.1=b.length∧db R.1=true
   ·have hF:jL b R=(R.1,0):=by unfold jL;rw[if_neg (by simpa using h1),if_pos h2]
    rw[hF];obtain⟨h3,h4⟩:=h2;have hr2:b.drop (bp m).length=r:=by rw[hr,List.drop_left]
    rw[g4]at hr2;have hr2l:=congrArg List.length hr2;simp only[List.length_append]at hr2l;have:r2=[]:=List.eq_nil_of_length_eq_zero (by omega);subst this;rw[List.append_nil]at hr2;have hp:=ud R.1;refine⟨h4,?_,g3,by dsimp only;omega⟩;show bd (R.1.length:Int)++cu R.1=b;rw[g1,hr2];unfold bd;rw[Int.toNat_natCast,←hr]
   ·unfold jL at h;rw[if_neg (by simpa using h1),if_neg h2]at h;cases h
  ·unfold jL at h;rw[if_pos h1]at h;exact absurd h h1
 ·unfold cf at h;rw[if_pos h0]at h;exact absurd h h0
theorem BJ (b:List UInt8):(cf b).1.length≤b.length:=by
 by_cases h:(cf b).2=0;·exact(nT h).2.2.2
 ·unfold cf jL at h ⊢;split;·simp
  ·rename_i h1;rw[if_neg h1]at h;split;·simp
   ·rename_i h2;rw[if_neg h2]at h;split;·rename_i h3;rw[if_pos h3]at h;exact absurd rfl h
    ·simp
theorem ur:∀{l:List Vn}{v:Vn},v∈l→v.t.length≤(cu l).length
 |[],v,h=>by cases h|w::l,v,h=>by
  have hc:cu (w::l)=eN w++cu l:=by simp[cu]
  rw[hc,List.length_append];rcases List.mem_cons.1 h with rfl|h
  ·have:v.t.length≤(eN v).length:=by simp only[eN,dq,List.length_append];omega
   omega
  ·have:=ur h;omega
theorem E3 {b:List UInt8} (h:(cf b).2=0):∀v∈(cf b).1,v.t.length≤b.length:=by
 intro v hv;obtain⟨_,h2,_⟩:=nT h;have h3:=ur hv;have h4:(cu (cf b).1).length≤(jy (cf b).1).length:=by unfold jy;rw[List.length_append];omega
 rw[h2]at h4;omega
theorem Hl {l:List Vn} (h:∀v∈l,okW v):iw l=true:=by unfold iw;rw[List.all_eq_true];exact fun v hv=>(h v hv).2
def c9 (b:Bool):Int:=if b=true then 1 else 0
theorem Ba (b:Bool):cO (c9 b):=by cases b<;>simp[c9,cO]
@[simp] def DO:List AV→Option (Prop×AV)|[.pv (.bool b)]=>some (True,.pv (.int .u64 (c9 b)))|_=>none
theorem Ps:aR Tryz.prog 111 DO:=by
 intro ys φ r h hφ;unfold DO at h;split at h;·rename_i b;cases h;refine aq aj (by kernel_rfl) (by conv=>lhs;reduce) (by simp) ?_;cases b<;>simp[c9]
 ·cases h
theorem II:aR Tryz.prog 73 DO:=by
 intro ys φ r h hφ;unfold DO at h;split at h;·rename_i b;cases h;refine aq aj (by kernel_rfl) (by conv=>lhs;reduce) (by simp) ?_;cases b<;>simp[c9]
 ·cases h
@[simp] noncomputable def GG:List AV→Option (Prop×AV)|[.pv .nil,.pv (.int .i64 n)]=>some (0≤n∧n≤1000000,.fr 5 [])|_=>none
theorem JL:Du Tryz.prog 153 GG:=by
 intro ys φ r h hφ;unfold GG at h;split at h
 ·rename_i n;cases h;obtain⟨h1,h2⟩:=hφ;have hinf:(Tryz.prog.info? 5).isSome=true:=by kernel_rfl
  have w0:IntKind.i64.wrap 0=0:=wrap_i64 (by omega);have w1:IntKind.i64.wrap n=n:=wrap_i64 (by omega);refine JO aj (by kernel_rfl) (by conv=>lhs;reduce) (by simp) (by simp[dA,rP,lz]) (by simp) ?_;have hn0:¬n<0:=by omega
  by_cases h0:0<n;·simp[hn0,h0,w0,w1,hinf];omega
  ·simp[hn0,h0,w0,w1,hinf]
 ·cases h
@[simp] noncomputable def Mp:List AV→Option (Prop×AV)|[.pv (.ro [[.ro a],[.ro b],[.ro c]])]=>(dec di a).bind fun la=>(dec di b).bind fun lb=>(dec di c).map fun lc=>(la.length≤200000∧lb.length≤200000∧lc.length≤200000,.fr 5 (bytesRow (la++(lb++lc))))|_=>none
theorem Oy:aR Tryz.prog 110 Mp:=by
 intro ys φ r h hφ;unfold Mp at h;split at h
 ·rename_i ra rb rc;obtain⟨a,ha,h⟩:=Option.bind_eq_some_iff.1 h;obtain⟨b,hb,h⟩:=Option.bind_eq_some_iff.1 h;obtain⟨c,hc,h⟩:=Option.map_eq_some_iff.1 h;cases h;cases aE ha;cases aE hb;cases aE hc;obtain⟨hla,hlb,hlc⟩:=hφ;have w1:IntKind.i64.wrap 1=1:=wrap_i64 (by omega);have w2:IntKind.i64.wrap 2=2:=wrap_i64 (by omega);have w3:IntKind.i64.wrap 3=3:=wrap_i64 (by omega);have wa:IntKind.i64.wrap (a.length:Int)=a.length:=wrap_i64 (by omega);have wab:IntKind.i64.wrap ((a.length:Int)+(b.length:Int))=(a.length:Int)+(b.length:Int):=wrap_i64 (by omega);have wabc:IntKind.i64.wrap ((a.length:Int)+(b.length:Int)+(c.length:Int))=(a.length:Int)+(b.length:Int)+(c.length:Int):=wrap_i64 (by omega);have r0:rowAt [[PV.ro (bytesRow a)],[PV.ro (bytesRow b)],[PV.ro (bytesRow c)]] 0=[.ro (bytesRow a)]:=rfl;have r1:rowAt [[PV.ro (bytesRow a)],[PV.ro (bytesRow b)],[PV.ro (bytesRow c)]] 1=[.ro (bytesRow b)]:=rfl;have r2:rowAt [[PV.ro (bytesRow a)],[PV.ro (bytesRow b)],[PV.ro (bytesRow c)]] 2=[.ro (bytesRow c)]:=rfl;have ga:¬((a.length:Int)<0):=by omega
  have gab:¬((a.length:Int)+(b.length:Int)<0):=by omega
  have gabc:¬((a.length:Int)+(b.length:Int)+(c.length:Int)<0):=by omega
  have gc:(a.length:Int)+(b.length:Int)+(c.length:Int)≤1000000:=by omega
  have gd:(0:Int)≤(a.length:Int)+(b.length:Int)+(c.length:Int):=by omega
  refine aq (qj (p:=0) (k:=997) JL (by kernel_rfl) aj) (by kernel_rfl) (by conv=>lhs;reduce) (by simp) ?_;simp;refine au (fun i:Nat=>i=0∨i=1∨i=2∨i=3) (fun i=>⟨[(0,.pv (.ro [[.ro (bytesRow a)],[.ro (bytesRow b)],[.ro (bytesRow c)]])),(2,.own 2),(3,.pv (.int .i64 (if i=0 then 0 else if i=1 then(a.length:Int) else if i=2 then(a.length:Int)+(b.length:Int) else(a.length:Int)+(b.length:Int)+(c.length:Int)))),(9,.pv (.ro [[.ro (bytesRow a)],[.ro (bytesRow b)],[.ro (bytesRow c)]])),(10,.pv (.int .i64 3)),(11,.pv (.int .i64 i))],[(2,.arr 5 [])]⟩) (fun i=>3-i) [] 0 (by simp) ?_ ?_;·simp
  ·rintro i (rfl|rfl|rfl|rfl);·simp[r0,wa,ga,w1]
   ·simp[r1,wab,gab,w2]
   ·simp[r2,wabc,gabc,w3]
   ·simp[gc,gd];refine au (fun i:Nat=>i=0∨i=1∨i=2∨i=3) (fun i=>⟨[(0,.pv (.ro [[.ro (bytesRow a)],[.ro (bytesRow b)],[.ro (bytesRow c)]])),(2,.own 2),(6,.own 24),(25,.pv (.ro [[.ro (bytesRow a)],[.ro (bytesRow b)],[.ro (bytesRow c)]])),(26,.pv (.int .i64 3)),(27,.pv (.int .i64 i))],[(2,.arr 5 []),(24,.arr 5 (if i=0 then[] else if i=1 then bytesRow a else if i=2 then bytesRow a++bytesRow b else bytesRow a++(bytesRow b++bytesRow c)))]⟩) (fun i=>3-i) [] 0 (by simp) ?_ ?_;·simp
    ·rintro i (rfl|rfl|rfl|rfl);·simp[r0,w1,aw];exact⟨by omega,by omega,aL _⟩
     ·simp[r1,w2,aw];exact⟨by omega,by omega,aL _⟩
     ·simp[r2,w3,aw];exact⟨by omega,by omega,aL _⟩
     ·simp[aM]
 ·cases h
noncomputable def n5 (d:Dc):List UInt8×Int:=if(cV d.vs).2≠0∨eQ d.ps=false then([],2) else(cI [d.l.e,d.l.p,d.l.i,d.l.u,c9 d.l.h,c9 d.sl]++(lq d.ps++dq (cV d.vs).1),0)
def qV (d:Dc):Prop:=d.vs.length≤1000∧(∀v∈d.vs,pD v∧v.t.length≤1000000)∧d.ps.length≤1000∧(∀e∈d.ps,fR e)∧(cO d.l.e∧cO d.l.p∧cO d.l.i∧cO d.l.u)∧(cV d.vs).1.length≤100000
theorem Bz {e p i u:Int}{h s:Bool} (o3:cO e) (o4:cO p) (o5:cO i) (o6:cO u):∀n∈[e,p,i,u,c9 h,c9 s],cO n:=by
 intro n hn;simp only[List.mem_cons,List.not_mem_nil,or_false]at hn;rcases hn with rfl|rfl|rfl|rfl|rfl|rfl;·exact o3
 ·exact o4
 ·exact o5
 ·exact o6
 ·exact Ba _
 ·exact Ba _
theorem sX {b:List UInt8} (h:b.length≤18446744073709551615):(dq b).length≤b.length+10:=by have:=ed h;unfold dq;rw[List.length_append];omega
theorem Aw {ps:List Pn} (o2:∀e∈ps,fR e) (l2:ps.length≤1000):(lq ps).length≤40000:=by have h1:=eJ (n:=(ps.length:Int)) (by unfold cO;omega);have h2:=gp o2;unfold lq;rw[List.length_append];omega
@[simp] noncomputable def DU:List AV→Option (Prop×AV)|[.agg ys]=>n8 ys fun d=>some (qV d,.aS [.fr 5 (bytesRow (n5 d).1),.pv (.int .i64 (n5 d).2)])|_=>none
theorem PD:aR Tryz.prog 63 DU:=by
 intro ys φ r h hφ;unfold DU at h;split at h
 ·obtain⟨d,rfl,h2⟩:=fx h;clear h;cases h2;obtain⟨⟨e,p,i,u,h'⟩,ps,vs,sl⟩:=d;obtain⟨l1,o1,l2,o2,⟨o3,o4,o5,o6⟩,l3⟩:=hφ;have l1:vs.length≤1000:=l1;have l2:ps.length≤1000:=l2;have l3:(cV vs).1.length≤100000:=l3;have o1:(∀v∈vs,pD v∧v.t.length≤1000000)=True:=eq_true o1;have o7:(∀e∈ps,fR e)=True:=eq_true o2;have o2:∀e∈ps,fR e:=o2;have o3:cO e:=o3;have o4:cO p:=o4;have o5:cO i:=o5;have o6:cO u:=o6;have o8:=Bz o3 o4 o5 o6 (h:=h') (s:=sl);have a1:(cI [e,p,i,u,c9 h',c9 sl]).length≤60:=gR o8;have a2:=Aw o2 l2;have l4:ps.length≤1000000:=by omega
  have l5:ps.length≤1000000000:=by omega
  have l6:(cV vs).1.length≤1000000:=by omega
  have d6:dec mb [[.int .u64 e],[.int .u64 p],[.int .u64 i],[.int .u64 u],[.int .u64 (c9 h')],[.int .u64 (c9 sl)]]=some [e,p,i,u,c9 h',c9 sl]:=mQ [e,p,i,u,c9 h',c9 sl];refine aq (af M1 (af zr (af Ps (af (sJ HX) (af (sJ NY) (af (sJ Cb) (af Oy aj))))))) (by kernel_rfl) (by conv=>lhs;reduce) (by simp) ?_;unfold n5;apply ag;·simp[cellsD];exact⟨rfl,rfl⟩
  apply ag;·simp[l1,o1];exact⟨rfl,rfl⟩
  generalize hx:cV vs=x at*;obtain⟨b,x⟩:=x;by_cases he:x=0;·subst he;cases hr:eQ ps with|false=>simp[hr,l5]|true=>
   rw[if_neg (by simp)];apply ag;·simp[hr,l5];exact⟨rfl,rfl⟩
   apply ag;·simp;exact⟨rfl,rfl⟩
   apply ag;·simp[d6,o8,a1,a2,l3,l4,l6,o7];exact⟨⟨by omega,by omega,by have:b.length≤100000:=l3;have:=sX (b:=b) (by omega);omega⟩,bK _,rfl,rfl⟩
   simp
  ·simp[he]
 ·cases h
theorem JW:aR Tryz.prog 39 DU:=by
 intro ys φ r h hφ;unfold DU at h;split at h
 ·obtain⟨d,rfl,h2⟩:=fx h;clear h;cases h2;obtain⟨⟨e,p,i,u,h'⟩,ps,vs,sl⟩:=d;obtain⟨l1,o1,l2,o2,⟨o3,o4,o5,o6⟩,l3⟩:=hφ;have l1:vs.length≤1000:=l1;have l2:ps.length≤1000:=l2;have l3:(cV vs).1.length≤100000:=l3;have o1:(∀v∈vs,pD v∧v.t.length≤1000000)=True:=eq_true o1;have o7:(∀e∈ps,fR e)=True:=eq_true o2;have o2:∀e∈ps,fR e:=o2;have o3:cO e:=o3;have o4:cO p:=o4;have o5:cO i:=o5;have o6:cO u:=o6;have o8:=Bz o3 o4 o5 o6 (h:=h') (s:=sl);have a1:(cI [e,p,i,u,c9 h',c9 sl]).length≤60:=gR o8;have a2:=Aw o2 l2;have l4:ps.length≤1000000:=by omega
  have l5:ps.length≤1000000000:=by omega
  have l6:(cV vs).1.length≤1000000:=by omega
  have d6:dec mb [[.int .u64 e],[.int .u64 p],[.int .u64 i],[.int .u64 u],[.int .u64 (c9 h')],[.int .u64 (c9 sl)]]=some [e,p,i,u,c9 h',c9 sl]:=mQ [e,p,i,u,c9 h',c9 sl];refine aq (af IB (af AD (af II (af BW (af NP (af xL aj)))))) (by kernel_rfl) (by conv=>lhs;reduce) (by simp) ?_;unfold n5;apply ag;·simp[cellsD];exact⟨rfl,rfl⟩
  apply ag;·simp[l1,o1];exact⟨rfl,rfl⟩
  generalize hx:cV vs=x at*;obtain⟨b,x⟩:=x;by_cases he:x=0;·subst he;cases hr:eQ ps with|false=>simp[hr,l5]|true=>
   rw[if_neg (by simp)];apply ag;·simp[hr,l5];exact⟨rfl,rfl⟩
   apply ag;·simp[d6,o8,a1,a2,l3,l4,l6,o7];exact⟨rfl,rfl⟩
   simp[l4,l6,o7,aw,aM];have l7:b.length≤100000:=l3;have l8:=sX (b:=b) (by omega);exact⟨⟨by omega,by omega,aL _⟩,by omega,by omega,aL _⟩
  ·simp[he]
 ·cases h
theorem gq (b:List UInt8):∀(k:Nat) (n p:Int),(az b k n p).1.length≤k
 |0,n,p=>by simp[az]|k+1,n,p=>by
  unfold az;split;·simp
  ·split;·simp
   ·split;·simp
    ·have:=gq b k (n-1) (ar b 3 p).2.1;simp only[List.length_cons];omega
theorem wF (b:List UInt8) (p:Int):(cm b p).1.length≤b.length+1:=by
 unfold cm;split;·simp
 ·split;·simp
  ·split;·simp
   ·exact gq b _ _ _
theorem qx (b:List UInt8):∀(k:Nat) (n p:Int),(az b k n p).2.2=0→p≤b.length→p≤(az b k n p).2.1∧(az b k n p).2.1≤b.length
 |0,n,p,_,hp=>⟨Int.le_refl _,hp⟩|k+1,n,p,h,hp=>by
  unfold az at h ⊢;split at h;·rename_i h1;rw[if_pos h1];exact⟨Int.le_refl _,hp⟩
  ·rename_i h1;rw[if_neg h1];split at h;·rename_i h2;exact absurd h h2
   ·rename_i h2;rw[if_neg h2];split at h;·rename_i h3;exact absurd h h3
    ·rename_i h3;rw[if_neg h3];have h2:(ar b 3 p).2.2=0:=by simpa using h2
     have h3:(az b k (n-1) (ar b 3 p).2.1).2.2=0:=by simpa using h3
     obtain⟨_,_,g3,g4⟩:=dp b 3 p h2;obtain⟨g5,g6⟩:=g4 (by omega);have:=qx b k (n-1) _ h3 g6;exact⟨by show p≤(az b k (n-1) (ar b 3 p).2.1).2.1;omega,this.2⟩
theorem sQ (b:List UInt8) (p:Int) (h:(cm b p).2.2=0):0≤(cm b p).2.1∧(cm b p).2.1≤b.length:=by
 unfold cm at h ⊢;split at h;·rename_i h1;exact absurd h h1
 ·rename_i h1;rw[if_neg h1];split at h;·rename_i h2;exact absurd h h2
  ·rename_i h2;rw[if_neg h2];split at h;·cases h
   ·rename_i h3;rw[if_neg h3];have h1:(ah b p).2.2=0:=by simpa using h1
    obtain⟨g1,g2,g3⟩:=(bT b p).1 h1;have:=qx b (b.length+1) (ah b p).1 (ah b p).2.1 h g3;omega
theorem pG (b:List UInt8) (h:(aQ b 0 6).2.2=0):∃x0 x1 x2 x3 x4 x5,(aQ b 0 6).1=[x0,x1,x2,x3,x4,x5]∧0≤(aQ b 0 6).2.1∧(aQ b 0 6).2.1≤b.length:=by
 unfold aQ at h ⊢;split at h;·rename_i h1;exact absurd h h1
 ·rename_i h1;rw[if_neg h1];obtain⟨g1,g2,g3,g4⟩:=dp b 6 0 h;obtain⟨_,g5⟩:=g4 (by omega);match hl:(ar b 6 0).1,g1 with|[x0,x1,x2,x3,x4,x5],_=>exact⟨x0,x1,x2,x3,x4,x5,rfl,by omega,g5⟩
theorem kp (b:List UInt8) (q:Int) (h:(ay b q).2.2=0):(ay b q).1.length≤b.length:=by obtain⟨k,_,_,r,hr⟩:=kf h;have:=congrArg List.length hr;simp only[List.length_drop,List.length_append,dq]at this;omega
def zD:Dc:=⟨⟨0,0,0,0,false⟩,[],[],false⟩
noncomputable def cS (b:List UInt8):Dc×Int:=if(aQ b 0 6).2.2≠0 then(zD,(aQ b 0 6).2.2) else if(cm b (aQ b 0 6).2.1).2.2≠0 then(zD,(cm b (aQ b 0 6).2.1).2.2) else if 1<(aQ b 0 6).1.getD 4 0∨1<(aQ b 0 6).1.getD 5 0 then(zD,2) else if(ay b (cm b (aQ b 0 6).2.1).2.1).2.2≠0 then(zD,(ay b (cm b (aQ b 0 6).2.1).2.1).2.2) else if(ay b (cm b (aQ b 0 6).2.1).2.1).2.1<b.length then(zD,11) else if(cf (ay b (cm b (aQ b 0 6).2.1).2.1).1).2≠0 then(zD,(cf (ay b (cm b (aQ b 0 6).2.1).2.1).1).2) else(⟨⟨(aQ b 0 6).1.getD 0 0,(aQ b 0 6).1.getD 1 0,(aQ b 0 6).1.getD 2 0,(aQ b 0 6).1.getD 3 0,decide ((aQ b 0 6).1.getD 4 0=1)⟩,(cm b (aQ b 0 6).2.1).1,(cf (ay b (cm b (aQ b 0 6).2.1).2.1).1).1,decide ((aQ b 0 6).1.getD 5 0=1)⟩,0)
@[simp] noncomputable def C8 (e1 e2:TypeId):List AV→Option (Prop×AV)|[.pv (.ro b)]=>(dec di b).map fun l=>(l.length≤1000000,.aS [.agg [.pv (.int .u64 (cS l).1.l.e),.pv (.int .u64 (cS l).1.l.p),.pv (.int .u64 (cS l).1.l.i),.pv (.int .u64 (cS l).1.l.u),.pv (.bool (cS l).1.l.h),.fr e1 (aF (cS l).1.ps),.fr e2 (ba (cS l).1.vs),.pv (.bool (cS l).1.sl)],.pv (.int .i64 (cS l).2)])|_=>none
theorem PH:aR Tryz.prog 46 (C8 177 132):=by
 intro ys φ r h hφ;unfold C8 at h;split at h
 ·obtain⟨b,hb,h⟩:=Option.map_eq_some_iff.1 h;cases h;cases aE hb;have hl:b.length≤1000000:=hφ;have l9:b.length≤1000000000:=by omega
  have l8:b.length≤100000000:=by omega
  have h6:(6:Int).toNat=6:=rfl;have hi1:(Tryz.prog.info? 177).isSome=true:=by kernel_rfl
  have hi2:(Tryz.prog.info? 132).isSome=true:=by kernel_rfl
  refine aq (af sq (af XH (af yx (af MU aj)))) (by kernel_rfl) (by conv=>lhs;reduce) (by simp) ?_;unfold cS;apply ag;·simp;exact⟨rfl,rfl⟩
  apply ag;·simp[h6,l9];exact⟨rfl,rfl⟩
  have hA:=pG b;generalize aQ b 0 6=A at*;obtain⟨la,a,ea⟩:=A;by_cases he:ea=0;rotate_left;·simp[he,hi1,hi2,zD]
  subst he;obtain⟨x0,x1,x2,x3,x4,x5,rfl,k1,k2⟩:=hA rfl;have k3:-9223372036854775808≤a:=by have:(0:Int)≤a:=k1;omega
  have k4:a≤9223372036854775807:=by have:a≤b.length:=k2;omega
  apply ag;·simp;exact⟨rfl,rfl⟩
  apply ag;·simp[l8,k3,k4];exact⟨rfl,rfl⟩
  have hP:=sQ b a;dsimp only;generalize cm b a=Q at*;obtain⟨ps,q,ep⟩:=Q;by_cases hp:ep=0;rotate_left;·simp[hp,hi1,hi2,zD]
  subst hp;obtain⟨m1,m2⟩:=hP rfl;have m3:-9223372036854775808≤q:=by have:(0:Int)≤q:=m1;omega
  have m4:q≤9223372036854775807:=by have:q≤b.length:=m2;omega
  have r0:rowAt (bN [x0,x1,x2,x3,x4,x5]) 0=[.int .u64 x0]:=rfl;have r1:rowAt (bN [x0,x1,x2,x3,x4,x5]) 1=[.int .u64 x1]:=rfl;have r2:rowAt (bN [x0,x1,x2,x3,x4,x5]) 2=[.int .u64 x2]:=rfl;have r3:rowAt (bN [x0,x1,x2,x3,x4,x5]) 3=[.int .u64 x3]:=rfl;have r4:rowAt (bN [x0,x1,x2,x3,x4,x5]) 4=[.int .u64 x4]:=rfl;have r5:rowAt (bN [x0,x1,x2,x3,x4,x5]) 5=[.int .u64 x5]:=rfl;by_cases h4:1<x4;·simp[r4,r5,h4,hi1,hi2,zD]
  by_cases h5:1<x5;·simp[r4,r5,h4,h5,hi1,hi2,zD]
  apply ag;·simp[r4,r5,h4,h5];exact⟨rfl,rfl⟩
  apply ag;·simp[l9,m3,m4];exact⟨rfl,rfl⟩
  have hT:=mR b q;have hN:=kp b q;dsimp only;generalize ay b q=T at*;obtain⟨s,t,et⟩:=T;by_cases ht:et=0;rotate_left;·simp[ht,h4,h5,hi1,hi2,zD]
  subst ht;have hN:s.length≤b.length:=hN rfl;have lN:s.length≤100000000:=by omega
  by_cases hq:t<b.length;·simp[hq,h4,h5,hi1,hi2,zD]
  apply ag;·simp[hq];exact⟨rfl,rfl⟩
  apply ag;·simp[lN];exact⟨rfl,rfl⟩
  dsimp only;generalize cf s=V at*;obtain⟨vs,ev⟩:=V;by_cases hv:ev=0;rotate_left;·simp[hv,hq,h4,h5,hi1,hi2,zD]
  subst hv;apply ag;·simp;exact⟨rfl,rfl⟩
  simp[r0,r1,r2,r3,r4,r5,hq,h4,h5]
 ·cases h
theorem IJ:aR Tryz.prog 87 (C8 205 156):=by
 intro ys φ r h hφ;unfold C8 at h;split at h
 ·obtain⟨b,hb,h⟩:=Option.map_eq_some_iff.1 h;cases h;cases aE hb;have hl:b.length≤1000000:=hφ;have l9:b.length≤1000000000:=by omega
  have l8:b.length≤100000000:=by omega
  have h6:(6:Int).toNat=6:=rfl;have hi1:(Tryz.prog.info? 205).isSome=true:=by kernel_rfl
  have hi2:(Tryz.prog.info? 156).isSome=true:=by kernel_rfl
  refine aq (af uU (af Uu (af (qy gz) (af J8 aj)))) (by kernel_rfl) (by conv=>lhs;reduce) (by simp) ?_;unfold cS;apply ag;·simp;exact⟨rfl,rfl⟩
  apply ag;·simp[h6,l9];exact⟨rfl,rfl⟩
  have hA:=pG b;generalize aQ b 0 6=A at*;obtain⟨la,a,ea⟩:=A;by_cases he:ea=0;rotate_left;·simp[he,hi1,hi2,zD]
  subst he;obtain⟨x0,x1,x2,x3,x4,x5,rfl,k1,k2⟩:=hA rfl;have k3:-9223372036854775808≤a:=by have:(0:Int)≤a:=k1;omega
  have k4:a≤9223372036854775807:=by have:a≤b.length:=k2;omega
  apply ag;·simp;exact⟨rfl,rfl⟩
  apply ag;·simp[l8,k3,k4];exact⟨rfl,rfl⟩
  have hP:=sQ b a;dsimp only;generalize cm b a=Q at*;obtain⟨ps,q,ep⟩:=Q;by_cases hp:ep=0;rotate_left;·simp[hp,hi1,hi2,zD]
  subst hp;obtain⟨m1,m2⟩:=hP rfl;have m3:-9223372036854775808≤q:=by have:(0:Int)≤q:=m1;omega
  have m4:q≤9223372036854775807:=by have:q≤b.length:=m2;omega
  apply ag;·simp;exact⟨rfl,rfl⟩
  have r0:rowAt (bN [x0,x1,x2,x3,x4,x5]) 0=[.int .u64 x0]:=rfl;have r1:rowAt (bN [x0,x1,x2,x3,x4,x5]) 1=[.int .u64 x1]:=rfl;have r2:rowAt (bN [x0,x1,x2,x3,x4,x5]) 2=[.int .u64 x2]:=rfl;have r3:rowAt (bN [x0,x1,x2,x3,x4,x5]) 3=[.int .u64 x3]:=rfl;have r4:rowAt (bN [x0,x1,x2,x3,x4,x5]) 4=[.int .u64 x4]:=rfl;have r5:rowAt (bN [x0,x1,x2,x3,x4,x5]) 5=[.int .u64 x5]:=rfl;by_cases h4:1<x4;·simp[r4,r5,h4,hi1,hi2,zD]
  by_cases h5:1<x5;·simp[r4,r5,h4,h5,hi1,hi2,zD]
  apply ag;·simp[r4,r5,h4,h5];exact⟨rfl,rfl⟩
  apply ag;·simp[l9,m3,m4];exact⟨rfl,rfl⟩
  have hT:=mR b q;have hN:=kp b q;dsimp only;generalize ay b q=T at*;obtain⟨s,t,et⟩:=T;by_cases ht:et=0;rotate_left;·simp[ht,h4,h5,hi1,hi2,zD]
  subst ht;apply ag;·simp;exact⟨rfl,rfl⟩
  have hN:s.length≤b.length:=hN rfl;have lN:s.length≤100000000:=by omega
  by_cases hq:t<b.length;·simp[hq,h4,h5,hi1,hi2,zD]
  apply ag;·simp[hq];exact⟨rfl,rfl⟩
  apply ag;·simp[lN];exact⟨rfl,rfl⟩
  dsimp only;generalize cf s=V at*;obtain⟨vs,ev⟩:=V;by_cases hv:ev=0;rotate_left;·simp[hv,hq,h4,h5,hi1,hi2,zD]
  subst hv;apply ag;·simp;exact⟨rfl,rfl⟩
  simp[r0,r1,r2,r3,r4,r5,hq,h4,h5]
 ·cases h
theorem uL (b:List UInt8):(cS b).1.ps.length≤b.length+1∧(cS b).1.vs.length≤b.length:=by
 have z:zD.ps.length≤b.length+1∧zD.vs.length≤b.length:=⟨Nat.zero_le _,Nat.zero_le _⟩;unfold cS;split;·exact z
 split;·exact z
 split;·exact z
 split;·exact z
 rename_i h4;split;·exact z
 split;·exact z
 have h5:=BJ (ay b (cm b (aQ b 0 6).2.1).2.1).1;have h6:=kp b (cm b (aQ b 0 6).2.1).2.1 (by simpa using h4);exact⟨wF b _,Nat.le_trans h5 h6⟩
end Go.Proofs.YtifcndkhigakfaaGreat.Ab
namespace Go.Proofs.YtifcndkhigakfaaGreat.Ab
open Go Go.RowKit Go.Shelf
attribute[local go_sem] Oper.semAt_some
set_option maxHeartbeats 1000000 in theorem BI (F:Fence) (n:Nat) (hF:F.fn 66) (hro:F.round=none) (hn:1≤n) (l Bn n₀:Nat) (A:Option Addr) (k c:Nat) (hk:k≤65535) (J Jx:List Unit→World→Prop) (hY:∀pre x W,J pre W→pre.length<1→YieldAt F (n-1) Tryz.prog l #[.slice A k c] W fun e W'=>(e=.returned (.bool true)∧J (pre++[x]) W'∧Below n₀ W W')∨(e=.returned (.bool false)∧Jx (pre++[x]) W')) (W:World) (hBn:W.cell? ⟨Bn,0,none⟩=some (.slice A k c)) (h0:J [] W):CallsIn F n Tryz.prog 66 #[.func (.yield l) #[] #[],.pointer (some ⟨Bn,0,none⟩)] W fun e W'=>(∃v,e=.returned v)∧((∃ys,ys=[()]∧J ys W')∨(∃pre,pre<+:[()]∧Jx pre W')):=by
 refine callsIn_of_wp Tryz.func66 rfl hF ?_ hro;simp only[Tryz.ntmps66,List.size_toArray,List.length_cons,List.length_nil,Nat.reduceAdd,Nat.reduceSub,Array.replicate_succ,Array.replicate_zero,List.push_toArray,List.append_toArray,List.nil_append,List.cons_append];gi_wp2;gi_loopw[] (fun wr=>wr=W) (fun wr=>0);case atStart=>rfl
 case round=>
  subst hrel;have hk2:¬(65535:Int)<(k:Int):=by omega
  obtain⟨fn,tmps,assign,body,hy,hR⟩:=hY [] () wr h0 (by simp);gi_wp2;refine hR.mono ?_;rintro e W3 (⟨rfl,hJ3,hk3⟩|⟨rfl,hJx3⟩);·gi_wp2;go_end0;exact⟨⟨_,rfl⟩,.inl ⟨_,rfl,hJ3⟩⟩
  ·gi_wp2;go_end0;exact⟨⟨_,rfl⟩,.inr ⟨_,List.prefix_refl _,hJx3⟩⟩
set_option maxHeartbeats 1000000 in theorem E9 (F:Fence) (n:Nat) (hF:F.fn 34) (hro:F.round=none) (V:Value) (w:World) (hV:V.oneCell'=true):CallsIn F n Tryz.prog 34 #[V] w fun e w'=>e=.returned (.func (.func 66) #[] #[.pointer (some ⟨w.heap.size,0,none⟩)])∧w'=w.alloc (.cells #[V] 37):=by refine callsIn_of_wp Tryz.func34 rfl hF ?_ hro;simp only[Tryz.ntmps34,List.size_toArray,List.length_cons,List.length_nil,Nat.reduceAdd,Nat.reduceSub,Array.replicate_succ,Array.replicate_zero,List.push_toArray,List.append_toArray,List.nil_append,List.cons_append];gi_wp2;go_ret;exact⟨rfl,rfl⟩
theorem xD (F:Fence) (n:Nat) (hF:F.fn 66) (hro:F.round=none) (hn:1≤n) (Bn n₀:Nat) (A:Option Addr) (k c:Nat) (hk:k≤65535) (w:World) (hBn:Bn<w.heap.size) (hn₀:n₀≤w.heap.size) (hc:w.cell? ⟨Bn,0,none⟩=some (.slice A k c)):SeqStopsK F n Tryz.prog 66 #[.pointer (some ⟨Bn,0,none⟩)] (fun _:Unit=>#[.slice A k c]) (Below n₀) (fun ys=>ys=[()]) (fun pre=>pre<+:[()]) 1 w:=fun l J Jx W hW _ _ hY h0=>BI F n hF hro hn l Bn n₀ A k c hk J Jx hY W ((hW.cell (p:=⟨Bn,0,none⟩) hBn).trans hc) h0
end Go.Proofs.YtifcndkhigakfaaGreat.Ab
namespace Go.Proofs.YtifcndkhigakfaaGreat.Ab
open Go Go.RowKit R
def Gf:PV→Value|.int k n=>.int k n|.bool b=>.bool b|.str l=>.string ⟨l.toArray⟩|_=>undef
def xF:PV→Bool|.int _ _|.bool _|.str _=>true|_=>false
def cellW (rows:List (List PV)):List Value:=rows.flatMap fun r=>r.map Gf
def dx (rows:List (List PV)):Prop:=∀r∈rows,∀p∈r,xF p=true
theorem P3 {S:Nat→Prop}{w:World}{v:Value}{p:PV} (h:da S w v p) (hp:xF p=true):v=Gf p:=by cases h<;>first|rfl|cases hp
theorem JZ (S:Nat→Prop) (w:World) {p:PV} (hp:xF p=true):da S w (Gf p) p∧(Gf p).oneCell'=true:=by cases p with|int k n=>exact⟨.int k n,rfl⟩|bool b=>exact⟨.bool b,rfl⟩|str l=>exact⟨.str l,rfl⟩|_=>cases hp
theorem C3 {p:PV} (hp:xF p=true):(Gf p).oneCell'=true:=by cases p<;>first|rfl|cases hp
theorem fK (a b:List (List PV)):cellW (a++b)=cellW a++cellW b:=by simp[cellW]
theorem fq {sz:Nat}:∀{rows:List (List PV)},(∀r∈rows,r.length=sz)→(cellW rows).length=rows.length*sz|[],_=>by simp[cellW]|r::rows,h=>by have ih:=fq (rows:=rows) fun r hr=>h r (by simp[hr]);have h0:=h r (by simp);unfold cellW at ih ⊢;simp only[List.flatMap_cons,List.length_append,List.length_map,List.length_cons,ih,h0,Nat.succ_mul];omega
theorem pM {sz:Nat}:∀{rows:List (List PV)},(∀r∈rows,r.length=sz)→∀{i j:Nat}{r:List PV}{p:PV},rows[i]?=some r→r[j]?=some p→(cellW rows)[i*sz+j]?=some (Gf p)
 |[],_,i,j,r,p,h,_=>by simp at h|r0::rows,hs,0,j,r,p,h,hj=>by simp only[List.getElem?_cons_zero,Option.some.injEq]at h;subst h;have hlt:j<r0.length:=(List.getElem?_eq_some_iff.1 hj).1;simp only[cellW,List.flatMap_cons,Nat.zero_mul,Nat.zero_add];rw[List.getElem?_append_left (by simpa using hlt),List.getElem?_map,hj];rfl|r0::rows,hs,i+1,j,r,p,h,hj=>by
  have ih:=pM (rows:=rows) (fun r hr=>hs r (by simp[hr])) (i:=i) (by simpa using h) hj;have h0:=hs r0 (by simp);have e1:(i+1)*sz+j-(r0.map Gf).length=i*sz+j:=by rw[List.length_map,h0,Nat.succ_mul];omega
  simp only[cellW,List.flatMap_cons];rw[List.getElem?_append_right (by rw[List.length_map,h0,Nat.succ_mul];omega),e1];exact ih
theorem F7 {sz:Nat}{w:World}{S:Nat→Prop}{rows:List (List PV)}{us:List Value} (hs:∀r∈rows,r.length=sz) (hp:dx rows) (hl:us.length=rows.length*sz) (h:∀(i j:Nat) (r:List PV) (p:PV),rows[i]?=some r→r[j]?=some p→∃u,us[i*sz+j]?=some u∧u.oneCell'=true∧da S w u p):us=cellW rows:=by
 apply List.ext_getElem?;intro k;by_cases hk:k<rows.length*sz
 ·have hsz:0<sz:=by rcases Nat.eq_zero_or_pos sz with h0|h0;rw[h0]at hk;omega;exact h0
  have hi:k/sz<rows.length:=(Nat.div_lt_iff_lt_mul hsz).2 hk;have hr:rows[k/sz]?=some rows[k/sz]:=List.getElem?_eq_getElem hi;have hrl:(rows[k/sz]).length=sz:=hs _ (List.getElem_mem hi);have hj:k%sz<(rows[k/sz]).length:=by rw[hrl];exact Nat.mod_lt _ hsz
  have hpj:(rows[k/sz])[k%sz]?=some (rows[k/sz])[k%sz]:=List.getElem?_eq_getElem hj;have hk2:k/sz*sz+k%sz=k:=by rw[Nat.mul_comm];exact Nat.div_add_mod k sz
  obtain⟨u,hu,_,hru⟩:=h _ _ _ _ hr hpj;have hpl:=hp _ (List.getElem_mem hi) _ (List.getElem_mem hj);have:=pM hs hr hpj;rw[hk2]at hu this;rw[hu,this,P3 hru hpl]
 ·rw[List.getElem?_eq_none (by omega),List.getElem?_eq_none (by rw[fq hs];omega)]
theorem mM {rows:List (List PV)} (hp:dx rows):∀u∈cellW rows,u.oneCell'=true:=by intro u hu;simp only[cellW,List.mem_flatMap,List.mem_map]at hu;obtain⟨r,hr,p,hpr,rfl⟩:=hu;exact C3 (hp r hr p hpr)
theorem AH {P:Program}{f:FuncId}{e:TypeId}{inf:TypeInfo} (hi:P.info? e=some inf) {rows rows':List (List PV)} (hs:∀r∈rows,r.length=inf.size) (hp:dx rows) (hs':∀r∈rows',r.length=inf.size) (hp':dx rows') (zs:List PV) (H:∀(w:World) (S:Nat→Prop) (V:Value) (vals:List Value),w.ownsRow 0 e inf.size V rows.length (cellW rows)→(∀b,S b→b<w.heap.size∧V.ownBlock≠some b)→vals.length=zs.length→(∀(i:Nat) (v:Value) (p:PV),vals[i]?=some v→zs[i]?=some p→da S w v p)→Calls P f (V::vals).toArray w fun r w'=>∃V',r=.returned V'∧w'.ownsRow 0 e inf.size V' rows'.length (cellW rows')∧w.grownBy w' V.ownBlock∧(∀b,V'.ownBlock=some b→V.ownBlock=some b∨w.heap.size≤b)):CT P f (.fr e rows::zs.map .pv) (.fr e rows'):=by intro w S0 β vals a1 a2 a3 a4 a5;have hmk:mY (.fr e rows::zs.map AV.pv)=[(998,.arr e rows)]:=rfl;rw[hmk]at a2 a3 a5 ⊢;match vals,a4 with
 |V::vs,a4=>
  have hV:=a5 0 V (.own 998) rfl rfl;obtain⟨hVe,hVd⟩:=hV.aT;obtain⟨inf',us,hi',hown,hrl,hcs⟩:=a3.holds 998 (.arr e rows) rfl;have:inf'=inf:=by rw[hi]at hi';injection hi' with h;exact h.symm
  subst this;have hus:=F7 hs hp hown.1 hcs;subst hus;rw[←hVe]at hown;have hob:=(gE hown).1;have hlive:∀b,live β (ab [(998,AO.arr e rows)]) b↔V.ownBlock=some b:=by
   intro b;constructor
   ·rintro⟨t,o,ho,hb⟩;by_cases ht:t=998;·subst ht;rw[←hVe,hob]at hb;exact hb
    ·simp[ab,ht]at ho
   ·intro hb;exact⟨998,_,rfl,by rw[←hVe,hob];exact hb⟩
  refine(H w (aU S0 w.heap.size β (ab [(998,AO.arr e rows)]) w) V vs hown (fun b hb=>⟨hb.2.1,fun h=>hb.2.2 ((hlive b).2 h)⟩) (by simpa using a4) (fun i v p hv hp=>?_)).mono ?_;·have:=a5 (i+1) v (.pv p) (by simpa using hv) (by simp[hp,LH]);exact this.bm
  ·rintro r w' ⟨V',rfl,hown',hg,hbl⟩;have hob':=(gE hown').1;have hobj:(bo (ab (en (.fr e rows'))) fun t=>du (cellAt (b7 (.fr e rows')) t))=fun t=>if t=0 then some (.arr e rows') else none:=by
    funext t;show(bo (ab []) fun t=>du (cellAt (.fr e rows') t)) t=_;simp only[bo,ab,cellAt,bI];by_cases h0:t=0;·subst h0;rfl
    ·by_cases h1:t%1000=0
     ·have:t/1000≠0:=by omega
      simp[h0,h1,this,du]
     ·simp[h0,h1,du]
   refine⟨V',fun _=>V',rfl,⟨hg.os,hg.tape,hg.output,hg.size,fun b hb hnl=>hg.block b hb fun h=>hnl ((hlive b).2 h.symm)⟩,?_,?_,?_,?_⟩
   ·rw[hobj];refine⟨fun t o ho=>?_,fun t t' b ⟨o,ho⟩ ⟨o',ho'⟩ _ _=>?_⟩
    ·by_cases h0:t=0;·subst h0;simp only[if_true,Option.some.injEq]at ho;subst ho;refine⟨inf',cellW rows',hi,hown',hs',fun i j r p h1 h2=>?_⟩;have hpl:=hp' r (List.mem_of_getElem? h1) p (List.mem_of_getElem? h2);exact⟨Gf p,pM hs' h1 h2,C3 hpl,(JZ _ w' hpl).1⟩
     ·simp[h0]at ho
    ·by_cases h0:t=0<;>by_cases h1:t'=0;·rw[h0,h1]
     ·simp[h1]at ho'
     ·simp[h0]at ho
     ·simp[h0]at ho
   ·rintro t b _ hb;rw[hob']at hb;rcases hbl b hb with h|h;·exact .inr ((hlive b).2 h)
    ·exact .inl h
   ·rintro t ⟨o,ho⟩;simp[en,ab]at ho
   ·rw[hobj];exact .own 0 ⟨.arr e rows',by simp⟩|[],a4=>simp at a4
theorem dh {P:Program} (w:World) (dT sT ty elem:TypeId) (g o dLen dCap:Nat) (a:Addr) (sLen sCap sz:Nat) (cur:Array Value) (t:TypeId) (cs:List Value) (hu:P.underlying dT=some (.slice elem)) (hs:(P.info? elem).map (·.size)=some sz) (hg:w.heap[g]?=some (.cells cur t (0,0))) (hn:cs.length=Nat.min sLen dLen*sz) (hsrc:∀j v,cs[j]?=some v→w.cell? (a.add j)=some v) (hfit:o+cs.length≤cur.size) (h1:∀v∈cs,v.oneCell'=true):(Builtin.copy_ #[dT,sT] ty #[.slice (some ⟨g,o,none⟩) dLen dCap,.slice (some a) sLen sCap]).run P w=.ok (goInt (Nat.min sLen dLen)) (w.setRow g (cur.toList.take o++cs++cur.toList.drop (o+cs.length)).toArray):=by have hl:=run_firstCells_some (P:=P) (w:=w) sz (Nat.min sLen dLen) a sLen sCap cs hn hsrc;have hst:=run_storeCells_at P g o t cs 0 cur w hg (by simpa using hfit) h1;cases hq:P.info? elem with|none=>simp[hq]at hs|some i=>
 have hi:i.size=sz:=by simpa[hq]using hs
 simp only[Nat.add_zero]at hst;simp[Builtin.copy_,run_underlying hu,Builtin.lenOf,sizeOf,typeInfo,hq,hi,hl,hst]
theorem jQ {P:Program} (w:World) (tS tR e:TypeId) (ht:P.underlying tS=some (.slice e)) (size:Nat) (hz:∀w,(Go.sizeOf e).run P w=.ok size w) (a b:Addr) (la ca lb cb:Nat) (hne:a.block≠b.block) {va:Value}{cur:Array Value}{tb:TypeId} (ha:w.cell? a=some va) (hb:w.heap[b.block]?=some (.cells cur tb (0,0))) (hcur:0<cur.size):(Extern.SlicesOverlaps.overlaps #[tS,tS] #[tR] #[.slice (some a) la ca,.slice (some b) lb cb]).run P w=.ok (.bool false) w:=by
 have hnb:(a.block !=b.block)=true:=by simpa using hne
 have hnb':(a.block==b.block)=false:=by simpa using hne
 have hfb:∀n,w.frozen? ⟨b.block,n,none⟩=false:=fun n=>by simp[World.frozen?,hb]
 have hfb':w.frozen? b=false:=by simp[World.frozen?,hb]
 have hsb:w.shape? b.block=some (tb,cur.size):=by simp[World.shape?,hb]
 obtain⟨ca',ta,fa,hca,hla⟩:∃c t f,w.heap[a.block]?=some (.cells c t f)∧0<c.size:=by
  unfold World.cell? at ha;split at ha
  ·rename_i c t f hc;refine⟨c,t,f,hc,?_⟩;split at ha;·cases ha
   ·have:=(Array.getElem?_eq_some_iff.1 ha).1;omega
  ·cases ha
 have hsa:w.shape? a.block=some (ta,ca'.size):=by simp[World.shape?,hca]
 change Sem.run P (α:=Value) (do
  let some t:=(#[tS,tS]:Array TypeId)[0]?|stuck "slices.overlaps: no parameter types"
  let .slice elem←underlying t|stuck "slices.overlaps: slice type expected"
  let size←sizeOf elem match(some a:Option Addr),(some b:Option Addr) with
  |some a,some b=>if la=0∨lb=0∨size=0 then pure (Value.bool false) else if a.block !=b.block&&(←frozen a)&&(←frozen b) then unsupported .addressObserved else do
    if a.block !=b.block then do noView a;noView b if←mayBeOne a b then return Value.bool ((←choose (.extern "sameAddr.stringBytes" 2))==1)
    pure (Value.bool (a.block==b.block&&a.off<b.off+lb*size&&b.off<a.off+la*size))|_,_=>pure (Value.bool false)) w=_;by_cases h0:la=0∨lb=0∨size=0;·simp[run_underlying ht,hz,h0]
 ·obtain⟨m,hm⟩:∃m,cur.size=m+1:=⟨cur.size-1,by omega⟩;obtain⟨m',hm'⟩:∃m,ca'.size=m+1:=⟨ca'.size-1,by omega⟩;rw[hm]at hsb;rw[hm']at hsa;cases hfa:w.frozen? a<;>cases hfe:w.frozen? ⟨a.block,m'+1,none⟩<;>simp[run_underlying ht,hz,h0,hnb,hnb',frozen,noView,viewAt,mayBeOne,stringish,shape,Sem.run,hsa,hsb,hfb,hfb',hfa,hfe]
end Go.Proofs.YtifcndkhigakfaaGreat.Ab
namespace Go.Proofs.YtifcndkhigakfaaGreat.Ab
open Go Go.RowKit Go.Shelf
attribute[local go_sem] Oper.semAt_some
def dH (l:List UInt8):List Value:=l.map fun c=>.int .u8 (c.toNat:Int)
theorem GC:(Tryz.prog.info? 97).map (fun i=>(i.zero,i.size,i.bytes))=some (some (.agg #[.int .u8 0,.slice none 0 0]),2,32):=by kernel_rfl
theorem yF:(Tryz.prog.info? 5).map (fun i=>(i.zero,i.size,i.bytes))=some (some (.int .u8 0),1,1):=by kernel_rfl
theorem sx {W:World}{b:Nat}{ty:TypeId}{v0 v1 v2 v3 v4 v5 v6 v7 v8 v9 v10 v11:Value} (h:W.heap[b]?=some (.cells #[v0,v1,v2,v3,v4,v5,v6,v7,v8,v9,v10,v11] ty (0,0))):W.cell? ⟨b,0,none⟩=some v0∧W.cell? ⟨b,1,none⟩=some v1∧W.cell? ⟨b,2,none⟩=some v2∧W.cell? ⟨b,3,none⟩=some v3∧W.cell? ⟨b,4,none⟩=some v4∧W.cell? ⟨b,5,none⟩=some v5∧W.cell? ⟨b,6,none⟩=some v6∧W.cell? ⟨b,7,none⟩=some v7∧W.cell? ⟨b,8,none⟩=some v8∧W.cell? ⟨b,9,none⟩=some v9∧W.cell? ⟨b,10,none⟩=some v10∧W.cell? ⟨b,11,none⟩=some v11:=by simp[World.cell?,h]
theorem Bl {β:Type} (n₀:Nat) (e:TypeId) (size:Nat) (V:Value) (k:Nat) (cs:List Value):Own (fun(_:β) W=>W.ownsRow n₀ e size V k cs):=by
 rintro s X Y row hr hg hrow;refine hr.kept hg ?_;rcases hr.2 with⟨rfl,_⟩|⟨g,cap,cur,rfl,_,hgb,_⟩;·exact .inl rfl
 ·refine .inr fun e'=>?_;obtain⟨o,ho,hc⟩:=hrow g (by simpa[Value.ownBlock]using e'.symm);rw[hgb]at ho;cases ho;cases hc
theorem cell_two_new (w:World) (x y:Value) (t:TypeId):∀j u,[x,y][j]?=some u→(w.alloc (.cells #[x,y] t)).cell? ((⟨w.heap.size,0,none⟩:Addr).add j)=some u:=by
 have h:(w.alloc (.cells #[x,y] t)).heap[w.heap.size]?=some (.cells #[x,y] t (0,0)):=World.alloc_heap_new w _;have hcl:∀i,(w.alloc (.cells #[x,y] t)).cell? ⟨w.heap.size,i,none⟩=#[x,y][i]?:=fun i=>by unfold World.cell?;rw[h];rfl
 intro j u hj;rw[Addr.add_lit,hcl];simpa using hj
theorem D6 {W W':World}{b b':Nat}{e e':TypeId}{s s':Nat}{V V':Value}{k k':Nat}{xs ys:List Value} (h:W.ownsRow b e s V k xs) (h':W.ownsRow b' e' s' V' k' ys) (hne:e≠e') (hg:W.grownBy W' V'.ownBlock):W'.ownsRow b e s V k xs:=by
 refine h.kept hg ?_;rcases h.2 with⟨hv,h0⟩|⟨g,cap,cur,rfl,_,hgb,_⟩;·exact .inl (by rw[hv];rfl)
 ·refine .inr ?_;rcases h'.2 with⟨rfl,_⟩|⟨g',cap',cur',rfl,_,hg',_⟩;·simp[Value.ownBlock]
  ·intro he;have:g=g':=by simpa[Value.ownBlock]using he
   subst this;rw[hgb]at hg';cases hg';exact hne rfl
theorem Ed {W:World}{B:Nat}{t:TypeId}{u:Value} (hb:Boxed W B t u) {b:Nat}{e:TypeId}{s:Nat}{V:Value}{k:Nat}{xs:List Value} (h:W.ownsRow b e s V k xs) (hne:t≠e) (v':Value):(W.setCell ⟨B,0,none⟩ v').ownsRow b e s V k xs:=h.kept (grownBy_setCell' W B v') (.inr (hb.not_row hne h).symm)
theorem oO {W:World}{b:Nat}{e:TypeId}{s:Nat}{V:Value}{k:Nat}{xs:List Value} (h:W.ownsRow b e s V k xs):W.ownsRow 0 e s V k xs:=by
 refine⟨h.1,?_⟩;rcases h.2 with h|⟨g,cap,cur,h1,h2,h3⟩;·exact .inl h
 ·exact .inr ⟨g,cap,cur,h1,Nat.zero_le _,h3⟩
end Go.Proofs.YtifcndkhigakfaaGreat.Ab
namespace Go.Proofs.YtifcndkhigakfaaGreat.Ab
open Go Go.RowKit
theorem sm {P:Program}{S:Nat→Prop}{w:World}{β:Nat→Value}{D:Nat→Prop}{t n0:Nat}{L:List UInt8}{e:TypeId} (hsz:∀inf,P.info? e=some inf→inf.size=1) (h:bn P S w β D t (.arr e (bytesRow L))) (hb:∀b,ct (β t)=some b→n0≤b):w.ownsRow n0 e 1 (β t) L.length (dH L):=by
 obtain⟨inf,us,hi,hown,_,hus⟩:=h;have h1:=hsz inf hi;rw[h1]at hown;have hlen:(bytesRow L).length=L.length:=by simp[bytesRow]
 rw[hlen]at hown;have hu:us=dH L:=by
  apply List.ext_getElem?;intro j;rcases Nat.lt_or_ge j L.length with hj|hj
  ·have hr:(bytesRow L)[j]?=some [.int .u8 (L[j].toNat:Int)]:=by simp[bytesRow,hj]
   obtain⟨u,hu,_,hv⟩:=hus j 0 _ _ hr rfl;rw[h1,Nat.mul_one,Nat.add_zero]at hu;rw[hu,hv.aI];simp[dH,hj]
  ·have h1:=hown.1;rw[List.getElem?_eq_none (by omega),List.getElem?_eq_none (by simp[dH];omega)]
 subst hu;refine⟨hown.1,?_⟩;rcases hown.2 with h|⟨g,cap,cur,hv,_,h3⟩;·exact .inl h
 ·exact .inr ⟨g,cap,cur,hv,hb g (by rw[hv];rfl),h3⟩
theorem yC {P:Program}{w:World}{V:Value}{L:List UInt8}{n0:Nat}{e:TypeId}{S:Nat→Prop} (h:w.ownsRow n0 e 1 V L.length (dH L)) (hS:∀b,n0≤b→b<w.heap.size→S b):da S w V (.ro (bytesRow L)):=by
 have hlen:(bytesRow L).length=L.length:=by simp[bytesRow]
 rcases h.2 with⟨rfl,h0⟩|⟨g,cap,cur,rfl,hb,hg,hnc,hcm,hcs,htk⟩;·have:L=[]:=List.eq_nil_of_length_eq_zero h0;subst this;exact .wB none 0
 ·have hgl:g<w.heap.size:=(Array.getElem?_eq_some_iff.1 hg).1;have hcell:∀j,j<L.length→w.cell? ⟨g,j,none⟩=(dH L)[j]?:=fun j hj=>by rw[←htk,List.getElem?_take,if_pos (by omega)];unfold World.cell?;rw[hg];simp
  rw[←hlen]at hnc ⊢;refine .ro ⟨g,0,none⟩ cap (bytesRow L) 1 (fun i _=>.int .u8 ((L.getD i 0).toNat:Int)) (hS g hb hgl) hnc (fun r hr=>?_) (fun i j hi hj=>?_) (fun i j r p hr hp=>rfl) (fun i j r p hr hp=>?_);·simp only[bytesRow,List.mem_map]at hr;obtain⟨c,_,rfl⟩:=hr;rfl
  ·rw[hlen]at hi;obtain rfl:j=0:=by omega
   rw[Addr.add_lit];simp only[Nat.zero_add,Nat.mul_one,Nat.add_zero];rw[hcell i hi];simp[dH,hi]
  ·have hi:i<L.length:=by have:=(List.getElem?_eq_some_iff.1 hr).1;omega
   simp only[bytesRow,List.getElem?_map,List.getElem?_eq_getElem hi,Option.map_some,Option.some.injEq]at hr;subst hr;match j,hp with|0,hp=>simp only[List.getElem?_cons_zero,Option.some.injEq]at hp;subst hp;simp only[List.getD_eq_getElem?_getD,List.getElem?_eq_getElem hi,Option.getD_some];exact .int _ _|j+1,hp=>simp at hp
theorem jv {P:Program}{f:FuncId}{ys:List AV}{r:AV} (h:u9 P f [] ys [] r) {W:World}{S:Nat→Prop}{vals:List Value} (hl:vals.length=ys.length) (hS:∀b,S b→b<W.heap.size) (hv:∀(i:Nat) (v:Value) (x:AV),vals[i]?=some v→ys[i]?=some x→RV P S W (fun _=>.nilIface) (fun _=>False) v x):Calls P f vals.toArray W fun e w'=>∃v β',e=.returned v∧Below W.heap.size W w'∧Heap P (aU S W.heap.size β' (bo (ab []) fun t=>du (cellAt r t)) w') w' β' (bo (ab []) fun t=>du (cellAt r t))∧(∀t b,aG (bo (ab []) fun t=>du (cellAt r t)) t→ct (β' t)=some b→W.heap.size≤b)∧RV P (aU S W.heap.size β' (bo (ab []) fun t=>du (cellAt r t)) w') w' β' (aG (bo (ab []) fun t=>du (cellAt r t))) v (cR FH r):=by
 have h2:=h W S (fun _=>.nilIface) vals hS (fun t b ⟨o,ho⟩=>by simp[ab]at ho) ⟨fun t o ho=>by simp[ab]at ho,fun t t' b ⟨o,ho⟩=>by simp[ab]at ho⟩ hl fun i v x hi hx=>(hv i v x hi hx).mono (fun b hb=>⟨⟨.inl hb,hS b hb,fun⟨t,o,ho,_⟩=>by simp[ab]at ho⟩,rfl⟩) (fun t ht=>ht.elim);refine h2.mono ?_;rintro e w' ⟨v,β',rfl,hf,hh,hb,hr⟩;refine⟨v,β',rfl,⟨hf.os,hf.tape,hf.output,hf.size,fun k hk=>hf.block k hk fun⟨t,o,ho,_⟩=>by simp[ab]at ho⟩,hh,fun t b hd hbk=>?_,hr⟩;rcases hb t b hd hbk with h|⟨t',o,ho,_⟩;·exact h
 ·simp[ab]at ho
theorem yb:∀inf,Tryz.prog.info? 5=some inf→inf.size=1:=by intro inf hi;obtain⟨iu,hiu,_,hu1,_⟩:=info_parts yF;rw[hiu]at hi;cases hi;exact hu1
theorem kv (p q:PV) (t:Nat):bo (ab []) (fun t=>du (cellAt (.aS [.pv p,.pv q]) t)) t=none:=by
 show du (cellAt (.aS [.pv p,.pv q]) t)=none;simp only[cellAt];rcases(show t%1000=0∨t%1000=1∨2≤t%1000 by omega) with h|h|h;·rw[h];simp only[List.getElem?_cons_zero,Option.bind_some,bI];split<;>rfl
 ·rw[h];simp only[List.getElem?_cons_succ,List.getElem?_cons_zero,Option.bind_some,bI];split<;>rfl
 ·rw[List.getElem?_eq_none (by simpa using h)];rfl
end Go.Proofs.YtifcndkhigakfaaGreat.Ab
