/- Chapter 18: lives: how they are compared, and where one stands. -/
import Derived.Test.YtifcndkhigakfaaGreatY12
import Derived.Test.YtifcndkhigakfaaGreatY13
import Derived.Test.YtifcndkhigakfaaGreatY14
import Derived.Test.YtifcndkhigakfaaGreatY15
import Derived.Test.YtifcndkhigakfaaGreatChecked
import Derived.WalkKit
import Derived.Laws.CopyRow
import Derived.Laws.NewBlocks
import Derived.Lib.AppendZerosOnto
import Derived.Lib.Overlaps
import Derived.Lib.Walk
import Derived.Lib.SliceRun
import Derived.Laws.Externs
import Derived.Shelf.Spec.SlicesInsert
set_option linter.unusedVariables false
set_option linter.unusedSimpArgs false
set_option linter.unnecessarySimpa false
set_option maxHeartbeats 40000000
set_option maxRecDepth 100000
set_option linter.defProp false
namespace Go.Proofs.YtifcndkhigakfaaGreat.Ab
open Go Go.RowKit
def q128:=@List.getElem_of_mem
def q156:=@Nat.min_def
def q166:=@IntKind.wrap_i64
def q184:=@Lib.wpList_append_run
def q195:=@List.pairwise_append
def q279:=@Lib.run_append_grow_zeros
def q290:=@List.append_cancel_left
def q298:=@List.drop_of_length_le
def q299:=@List.findIdx_le_length
end Go.Proofs.YtifcndkhigakfaaGreat.Ab
namespace Go.Proofs.YtifcndkhigakfaaGreat.Ab
open Go Go.RowKit R
variable {P:Program}{rows:List (List PV)}{k sz i:Nat}{p:PV}{S:Nat->Prop}
def yx (a b:Int):Int:=if a<b then-1 else if b<a then 1 else 0
@[simp] def PT:List AV->Option (Prop×AV)|[.pv (.int .u64 _)]=>some (True,.pv (.bool false))|_=>none
def RA:aL Tryz.prog 154 PT:=by
 intro ys φ r h hφ;unfold PT at h;split at h;·cases h;refine aq ah (by kernel_rfl) (by conv=>lhs;reduce) (by simp) ?_;simp
 ·cases h
@[simp] def Qc:List AV->Option (Prop×AV)|[.pv (.int .u64 a),.pv (.int .u64 b)]=>some (True,.pv (.int .i64 (yx a b)))|_=>none
def R7:aL Tryz.prog 114 Qc:=by
 intro ys φ r h hφ;unfold Qc at h;split at h
 ·rename_i a b;cases h;refine aq (ag RA ah) (by kernel_rfl) (by conv=>lhs;reduce) (by simp) ?_;unfold yx;by_cases h1:a<b;·simp[h1]
  ·by_cases h2:b<a<;>simp[h1,h2]
 ·cases h
@[simp] def GOr:List AV->Option (Prop×AV)|[.pv (.ro [[.int .i64 a],[.int .i64 b]])]=>some (True,.pv (.int .i64 (if a=0 then b else a)))|_=>none
def c_Or:aL Tryz.prog 113 GOr:=by
 intro ys φ r h hφ;unfold GOr at h;split at h
 ·rename_i a b;cases h;refine aq ah (by kernel_rfl) (by conv=>lhs;reduce) (by simp) ?_;simp;refine au (fun i:Nat=>i<=2/\(1<=i->a=0)/\(2<=i->b=0)) (fun i=>⟨[(0,.pv (.ro [[.int .i64 a],[.int .i64 b]])),(2,.pv (.int .i64 0)),(3,.pv (.int .i64 0)),(6,.pv (.ro [[.int .i64 a],[.int .i64 b]])),(7,.pv (.int .i64 2)),(8,.pv (.int .i64 (i:Int)))],[]⟩) (fun i=>2-i) [] 0 (by simp) ?_ ?_;·simp
  ·rintro i ⟨hi,h1,h2⟩;rcases(show i=0\/i=1\/i=2 by omega) with rfl|rfl|rfl
   ·by_cases ha:a=0;·simp[ha,rowAt];exact⟨1,by simp,rfl,by omega⟩
    ·simp[ha,rowAt]
   ·have ha:=h1 (by omega);by_cases hb:b=0;·simp[ha,hb,rowAt];exact⟨2,by simp,rfl,by omega⟩
    ·simp[ha,hb,rowAt]
   ·simp[h1 (by omega),h2 (by omega)]
 ·cases h
def uA (a b:Pn):Int:=if yx a.i b.i=0 then yx a.v b.v else yx a.i b.i
@[simp] def OU:List AV->Option (Prop×AV)|[.agg [.pv (.int .u64 p),.pv (.int .u64 i),.pv (.int .u64 s)],.agg [.pv (.int .u64 p'),.pv (.int .u64 i'),.pv (.int .u64 s')]]=>some (True,.pv (.int .i64 (uA ⟨p,i,s⟩ ⟨p',i',s'⟩)))|_=>none
def EH:aL Tryz.prog 64 OU:=by
 intro ys φ r h hφ;unfold OU at h;split at h;·cases h;refine aq (ag c_Or (ag R7 ah)) (by kernel_rfl) (by conv=>lhs;reduce) (by simp) ?_;simp[uA]
 ·cases h
def kI (w x:Pn):Bool:=decide (uA x w=0)
def nX (w x:Pn):Bool:=decide (0<uA x w)
@[simp] def GW (f:Pn->Pn->Bool):List AV->Option (Prop×AV)|[.agg [.pv (.int .u64 p),.pv (.int .u64 i),.pv (.int .u64 s)],.rp [.int .u64 p',.int .u64 i',.int .u64 s']]=>some (True,.pv (.bool (f ⟨p',i',s'⟩ ⟨p,i,s⟩)))|_=>none
def c_W1:aL Tryz.prog 129 (GW kI):=by
 intro ys φ r h hφ;unfold GW at h;split at h;·cases h;refine aq (ag EH ah) (by kernel_rfl) (by conv=>lhs;reduce) (by simp) ?_;simp[kI]
 ·cases h
def c_W2:aL Tryz.prog 130 (GW nX):=by
 intro ys φ r h hφ;unfold GW at h;split at h;·cases h;refine aq (ag EH ah) (by kernel_rfl) (by conv=>lhs;reduce) (by simp) ?_;simp[nX]
 ·cases h
def GV:gz Tryz.prog 129=true:=by kernel_rfl
def FO:gz Tryz.prog 130=true:=by kernel_rfl
def Km (q:Pn->Bool) (l:List Pn):Int:=if l.any q=true then(l.findIdx q:Int) else-1
def clW (f:FuncId):Option (Pn->Pn->Bool):=if f=129 then some kI else if f=130 then some nX else none
@[simp] noncomputable def ZF:List AV->Option (Prop×AV)|[.pv (.ro a),.bI f [.rp [.int .u64 p,.int .u64 i,.int .u64 s]]]=>(clW f).bind fun q=>(dec rowP a).map fun l=>(l.length<=1000000000,.pv (.int .i64 (Km (q ⟨p,i,s⟩) l)))|_=>none
def aac:aL Tryz.prog 128 ZF:=by
 intro ys φ r h hφ;unfold ZF at h;split at h
 ·rename_i ra f p n s;obtain⟨q,hq,h⟩:=qB.1 h;obtain⟨a,ha,h⟩:=q900.1 h;cases h;cases aM ha;have hq:(f=129/\q=kI)\/(f=130/\q=nX):=by
   unfold clW at hq;split at hq;·rename_i hf;cases hq;exact .inl ⟨hf,rfl⟩
   ·split at hq;·rename_i hf;cases hq;exact .inr ⟨hf,rfl⟩
    ·cases hq
  refine aq (ag c_W1 (ag c_W2 ah)) (by kernel_rfl) (by conv=>lhs;reduce) (by simp) ?_;simp;refine au (fun i:Nat=>i<=a.length/\∀e∈a.take i,¬q ⟨p,n,s⟩ e=true) (fun i=>⟨[(0,.pv (.ro (ay a))),(1,.bI f [.rp [.int .u64 p,.int .u64 n,.int .u64 s]]),(7,.pv (.int .i64 a.length)),(8,.pv (.int .i64 i))],[]⟩) (fun i=>a.length-i) [] 0 (by simp) ?_ ?_;·simp
  ·rintro i ⟨hi,ht⟩;have w2:IntKind.i64.wrap ((i:Int)+1)=(i:Int)+1:=wrap_i64 (by omega);by_cases hlt:i<a.length;·have r1:=dq hlt;cases he:q ⟨p,n,s⟩ a[i]with
    |true=>
     have ej:a.any (q ⟨p,n,s⟩)=true:=q133.2 ⟨a[i],q84 hlt,he⟩;have hfi:a.findIdx (q ⟨p,n,s⟩)=i:=by rw[q173 hlt];refine⟨he,fun j hj=>?_⟩;have:=ht a[j] (by rw[q90];exact⟨j,by omega,rfl⟩);simpa using this
     rcases hq with⟨rfl,rfl⟩|⟨rfl,rfl⟩<;>simp[hlt,r1,GV,FO,he,ej,hfi,Km]|false=>
     have hnx:i+1<=a.length/\∀e∈a.take (i+1),¬q ⟨p,n,s⟩ e=true:=by
      refine⟨by omega,fun e hm=>?_⟩;rw[q64 hlt,q75,q73]at hm;rcases hm with hm|rfl;·exact ht e hm
      ·rw[he];decide
     rcases hq with⟨rfl,rfl⟩|⟨rfl,rfl⟩<;>·simp[hlt,r1,GV,FO,he,w2];exact⟨i+1,by simpa using hnx,by omega,by omega⟩
   ·rw[List.take_of_length_le (by omega)]at ht;have ej:a.any (q ⟨p,n,s⟩)=false:=by rw[q146];exact ht
    simp[hlt,ej,Km]
 ·cases h
@[simp] noncomputable def GClW:List AV->Option (Prop×AV)|[.pv (.ro a)]=>(dec rowP a).map fun l=>(l.length<=100000000,.fr 84 (ay l))|_=>none
def Zi:aL Tryz.prog 91 GClW:=by
 intro ys φ r h hφ;unfold GClW at h;split at h;·rename_i ra;obtain⟨a,ha,h⟩:=q900.1 h;cases h;cases aM ha;refine aq ah (by kernel_rfl) (by conv=>lhs;reduce) (by simp) ?_;cases a with|nil=>simp[kP]|cons x l=>have hx:ay (x::l)=rowP x::ay l:=rfl;simp[hx,aF];simp only[q70]at hφ;exact⟨by omega,by omega,rfl,cz l⟩
 ·cases h
def Ku:PV->Value|.int k n=>.int k n|.bool b=>.bool b|.str l=>.string ⟨l.toArray⟩|_=>undef
def AL:PV->Bool|.int _ _|.bool _|.str _=>true|_=>false
def cellW (rows:List (List PV)):List Value:=rows.flatMap fun r=>r.map Ku
def dI (rows:List (List PV)):Prop:=∀r∈rows,∀p∈r,AL p=true
def RN {w:World}{v:Value} (h:dA S w v p) (hp:AL p=true):v=Ku p:=by cases h<;>first|rfl|cases hp
def Nd (S:Nat->Prop) (w:World) (hp:AL p=true):dA S w (Ku p) p/\(Ku p).oneCell'=true:=by cases p with|int k n=>exact⟨.int k n,rfl⟩|bool b=>exact⟨.bool b,rfl⟩|str l=>exact⟨.str l,rfl⟩|_=>cases hp
def Gy (hp:AL p=true):(Ku p).oneCell'=true:=by cases p<;>first|rfl|cases hp
def fy (a b:List (List PV)):cellW (a++b)=cellW a++cellW b:=by simp[cellW]
def fv {sz:Nat}:∀{rows:List (List PV)},(∀r∈rows,r.length=sz)->(cellW rows).length=rows.length*sz|[],_=>by simp[cellW]|r::rows,h=>by have ih:=fv (rows:=rows) fun r hr=>h r (by simp[hr]);have h0:=h r (by simp);unfold cellW at ih |-;simp only[q99,q65,List.length_map,q70,ih,h0,q120];omega
def su {sz:Nat}:∀{rows:List (List PV)},(∀r∈rows,r.length=sz)->∀{i j:Nat}{r:List PV}{p:PV},rows[i]?=some r->r[j]?=some p->(cellW rows)[i*sz+j]?=some (Ku p)
 |[],_,i,j,r,p,h,_=>by simp at h|r0::rows,hs,0,j,r,p,h,hj=>by simp only[q72,qr]at h;subst h;have hlt:j<r0.length:=(q63.1 hj).1;simp only[cellW,q99,Nat.zero_mul,q126];rw[q86 (by simpa using hlt),q79,hj];rfl|r0::rows,hs,i+1,j,r,p,h,hj=>by
  have ih:=su (rows:=rows) (fun r hr=>hs r (by simp[hr])) (i:=i) (by simpa using h) hj;have h0:=hs r0 (by simp);have e1:(i+1)*sz+j-(r0.map Ku).length=i*sz+j:=by rw[List.length_map,h0,q120];omega
  simp only[cellW,q99];rw[q98 (by rw[List.length_map,h0,q120];omega),e1];exact ih
def Jr {w:World}{us:List Value} (hs:∀r∈rows,r.length=sz) (hp:dI rows) (hl:us.length=rows.length*sz) (h:∀(i j:Nat) (r:List PV) (p:PV),rows[i]?=some r->r[j]?=some p->∃u,us[i*sz+j]?=some u/\u.oneCell'=true/\dA S w u p):us=cellW rows:=by
 apply q213;intro k;by_cases hk:k<rows.length*sz
 ·have hsz:0<sz:=by rcases q154 sz with h0|h0;rw[h0]at hk;omega;exact h0
  have hi:k/sz<rows.length:=(q304 hsz).2 hk;have hr:rows[k/sz]?=some rows[k/sz]:=q62 hi;have hrl:(rows[k/sz]).length=sz:=hs _ (q84 hi);have hj:k%sz<(rows[k/sz]).length:=by rw[hrl];exact q275 _ hsz
  have hpj:(rows[k/sz])[k%sz]?=some (rows[k/sz])[k%sz]:=q62 hj;have hk2:k/sz*sz+k%sz=k:=by rw[q168];exact q248 k sz
  obtain⟨u,hu,_,hru⟩:=h _ _ _ _ hr hpj;have hpl:=hp _ (q84 hi) _ (q84 hj);have:=su hs hr hpj;rw[hk2]at hu this;rw[hu,this,RN hru hpl]
 ·rw[q134 (by omega),q134 (by rw[fv hs];omega)]
def lE (hp:dI rows):∀u∈cellW rows,u.oneCell'=true:=by intro u hu;simp only[cellW,q179,q83]at hu;obtain⟨r,hr,p,hpr,rfl⟩:=hu;exact Gy (hp r hr p hpr)
def vC {f:FuncId}{e:TypeId}{inf:TypeInfo} (hi:P.info? e=some inf) {rows rows':List (List PV)} (hs:∀r∈rows,r.length=inf.size) (hp:dI rows) (hs':∀r∈rows',r.length=inf.size) (hp':dI rows') (zs:List PV) (H:∀(w:World) (S:Nat->Prop) (V:Value) (vals:List Value),w.ownsRow 0 e inf.size V rows.length (cellW rows)->(∀b,S b->b<w.heap.size/\V.ownBlock≠some b)->vals.length=zs.length->(∀(i:Nat) (v:Value) (p:PV),vals[i]?=some v->zs[i]?=some p->dA S w v p)->Calls P f (V::vals).toArray w fun r w'=>∃V',r=.returned V'/\w'.ownsRow 0 e inf.size V' rows'.length (cellW rows')/\w.grownBy w' V.ownBlock/\(∀b,V'.ownBlock=some b->V.ownBlock=some b\/w.heap.size<=b)):EX P f (.fr e rows::zs.map .pv) (.fr e rows'):=by intro w S0 β vals a1 a2 a3 a4 a5;have hmk:nb (.fr e rows::zs.map AV.pv)=[(998,.arr e rows)]:=rfl;rw[hmk]at a2 a3 a5 |-;match vals,a4 with
 |V::vs,a4=>
  have hV:=a5 0 V (.own 998) rfl rfl;obtain⟨hVe,hVd⟩:=hV.bo;obtain⟨inf',us,hi',hown,hrl,hcs⟩:=a3.holds 998 (.arr e rows) rfl;have:inf'=inf:=by rw[hi]at hi';injection hi' with h;exact h.symm
  subst this;have hus:=Jr hs hp hown.1 hcs;subst hus;rw[<-hVe]at hown;have hob:=(iE hown).1;have hlive:∀b,live β (ab [(998,AO.arr e rows)]) b↔V.ownBlock=some b:=by
   intro b;constructor
   ·rintro⟨t,o,ho,hb⟩;by_cases ht:t=998;·subst ht;rw[<-hVe,hob]at hb;exact hb
    ·simp[ab,ht]at ho
   ·intro hb;exact⟨998,_,rfl,by rw[<-hVe,hob];exact hb⟩
  refine(H w (bn S0 w.heap.size β (ab [(998,AO.arr e rows)]) w) V vs hown (fun b hb=>⟨hb.2.1,fun h=>hb.2.2 ((hlive b).2 h)⟩) (by simpa using a4) (fun i v p hv hp=>?_)).mono ?_;·have:=a5 (i+1) v (.pv p) (by simpa using hv) (by simp[hp,KJ]);exact this.bL
  ·rintro r w' ⟨V',rfl,hown',hg,hbl⟩;have hob':=(iE hown').1;have hobj:(bF (ab (eS (.fr e rows'))) fun t=>dO (cellAt (cj (.fr e rows')) t))=fun t=>if t=0 then some (.arr e rows') else none:=by
    funext t;show(bF (ab []) fun t=>dO (cellAt (.fr e rows') t)) t=_;simp only[bF,ab,cellAt,bS];by_cases h0:t=0;·subst h0;rfl
    ·by_cases h1:t%1000=0
     ·have:t/1000≠0:=by omega
      simp[h0,h1,this,dO]
     ·simp[h0,h1,dO]
   refine⟨V',fun _=>V',rfl,⟨hg.os,hg.tape,hg.output,hg.size,fun b hb hnl=>hg.block b hb fun h=>hnl ((hlive b).2 h.symm)⟩,?_,?_,?_,?_⟩
   ·rw[hobj];refine⟨fun t o ho=>?_,fun t t' b ⟨o,ho⟩ ⟨o',ho'⟩ _ _=>?_⟩
    ·by_cases h0:t=0;·subst h0;simp only[if_true,qr]at ho;subst ho;refine⟨inf',cellW rows',hi,hown',hs',fun i j r p h1 h2=>?_⟩;have hpl:=hp' r (List.mem_of_getElem? h1) p (List.mem_of_getElem? h2);exact⟨Ku p,su hs' h1 h2,Gy hpl,(Nd _ w' hpl).1⟩
     ·simp[h0]at ho
    ·by_cases h0:t=0<;>by_cases h1:t'=0;·rw[h0,h1]
     ·simp[h1]at ho'
     ·simp[h0]at ho
     ·simp[h0]at ho
   ·rintro t b _ hb;rw[hob']at hb;rcases hbl b hb with h|h;·exact .inr ((hlive b).2 h)
    ·exact .inl h
   ·rintro t ⟨o,ho⟩;simp[eS,ab]at ho
   ·rw[hobj];exact .own 0 ⟨.arr e rows',by simp⟩|[],a4=>simp at a4
def dG (w:World) (dT sT ty elem:TypeId) (g o dLen dCap:Nat) (a:Addr) (sLen sCap sz:Nat) (cur:Array Value) (t:TypeId) (cs:List Value) (hu:P.underlying dT=some (.slice elem)) (hs:(P.info? elem).map (·.size)=some sz) (hg:w.heap[g]?=some (.cells cur t (0,0))) (hn:cs.length=Nat.min sLen dLen*sz) (hsrc:∀j v,cs[j]?=some v->w.cell? (a.add j)=some v) (hfit:o+cs.length<=cur.size) (h1:∀v∈cs,v.oneCell'=true):(Builtin.copy_ #[dT,sT] ty #[.slice (some ⟨g,o,none⟩) dLen dCap,.slice (some a) sLen sCap]).run P w=.ok (goInt (Nat.min sLen dLen)) (w.setRow g (cur.toList.take o++cs++cur.toList.drop (o+cs.length)).toArray):=by have hl:=run_firstCells_some (P:=P) (w:=w) sz (Nat.min sLen dLen) a sLen sCap cs hn hsrc;have hst:=run_storeCells_at P g o t cs 0 cur w hg (by simpa using hfit) h1;cases hq:P.info? elem with|none=>simp[hq]at hs|some i=>
 have hi:i.size=sz:=by simpa[hq]using hs
 simp only[q167]at hst;simp[Builtin.copy_,run_underlying hu,Builtin.lenOf,sizeOf,typeInfo,hq,hi,hl,hst]
def kW (w:World) (tS tR e:TypeId) (ht:P.underlying tS=some (.slice e)) (size:Nat) (hz:∀w,(Go.sizeOf e).run P w=.ok size w) (a b:Addr) (la ca lb cb:Nat) (hne:a.block≠b.block) {va:Value}{cur:Array Value}{tb:TypeId} (ha:w.cell? a=some va) (hb:w.heap[b.block]?=some (.cells cur tb (0,0))) (hcur:0<cur.size):(Extern.SlicesOverlaps.overlaps #[tS,tS] #[tR] #[.slice (some a) la ca,.slice (some b) lb cb]).run P w=.ok (.bool false) w:=by
 have hnb:(a.block !=b.block)=true:=by simpa using hne
 have hnb':(a.block==b.block)=false:=by simpa using hne
 have hfb:∀n,w.frozen? ⟨b.block,n,none⟩=false:=fun n=>by simp[World.frozen?,hb]
 have hfb':w.frozen? b=false:=by simp[World.frozen?,hb]
 have hsb:w.shape? b.block=some (tb,cur.size):=by simp[World.shape?,hb]
 obtain⟨ca',ta,fa,hca,hla⟩:∃c t f,w.heap[a.block]?=some (.cells c t f)/\0<c.size:=by
  unfold World.cell? at ha;split at ha
  ·rename_i c t f hc;refine⟨c,t,f,hc,?_⟩;split at ha;·cases ha
   ·have:=(q67.1 ha).1;omega
  ·cases ha
 have hsa:w.shape? a.block=some (ta,ca'.size):=by simp[World.shape?,hca]
 change Sem.run P (α:=Value) (do
  let some t:=(#[tS,tS]:Array TypeId)[0]?|stuck "slices.overlaps: no parameter types"
  let .slice elem<-underlying t|stuck "slices.overlaps: slice type expected"
  let size<-sizeOf elem match(some a:Option Addr),(some b:Option Addr) with
  |some a,some b=>if la=0\/lb=0\/size=0 then pure (Value.bool false) else if a.block !=b.block&&(<-frozen a)&&(<-frozen b) then unsupported .addressObserved else do
    if a.block !=b.block then do noView a;noView b if<-mayBeOne a b then return Value.bool ((<-choose (.extern "sameAddr.stringBytes" 2))==1)
    pure (Value.bool (a.block==b.block&&a.off<b.off+lb*size&&b.off<a.off+la*size))|_,_=>pure (Value.bool false)) w=_;by_cases h0:la=0\/lb=0\/size=0;·simp[run_underlying ht,hz,h0]
 ·obtain⟨m,hm⟩:∃m,cur.size=m+1:=⟨cur.size-1,by omega⟩;obtain⟨m',hm'⟩:∃m,ca'.size=m+1:=⟨ca'.size-1,by omega⟩;rw[hm]at hsb;rw[hm']at hsa;cases hfa:w.frozen? a<;>cases hfe:w.frozen? ⟨a.block,m'+1,none⟩<;>simp[run_underlying ht,hz,h0,hnb,hnb',frozen,noView,viewAt,mayBeOne,stringish,shape,Sem.run,hsa,hsb,hfb,hfb',hfa,hfe]
def lx:∃inf z,Tryz.prog.info? 86=some inf/\inf.zero=some z/\z.cells.size=inf.size/\inf.size=2/\inf.bytes=24:=by refine⟨_,_,rfl,rfl,?_,?_,?_⟩<;>kernel_rfl
def Es (w:World) (V:Value) (rows:List (List PV)) (hs2:∀r∈rows,r.length=2) (hp:dI rows) (hsm:rows.length<=1000000) (nm:List UInt8) (id:Int) (hown:w.ownsRow 0 86 2 V rows.length (cellW rows)) (ad:Addr) (c:Nat) (h0:w.cell? (ad.add 0)=some (.string ⟨nm.toArray⟩)) (h1:w.cell? (ad.add 1)=some (.int .u64 id)):Calls Tryz.prog 170 #[V,.int .i64 rows.length,.slice (some ad) 1 c] w fun r w'=>∃V',r=.returned V'/\w'.ownsRow 0 86 2 V' (rows.length+1) (cellW rows++[.string ⟨nm.toArray⟩,.int .u64 id])/\w.grownBy w' V.ownBlock/\(∀b,V'.ownBlock=some b->V.ownBlock=some b\/w.heap.size<=b):=by
 obtain⟨inf,z,hi,hz,hzs,hsz,hby⟩:=lx;have hsrc:Src Tryz.prog inf.size 32 (.slice (some ad) 1 c) 1 [.string ⟨nm.toArray⟩,.int .u64 id] w:=by
  rw[hsz];refine Src.ofSlice w Tryz.underlying32 ad 1 c _ (by simp) (fun j u hj=>?_) (fun u hu=>?_);·match j with|0=>simp at hj;subst hj;exact h0|1=>simp at hj;subst hj;exact h1|j+2=>simp at hj
  ·simp only[q78,q102,or_false]at hu;rcases hu with rfl|rfl<;>rfl
 rw[<-hsz]at hown;obtain⟨v',w',hrun,hown',hg,hbl⟩:=rB w 33 32 33 86 inf z Tryz.underlying33 hi hz hzs (by omega) V rows.length (cellW rows) hown (.slice (some ad) 1 c) 1 _ hsrc (by unfold maxLen;omega) (by rw[hby];omega);rw[hsz]at hown' hown;have hfin:∃V',(Ending.returned v':Ending)=.returned V'/\w'.ownsRow 0 86 2 V' (rows.length+1) (cellW rows++[.string ⟨nm.toArray⟩,.int .u64 id])/\w.grownBy w' V.ownBlock/\(∀b,V'.ownBlock=some b->V.ownBlock=some b\/w.heap.size<=b):=⟨v',rfl,hown',hg,fun b hb=>by
  rcases hbl with h|h;·rw[h]at hb;exact .inl hb
  ·rw[h]at hb;injection hb with hb;exact .inr (by omega)⟩;have key:∀Φ:Ending->World->Prop,Φ (.returned v') w'->Calls Tryz.prog 170 #[V,.int .i64 rows.length,.slice (some ad) 1 c] w Φ:=by
  intro Φ hΦ;rcases hown.2 with⟨rfl,hn⟩|⟨g,cap,cur,rfl,hb0,hg0,hnc,hcm,hcs,htk⟩;·obtain rfl:rows=[]:=q76 hn;simp only[q91];clear hown hbl hg hown' hfin;go_enter Tryz.func170,Tryz.ntmps170;go_wp2_with(at_builtin;refine q184 _ rfl _ _ _ _ rfl _ _ rfl rfl _ _ hrun ?_);all_goals exact hΦ
  ·generalize hn:rows.length=n at*;have e1:(0:Int)<=(n:Int):=by omega
   have e2:(n:Int)<=(n:Int):=by omega
   clear hown hbl hg hown' hfin;go_enter Tryz.func170,Tryz.ntmps170;go_wp2_with(at_builtin;refine q184 _ rfl _ _ _ _ rfl _ _ rfl rfl _ _ hrun ?_);all_goals exact hΦ
 exact key _ hfin
def jL {sz:Nat}:∀{rows:List (List PV)} (i:Nat),(∀r∈rows,r.length=sz)->cellW (rows.take i)=(cellW rows).take (i*sz)
 |[],i,_=>by simp[cellW]|r::rows,0,_=>by simp[cellW]|r::rows,i+1,h=>by
  have ih:=jL (rows:=rows) i fun r hr=>h r (by simp[hr]);have h0:=h r (by simp);unfold cellW at ih |-;simp only[List.take_succ_cons,q99,ih];have e1:(i+1)*sz-(r.map Ku).length=i*sz:=by rw[List.length_map,h0,q120];omega
  have e2:(r.map Ku).take ((i+1)*sz)=r.map Ku:=List.take_of_length_le (by rw[List.length_map,h0,q120];omega);rw[q199,e1,e2]
def pT  (i:Nat) (h:∀r∈rows,r.length=sz):cellW (rows.drop i)=(cellW rows).drop (i*sz):=by
 have h1:=jL i h;have h2:cellW (rows.take i)++cellW (rows.drop i)=cellW rows:=by rw[<-fy,q127]
 rw[h1]at h2;have h3:=q127 (i*sz) (cellW rows);exact q290 (h2.trans h3.symm)
set_option maxHeartbeats 8000000 in def DL (w:World) (rows:List (List PV)) (hs2:∀r∈rows,r.length=2) (hp:dI rows) (i n:Nat) (hn:rows.length=n) (hi:i<n) (hsm:n<=1000000) (nm:List UInt8) (id:Int) (g cap:Nat) (cur:Array Value) (hg0:w.heap[g]?=some (.cells cur 86 (0,0))) (hcm:cap<=maxLen) (hcs:cur.size=cap*2) (htk:cur.toList.take (n*2)=cellW rows) (hroom:n+1<=cap) (ad:Addr) (c:Nat) (hb:ad.block≠g) (h0:w.cell? (ad.add 0)=some (.string ⟨nm.toArray⟩)) (h1:w.cell? (ad.add 1)=some (.int .u64 id)):Calls Tryz.prog 170 #[.slice (some ⟨g,0,none⟩) n cap,.int .i64 i,.slice (some ad) 1 c] w fun r w'=>∃V',r=.returned V'/\w'.ownsRow 0 86 2 V' (n+1) ((cellW rows).take (i*2)++[.string ⟨nm.toArray⟩,.int .u64 id]++(cellW rows).drop (i*2))/\w.grownBy w' (Value.slice (some ⟨g,0,none⟩) n cap).ownBlock/\(∀b,V'.ownBlock=some b->(Value.slice (some ⟨g,0,none⟩) n cap).ownBlock=some b\/w.heap.size<=b):=by
 obtain⟨inf,z,hi',hz,hzs,hsz,hby⟩:=lx;have hszm:(Tryz.prog.info? 86).map (·.size)=some 2:=by rw[hi'];simp[hsz]
 have hcl:(cellW rows).length=n*2:=by rw[fv hs2,hn]
 obtain⟨cs,hcse⟩:∃cs,cs=(cellW rows).drop (i*2):=⟨_,rfl⟩;have hcsl:cs.length=(n-i)*2:=by rw[hcse,q88,hcl];omega
 have hcur:cur.toList.length=cap*2:=by simpa using hcs
 have hone:=lE hp;obtain⟨X1,hX1⟩:∃X1,X1=(cur.toList.take ((i+1)*2)++cs++cur.toList.drop ((i+1)*2+cs.length)).toArray:=⟨_,rfl⟩;have hX1l:X1.size=cap*2:=by rw[hX1];simp only[q107,q65,q68,q88,hcur,hcsl];omega
 have hcell:∀j v,cs[j]?=some v->w.cell? ((⟨g,i*2,none⟩:Addr).add j)=some v:=by
  intro j v hj;rw[q100];have hjl:j<cs.length:=(q63.1 hj).1;rw[hcse,q89,<-htk,q81]at hj;split at hj;·simp only[World.cell?,hg0];simpa using hj
  ·cases hj
 have hcp1:∀sT ty dc sc,(Builtin.copy_ #[33,sT] ty #[.slice (some ⟨g,(i+1)*2,none⟩) (n-i) dc,.slice (some ⟨g,i*2,none⟩) (n+1-i) sc]).run Tryz.prog w.drew=.ok (goInt (n-i)) (w.drew.setRow g X1):=fun sT ty dc sc=>by have:=dG w.drew 33 sT ty 86 g ((i+1)*2) (n-i) dc ⟨g,i*2,none⟩ (n+1-i) sc 2 cur 86 cs Tryz.underlying33 hszm hg0 (by rw[hcsl];congr 1;simp only[q156];split<;>omega) hcell (by rw[hcsl,hcs];omega) (fun v hv=>hone v (by rw[hcse]at hv;exact q110 hv));rw[this,hX1];congr 2;simp only[q156];split<;>omega
 obtain⟨X2,hX2⟩:∃X2,X2=(X1.toList.take (i*2)++[Value.string ⟨nm.toArray⟩,Value.int .u64 id]++X1.toList.drop (i*2+2)).toArray:=⟨_,rfl⟩;have hcp2:∀W:World,W.heap=(w.drew.setRow g X1).heap->∀sT ty dc,(Builtin.copy_ #[33,sT] ty #[.slice (some ⟨g,i*2,none⟩) (n+1-i) dc,.slice (some ad) 1 c]).run Tryz.prog W=.ok (goInt 1) (W.setRow g X2):=fun W hW sT ty dc=>by
  have hWg:W.heap[g]?=some (.cells X1 86 (0,0)):=by rw[hW];exact setRow_heap w.drew g cur X1 _ _ hg0
  have hWc:∀x:Addr,x.block≠g->W.cell? x=w.cell? x:=fun x hx=>by have:(w.drew.setRow g X1).cell? x=w.drew.cell? x:=cell_setRow_other w.drew g X1 x hx;unfold World.cell? at this |-;rw[hW];exact this
  have:=dG W 33 sT ty 86 g (i*2) (n+1-i) dc ad 1 c 2 X1 86 [.string ⟨nm.toArray⟩,.int .u64 id] Tryz.underlying33 hszm hWg (by simp only[q70,q91,q156];split<;>omega) (fun j v hj=>by
   have hab:∀j,(ad.add j).block≠g:=fun j=>by rw[bN];exact hb
   match j with|0=>simp at hj;subst hj;rw[hWc _ (hab 0)];exact h0|1=>simp at hj;subst hj;rw[hWc _ (hab 1)];exact h1|j+2=>simp at hj) (by simp only[q70,q91,hX1l];omega) (by intro v hv;simp only[q78,q102,or_false]at hv;rcases hv with rfl|rfl<;>rfl);rw[this,hX2];congr 2;simp only[q156];split<;>omega
 have hzr:∀w,(Go.sizeOf 86).run Tryz.prog w=.ok 2 w:=fun w=>by rw[se hi' w,hsz]
 have hov:∀W:World,W.heap=w.heap->∀o lb cb,(callFunc 205 #[.slice (some ad) 1 c,.slice (some ⟨g,o,none⟩) lb cb]).run Tryz.prog W=.ok (.value (.bool false)) W:=fun W hW o lb cb=>by rw[run_callFunc_extern Tryz.func205 (by kernel_rfl) (by kernel_rfl) (by kernel_rfl) (e:=Extern.SlicesOverlaps.overlaps #[32,32] #[4]) (by kernel_rfl),kW W 32 4 86 Tryz.underlying32 2 hzr ad ⟨g,o,none⟩ 1 c lb cb hb (va:=.string ⟨nm.toArray⟩) (cur:=cur) (tb:=86) (by rw[add_zero']at h0;unfold World.cell? at h0 |-;rw[hW];exact h0) (by rw[hW];exact hg0) (by omega)];rfl
 have key:∀Φ:Ending->World->Prop,(∀w',w'.heap=((w.setRow g X1).setRow g X2).heap->w'.os=w.os->w'.tape=w.tape->w'.output=w.output->Φ (.returned (.slice (some ⟨g,0,none⟩) (n+1) cap)) w')->Calls Tryz.prog 170 #[.slice (some ⟨g,0,none⟩) n cap,.int .i64 i,.slice (some ad) 1 c] w Φ:=by
  intro Φ hΦ;have q1:¬((i:Int)=(n:Int)):=by omega
  have q2:¬((cap:Int)<(n:Int)+1):=by omega
  have q3:(i:Int)<=(n:Int):=by omega
  have q4:(n:Int)+1<=(cap:Int):=by omega
  have q5:(0:Int)<=(n:Int)+1:=by omega
  have q6:(i:Int)+1<=(n:Int)+1:=by omega
  have q7:IntKind.i64.wrap ((n:Int)+1)=(n:Int)+1:=by rw[q166];omega
  have q8:IntKind.i64.wrap ((i:Int)+1)=(i:Int)+1:=by rw[q166];omega
  have q9:((n:Int)+1).toNat=n+1:=by omega
  have q10:((i:Int)+1).toNat=i+1:=by omega
  have q11:(0:Int)<=(i:Int)+1:=by omega
  have q12:¬(cap=i+1):=by omega
  have q13:¬(cap=i):=by omega
  have q14:(i:Int)<=(n:Int)+1:=by omega
  have mixed:Tryz.prog.follows .mixedOrders=true:=by kernel_rfl
  clear hcell hone hX1 hX2 htk hcur;go_enter Tryz.func170,Tryz.ntmps170;go_wp2_with(simp only[hov]);go_region_law_o(refine step_copy_runI rfl _ _ 33 33 rfl _ _ (by simp[Act.eval,Act.put]) (by simp[Act.eval,Act.put]) (hcp1 _ _ _ _) ?_);go_wp2_with(at_builtin;refine wpList_copy_runI _ rfl _ _ 33 32 rfl _ _ rfl rfl (hcp2 _ rfl _ _ _) ?_);exact hΦ _ rfl rfl rfl rfl
 have hAt:(cellW rows).take (i*2)=cur.toList.take (i*2):=by rw[<-htk,q148,q103 (by omega)]
 have e1:X1.toList.take (i*2)=(cellW rows).take (i*2):=by rw[hX1,hAt];simp only[q77];rw[q111 (by rw[q68];omega),q148,q103 (by omega)]
 have e2:∃rest,X1.toList.drop (i*2+2)=cs++rest:=by refine⟨cur.toList.drop ((i+1)*2+cs.length),?_⟩;rw[hX1];simp only[q77];rw[show i*2+2=(cur.toList.take ((i+1)*2)).length from by rw[q68];omega,q106]
 obtain⟨rest,e2⟩:=e2;have hA2:((cellW rows).take (i*2)).length=i*2:=by rw[q68];omega
 have e3:X2.toList=((cellW rows).take (i*2)++[Value.string ⟨nm.toArray⟩,Value.int .u64 id]++(cellW rows).drop (i*2))++rest:=by rw[hX2,e1,e2,hcse];simp only[q77]
 have e4:((cellW rows).take (i*2)++[Value.string ⟨nm.toArray⟩,Value.int .u64 id]++(cellW rows).drop (i*2)).length=(n+1)*2:=by simp only[q65,hA2,q70,q91,q88,hcl];omega
 have hX2l:X2.size=cap*2:=by rw[hX2];simp only[q107,q65,q68,q88,q87,hX1l,q70,q91];omega
 refine key _ fun w' hh ho ht hou=>⟨_,rfl,⟨e4,.inr ⟨g,cap,X2,rfl,q95 _,?_,hroom,hcm,hX2l,?_⟩⟩,⟨ho,ht,hou,?_,?_⟩,fun b hb=>.inl hb⟩;·rw[hh];exact setRow_heap (w.setRow g X1) g X1 X2 _ _ (setRow_heap w g cur X1 _ _ hg0)
 ·rw[e3,<-e4];exact q138
 ·rw[hh];simp[World.setRow]
 ·intro k hk hne;have hkg:k≠g:=fun e=>hne (by rw[e];rfl);rw[hh,setRow_other _ g k _ hkg,setRow_other _ g k _ hkg]
def qQ:∃inf z,Tryz.prog.info? 84=some inf/\inf.zero=some z/\z.cells.size=inf.size/\inf.size=3/\inf.bytes=24:=by refine⟨_,_,rfl,rfl,?_,?_,?_⟩<;>kernel_rfl
def C2 (w:World) (V:Value) (rows:List (List PV)) (hs2:∀r∈rows,r.length=3) (hp:dI rows) (hsm:rows.length<=1000000) (n1 n2 n3:Int) (hown:w.ownsRow 0 84 3 V rows.length (cellW rows)) (ad:Addr) (c:Nat) (h0:w.cell? (ad.add 0)=some (.int .u64 n1)) (h1:w.cell? (ad.add 1)=some (.int .u64 n2)) (h2:w.cell? (ad.add 2)=some (.int .u64 n3)):Calls Tryz.prog 131 #[V,.int .i64 rows.length,.slice (some ad) 1 c] w fun r w'=>∃V',r=.returned V'/\w'.ownsRow 0 84 3 V' (rows.length+1) (cellW rows++[.int .u64 n1,.int .u64 n2,.int .u64 n3])/\w.grownBy w' V.ownBlock/\(∀b,V'.ownBlock=some b->V.ownBlock=some b\/w.heap.size<=b):=by
 obtain⟨inf,z,hi,hz,hzs,hsz,hby⟩:=qQ;have hsrc:Src Tryz.prog inf.size 34 (.slice (some ad) 1 c) 1 [.int .u64 n1,.int .u64 n2,.int .u64 n3] w:=by
  rw[hsz];refine Src.ofSlice w Tryz.underlying34 ad 1 c _ (by simp) (fun j u hj=>?_) (fun u hu=>?_);·match j with|0=>simp at hj;subst hj;exact h0|1=>simp at hj;subst hj;exact h1|2=>simp at hj;subst hj;exact h2|j+3=>simp at hj
  ·simp only[q78,q102,or_false]at hu;rcases hu with rfl|rfl|rfl<;>rfl
 rw[<-hsz]at hown;obtain⟨v',w',hrun,hown',hg,hbl⟩:=rB w 34 34 34 84 inf z Tryz.underlying34 hi hz hzs (by omega) V rows.length (cellW rows) hown (.slice (some ad) 1 c) 1 _ hsrc (by unfold maxLen;omega) (by rw[hby];omega);rw[hsz]at hown' hown;have hfin:∃V',(Ending.returned v':Ending)=.returned V'/\w'.ownsRow 0 84 3 V' (rows.length+1) (cellW rows++[.int .u64 n1,.int .u64 n2,.int .u64 n3])/\w.grownBy w' V.ownBlock/\(∀b,V'.ownBlock=some b->V.ownBlock=some b\/w.heap.size<=b):=⟨v',rfl,hown',hg,fun b hb=>by
  rcases hbl with h|h;·rw[h]at hb;exact .inl hb
  ·rw[h]at hb;injection hb with hb;exact .inr (by omega)⟩;have key:∀Φ:Ending->World->Prop,Φ (.returned v') w'->Calls Tryz.prog 131 #[V,.int .i64 rows.length,.slice (some ad) 1 c] w Φ:=by
  intro Φ hΦ;rcases hown.2 with⟨rfl,hn⟩|⟨g,cap,cur,rfl,hb0,hg0,hnc,hcm,hcs,htk⟩;·obtain rfl:rows=[]:=q76 hn;simp only[q91];clear hown hbl hg hown' hfin;go_enter Tryz.func131,Tryz.ntmps131;go_wp2_with(at_builtin;refine q184 _ rfl _ _ _ _ rfl _ _ rfl rfl _ _ hrun ?_);all_goals exact hΦ
  ·generalize hn:rows.length=n at*;have e1:(0:Int)<=(n:Int):=by omega
   have e2:(n:Int)<=(n:Int):=by omega
   clear hown hbl hg hown' hfin;go_enter Tryz.func131,Tryz.ntmps131;go_wp2_with(at_builtin;refine q184 _ rfl _ _ _ _ rfl _ _ rfl rfl _ _ hrun ?_);all_goals exact hΦ
 exact key _ hfin
set_option maxHeartbeats 8000000 in def Bm (w:World) (rows:List (List PV)) (hs2:∀r∈rows,r.length=3) (hp:dI rows) (i n:Nat) (hn:rows.length=n) (hi:i<n) (hsm:n<=1000000) (n1 n2 n3:Int) (g cap:Nat) (cur:Array Value) (hg0:w.heap[g]?=some (.cells cur 84 (0,0))) (hcm:cap<=maxLen) (hcs:cur.size=cap*3) (htk:cur.toList.take (n*3)=cellW rows) (hroom:n+1<=cap) (ad:Addr) (c:Nat) (hb:ad.block≠g) (h0:w.cell? (ad.add 0)=some (.int .u64 n1)) (h1:w.cell? (ad.add 1)=some (.int .u64 n2)) (h2:w.cell? (ad.add 2)=some (.int .u64 n3)):Calls Tryz.prog 131 #[.slice (some ⟨g,0,none⟩) n cap,.int .i64 i,.slice (some ad) 1 c] w fun r w'=>∃V',r=.returned V'/\w'.ownsRow 0 84 3 V' (n+1) ((cellW rows).take (i*3)++[.int .u64 n1,.int .u64 n2,.int .u64 n3]++(cellW rows).drop (i*3))/\w.grownBy w' (Value.slice (some ⟨g,0,none⟩) n cap).ownBlock/\(∀b,V'.ownBlock=some b->(Value.slice (some ⟨g,0,none⟩) n cap).ownBlock=some b\/w.heap.size<=b):=by
 obtain⟨inf,z,hi',hz,hzs,hsz,hby⟩:=qQ;have hszm:(Tryz.prog.info? 84).map (·.size)=some 3:=by rw[hi'];simp[hsz]
 have hcl:(cellW rows).length=n*3:=by rw[fv hs2,hn]
 obtain⟨cs,hcse⟩:∃cs,cs=(cellW rows).drop (i*3):=⟨_,rfl⟩;have hcsl:cs.length=(n-i)*3:=by rw[hcse,q88,hcl];omega
 have hcur:cur.toList.length=cap*3:=by simpa using hcs
 have hone:=lE hp;obtain⟨X1,hX1⟩:∃X1,X1=(cur.toList.take ((i+1)*3)++cs++cur.toList.drop ((i+1)*3+cs.length)).toArray:=⟨_,rfl⟩;have hX1l:X1.size=cap*3:=by rw[hX1];simp only[q107,q65,q68,q88,hcur,hcsl];omega
 have hcell:∀j v,cs[j]?=some v->w.cell? ((⟨g,i*3,none⟩:Addr).add j)=some v:=by
  intro j v hj;rw[q100];have hjl:j<cs.length:=(q63.1 hj).1;rw[hcse,q89,<-htk,q81]at hj;split at hj;·simp only[World.cell?,hg0];simpa using hj
  ·cases hj
 have hcp1:∀sT ty dc sc,(Builtin.copy_ #[34,sT] ty #[.slice (some ⟨g,(i+1)*3,none⟩) (n-i) dc,.slice (some ⟨g,i*3,none⟩) (n+1-i) sc]).run Tryz.prog w.drew=.ok (goInt (n-i)) (w.drew.setRow g X1):=fun sT ty dc sc=>by have:=dG w.drew 34 sT ty 84 g ((i+1)*3) (n-i) dc ⟨g,i*3,none⟩ (n+1-i) sc 3 cur 84 cs Tryz.underlying34 hszm hg0 (by rw[hcsl];congr 1;simp only[q156];split<;>omega) hcell (by rw[hcsl,hcs];omega) (fun v hv=>hone v (by rw[hcse]at hv;exact q110 hv));rw[this,hX1];congr 2;simp only[q156];split<;>omega
 obtain⟨X2,hX2⟩:∃X2,X2=(X1.toList.take (i*3)++[Value.int .u64 n1,Value.int .u64 n2,Value.int .u64 n3]++X1.toList.drop (i*3+3)).toArray:=⟨_,rfl⟩;have hcp2:∀W:World,W.heap=(w.drew.setRow g X1).heap->∀sT ty dc,(Builtin.copy_ #[34,sT] ty #[.slice (some ⟨g,i*3,none⟩) (n+1-i) dc,.slice (some ad) 1 c]).run Tryz.prog W=.ok (goInt 1) (W.setRow g X2):=fun W hW sT ty dc=>by
  have hWg:W.heap[g]?=some (.cells X1 84 (0,0)):=by rw[hW];exact setRow_heap w.drew g cur X1 _ _ hg0
  have hWc:∀x:Addr,x.block≠g->W.cell? x=w.cell? x:=fun x hx=>by have:(w.drew.setRow g X1).cell? x=w.drew.cell? x:=cell_setRow_other w.drew g X1 x hx;unfold World.cell? at this |-;rw[hW];exact this
  have:=dG W 34 sT ty 84 g (i*3) (n+1-i) dc ad 1 c 3 X1 84 [.int .u64 n1,.int .u64 n2,.int .u64 n3] Tryz.underlying34 hszm hWg (by simp only[q70,q91,q156];split<;>omega) (fun j v hj=>by
   have hab:∀j,(ad.add j).block≠g:=fun j=>by rw[bN];exact hb
   match j with|0=>simp at hj;subst hj;rw[hWc _ (hab 0)];exact h0|1=>simp at hj;subst hj;rw[hWc _ (hab 1)];exact h1|2=>simp at hj;subst hj;rw[hWc _ (hab 2)];exact h2|j+3=>simp at hj) (by simp only[q70,q91,hX1l];omega) (by intro v hv;simp only[q78,q102,or_false]at hv;rcases hv with rfl|rfl|rfl<;>rfl);rw[this,hX2];congr 2;simp only[q156];split<;>omega
 have hzr:∀w,(Go.sizeOf 84).run Tryz.prog w=.ok 3 w:=fun w=>by rw[se hi' w,hsz]
 have hov:∀W:World,W.heap=w.heap->∀o lb cb,(callFunc 164 #[.slice (some ad) 1 c,.slice (some ⟨g,o,none⟩) lb cb]).run Tryz.prog W=.ok (.value (.bool false)) W:=fun W hW o lb cb=>by rw[run_callFunc_extern Tryz.func164 (by kernel_rfl) (by kernel_rfl) (by kernel_rfl) (e:=Extern.SlicesOverlaps.overlaps #[34,34] #[4]) (by kernel_rfl),kW W 34 4 84 Tryz.underlying34 3 hzr ad ⟨g,o,none⟩ 1 c lb cb hb (va:=.int .u64 n1) (cur:=cur) (tb:=84) (by rw[add_zero']at h0;unfold World.cell? at h0 |-;rw[hW];exact h0) (by rw[hW];exact hg0) (by omega)];rfl
 have key:∀Φ:Ending->World->Prop,(∀w',w'.heap=((w.setRow g X1).setRow g X2).heap->w'.os=w.os->w'.tape=w.tape->w'.output=w.output->Φ (.returned (.slice (some ⟨g,0,none⟩) (n+1) cap)) w')->Calls Tryz.prog 131 #[.slice (some ⟨g,0,none⟩) n cap,.int .i64 i,.slice (some ad) 1 c] w Φ:=by
  intro Φ hΦ;have q1:¬((i:Int)=(n:Int)):=by omega
  have q2:¬((cap:Int)<(n:Int)+1):=by omega
  have q3:(i:Int)<=(n:Int):=by omega
  have q4:(n:Int)+1<=(cap:Int):=by omega
  have q5:(0:Int)<=(n:Int)+1:=by omega
  have q6:(i:Int)+1<=(n:Int)+1:=by omega
  have q7:IntKind.i64.wrap ((n:Int)+1)=(n:Int)+1:=by rw[q166];omega
  have q8:IntKind.i64.wrap ((i:Int)+1)=(i:Int)+1:=by rw[q166];omega
  have q9:((n:Int)+1).toNat=n+1:=by omega
  have q10:((i:Int)+1).toNat=i+1:=by omega
  have q11:(0:Int)<=(i:Int)+1:=by omega
  have q12:¬(cap=i+1):=by omega
  have q13:¬(cap=i):=by omega
  have q14:(i:Int)<=(n:Int)+1:=by omega
  have mixed:Tryz.prog.follows .mixedOrders=true:=by kernel_rfl
  clear hcell hone hX1 hX2 htk hcur;go_enter Tryz.func131,Tryz.ntmps131;go_wp2_with(simp only[hov]);go_region_law_o(refine step_copy_runI rfl _ _ 34 34 rfl _ _ (by simp[Act.eval,Act.put]) (by simp[Act.eval,Act.put]) (hcp1 _ _ _ _) ?_);go_wp2_with(at_builtin;refine wpList_copy_runI _ rfl _ _ 34 34 rfl _ _ rfl rfl (hcp2 _ rfl _ _ _) ?_);exact hΦ _ rfl rfl rfl rfl
 have hAt:(cellW rows).take (i*3)=cur.toList.take (i*3):=by rw[<-htk,q148,q103 (by omega)]
 have e1:X1.toList.take (i*3)=(cellW rows).take (i*3):=by rw[hX1,hAt];simp only[q77];rw[q111 (by rw[q68];omega),q148,q103 (by omega)]
 have e2:∃rest,X1.toList.drop (i*3+3)=cs++rest:=by refine⟨cur.toList.drop ((i+1)*3+cs.length),?_⟩;rw[hX1];simp only[q77];rw[show i*3+3=(cur.toList.take ((i+1)*3)).length from by rw[q68];omega,q106]
 obtain⟨rest,e2⟩:=e2;have hA2:((cellW rows).take (i*3)).length=i*3:=by rw[q68];omega
 have e3:X2.toList=((cellW rows).take (i*3)++[Value.int .u64 n1,Value.int .u64 n2,Value.int .u64 n3]++(cellW rows).drop (i*3))++rest:=by rw[hX2,e1,e2,hcse];simp only[q77]
 have e4:((cellW rows).take (i*3)++[Value.int .u64 n1,Value.int .u64 n2,Value.int .u64 n3]++(cellW rows).drop (i*3)).length=(n+1)*3:=by simp only[q65,hA2,q70,q91,q88,hcl];omega
 have hX2l:X2.size=cap*3:=by rw[hX2];simp only[q107,q65,q68,q88,q87,hX1l,q70,q91];omega
 refine key _ fun w' hh ho ht hou=>⟨_,rfl,⟨e4,.inr ⟨g,cap,X2,rfl,q95 _,?_,hroom,hcm,hX2l,?_⟩⟩,⟨ho,ht,hou,?_,?_⟩,fun b hb=>.inl hb⟩;·rw[hh];exact setRow_heap (w.setRow g X1) g X1 X2 _ _ (setRow_heap w g cur X1 _ _ hg0)
 ·rw[e3,<-e4];exact q138
 ·rw[hh];simp[World.setRow]
 ·intro k hk hne;have hkg:k≠g:=fun e=>hne (by rw[e];rfl);rw[hh,setRow_other _ g k _ hkg,setRow_other _ g k _ hkg]
set_option maxHeartbeats 8000000 in
def Bj (w:World) (rows:List (List PV)) (hs2:∀r∈rows,r.length=3) (hp:dI rows) (i n:Nat) (hn:rows.length=n) (hi:i < n) (hsm:n<=1000000) (n1 n2 n3:Int)
 (g cap:Nat) (cur:Array Value) (hg0:w.heap[g]? = some (.cells cur 84 (0,0))) (hnc:n<=cap) (hcs:cur.size=cap*3) (htk:cur.toList.take (n*3)=cellW rows) (hroom:cap < n+1) (ad:Addr) (c:Nat)
 (h0:w.cell? (ad.add 0)=some (.int .u64 n1)) (h1:w.cell? (ad.add 1)=some (.int .u64 n2)) (h2:w.cell? (ad.add 2)=some (.int .u64 n3)) :
 Calls Tryz.prog 131 #[.slice (some ⟨g,0,none⟩) n cap,.int .i64 i,.slice (some ad) 1 c] w fun r w'=>∃V',r=.returned V' /\
  w'.ownsRow 0 84 3 V' (n+1) ((cellW rows).take (i*3)++[.int .u64 n1,.int .u64 n2,.int .u64 n3]++(cellW rows).drop (i*3))/\w.grownBy w' (Value.slice (some ⟨g,0,none⟩) n cap).ownBlock/\(∀b,V'.ownBlock=some b->(Value.slice (some ⟨g,0,none⟩) n cap).ownBlock=some b\/w.heap.size<=b):=by
 obtain⟨inf,z,hi',hz,hzs,hsz,hby⟩:=qQ
 have hszm:(Tryz.prog.info? 84).map (·.size)=some 3:=by rw [hi'];simp[hsz]
 have hcl:(cellW rows).length=n*3:=by rw [fv hs2,hn]
 obtain⟨cs,hcse⟩:∃cs,cs=(cellW rows).drop (i*3):=⟨_,rfl⟩
 have hcsl:cs.length=(n - i)*3:=by rw [hcse,q88,hcl];omega
 have hcur:cur.toList.length=cap*3:=by simpa using hcs
 have hone:=lE hp
 have hgw:g < w.heap.size:=(q67.1 hg0).1
 have hadw:ad.block < w.heap.size:=by
  have:=h0
  rw [add_zero']at this
  unfold World.cell? at this
  split at this
  ·rename_i hq;exact (q67.1 hq).1
  ·cases this
 have hcellA:∀j v,(cellW rows)[j]? = some v->w.cell? ⟨g,j,none⟩=some v:=by
  intro j v hj
  rw [<-htk,q81]at hj
  split at hj
  ·simp only [World.cell?,hg0]
   simpa using hj
  ·cases hj
 have hold:(Builtin.firstCells inf.size i (.slice (some ⟨g,0,none⟩) i cap)).run Tryz.prog w.drew=.ok ((cellW rows).take (i*3)).toArray w.drew:=by
  rw [hsz]
  exact run_firstCells_some w.drew 3 i ⟨g,0,none⟩ i cap _ (by rw [q68];omega) (fun j v hj=>by
   rw [q100]
   rw [q81]at hj
   split at hj
   ·rw [q126];exact hcellA j v hj
   ·cases hj)
 have hkk:(n:Int)+1 - (i:Int)=((n+1 - i:Nat):Int):=by omega
 have hrz:∀ty,(Builtin.append_ #[34,3] ty #[.slice (some ⟨g,0,none⟩) i cap,.int .i64 ((n:Int)+1 - (i:Int))]).run Tryz.prog w =
  .ok (.slice (some ⟨w.heap.size,0,none⟩) (n+1) (grownCap w (n+1) cap 84)) (w.drew.alloc (.cells (((cellW rows).take (i*3)).toArray++Builtin.zeroCells z.cells (n+1 - i)++Builtin.zeroCells z.cells (grownCap w (n+1) cap 84 - (n+1))) 84)):=fun ty=>by
  have h:=q279 w 34 3 ty 84 inf z .i64 .i64 Tryz.underlying34 Tryz.underlying3 hi' hz (some ⟨g,0,none⟩) i cap ((cellW rows).take (i*3)) hold (n+1 - i) (by omega) (by omega) (by omega) (by omega) (by rw [hby];omega) (by rw [hby];exact growslice_fits (by omega) (by omega))
  rw [show i+(n+1 - i)=n+1 from by omega]at h
  rw [hkk]
  exact h
 have hGn:n+1<=grownCap w (n+1) cap 84:=grownCap_ge w _ _ _
 have hGm:grownCap w (n+1) cap 84<=maxLen:=grownCap_le_maxLen w (n+1) cap _ (by unfold maxLen;omega)
 generalize grownCap w (n+1) cap 84=G at hrz hGn hGm
 obtain⟨ROW,hROW⟩:∃ROW,ROW=((cellW rows).take (i*3)).toArray++Builtin.zeroCells z.cells (n+1 - i)++Builtin.zeroCells z.cells (G - (n+1)):=⟨_,rfl⟩
 rw [<-hROW]at hrz
 have hRl:ROW.size=G*3:=by
  rw [hROW];simp only [q239,q107,q68,hcl,size_zeroCells,hzs,hsz];omega
 have hRt:ROW.toList.take (i*3)=(cellW rows).take (i*3):=by
  rw [hROW]
  simp only [q230,q77]
  rw [q111 (by rw [q68,hcl];omega),List.take_of_length_le (by rw [q68];omega)]
 obtain⟨N,hN⟩:∃N,N=w.heap.size:=⟨_,rfl⟩
 obtain⟨W1,hW1⟩:∃W1,W1=w.drew.alloc (.cells ROW 84):=⟨_,rfl⟩
 have hW1N:W1.heap[N]? = some (.cells ROW 84 (0,0)):=by rw [hW1,hN];exact heap_alloc_new w.drew _
 have hW1o:∀k,k < w.heap.size->W1.heap[k]? = w.heap[k]?:=fun k hk=>by rw [hW1];exact q197 w.drew _ k hk
 obtain⟨X1,hX1⟩:∃X1,X1=(ROW.toList.take (i*3)++[Value.int .u64 n1,Value.int .u64 n2,Value.int .u64 n3]++ROW.toList.drop (i*3+3)).toArray:=⟨_,rfl⟩
 have hX1l:X1.size=G*3:=by
  rw [hX1];simp only [q107,q65,q68,q88,q87,hRl,q70,q91];omega
 have hold':∀W:World,(∀k,k < w.heap.size->W.heap[k]? = w.heap[k]?)->∀x:Addr,x.block < w.heap.size->W.cell? x=w.cell? x:=fun W hW x hx=>by
  unfold World.cell?
  rw [hW _ hx]
 have hcpA:∀W:World,W.heap=W1.heap->∀sT ty dc,(Builtin.copy_ #[34,sT] ty #[.slice (some ⟨N,i*3,none⟩) (n+1 - i) dc,.slice (some ad) 1 c]).run Tryz.prog W=.ok (goInt 1) (W.setRow N X1):=fun W hW sT ty dc=>by
  have:=dG W 34 sT ty 84 N (i*3) (n+1 - i) dc ad 1 c 3 ROW 84 [.int .u64 n1,.int .u64 n2,.int .u64 n3] Tryz.underlying34 hszm (by rw [hW];exact hW1N)
   (by simp only [q70,q91,q156];split<;>omega)
   (fun j v hj=>by
    have hab:∀j,(ad.add j).block < w.heap.size:=fun j=>by rw [bN];exact hadw
    have ho:∀k,k < w.heap.size->W.heap[k]? = w.heap[k]?:=fun k hk=>by rw [hW];exact hW1o k hk
    match j with
    | 0=>simp at hj;subst hj;rw [hold' W ho _ (hab 0)];exact h0
    | 1=>simp at hj;subst hj;rw [hold' W ho _ (hab 1)];exact h1
    | 2=>simp at hj;subst hj;rw [hold' W ho _ (hab 2)];exact h2
    |j+3=>simp at hj)
   (by simp only [q70,q91,hRl];omega) (by
    intro v hv
    simp only [q78,q102,or_false]at hv
    rcases hv with rfl | rfl | rfl<;>rfl)
  rw [this,hX1]
  congr 2
  simp only [q156];split<;>omega
 obtain⟨X2,hX2⟩:∃X2,X2=(X1.toList.take ((i+1)*3)++cs++X1.toList.drop ((i+1)*3+cs.length)).toArray:=⟨_,rfl⟩
 have hX2l:X2.size=G*3:=by
  rw [hX2];simp only [q107,q65,q68,q88,q87,hX1l,hcsl];omega
 have hW2o:∀k,k < w.heap.size->(W1.setRow N X1).heap[k]? = w.heap[k]?:=fun k hk=>by rw [setRow_other _ N k _ (by omega)];exact hW1o k hk
 have hcpB:∀W:World,W.heap=(W1.setRow N X1).heap->∀sT ty dc sc,(Builtin.copy_ #[34,sT] ty #[.slice (some ⟨N,(i+1)*3,none⟩) (n - i) dc,.slice (some ⟨g,i*3,none⟩) (n - i) sc]).run Tryz.prog W=.ok (goInt (n - i)) (W.setRow N X2):=fun W hW sT ty dc sc=>by
  have:=dG W 34 sT ty 84 N ((i+1)*3) (n - i) dc ⟨g,i*3,none⟩ (n - i) sc 3 X1 84 cs Tryz.underlying34 hszm
   (by rw [hW];exact setRow_heap W1 N ROW X1 _ _ hW1N)
   (by rw [hcsl];congr 1;simp only [q156];split<;>omega)
   (fun j v hj=>by
    rw [hold' W (fun k hk=>by rw [hW];exact hW2o k hk) _ (by rw [bN];exact hgw),q100]
    rw [hcse,q89]at hj
    exact hcellA _ v hj)
   (by rw [hcsl,hX1l];omega) (fun v hv=>hone v (by rw [hcse]at hv;exact q110 hv))
  rw [this,hX2]
  congr 2
  simp only [q156];split<;>omega
 have key:∀Φ:Ending->World->Prop,(∀w',w'.heap=((W1.setRow N X1).setRow N X2).heap->w'.os=w.os->w'.tape=w.tape->w'.output=w.output->Φ (.returned (.slice (some ⟨N,0,none⟩) (n+1) G)) w') ->
  Calls Tryz.prog 131 #[.slice (some ⟨g,0,none⟩) n cap,.int .i64 i,.slice (some ad) 1 c] w Φ:=by
  intro Φ hΦ
  have q1:¬ ((i:Int)=(n:Int)):=by omega
  have q2:(cap:Int) < (n:Int)+1:=by omega
  have q3:(i:Int)<=(n:Int):=by omega
  have q5:(0:Int)<=(n:Int)+1:=by omega
  have q6:(i:Int)+1<=(n:Int)+1:=by omega
  have q7:IntKind.i64.wrap ((n:Int)+1)=(n:Int)+1:=by rw [q166];omega
  have q8:IntKind.i64.wrap ((i:Int)+1)=(i:Int)+1:=by rw [q166];omega
  have q9:IntKind.i64.wrap ((n:Int)+1 - (i:Int))=(n:Int)+1 - (i:Int):=by rw [q166];omega
  have q10:((i:Int)+1).toNat=i+1:=by omega
  have q11:(0:Int)<=(i:Int)+1:=by omega
  have q12:¬ (G=i+1):=by omega
  have q13:¬ (G=i):=by omega
  have q14:(i:Int)<=(n:Int)+1:=by omega
  have q15:¬ (cap=i):=by omega
  have mixed:Tryz.prog.follows .mixedOrders=true:=by kernel_rfl
  have hΦ' : Φ (.returned (.slice (some ⟨N,0,none⟩) (n+1) G)) (((W1.setRow N X1).drew).setRow N X2):=hΦ _ rfl (by rw [hW1];rfl) (by rw [hW1];rfl) (by rw [hW1];rfl)
  rw [<-hW1]at hrz
  subst hN
  clear hkk hΦ hold hone hX1 hX2 htk hcur hROW hRt hW1N hW1o hW2o hold' hcellA hW1
  go_enter Tryz.func131,Tryz.ntmps131
  go_wp2_with (first
   | (at_builtin;refine q184 _ rfl _ _ _ _ rfl _ _ rfl rfl _ _ (hrz _) ?_)
   | (at_builtin;refine wpList_copy_runI _ rfl _ _ 34 34 rfl _ _ rfl rfl (hcpA _ rfl _ _ _) ?_))
  go_region_law_o (refine step_copy_runI rfl _ _ 34 34 rfl (.slice (some ⟨w.heap.size,(i+1)*3,none⟩) (n - i) (G - (i+1))) (.slice (some ⟨g,i*3,none⟩) (n - i) (cap - i)) (by simp[Act.eval,Act.put]) (by simp[Act.eval,Act.put]) (hcpB (W1.setRow w.heap.size X1).drew rfl 34 3 (G - (i+1)) (cap - i)) ?_)
  go_wp2
  exact hΦ'
 have e1:X1.toList.take ((i+1)*3)=(cellW rows).take (i*3)++[Value.int .u64 n1,Value.int .u64 n2,Value.int .u64 n3]:=by
  rw [hX1,hRt]
  have hl:((cellW rows).take (i*3)++[Value.int .u64 n1,Value.int .u64 n2,Value.int .u64 n3]).length=(i+1)*3:=by
   simp only [q65,q68,hcl,q70,q91];omega
  rw [<-hl]
  exact q138
 have e3:X2.toList=((cellW rows).take (i*3)++[Value.int .u64 n1,Value.int .u64 n2,Value.int .u64 n3]++(cellW rows).drop (i*3))++X1.toList.drop ((i+1)*3+cs.length):=by
  rw [hX2,e1,hcse]
 have e4:((cellW rows).take (i*3)++[Value.int .u64 n1,Value.int .u64 n2,Value.int .u64 n3]++(cellW rows).drop (i*3)).length=(n+1)*3:=by
  simp only [q65,q68,q70,q91,q88,hcl];omega
 refine key _ fun w' hh ho ht hou=>⟨_,rfl,⟨e4,.inr ⟨N,G,X2,rfl,q95 _,?_,hGn,hGm,hX2l,?_⟩⟩,⟨ho,ht,hou,?_,?_⟩,fun b hb=>.inr ?_⟩
 ·rw [hh]
  exact setRow_heap (W1.setRow N X1) N X1 X2 _ _ (setRow_heap W1 N ROW X1 _ _ hW1N)
 ·rw [e3,<-e4];exact q138
 ·rw [hh,hW1];simp[World.setRow]
 ·intro k hk hne
  rw [hh,setRow_other _ N k _ (by omega)]
  exact hW2o k hk
 ·simp[Value.ownBlock]at hb;omega
def iH (l:List Pn):dI (ay l):=by intro r hr p hp;simp only[ay,q83]at hr;obtain⟨e,_,rfl⟩:=hr;simp only[rowP,q78,q102,or_false]at hp;rcases hp with rfl|rfl|rfl<;>rfl
def Br (l:List Pn) (i:Nat) (e:Pn):List Pn:=l.take i++e::l.drop i
def Ep (l:List Pn) (i:Nat) (e:Pn):cellW (ay (Br l i e))=(cellW (ay l)).take (i*3)++[Value.int .u64 e.i,Value.int .u64 e.v,Value.int .u64 e.u]++(cellW (ay l)).drop (i*3):=by
 unfold Br;have h1:ay (l.take i)=(ay l).take i:=by simp[ay,q161]
 have h2:ay (l.drop i)=(ay l).drop i:=by simp[ay,q189]
 rw[show l.take i++e::l.drop i=l.take i++([e]++l.drop i) from rfl,gN,gN,fy,fy,h1,h2,jL i (cz l),pT i (cz l),q77];rfl
@[simp] noncomputable def PW:List AV->Option (Prop×AV)|[.fr e a,.pv (.int .i64 i),.pv (.ro [[.int .u64 x,.int .u64 y,.int .u64 z]])]=>if e=84 then(dec rowP a).map fun l=>(0<=i/\i<=l.length/\l.length<=1000000,.fr 84 (ay (Br l i.toNat ⟨x,y,z⟩))) else none|_=>none
def Td:pL Tryz.prog 131 PW:=by
 intro ys φ r h hφ;unfold PW at h;split at h
 ·rename_i e ra i n1 n2 n3;split at h
  ·rename_i hef;subst hef;obtain⟨l,hl,h⟩:=q900.1 h;cases h;cases aM hl;obtain⟨h0,h1,h2⟩:=hφ;obtain⟨k,rfl⟩:∃k:Nat,i=(k:Int):=⟨i.toNat,by omega⟩;simp only[q66];obtain⟨inf,z,hi,hz,hzs,hsz,hby⟩:=qQ;have hins:(Br l k ⟨n1,n2,n3⟩).length=l.length+1:=by unfold Br;simp;omega
   refine vC hi (rows:=ay l) (rows':=ay (Br l k ⟨n1,n2,n3⟩)) (by rw[hsz];exact cz l) (iH l) (by rw[hsz];exact cz _) (iH _) [.int .i64 (k:Int),.ro [[.int .u64 n1,.int .u64 n2,.int .u64 n3]]] ?_;intro w S V vals hown hS hlen hv;rw[hsz]at hown |-;match vals,hlen with
   |[v1,v2],_=>
    have e1:=(hv 0 v1 _ rfl rfl).aG;subst e1;obtain⟨A,c,rfl,hc,hne⟩:=(hv 1 v2 _ rfl rfl).gJ;obtain⟨ad,sz,us,rfl,g1,g2,g3,g4,g5⟩:=hne (by simp);have hs2:sz=3:=(g2 [.int .u64 n1,.int .u64 n2,.int .u64 n3] (by simp)).symm;subst hs2;have k0:w.cell? (ad.add 0)=some (.int .u64 n1):=by rw[<-(g5 0 0 _ _ rfl rfl).aG];exact g3 0 0 (by simp) (by omega)
    have k1:w.cell? (ad.add 1)=some (.int .u64 n2):=by rw[<-(g5 0 1 _ _ rfl rfl).aG];exact g3 0 1 (by simp) (by omega)
    have k2:w.cell? (ad.add 2)=some (.int .u64 n3):=by rw[<-(g5 0 2 _ _ rfl rfl).aG];exact g3 0 2 (by simp) (by omega)
    have hb:=(hS _ g1).2;rw[c9,hins,Ep];rw[c9]at hown;rcases q141 k l.length with hk|hk
    ·rcases hown.2 with⟨_,hn⟩|⟨g,cap,cur,rfl,hb0,hg0,hnc,hcm,hcs,htk⟩;·omega
     ·have hbg:ad.block≠g:=fun e=>hb (by rw[e];rfl);rcases q141 cap (l.length+1) with hr|hr;·exact Bj w (ay l) (cz l) (iH l) k l.length (c9 l) hk h2 n1 n2 n3 g cap cur hg0 hnc hcs htk hr ad c k0 k1 k2
      ·exact Bm w (ay l) (cz l) (iH l) k l.length (c9 l) hk h2 n1 n2 n3 g cap cur hg0 hcm hcs htk hr ad c hbg k0 k1 k2
    ·have hkl:k=l.length:=by omega
     subst hkl;have hcl:(cellW (ay l)).length=l.length*3:=by rw[fv (cz l),c9]
     rw[List.take_of_length_le (by omega),q298 (by omega),q130];have:=C2 w V (ay l) (cz l) (iH l) (by simpa using h2) n1 n2 n3 (by rw[c9];exact hown) ad c k0 k1 k2;rw[c9]at this;exact this
  ·cases h
 ·cases h
def kS:∀a:List UInt8,Op.bytesLess a a=false|[]=>rfl|a::x=>by simp[Op.bytesLess,kS x]
def lg:∀a b c:List UInt8,Op.bytesLess a b=true->Op.bytesLess b c=true->Op.bytesLess a c=true
 |_,[],_,h,_=>by simp[Op.bytesLess]at h|_,_::_,[],_,h=>by simp[Op.bytesLess]at h|[],_::_,_::_,_,_=>rfl|a::x,b::y,c::z,h1,h2=>by
  simp only[Op.bytesLess,q132,decide_eq_true_eq,q71,beq_iff_eq]at h1 h2 |-;rcases h1 with h1|⟨rfl,h1⟩
  ·rcases h2 with h2|⟨rfl,h2⟩;·exact .inl (UInt8.lt_trans h1 h2)
   ·exact .inl h1
  ·rcases h2 with h2|⟨rfl,h2⟩;·exact .inl h2
   ·exact .inr ⟨rfl,lg x y z h1 h2⟩
def BE:∀a b:List UInt8,Op.bytesLess a b=false->Op.bytesLess b a=false->a=b
 |[],[],_,_=>rfl|[],_::_,h,_=>by simp[Op.bytesLess]at h|_::_,[],_,h=>by simp[Op.bytesLess]at h|a::x,b::y,h1,h2=>by
  simp only[Op.bytesLess,q221,decide_eq_false_iff_not,q220,beq_eq_false_iff_ne]at h1 h2;have hab:a=b:=by apply q192.1;have h3:¬a.toNat<b.toNat:=h1.1;have h4:¬b.toNat<a.toNat:=h2.1;omega
  subst hab;have h3:=h1.2.resolve_left (fun h=>h rfl);have h4:=h2.2.resolve_left (fun h=>h rfl);rw[BE x y h3 h4]
def IZ {a b:List UInt8} (h:Op.bytesLess a b=true):Op.bytesLess b a=false:=by cases hb:Op.bytesLess b a with|false=>rfl|true=>have:=lg a b a h hb;rw[kS]at this;cases this
def tJ {a b:List UInt8} (h:Op.bytesLess a b=true):a≠b:=by rintro rfl;rw[kS]at h;cases h
structure En where
 n:List UInt8
 i:Int deriving DecidableEq
def fH (e:En):List PV:=[.str e.n,.int .u64 e.i]
def CR:∀a b,fH a=fH b->a=b:=by rintro⟨k,n⟩ ⟨k',n'⟩ h;simp only[fH,q112,PV.int.injEq,PV.str.injEq,true_and,and_true]at h;rw[h.1,h.2]
def bg (l:List En):List (List PV):=l.map fH
@[simp] def Xe:bg []=[]:=rfl
@[simp] def db (l:List En):(bg l).length=l.length:=by simp[bg]
def fu (l m:List En):bg (l++m)=bg l++bg m:=by simp[bg]
def dw (l:List En):∀r∈bg l,r.length=2:=by intro r hr;simp only[bg,q83]at hr;obtain⟨c,_,rfl⟩:=hr;rfl
def fg {l:List En} (h:i<l.length):rowAt (bg l) (i:Int)=[.str l[i].n,.int .u64 l[i].i]:=by simp[rowAt,bg,h,fH]
@[simp] def WX (l:List En):dec fH (bg l)=some l:=jl CR l
def bm {l:List En} (h:dec fH rows=some l):rows=bg l:=jq h
def aW (l:List En):bP (bg l):=by intro r hr p hp;simp only[bg,q83]at hr;obtain⟨c,_,rfl⟩:=hr;simp only[fH,q78,q102,or_false]at hp;rcases hp with rfl|rfl<;>rfl
def vG (s:List UInt8):List PV:=[.str s]
def LB:∀a b,vG a=vG b->a=b:=by intro a b h;simpa[vG]using h
def py (l:List (List UInt8)):List (List PV):=l.map vG
@[simp] def XP:py []=[]:=rfl
@[simp] def L7 (l:List (List UInt8)):(py l).length=l.length:=by simp[py]
def Jy {l:List (List UInt8)} (h:i<l.length):rowAt (py l) (i:Int)=[.str l[i]]:=by simp[rowAt,py,h,vG]
@[simp] def zU (l:List (List UInt8)):dec vG (py l)=some l:=jl LB l
def px {l:List (List UInt8)} (h:dec vG rows=some l):rows=py l:=jq h
@[simp] def dec_s1 (a:List UInt8):dec vG [[.str a]]=some [a]:=zU [a]
@[simp] def dec_s2 (a b:List UInt8):dec vG [[.str a],[.str b]]=some [a,b]:=zU [a,b]
def dL (s:List UInt8):Bool:=decide (s≠[])&&decide (s.length<=64)
@[simp] noncomputable def GNm:List AV->Option (Prop×AV)|[.pv (.ro a)]=>(dec vG a).map fun l=>(l.length<=1000000000,.pv (.bool (l.all dL)))|_=>none
def c_Nm:aL Tryz.prog 120 GNm:=by
 intro ys φ r h hφ;unfold GNm at h;split at h
 ·rename_i ra;obtain⟨a,ha,h⟩:=q900.1 h;cases h;cases px ha;refine aq ah (by kernel_rfl) (by conv=>lhs;reduce) (by simp) ?_;simp;refine au (fun i:Nat=>i<=a.length/\(a.take i).all dL=true) (fun i=>⟨[(0,.pv (.ro (py a))),(2,.pv (.bool false)),(5,.pv (.ro (py a))),(6,.pv (.int .i64 a.length)),(7,.pv (.int .i64 i))],[]⟩) (fun i=>a.length-i) [] 0 (by simp) ?_ ?_;·simp
  ·rintro i ⟨hi,ht⟩;have w2:IntKind.i64.wrap ((i:Int)+1)=(i:Int)+1:=wrap_i64 (by omega);by_cases hlt:i<a.length
   ·have r1:=Jy hlt;have hno:dL a[i]=false->a.all dL=false:=by intro h0;rw[List.all_eq_false];exact⟨a[i],q84 hlt,by simp[h0]⟩
    have hyes:dL a[i]=true->(a.take (i+1)).all dL=true:=by intro h0;rw[q64 hlt,List.all_append,ht];simp[h0]
    by_cases hz:a[i]=[];·have hf:=hno (by simp[dL,hz]);simp[w2,hlt,r1,hz,hf]
    ·by_cases hl:a[i].length<=64
     ·have hl':(a[i].length:Int)<=64:=by omega
      simp[w2,hlt,r1,hz,hl,hl'];exact⟨i+1,⟨by omega,by simpa using hyes (by simp[dL,hz,hl])⟩,by omega,by omega⟩
     ·have hl':¬(a[i].length:Int)<=64:=by omega
      have hf:=hno (by simp[dL,hl]);simp[w2,hlt,r1,hz,hl,hl',hf]
   ·rw[List.take_of_length_le (by omega)]at ht;simp[hlt,ht]
 ·cases h
@[simp] noncomputable def abi:List AV->Option (Prop×AV)|[.pv (.str s)]=>some (True,.pv (.bool (dL s)))|_=>none
def aai:aL Tryz.prog 117 abi:=by
 intro ys φ r h hφ;unfold abi at h;split at h
 ·rename_i s;cases h;refine aq ah (by kernel_rfl) (by conv=>lhs;reduce) (by simp) ?_;by_cases hz:s=[];·subst hz;simp[dL]
  ·have h1:(1:Int)<=s.length:=by have:=q202.2 hz;omega
   have hd:decide ((s.length:Int)<=64)=decide (s.length<=64):=by
    by_cases h:s.length<=64;·simp[h];omega
    ·simp[h];omega
   simp[dL,hz,h1,hd]
 ·cases h
def aP (l:List En):Bool:=l.all (fun e=>dL e.n&&decide (e.i≠0))&&decide (l.Pairwise fun a b=>Op.bytesLess a.n b.n=true/\a.i≠b.i)
def eH (l:List En):aP l=true↔(∀e∈l,dL e.n=true/\e.i≠0)/\l.Pairwise fun a b=>Op.bytesLess a.n b.n=true/\a.i≠b.i:=by simp only[aP,q71,q85,decide_eq_true_eq]
def nq (l:List En) (e:En):aP (l++[e])=true↔aP l=true/\dL e.n=true/\e.i≠0/\∀x∈l,Op.bytesLess x.n e.n=true/\x.i≠e.i:=by
 simp only[eH,q195,q75,q73,List.pairwise_singleton,true_and];constructor;·rintro⟨h1,h2,h3⟩;exact⟨⟨fun x hx=>h1 x (.inl hx),h2⟩,(h1 e (.inr rfl)).1,(h1 e (.inr rfl)).2,fun x hx=>h3 x hx e rfl⟩
 ·rintro⟨⟨h1,h2⟩,h3,h4,h5⟩;refine⟨?_,h2,?_⟩
  ·rintro x (hx|rfl);·exact h1 x hx
   ·exact⟨h3,h4⟩
  ·rintro x hx _ rfl;exact h5 x hx
def DK {l:List En} (k:Nat) (h:aP l=true):aP (l.take k)=true:=by rw[eH]at h |-;exact⟨fun e he=>h.1 e (q96 he),h.2.sublist (List.take_sublist k l)⟩
def uq {l:List En} (hlt:i<l.length) (h:¬(dL l[i].n=true/\l[i].i≠0/\∀x∈l.take i,Op.bytesLess x.n l[i].n=true/\x.i≠l[i].i)):aP l=false:=by cases hr:aP l with|false=>rfl|true=>have:=DK (i+1) hr;rw[q64 hlt,nq]at this;exact absurd this.2 h
def m7 {l:List En} (hlt:i<l.length) (h0:aP (l.take i)=true) (h1:dL l[i].n=true) (h2:l[i].i≠0) (h3:∀x∈l.take i,Op.bytesLess x.n l[i].n=true/\x.i≠l[i].i):aP (l.take (i+1))=true:=by rw[q64 hlt,nq];exact⟨h0,h1,h2,h3⟩
def CI {l:List En} (hlt:k+1<l.length) (h0:aP (l.take (k+1))=true) (h:Op.bytesLess l[k].n l[k+1].n=true):∀x∈l.take (k+1),Op.bytesLess x.n l[k+1].n=true:=by
 have hk:k<l.length:=by omega
 intro x hx;rw[q64 hk,nq]at h0;rw[q64 hk,q75,q73]at hx;rcases hx with hx|rfl;·exact lg _ _ _ (h0.2.2.2 x hx).1 h
 ·exact h
def mw (l:List En):List (PV×AV):=(.int .u64 0,.agg [])::l.map fun e=>(.int .u64 e.i,.agg [])
def Hq (l:List En) (n:Int):(getM (.int .u64 n) (mw l)).isSome=(decide (n=0)||l.any fun e=>decide (n=e.i)):=by
 unfold mw;have:∀l:List En,(getM (.int .u64 n) (l.map fun e=>(PV.int .u64 e.i,AV.agg []))).isSome=l.any fun e=>decide (n=e.i):=by intro l;induction l with|nil=>rfl|cons e l ih=>
  simp only[q74,getM,oH,q243];by_cases h:n=e.i;·simp[h]
  ·simp[h,ih]
 simp only[getM,oH];by_cases h:n=0;·simp[h]
 ·simp[h,this]
def HW (l:List En) (k:PV):(getM k (mw l)).getD (.agg [])=.agg []:=by
 unfold mw;have:∀l:List En,(getM k (l.map fun e=>(PV.int .u64 e.i,AV.agg []))).getD (.agg [])=.agg []:=by intro l;induction l with|nil=>rfl|cons e l ih=>
  simp only[q74,getM];split;·rfl
  ·exact ih
 simp only[getM];split;·rfl
 ·exact this l
def BS:∀(es:List (PV×AV)) (k:PV) (v:AV),(getM k es).isSome=false->j7 k v es=es++[(k,v)]
 |[],k,v,_=>rfl|e::es,k,v,h=>by
  unfold getM at h;unfold j7;split at h;·cases h
  ·rename_i h1;rw[if_neg h1,BS es k v h];rfl
def Ik (l:List En) (e:En):mw l++[(.int .u64 e.i,.agg [])]=mw (l++[e]):=by simp[mw]
def Cp (l:List En):gW 9 (mw l)=True:=by simp only[eq_iff_iff,iff_true];intro e he;simp only[mw,q78,q83]at he;rcases he with rfl|⟨x,_,rfl⟩<;>rfl
@[simp] noncomputable def GRt:List AV->Option (Prop×AV)|[.pv (.ro a)]=>(dec fH a).map fun l=>(l.length<=1000000000,.pv (.bool (aP l)))|_=>none
def TT:aL Tryz.prog 81 GRt:=by
 intro ys φ r h hφ;unfold GRt at h;split at h
 ·rename_i ra;obtain⟨a,ha,h⟩:=q900.1 h;cases h;cases bm ha;refine aq (ag c_Nm ah) (by kernel_rfl) (by conv=>lhs;reduce) (by simp) ?_;simp;refine au (fun i:Nat=>i<=a.length/\aP (a.take i)=true) (fun i=>⟨[(0,.pv (.ro (bg a))),(2,.pv (.bool false)),(3,.own 8),(11,.pv (.ro (bg a))),(12,.pv (.int .i64 a.length)),(13,.pv (.int .i64 i))],[(8,.map (mw (a.take i)))]⟩) (fun i=>a.length-i) [] 0 (by simp[aP]) ?_ ?_;·simp[mw,j7]
  ·rintro i ⟨hi,ht⟩;have w2:IntKind.i64.wrap ((i:Int)+1)=(i:Int)+1:=wrap_i64 (by omega);by_cases hlt:i<a.length
   ·have r1:=fg hlt;have hk:=Cp (a.take i);have hd:=HW (a.take i);have hg:=Hq (a.take i) a[i].i;have hf:=fun h=>uq hlt h;have htwF:(getM (.int .u64 a[i].i) (mw (a.take i))).isSome=true->aP a=false:=fun htw=>by
     apply hf;rintro⟨_,h2,h3⟩;rw[hg,q132,decide_eq_true_eq,q133]at htw;rcases htw with h|⟨x,hx,h⟩;·exact h2 h
     ·exact(h3 x hx).2 (by simpa using(of_decide_eq_true h).symm)
    have hids:(getM (.int .u64 a[i].i) (mw (a.take i))).isSome=false->a[i].i≠0/\∀x∈a.take i,x.i≠a[i].i:=fun htw'=>by rw[hg,q221,decide_eq_false_iff_not,q146]at htw';exact⟨htw'.1,fun x hx h=>htw'.2 x hx (by simpa using h.symm)⟩
    have hpm:(getM (.int .u64 a[i].i) (mw (a.take i))).isSome=false->j7 (.int .u64 a[i].i) (.agg []) (mw (a.take i))=mw (a.take (i+1)):=fun htw'=>by have:=BS (mw (a.take i)) (.int .u64 a[i].i) (.agg []) htw';rwa[Ik,<-q64 hlt]at this
    by_cases h0:i=0;·subst h0;have wm:IntKind.i64.wrap (-1)=-1:=wrap_i64 (by omega);have rm:rowAt (bg a) (-1)=[.str a[0].n,.int .u64 a[0].i]:=r1;have rz:rowAt (bg a) 0=[.str a[0].n,.int .u64 a[0].i]:=r1;simp only[List.take_zero]at hk hd htwF hids hpm;cases htw:(getM (.int .u64 a[0].i) (mw [])).isSome with|true=>have hf':=htwF htw;simp[hlt,rm,rz,wm,hk,hd,htw,hf']|false=>cases hnm:dL a[0].n with|true=>have hq:=hpm htw;simp[hlt,rm,rz,wm,hk,hd,htw,hnm,hq];exact⟨1,⟨by omega,m7 hlt ht hnm (hids htw).1 (by simp)⟩,⟨by rw[wrap_i64 (by omega)];rfl,rfl⟩,by omega⟩|false=>
     have hf':aP a=false:=hf fun h=>by rw[hnm]at h;cases h.1
     simp[hlt,rm,rz,wm,hk,hd,htw,hnm,hf']
    ·obtain⟨k,rfl⟩:∃k,i=k+1:=⟨i-1,by omega⟩;have hk2:k<a.length:=by omega
     have r2:=fg hk2;have w3:IntKind.i64.wrap (((k+1:Nat):Int)-1)=(k:Int):=by rw[wrap_i64 (by omega)];omega
     have hp:(0:Int)<((k+1:Nat):Int):=by omega
     have hlti:((k+1:Nat):Int)<a.length:=by omega
     have hlti2:(k:Int)<a.length:=by omega
     have hb0:(0:Int)<=((k+1:Nat):Int):=by omega
     generalize hgen:((k+1:Nat):Int)=I at*;cases htw:(getM (.int .u64 a[k+1].i) (mw (a.take (k+1)))).isSome with|true=>have hf':=htwF htw;simp[hlti,hlti2,hb0,r1,r2,w3,hp,hk,hd,htw,hf']|false=>cases hnm:dL a[k+1].n with
      |true=>have hq:=hpm htw;cases hb:Op.bytesLess a[k].n a[k+1].n with|true=>simp[hlti,hlti2,hb0,r1,r2,w3,w2,hp,hk,hd,htw,hnm,hq,hb];have h1:=CI hlt ht hb;have h2:=hids htw;exact⟨k+2,⟨by omega,m7 hlt ht hnm h2.1 fun x hx=>⟨h1 x hx,h2.2 x hx⟩⟩,⟨by omega,rfl⟩,by omega⟩|false=>
        have hf':aP a=false:=hf fun h=>by have:=(h.2.2 a[k] (by rw[q90];exact⟨k,by omega,rfl⟩)).1;rw[hb]at this;cases this
        simp[hlti,hlti2,hb0,r1,r2,w3,hp,hk,hd,htw,hnm,hb,hf']|false=>
       have hf':aP a=false:=hf fun h=>by rw[hnm]at h;cases h.1
       simp[hlti,hlti2,hb0,r1,r2,w3,hp,hk,hd,htw,hnm,hf']
   ·rw[List.take_of_length_le (by omega)]at ht;simp[hlt,ht]
 ·cases h
def c_rRt:aL Tryz.prog 69 GRt:=by
 intro ys φ r h hφ;unfold GRt at h;split at h
 ·rename_i ra;obtain⟨a,ha,h⟩:=q900.1 h;cases h;cases bm ha;refine aq (ag aai ah) (by kernel_rfl) (by conv=>lhs;reduce) (by simp) ?_;simp;refine au (fun i:Nat=>i<=a.length/\aP (a.take i)=true) (fun i=>⟨[(0,.pv (.ro (bg a))),(2,.pv (.bool false)),(3,.pv (.int .i64 i))],[]⟩) (fun i=>a.length-i) [] 0 (by simp[aP]) ?_ ?_;·simp
  ·rintro i ⟨hi,ht⟩;have w2:IntKind.i64.wrap ((i:Int)+1)=(i:Int)+1:=wrap_i64 (by omega);by_cases hlt:i<a.length;·have r1:=fg hlt;have hf:=fun h=>uq hlt h;cases hnm:dL a[i].n with
    |false=>
     have hf':aP a=false:=hf fun h=>by rw[hnm]at h;cases h.1
     simp[hlt,r1,hnm,hf']|true=>
     by_cases ej:a[i].i=0;·have hf':aP a=false:=hf fun h=>h.2.1 ej;simp[hlt,r1,hnm,ej,hf']
     ·simp[hlt,r1,hnm,ej];refine au (fun k:Nat=>k<=i/\∀x∈a.take k,Op.bytesLess x.n a[i].n=true/\x.i≠a[i].i) (fun k=>⟨[(0,.pv (.ro (bg a))),(2,.pv (.bool false)),(3,.pv (.int .i64 i)),(4,.pv (.int .i64 k))],[]⟩) (fun k=>i-k) [] 0 (by simp) ?_ ?_;·simp
      ·rintro k ⟨hk,hq⟩;have w3:IntKind.i64.wrap ((k:Int)+1)=(k:Int)+1:=wrap_i64 (by omega);by_cases hki:k<i
       ·have hkl:k<a.length:=by omega
        have r2:=fg hkl;have hmem:a[k]∈a.take i:=by rw[q90];exact⟨k,by omega,rfl⟩
        cases hb:Op.bytesLess a[k].n a[i].n with
        |false=>
         have hf':aP a=false:=hf fun h=>by have:=(h.2.2 _ hmem).1;rw[hb]at this;cases this
         simp[hki,hkl,hlt,r1,r2,hb,hf']|true=>
         by_cases he:a[k].i=a[i].i;·have hf':aP a=false:=hf fun h=>(h.2.2 _ hmem).2 he;simp[hki,hkl,hlt,r1,r2,hb,he,hf']
         ·simp[hki,hkl,hlt,r1,r2,hb,he,w3];refine⟨k+1,⟨by omega,fun x hx=>?_⟩,by omega,by omega⟩;rw[q64 hkl,q75,q73]at hx;rcases hx with hx|rfl;·exact hq x hx
          ·exact⟨hb,he⟩
       ·have hki':k=i:=by omega
        subst hki';simp[w2];exact⟨k+1,⟨by omega,m7 hlt ht hnm ej hq⟩,by omega,by omega⟩
   ·rw[List.take_of_length_le (by omega)]at ht;simp[hlt,ht]
 ·cases h
@[simp] noncomputable def Qo:List AV->Option (Prop×AV)|[.pv (.str a)]=>some (True,.pv (.bool false))|_=>none
def QM:aL Tryz.prog 227 Qo:=by
 intro ys φ r h hφ;unfold Qo at h;split at h;·cases h;refine aq ah (by kernel_rfl) (by conv=>lhs;reduce) (by simp) ?_;simp
 ·cases h
def yF (a b:List UInt8):Int:=if Op.bytesLess a b=true then-1 else if Op.bytesLess b a=true then 1 else 0
def Dr (a b:List UInt8):(yF a b<0)=(Op.bytesLess a b=true):=by
 unfold yF;by_cases h:Op.bytesLess a b=true;·simp[h]
 ·by_cases h2:Op.bytesLess b a=true<;>simp[h,h2]
def Ae (a b:List UInt8):(yF a b=0)=(a=b):=by
 unfold yF;apply propext;by_cases h:Op.bytesLess a b=true;·simp only[h,if_true];exact⟨fun h=>by omega,fun e=>absurd e (tJ h)⟩
 ·by_cases h2:Op.bytesLess b a=true;·simp only[h,h2,if_true,if_false];exact⟨fun h=>by simp at h,fun e=>absurd e.symm (tJ h2)⟩
  ·simp only[h,h2,if_false,true_iff];exact⟨fun _=>BE a b (by simpa using h) (by simpa using h2),fun _=>rfl⟩
@[simp] noncomputable def OM:List AV->Option (Prop×AV)|[.pv (.str a),.pv (.str b)]=>some (True,.pv (.int .i64 (yF a b)))|_=>none
def Tc:aL Tryz.prog 203 OM:=by
 intro ys φ r h hφ;unfold OM at h;split at h;·rename_i a b;cases h;refine aq (ag QM ah) (by kernel_rfl) (by conv=>lhs;reduce) (by simp) ?_;unfold yF;cases h1:Op.bytesLess a b with|true=>simp[h1]|false=>cases h2:Op.bytesLess b a with|true=>have hne:¬a=b:=fun e=>tJ h2 e.symm;simp[h1,h2,hne]|false=>have he:=BE a b h1 h2;subst he;simp[kS]
 ·cases h
@[simp] noncomputable def Gpl1:List AV->Option (Prop×AV)|[.agg [.pv (.str a),.pv (.int .u64 n)],.pv (.str b)]=>some (True,.pv (.int .i64 (yF a b)))|_=>none
def c_pl1:aL Tryz.prog 202 Gpl1:=by
 intro ys φ r h hφ;unfold Gpl1 at h;split at h;·cases h;refine aq (ag Tc ah) (by kernel_rfl) (by conv=>lhs;reduce) (by simp) ?_;simp
 ·cases h
def lb (l:List En) (s:List UInt8):Nat:=l.findIdx fun e=>!Op.bytesLess e.n s
def dB (l:List En) (s:List UInt8):Bool:=match l[lb l s]? with|some e=>decide (e.n=s)|none=>false
def Kp (l:List En) (s:List UInt8):lb l s<=l.length:=q299
def JC {l:List En}{s:List UInt8} (hi:i<=l.length) (h1:∀(k:Nat) (h:k<l.length),k<i->Op.bytesLess l[k].n s=true) (h2:∀(k:Nat) (h:k<l.length),i<=k->Op.bytesLess l[k].n s=false):lb l s=i:=by
 unfold lb;by_cases hlt:i<l.length;·rw[q173 hlt];refine⟨by simp[h2 i hlt (q92 _)],fun j hj=>?_⟩;simp[h1 j (by omega) hj]
 ·have:i=l.length:=by omega
  subst this;rw[q210];intro e he;obtain⟨k,hk,rfl⟩:=q128 he;simp[h1 k hk hk]
def FY {l:List En}{s:List UInt8} (h:k<lb l s):Op.bytesLess (l[k]'(q97 h (Kp l s))).n s=true:=by have:=List.not_of_lt_findIdx h;simpa using this
def aaO {l:List En}{s:List UInt8} (h:lb l s<l.length):Op.bytesLess l[lb l s].n s=false:=by have:=List.findIdx_getElem (w:=h);unfold lb;simpa using this
def fO {l:List En} (hr:aP l=true) {i j:Nat} (hj:j<l.length) (hij:i<j):Op.bytesLess (l[i]'(Nat.lt_trans hij hj)).n l[j].n=true/\(l[i]'(Nat.lt_trans hij hj)).i≠l[j].i:=by rw[eH,q147]at hr;exact hr.2 i j (Nat.lt_trans hij hj) hj hij
def O5 {l:List En}{s:List UInt8} (hr:aP l=true) (hk:k<l.length) (h:lb l s<=k):Op.bytesLess l[k].n s=false:=by
 have h0:=aaO (l:=l) (s:=s) (by omega);rcases Nat.eq_or_lt_of_le h with h|h;·subst h;exact h0
 ·cases hb:Op.bytesLess l[k].n s with|false=>rfl|true=>have:=lg _ _ _ (fO hr hk h).1 hb;rw[this]at h0;cases h0
def gv {l:List En}{s:List UInt8} (hr:aP l=true):dB l s=true↔∃e∈l,e.n=s:=by
 unfold dB;constructor
 ·intro h;split at h;·rename_i e he;exact⟨e,List.mem_of_getElem? he,by simpa using h⟩
  ·cases h
 ·rintro⟨e,he,rfl⟩;obtain⟨k,hk,rfl⟩:=q128 he;have hkl:lb l l[k].n=k:=by
   apply JC (by omega);·intro j hj hjk;exact(fO hr hk hjk).1
   ·intro j hj hjk;rcases Nat.eq_or_lt_of_le hjk with h|h;·subst h;exact kS _
    ·exact IZ (fO hr hj h).1
  rw[hkl,q62 hk];simp
def wA:gz Tryz.prog 202=true:=by kernel_rfl
@[simp] noncomputable def GBs:List AV->Option (Prop×AV)|[.pv (.ro a),.pv (.str s),.bI f []]=>if f=202 then(dec fH a).map fun l=>(l.length<=1000000000/\aP l=true,.aN [.pv (.int .i64 (lb l s)),.pv (.bool (dB l s))]) else none|_=>none
def c_Bs:aL Tryz.prog 201 GBs:=by
 intro ys φ r h hφ;unfold GBs at h;split at h
 ·rename_i ra s f;split at h
  ·rename_i hf;subst hf;obtain⟨a,ha,h⟩:=q900.1 h;cases h;cases bm ha;obtain⟨hl9,hr⟩:=hφ;refine aq (ag c_pl1 ah) (by kernel_rfl) (by conv=>lhs;reduce) (by simp) ?_;simp;refine au (fun q:Nat×Nat=>q.1<=q.2/\q.2<=a.length/\(∀(k:Nat) (h:k<a.length),k<q.1->Op.bytesLess a[k].n s=true)/\(∀(k:Nat) (h:k<a.length),q.2<=k->Op.bytesLess a[k].n s=false)) (fun q=>⟨[(0,.pv (.ro (bg a))),(1,.pv (.str s)),(2,.bI 202 []),(8,.pv (.int .i64 a.length)),(9,.pv (.int .i64 q.1)),(10,.pv (.int .i64 q.2))],[]⟩) (fun q=>q.2-q.1) [] (0,a.length) ?_ ?_ ?_;·exact⟨q95 _,q92 _,fun k h h2=>absurd h2 (Nat.not_lt_zero k),fun k h h2=>absurd h2 (Nat.not_le.2 h)⟩
   ·simp
   ·rintro⟨i,j⟩ ⟨hij,hj,h1,h2⟩;simp only at hij hj h1 h2;by_cases hlt:i<j
    ·have hlti:(i:Int)<(j:Int):=by omega
     have w1:IntKind.i64.wrap ((i:Int)+(j:Int))=(i:Int)+(j:Int):=wrap_i64 (by omega);have w2:IntKind.u64.wrap ((i:Int)+(j:Int))=(i:Int)+(j:Int):=wrap_u64 (by omega);have hm:(i+j)/2<a.length:=by omega
     obtain⟨m,hmd⟩:∃m,m=(i+j)/2:=⟨_,rfl⟩;rw[<-hmd]at hm;have hsh:((i:Int)+(j:Int)).fdiv (2^min 1 IntKind.u64.bits)=(m:Int):=by show((i:Int)+(j:Int)).fdiv 2=(m:Int);rw[q143 _ (by omega)];omega
     have w3:IntKind.i64.wrap (m:Int)=(m:Int):=wrap_i64 (by omega);have w4:IntKind.i64.wrap ((m:Int)+1)=(m:Int)+1:=wrap_i64 (by omega);have r1:=fg hm;have hm0:(0:Int)<=(m:Int):=by omega
     have hm1:(m:Int)<(a.length:Int):=by omega
     cases hb:Op.bytesLess a[m].n s with
     |true=>
      have hneg:yF a[m].n s<0:=by rw[Dr];exact hb
      simp[hlt,w1,w2,hsh,w3,w4,r1,hm,hneg,wA];refine⟨m+1,j,⟨by omega,hj,fun k hk hkm=>?_,h2⟩,⟨by omega,rfl⟩,by omega⟩;rcases q141 k m with h|h;·exact lg _ _ _ (fO hr hm h).1 hb
      ·have:k=m:=by omega
       subst this;exact hb|false=>
      have hneg:¬yF a[m].n s<0:=by rw[Dr,hb];simp
      simp[hlt,w1,w2,hsh,w3,w4,r1,hm,hneg,wA];refine⟨i,m,⟨by omega,by omega,h1,fun k hk hkm=>?_⟩,⟨rfl,rfl⟩,by omega⟩;rcases q141 m k with h|h;·cases hq:Op.bytesLess a[k].n s with|false=>rfl|true=>have:=lg _ _ _ (fO hr hk h).1 hq;rw[hb]at this;cases this
      ·have:k=m:=by omega
       subst this;exact hb
    ·have hij':i=j:=by omega
     subst hij';have hlb:lb a s=i:=JC hj h1 h2;have hfd:dB a s=(match a[i]? with|some e=>decide (e.n=s)|none=>false):=by unfold dB;rw[hlb]
     by_cases hil:i<a.length
     ·have r1:=fg hil;rw[q62 hil]at hfd;simp only at hfd;have hz:decide (yF a[i].n s=0)=decide (a[i].n=s):=by simp only[Ae]
      simp[hil,r1,wA,hlb,hfd,Ae]
     ·rw[q134 (by omega)]at hfd;have r0:rowAt (bg a) (i:Int)=[]:=by simp[rowAt,bg,hil]
      simp[hil,hlb,hfd,r0]
  ·cases h
 ·cases h
@[simp] noncomputable def ZO:List AV->Option (Prop×AV)|[.pv (.ro a),.pv (.str s)]=>(dec fH a).map fun l=>(l.length<=1000000000/\aP l=true,.aN [.pv (.int .i64 (lb l s)),.pv (.bool (dB l s))])|_=>none
def GP:aL Tryz.prog 167 ZO:=by
 intro ys φ r h hφ;unfold ZO at h;split at h;·rename_i ra s;obtain⟨a,ha,h⟩:=q900.1 h;cases h;cases bm ha;obtain⟨hl9,hr⟩:=hφ;refine aq (ag c_Bs ah) (by kernel_rfl) (by conv=>lhs;reduce) (by simp) ?_;simp[hl9,hr]
 ·cases h
def mj (l:List En) (s:List (List UInt8)):Int:=if aP l=true then if s.all dL=true then 0 else 170 else 2
@[simp] noncomputable def Y8:List AV->Option (Prop×AV)|[.pv (.ro a),.pv (.ro b)]=>(dec fH a).bind fun l=>(dec vG b).map fun s=>(l.length<=1000000000/\s.length<=1000000000,.pv (.int .i64 (mj l s)))|_=>none
def I7:aL Tryz.prog 166 Y8:=by
 intro ys φ r h hφ;unfold Y8 at h;split at h;·rename_i ra rb;obtain⟨a,ha,h⟩:=qB.1 h;obtain⟨b,hb,h⟩:=q900.1 h;cases h;cases bm ha;cases px hb;obtain⟨hl9,hs9⟩:=hφ;refine aq (ag TT (ag c_Nm ah)) (by kernel_rfl) (by conv=>lhs;reduce) (by simp) ?_;unfold mj;cases hr:aP a with|false=>simp[hl9,hr]|true=>generalize hq:b.all dL=q;cases q<;>simp[hl9,hs9,hr,hq]
 ·cases h
def ed (l:List En) (s:List UInt8):Int×Int:=if aP l=true then if dL s=true then match l.find? (fun e=>decide (e.n=s)) with|some e=>(e.i,0)|none=>(0,80) else(0,170) else(0,2)
def gT {l:List En}{s:List UInt8} (hr:aP l=true) (hn:dL s=true) (hf:dB l s=true):∃h:lb l s<l.length,ed l s=(l[lb l s].i,0)/\l[lb l s].n=s:=by
 have hlt:lb l s<l.length:=by
  unfold dB at hf;split at hf;·rename_i e he;exact(q63.1 he).1
  ·cases hf
 have hs:l[lb l s].n=s:=by unfold dB at hf;rw[q62 hlt]at hf;simpa using hf
 refine⟨hlt,?_,hs⟩;have hfind:l.find? (fun e=>decide (e.n=s))=some l[lb l s]:=by rw[q205];refine⟨by simp[hs],lb l s,hlt,rfl,fun j hj=>?_⟩;have:=tJ (FY hj);simpa using this
 unfold ed;rw[if_pos hr,if_pos hn,hfind]
def ir {l:List En}{s:List UInt8} (hr:aP l=true) (hn:dL s=true) (hf:dB l s=false):ed l s=(0,80):=by
 have hfind:l.find? (fun e=>decide (e.n=s))=none:=by rw[q183];intro e he hh;have:=(gv (s:=s) hr).2 ⟨e,he,by simpa using hh⟩;rw[hf]at this;cases this
 unfold ed;rw[if_pos hr,if_pos hn,hfind]
@[simp] noncomputable def GGet:List AV->Option (Prop×AV)|[.pv (.ro a),.pv (.str s)]=>(dec fH a).map fun l=>(l.length<=1000000000,.aN [.pv (.int .u64 (ed l s).1),.pv (.int .i64 (ed l s).2)])|_=>none
def OL:aL Tryz.prog 171 GGet:=by
 intro ys φ r h hφ;unfold GGet at h;split at h;·rename_i ra s;obtain⟨a,ha,h⟩:=q900.1 h;cases h;cases bm ha;refine aq (ag I7 (ag GP ah)) (by kernel_rfl) (by conv=>lhs;reduce) (by simp) ?_;cases hr:aP a with
  |false=>
   have hg:ed a s=(0,2):=by unfold ed;rw[if_neg (by simp[hr])]
   simp[hφ,mj,hr,hg]|true=>cases hn:dL s with
   |false=>
    have hg:ed a s=(0,170):=by unfold ed;rw[if_pos hr,if_neg (by simp[hn])]
    simp[hφ,mj,hr,hn,hg]|true=>cases hf:dB a s with|false=>have hg:=ir hr hn hf;simp[hφ,mj,hr,hn,hf,hg]|true=>obtain⟨hlt,hg,_⟩:=gT hr hn hf;have r1:=fg hlt;simp[hφ,mj,hr,hn,hf,hg,r1,hlt]
 ·cases h
@[simp] noncomputable def GNames:List AV->Option (Prop×AV)|[.pv (.ro a)]=>(dec fH a).map fun l=>(l.length<=100000000,.fr 9 (py (l.map En.n)))|_=>none
end Go.Proofs.YtifcndkhigakfaaGreat.Ab
