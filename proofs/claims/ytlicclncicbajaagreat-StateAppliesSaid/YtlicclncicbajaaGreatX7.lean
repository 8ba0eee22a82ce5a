/- The abstract machine is sound: maps of plain values, ranges over them, pointers held against nil. -/
import Derived.Test.YtlicclncicbajaaGreatX6
import Derived.MapKept
import Derived.Maps.RangeRun
import Derived.Laws.Pointers
import Derived.Lib.LazyBuf
import Derived.Laws.Externs
import Derived.Lib.AppendZeros
import Derived.Laws.MakeOwn
set_option linter.unusedVariables false
set_option linter.unusedSimpArgs false
set_option linter.unnecessarySimpa false
set_option maxHeartbeats 40000000
set_option maxRecDepth 100000
set_option linter.defProp false
namespace Go.Proofs.YtlicclncicbajaaGreat.Ab
open Go Go.RowKit
def q68:=@Int.toNat_natCast
def q88:=@List.drop_eq_getElem_cons
def q156:=@List.take_append_drop
def q174:=@List.filter_eq_self
def q176:=@MapKept.run_setObj_map
def q195:=@List.length_eraseIdx_of_lt
def q207:=@List.getElem?_eraseIdx
def q216:=@Array.getElem?_modify
def q220:=@List.filter_cons
def q252:=@Array.toList_filter
def q279:=@MapKept.run_keyThatStays
end Go.Proofs.YtlicclncicbajaaGreat.Ab
namespace Go.Proofs.YtlicclncicbajaaGreat.Ab
open Go Go.RowKit
variable {n:Nat}{K:St→Prop}{K':Act→World→Prop}{S:Nat→Prop}{p:PV}{inf:TypeInfo}{Q:Exit→Act→World→Prop}{z:Value}{ne ok:Bool}{zs:List Value}{q:Option AO}{X:AV}{kt et:TypeId}{es rem:List (PV×PV)}
theorem s8  (h:sC q=some es):q=some (.iB es):=by
 unfold sC at h;split at h;·cases h;rfl
 ·cases h
theorem Bx {r:List (PV×PV)×Option (PV×PV)} (h:Ex q=some r):q=some (.nS r.1 r.2):=by
 unfold Ex at h;split at h;·cases h;rfl
 ·cases h
theorem dt.b8 {w:World} (h:dB p<99):dt S w (b8 p) p:=by cases p with|int k n=>exact .int k n|bool b=>exact .bool b|str l=>exact .str l|_=>simp[dB]at h
theorem dt.oneC {w:World}{u:Value} (h:dt S w u p):u.oneCell'=true:=by cases h<;>first|rfl|assumption
section
variable{P:Program}{Γ:bX}{S0 L:Nat→Prop}{B0:Nat→Value}{w0 w:World}{N:Nat}{st:St}{a:Act}{β:Nat→Value}{o:Oper}{xs:List Operand}
theorem Rel.PB (h:Rel P S0 L B0 w0 N st a w β) {t b:Nat}{q q':AO}{ob ob':Obj} (ht:st.aa t=some q) (hblk:cr (β t)=some b) (hh:w.heap[b]?=some ob) (hq:∀{S':Nat→Prop}{w':World},w'.heap[b]?=some ob'→(∀k,aZ S0 w0.heap.size β st.aa w k→S' k∧w'.heap[k]?=w.heap[k]?)→bz P S' w' β (aG (aR t q' st.aa)) t q'):Rel P S0 L B0 w0 N ⟨st.vars,aR t q' st.aa⟩ a {w with heap:=w.heap.setIfInBounds b ob'} β∧∀k,aZ S0 w0.heap.size β st.aa w k→aZ S0 w0.heap.size β (aR t q' st.aa) {w with heap:=w.heap.setIfInBounds b ob'} k∧(w.heap.setIfInBounds b ob')[k]?=w.heap[k]?:=by
 have hset:=MapKept.heap_set (o':=ob') hh;have hmo:∀k,aZ S0 w0.heap.size β st.aa w k→aZ S0 w0.heap.size β (aR t q' st.aa) {w with heap:=w.heap.setIfInBounds b ob'} k∧(w.heap.setIfInBounds b ob')[k]?=w.heap[k]?:=by
  rintro k ⟨g1,g2,g3⟩;have hkb:k≠b:=fun e=>g3 ⟨t,_,ht,by rw[e];exact hblk⟩;refine⟨⟨g1,by simpa using g2,?_⟩,hset.2 k hkb⟩;rintro⟨s,q,hs,hk⟩;by_cases e:s=t;·subst e;exact hkb (by rw[hblk]at hk;injection hk with hk;exact hk.symm)
  ·exact g3 ⟨s,q,by simpa[aR,e]using hs,hk⟩
 exact⟨(h.wo (w':={w with heap:=w.heap.setIfInBounds b ob'}) (o':=q') ht hblk rfl rfl rfl (by simp) hset.2 (hq hset.1 hmo)).1,hmo⟩
theorem Qe {t:TypeId}{d:Nat} (ho:o.op=.makeMap t none) (h:Rel P S0 L B0 w0 N st a w β) (hd:d<N) (ht:st.aa d=none):∃v w' β',(execOp a.eval o).run P w=.ok (.value v) w'∧Rel P S0 L B0 w0 N ⟨Ab.put (some d) (.own d) st.vars,bG [(d,.iB [])] st.aa⟩ (a.put (some d) v) w' β':=by have hf:=h.fresh hd ht (cV w (.map #[] 0)) (v:=.map (some w.heap.size)) (fun b hb=>by simp[cr]at hb;omega) (o:=.iB []) ⟨w.heap.size,#[],0,aY _ _ _,heap_alloc_new w _,MapKept.stamped_empty 0,rfl,fun i e u h1=>by simp at h1⟩;rw[cx];refine⟨.map (some w.heap.size),w.alloc (.map #[] 0),_,by simp[execOp,ho,Instr.makeMap,Result.andThen],hf.put (d:=some d) (fun s hs=>by injection hs with hs;omega) ?_⟩;have:=RV.own (P:=P) (S:=aZ S0 w0.heap.size (eG β d (.map (some w.heap.size))) (aR d (.iB []) st.aa) (w.alloc (.map #[] 0))) (w:=w.alloc (.map #[] 0)) (β:=eG β d (.map (some w.heap.size))) (D:=aG (aR d (.iB []) st.aa)) d (bU.2 (.inl rfl));rwa[aY]at this
theorem QA {t:TypeId}{m k x:Operand}{s:Nat} (ho:(execOp a.eval o).run P w=(do Instr.mapUpdate t (a.eval m) (a.eval k) (a.eval x);pure Next.skip:Sem Next).run P w) (hm:jy P t=some (kt,et)) (hsrt:ko P kt=some s) (h:Rel P S0 L B0 w0 N st a w β) (hd:∀s,o.dst=some s→s<N) {X K Y:AV} (hX:RV P (aZ S0 w0.heap.size β st.aa w) w β (aG st.aa) (a.eval m) X) (hK:RV P (aZ S0 w0.heap.size β st.aa w) w β (aG st.aa) (a.eval k) K) (hY:RV P (aZ S0 w0.heap.size β st.aa w) w β (aG st.aa) (a.eval x) Y) {tg:Nat}{p v:PV} (e1:X=.own tg) (e2:K=.pv p) (e3:Y=.pv v) (hob:st.aa tg=some (.iB es)) (hp:dB p=s) (hks:fI s es):∃w',(execOp a.eval o).run P w=.ok .skip w'∧Rel P S0 L B0 w0 N ⟨Ab.put o.dst .aw st.vars,aR tg (.iB (mi p v es)) st.aa⟩ (a.put o.dst undef) w' β:=by
 subst e1 e2 e3;obtain⟨b,us,c,hb,hh,hst,hl,hc⟩:=h.heap.holds tg _ hob;have hmt:=fP hm;obtain⟨d,hdk,hkey⟩:=gG hsrt;have hs99:=oG hsrt;have hmv:a.eval m=.map (some b):=hX.aX.1.trans hb;have hkv:a.eval k=Ab.b8 p:=lf hK hp hs99;have hblk:cr (β tg)=some b:=by rw[hb];rfl
 have hfind:=iH hkey hp hs99 us.toList es 0 hks hl fun i e u h1 h2=>(hc i e u h1 h2).1;have hv:=hY.bq;have main:∀(us':Array MapEntry) (c':Nat),(execOp a.eval o).run P w=.ok .skip {w with heap:=w.heap.setIfInBounds b (.map us' c')}→MapKept.Stamped us' c'→us'.toList.length=(mi p v es).length→(∀(i:Nat) (e:PV×PV) (u:MapEntry),(mi p v es)[i]?=some e→us'.toList[i]?=some u→(e=(p,v)∧u.key=Ab.b8 p∧u.val=a.eval x)∨∃j:Nat,es[j]?=some e∧us.toList[j]?=some u)→∃w',(execOp a.eval o).run P w=.ok .skip w'∧Rel P S0 L B0 w0 N ⟨Ab.put o.dst .aw st.vars,aR tg (.iB (mi p v es)) st.aa⟩ (a.put o.dst undef) w' β:=by
  intro us' c' hrun hst' hl' hc';refine⟨_,hrun,(h.PB (q':=.iB (mi p v es)) (ob':=.map us' c') hob hblk hh fun{S' w'} hw' hmo=>⟨b,us',c',hb,hw',hst',hl',fun i e u h1 h2=>?_⟩).1.put hd (.aw _)⟩;rcases hc' i e u h1 h2 with⟨rfl,g1,g2⟩|⟨j,g1,g2⟩;·rw[g2];exact⟨g1,by show dB p<99;omega,hv.oneC,hv.mono hmo⟩
  ·have:=hc j e u g1 g2;exact⟨this.1,this.2.1,this.2.2.1,this.2.2.2.mono hmo⟩
 rcases hfind with⟨h1,h2,h3,_,h5⟩|⟨j,e,u,h1,h2,h3,h4,h5,h6,_⟩
 ·refine main (us.push {key:=Ab.b8 p,val:=a.eval x,born:=c}) (c+1) ?_ (MapKept.stamped_push hst h5) ?_ ?_;·rw[ho,hmv,hkv];simp[Instr.mapUpdate,run_underlying hmt,q99 hh,q109 hdk (hkey p hp),q111 hdk h1,q176 _ hh,Result.andThen]
  ·rw[h3];simpa using hl
  ·intro i e u g1 g2;rw[h3]at g1;simp only[Array.toList_push]at g2;by_cases hi:i<es.length;·rw[q85 hi]at g1;rw[q85 (by omega)]at g2;exact .inr ⟨i,g1,g2⟩
   ·rw[q97 (by omega)]at g1;rw[q97 (by omega),hl]at g2;cases hz:i-es.length with|zero=>rw[hz]at g1 g2;simp only[q69,qr]at g1 g2;subst g1 g2;exact .inl ⟨rfl,rfl,rfl⟩|succ n=>rw[hz]at g1;simp at g1
 ·have hj:us[j]?=some u:=by simpa using h3
  refine main (us.modify j fun e=>{e with key:=Ab.b8 p,val:=a.eval x}) c ?_ (MapKept.stamped_modify hst _ _ (fun _ _=>rfl) fun e' he' hje=>?_) ?_ ?_;·rw[ho,hmv,hkv];rw[q133]at h1;simp[Instr.mapUpdate,run_underlying hmt,q99 hh,q109 hdk (hkey p hp),q111 hdk h1,hj,h4,q279 (hkey p hp),q176 _ hh,Result.andThen]
  ·rw[hj]at hje;cases hje;exact h4.symm
  ·rw[h6];simpa using hl
  ·intro i e' u' g1 g2;rw[h6]at g1;have g2':(us.modify j fun e=>{e with key:=Ab.b8 p,val:=a.eval x})[i]?=some u':=by rw[←q214];exact g2
   rw[q216]at g2';rw[q189]at g1;by_cases hij:j=i
   ·subst hij;rw[if_pos rfl,hj]at g2';rw[if_pos rfl]at g1;split at g1;·simp only[qr,q116]at g1 g2';subst g1 g2';exact .inl ⟨rfl,rfl,rfl⟩
    ·cases g1
   ·rw[if_neg hij]at g1 g2';exact .inr ⟨i,g1,by simpa using g2'⟩
theorem OP {t kt et:TypeId}{m k:Operand}{s:Nat} (ho:o.op=.call {callee:=.builtin .delete,args:=#[m,k],argTypes:=#[t,kt]}) (hm:jy P t=some (kt,et)) (hsrt:ko P kt=some s) (h:Rel P S0 L B0 w0 N st a w β) (hd:∀s,o.dst=some s→s<N) {X K:AV} (hX:RV P (aZ S0 w0.heap.size β st.aa w) w β (aG st.aa) (a.eval m) X) (hK:RV P (aZ S0 w0.heap.size β st.aa w) w β (aG st.aa) (a.eval k) K) {tg:Nat} (e1:X=.own tg) (e2:K=.pv p) (hob:st.aa tg=some (.iB es)) (hp:dB p=s) (hks:fI s es):∃v w',(execOp a.eval o).run P w=.ok (.value v) w'∧Rel P S0 L B0 w0 N ⟨Ab.put o.dst .aw st.vars,aR tg (.iB (qk p es)) st.aa⟩ (a.put o.dst v) w' β:=by
 subst e1 e2;obtain⟨b,us,c,hb,hh,hst,hl,hc⟩:=h.heap.holds tg _ hob;have hmt:=fP hm;obtain⟨d,hdk,hkey⟩:=gG hsrt;have hs99:=oG hsrt;have hmv:a.eval m=.map (some b):=hX.aX.1.trans hb;have hkv:a.eval k=Ab.b8 p:=lf hK hp hs99;have hblk:cr (β tg)=some b:=by rw[hb];rfl
 have hfind:=iH hkey hp hs99 us.toList es 0 hks hl fun i e u h1 h2=>(hc i e u h1 h2).1;have main:∀(us':Array MapEntry),(execOp a.eval o).run P w=.ok (.value (.tuple #[])) {w with heap:=w.heap.setIfInBounds b (.map us' c)}→MapKept.Stamped us' c→us'.toList.length=(qk p es).length→(∀(i:Nat) (e:PV×PV) (u:MapEntry),(qk p es)[i]?=some e→us'.toList[i]?=some u→∃j:Nat,es[j]?=some e∧us.toList[j]?=some u)→∃v w',(execOp a.eval o).run P w=.ok (.value v) w'∧Rel P S0 L B0 w0 N ⟨Ab.put o.dst .aw st.vars,aR tg (.iB (qk p es)) st.aa⟩ (a.put o.dst v) w' β:=by intro us' hrun hst' hl' hc';refine⟨_,_,hrun,(h.PB (q':=.iB (qk p es)) (ob':=.map us' c) hob hblk hh fun{S' w'} hw' hmo=>⟨b,us',c,hb,hw',hst',hl',fun i e u h1 h2=>?_⟩).1.put hd (.aw _)⟩;obtain⟨j,g1,g2⟩:=hc' i e u h1 h2;have:=hc j e u g1 g2;exact⟨this.1,this.2.1,this.2.2.1,this.2.2.2.mono hmo⟩
 rcases hfind with⟨h1,h2,h3,h4,h5⟩|⟨j,e,u,h1,h2,h3,h4,h5,h6,h7⟩;·refine main us ?_ hst (by rw[h4];exact hl) (by rw[h4];exact fun i e u g1 g2=>⟨i,g1,g2⟩);simp[execOp,ho,resolve,invoke,builtin,hmv,hkv,Builtin.delete_,run_underlying hmt,q99 hh,q109 hdk (hkey p hp),q111 hdk h1,q176 _ hh,Result.andThen]
 ·have hj:us[j]?=some u:=by simpa using h3
  have hjl:j<us.size:=(q66.1 hj).1;have hel:(us.eraseIdxIfInBounds j).toList=us.toList.eraseIdx j:=by unfold Array.eraseIdxIfInBounds;rw[dif_pos hjl,Array.toList_eraseIdx]
  refine main (us.eraseIdxIfInBounds j) ?_ (MapKept.stamped_erase hst j) ?_ ?_;·rw[q133]at h1;simp[execOp,ho,resolve,invoke,builtin,hmv,hkv,Builtin.delete_,run_underlying hmt,q99 hh,q109 hdk (hkey p hp),q111 hdk h1,q176 _ hh,Result.andThen]
  ·have h8:j<es.length:=by rw[←hl];exact hjl
   rw[hel,h7,q195 hjl,q195 h8,hl]
  ·intro i e' u' g1 g2;rw[hel,q207]at g2;rw[h7,q207]at g1;split at g1;·rename_i hi;rw[if_pos hi]at g2;exact⟨i,g1,g2⟩
   ·rename_i hi;rw[if_neg hi]at g2;exact⟨i+1,g1,g2⟩
theorem C5 (h:Rel P S0 L B0 w0 N st a w β) {v:Value} (hX:RV P (aZ S0 w0.heap.size β st.aa w) w β (aG st.aa) v X) (hm:IV st.aa X=some es):∃b us c,v=.map (some b)∧w.heap[b]?=some (.map us c)∧MapKept.Stamped us c∧us.toList.length=es.length∧∀(i:Nat) (e:PV×PV) (u:MapEntry),es[i]?=some e→us.toList[i]?=some u→u.key=Ab.b8 e.1∧dB e.1<99∧u.val.oneCell'=true∧dt (aZ S0 w0.heap.size β st.aa w) w u.val e.2:=by
 unfold IV at hm;split at hm;·rename_i t;obtain⟨b,us,c,hb,hh,hst,hl,hc⟩:=h.heap.holds t _ (s8 hm);exact⟨b,us,c,hX.aX.1.trans hb,hh,hst,hl,hc⟩
 ·cases hm;have h1:=hX.bq;cases h1 with|mv b us c es g1 g2 g3 g4 g5 g6=>exact⟨b,us,c,rfl,g2,g3,g4,fun i e u a1 a2=>⟨(g5 i e u a1 a2).1,(g5 i e u a1 a2).2.1,(g5 i e u a1 a2).2.2,g6 i e u a1 a2⟩⟩
 ·cases hm
theorem R3 {t:TypeId}{m k:Operand}{s:Nat} (ho:o.op=.lookup t m k ok) (hm:jy P t=some (kt,et)) (hsrt:ko P kt=some s) (hz:zeroV P et=some z) (hz1:z.oneCell'=true) (h:Rel P S0 L B0 w0 N st a w β) (hd:∀s,o.dst=some s→s<N) {X K:AV} (hX:RV P (aZ S0 w0.heap.size β st.aa w) w β (aG st.aa) (a.eval m) X) (hK:RV P (aZ S0 w0.heap.size β st.aa w) w β (aG st.aa) (a.eval k) K)  (e2:K=.pv p) (hob:IV st.aa X=some es) (hp:dB p=s) (hks:fI s es):∃v,(execOp a.eval o).run P w=.ok (.value v) w∧Rel P S0 L B0 w0 N ⟨Ab.put o.dst (ye z ok (lK p es)) st.vars,st.aa⟩ (a.put o.dst v) w β:=by
 subst e2;obtain⟨b,us,c,hmv,hh,hst,hl,hc⟩:=C5 h hX hob;have hmt:=fP hm;obtain⟨d,hdk,hkey⟩:=gG hsrt;have hs99:=oG hsrt;have hkv:a.eval k=Ab.b8 p:=lf hK hp hs99;have hzr:(zeroValue et).run P w=.ok z w:=by unfold zeroV at hz;obtain⟨i,hi,hz⟩:=q63.1 hz;simp[zeroValue,typeInfo,hi,hz]
 have hfind:=iH hkey hp hs99 us.toList es 0 hks hl fun i e u h1 h2=>(hc i e u h1 h2).1;have fin:∀(v:Value) (x:PV) (f:Bool),(Instr.lookup t (.map (some b)) (Ab.b8 p) ok).run P w=.ok (if ok=true then .tuple #[v,.bool f] else v) w→dt (aZ S0 w0.heap.size β st.aa w) w v x→∃v,(execOp a.eval o).run P w=.ok (.value v) w∧Rel P S0 L B0 w0 N ⟨Ab.put o.dst (if ok=true then .aO [.pv x,.pv (.bool f)] else .pv x) st.vars,st.aa⟩ (a.put o.dst v) w β:=by intro v x f hrun hv;refine⟨_,by simp only[execOp,ho,hmv,hkv];simp[hrun,Result.andThen];rfl,h.put hd ?_⟩;cases ok with|false=>exact .pv _ _ hv|true=>refine .aO _ [v,.bool f] rfl fun i c u h1 h2=>?_;match i with|0=>simp at h1 h2;subst h1 h2;exact .pv _ _ hv|1=>simp at h1 h2;subst h1 h2;exact .pv _ _ (.bool f)|i+2=>simp at h1
 unfold ye;rcases hfind with⟨h1,h2,_⟩|⟨j,e,u,h1,h2,h3,h4,h5,_⟩;·rw[h2];refine fin z (su z) false ?_ (iG _ _ z hz1);simp[Instr.lookup,run_underlying hmt,q99 hh,q109 hdk (hkey p hp),q111 hdk h1,hzr,Result.andThen]
 ·rw[h5];refine fin u.val e.2 true ?_ (hc j e u h2 h3).2.2.2;simp[Instr.lookup,run_underlying hmt,q99 hh,q109 hdk (hkey p hp),q111 hdk h1,Result.andThen]
theorem Lu {t e yt:TypeId}{x:Operand} (ho:o.op=.binOp (if ne=true then .neq else .eql) t x (.const (.pointer none)) yt) (hu:P.underlying t=some (.pointer e)) (h:Rel P S0 L B0 w0 N st a w β) (hd:∀s,o.dst=some s→s<N) (hX:RV P (aZ S0 w0.heap.size β st.aa w) w β (aG st.aa) (a.eval x) X) {b:Bool} (hb:ux X=some b):∃v,(execOp a.eval o).run P w=.ok (.value v) w∧Rel P S0 L B0 w0 N ⟨Ab.put o.dst (.pv (.bool (b !=ne))) st.vars,st.aa⟩ (a.put o.dst v) w β:=by
 have hv:∃A,a.eval x=.pointer A∧A.isNone=b:=by
  unfold ux at hb;split at hb;·cases hb;obtain⟨b',e,_⟩:=hX.ew;exact⟨_,e,rfl⟩
  ·cases hb;obtain⟨b',n,c,inf,e,_⟩:=hX.fR;exact⟨_,e,rfl⟩
  ·cases hb;obtain⟨ad,us,e,_⟩:=hX.jn;exact⟨_,e,rfl⟩
  ·cases hb;have h1:=hX.bq;generalize a.eval x=u at h1 ⊢;cases h1 with|pt ad cs us _ _ _ _=>exact⟨_,rfl,rfl⟩
  ·split at hb;·cases hb;have h1:=hX.bq;generalize a.eval x=u at h1 ⊢;cases h1 with|val v hv=>exact⟨none,rfl,rfl⟩
   ·cases hb
  ·cases hb
 obtain⟨A,hxv,hA⟩:=hv;have hu':P.underlying t=some (.pointer (P.pointee t)):=by rw[hu];unfold Program.pointee;rw[hu]
 have hg:∀op,(eqGuard op t x (.const (.pointer none)) (.pointer A) (.pointer none)).run P w=.ok () w:=by intro op;unfold eqGuard;cases op<;>simp<;>rfl
 refine⟨.bool (b !=ne),?_,h.put hd (.pv _ _ (.bool _))⟩;have hev:a.eval (.const (.pointer none))=.pointer none:=rfl;cases ne with|false=>simp[execOp,ho,hxv,hev,hg,run_eql_pointer_nil w t A hu',Result.andThen,hA]|true=>simp[execOp,ho,hxv,hev,hg,run_neq_pointer_nil w t A hu',Result.andThen,hA]
theorem Qr {t kt et:TypeId}{x:Operand}{d:Nat} (ho:o.op=.range t x) (hm:jy P t=some (kt,et)) (h:Rel P S0 L B0 w0 N st a w β) (hd:d<N) (ht:st.aa d=none) (hX:RV P (aZ S0 w0.heap.size β st.aa w) w β (aG st.aa) (a.eval x) (.pv (.mv es))):∃v w' β',(execOp a.eval o).run P w=.ok (.value v) w'∧Rel P S0 L B0 w0 N ⟨Ab.put (some d) (.ptr d 0) st.vars,bG [(d,.nS es none)] st.aa⟩ (a.put (some d) v) w' β':=by have h1:=hX.bq;generalize hxv:a.eval x=xv at h1;cases h1 with|mv b us c es g1 g2 g3 g4 g5 g6=>
 have hmt:=fP hm;have hlo:leftOf us #[]=us:=by unfold leftOf;simp
 let it:Obj:=.mapIter (some b) c #[] c;have hbl:b<w.heap.size:=g1.2.1;have hgr:=cV w it;have hmono:∀k,aZ S0 w0.heap.size β st.aa w k→aZ S0 w0.heap.size (eG β d (.pointer (some ⟨w.heap.size,0,none⟩))) (aR d (.nS es none) st.aa) (w.alloc it) k∧(w.alloc it).heap[k]?=w.heap[k]?:=by
  intro k hk;refine⟨⟨hk.1,q95 hk.2.1 hgr.size,?_⟩,hgr.block k hk.2.1 (by simp)⟩;rintro⟨s,q,hs,hb⟩;by_cases e:s=d;·subst e;rw[aY]at hb;simp[cr]at hb;have:=hk.2.1;omega
  ·rw[cJ _ _ e]at hb;exact hk.2.2 ⟨s,q,by simpa[aR,e]using hs,hb⟩
 have hf:=h.fresh hd ht hgr (v:=.pointer (some ⟨w.heap.size,0,none⟩)) (fun b hb=>by simp[cr]at hb;omega) (o:=.nS es none) ⟨w.heap.size,b,us,c,#[],aY _ _ _,heap_alloc_new w _,(hmono b g1).1,(hmono b g1).2.trans g2,g3,by rw[hlo];exact g4,fun i e u h1 h2=>by rw[hlo]at h2;exact⟨(g5 i e u h1 h2).1,(g5 i e u h1 h2).2.1,(g5 i e u h1 h2).2.2,(g6 i e u h1 h2).mono hmono⟩,fun e he=>by cases he⟩;rw[cx];refine⟨.pointer (some ⟨w.heap.size,0,none⟩),w.alloc it,_,by simp[execOp,ho,hxv,Instr.range,run_underlying hmt,q99 g2,Result.andThen,it],hf.put (d:=some d) (fun s hs=>by injection hs with hs;omega) ?_⟩;exact .ptr d 0 w.heap.size (bU.2 (.inl rfl)) (aY _ _ _)
theorem PC {x:Operand} (ho:o.op=.entry x) (h:Rel P S0 L B0 w0 N st a w β) (hd:∀s,o.dst=some s→s<N) {tg:Nat}{e:PV×PV} (hob:st.aa tg=some (.nS rem (some e))) (hX:RV P (aZ S0 w0.heap.size β st.aa w) w β (aG st.aa) (a.eval x) (.ptr tg 0)):∃v,(execOp a.eval o).run P w=.ok (.value v) w∧Rel P S0 L B0 w0 N ⟨Ab.put o.dst (.aO [.pv e.1,.pv e.2]) st.vars,st.aa⟩ (a.put o.dst v) w β:=by
 obtain⟨r,m,us,c,seen,hp,hh,hm,hmm,hst,hl,hc,hcur⟩:=h.heap.holds tg _ hob;obtain⟨u,s',rfl,hu,hk,hk99,hone,hv⟩:=hcur e rfl;obtain⟨b,hxv,_,hb⟩:=hX.ew;rw[hp]at hb;have hb:r=b:=by simpa using hb
 subst hb;refine⟨.tuple #[u.key,u.val],?_,h.put hd (.aO _ [u.key,u.val] rfl fun i c w1 h1 h2=>?_)⟩;·have hr:=run_entry_at (P:=P) w r m c s' us c u hh hmm hu hst.2.1;rw[←hxv]at hr;simp only[execOp,ho];simp[hr,Result.andThen]
 ·match i with|0=>simp at h1 h2;subst h1 h2;rw[hk];exact .pv _ _ (.b8 hk99)|1=>simp at h1 h2;subst h1 h2;exact .pv _ _ hv|i+2=>simp at h1
theorem Rel.Wd (h:Rel P S0 L B0 w0 N st a w β) {w1:World} (hw:w1=w∨w1=w.drew):Rel P S0 L B0 w0 N st a w1 β:=by
 rcases hw with rfl|rfl;·exact h
 ·exact h.drew
theorem AF (us:Array MapEntry) (seen:Array Nat) (b:Nat):(leftOf us (seen.push b)).toList=(leftOf us seen).toList.filter fun e=>e.born !=b:=by unfold leftOf;simp only[q252,List.filter_filter];congr 1;funext e;rw[Array.contains_push];cases h:seen.contains e.born<;>cases h2:(e.born==b)<;>simp[bne,h2]
theorem pA:∀(Ls:List MapEntry) (j:Nat) {e:MapEntry},Ls[j]?=some e→(Ls.map (·.born)).Nodup→Ls.filter (fun x=>x.born !=e.born)=Ls.eraseIdx j
 |[],j,e,hj,_=>by simp at hj|y::Ls,0,e,hj,hnd=>by rw[q71,q173]at hnd;simp only[q69,qr]at hj;subst hj;rw[q220,if_neg (by simp),List.eraseIdx_cons_zero,q174];intro z hz;simp only[bne_iff_ne,ne_eq];intro e;exact hnd.1 (e▸q138 hz)|y::Ls,j+1,e,hj,hnd=>by
  rw[q71,q173]at hnd;have hj':Ls[j]?=some e:=by simpa using hj
  have hne:y.born≠e.born:=fun eq=>hnd.1 (eq▸q138 (List.mem_of_getElem? hj'));rw[q220,if_pos (by simpa using hne),List.eraseIdx_cons_succ,pA Ls j hj' hnd.2]
theorem Q8 {x:Operand} (ho:o.op=.next x false) (h:Rel P S0 L B0 w0 N st a w β) (hd:∀s,o.dst=some s→s<N) {tg:Nat}{cur:Option (PV×PV)} (hob:st.aa tg=some (.nS rem cur)) (hX:RV P (aZ S0 w0.heap.size β st.aa w) w β (aG st.aa) (a.eval x) (.ptr tg 0)):(rem=[]∧∃v,(execOp a.eval o).run P w=.ok (.value v) w∧Rel P S0 L B0 w0 N ⟨Ab.put o.dst (.aO [.pv (.bool false)]) st.vars,st.aa⟩ (a.put o.dst v) w β)∨∃e l m v w',rem=l++e::m∧(execOp a.eval o).run P w=.ok (.value v) w'∧Rel P S0 L B0 w0 N ⟨Ab.put o.dst (.aO [.pv (.bool true),.pv e.1,.pv e.2]) st.vars,aR tg (.nS (l++m) (some e)) st.aa⟩ (a.put o.dst v) w' β:=by
 obtain⟨r,m,us,c,seen,hp,hh,hm,hmm,hst,hl,hc,hcur⟩:=h.heap.holds tg _ hob;obtain⟨b,hxv,_,hb⟩:=hX.ew;rw[hp]at hb;have hb:r=b:=by simpa using hb
 subst hb;have hblk:cr (β tg)=some r:=by rw[hp];rfl
 rcases run_next_at (P:=P) w o.type r m c c seen us c hh hmm hst.1 (q93 _) with⟨h0,hrun⟩|⟨e,he,w1,hw1,hrun⟩
 ·left;have hrem:rem=[]:=by apply q72;rw[←hl,q83,h0]
  rw[←hxv]at hrun;refine⟨hrem,.tuple #[.bool false],by simp only[execOp,ho];simp[hrun,Result.andThen],h.put hd (.aO _ [.bool false] rfl fun i c u h1 h2=>?_)⟩;match i with|0=>simp at h1 h2;subst h1 h2;exact .pv _ _ (.bool _)|i+1=>simp at h1
 ·right;obtain⟨j,hj⟩:=q101 he;have hjl:j<(leftOf us seen).toList.length:=(q65.1 hj).1;have hjr:j<rem.length:=by omega
  have hrj:rem[j]?=some rem[j]:=q64 hjr;have hfacts:=hc j rem[j] e hrj hj;have hh1:w1.heap[r]?=some (.mapIter (some m) c seen c):=by rcases hw1 with e|e<;>(rw[e];exact hh)
  have h1:=h.Wd hw1;have hsplit:rem=rem.take j++rem[j]::rem.drop (j+1):=by rw[←q88 hjr,q156]
  have hnd:((leftOf us seen).toList.map (·.born)).Nodup:=by
   have:(leftOf us seen).toList.Sublist us.toList:=by unfold leftOf;rw[q252];exact List.filter_sublist
   exact(this.map _).nodup hst.2.1
  have hleft:(leftOf us (seen.push e.born)).toList=(leftOf us seen).toList.eraseIdx j:=by rw[AF];exact pA _ j hj hnd
  have hremE:rem.take j++rem.drop (j+1)=rem.eraseIdx j:=by rw[List.eraseIdx_eq_take_drop_succ]
  rw[←hxv]at hrun;refine⟨rem[j],rem.take j,rem.drop (j+1),.tuple #[.bool true,e.key,e.val],ChangeMaps.setBlock w1 r (.mapIter (some m) c (seen.push e.born) c),hsplit,by simp only[execOp,ho];simp[hrun,Result.andThen],?_⟩;have hset:=h1.PB (q':=.nS (rem.take j++rem.drop (j+1)) (some rem[j])) (ob':=.mapIter (some m) c (seen.push e.born) c) hob hblk hh1 fun{S' w'} hw' hmo=>?_;·refine Rel.put hset.1 hd (.aO [.pv (.bool true),.pv rem[j].1,.pv rem[j].2] [.bool true,e.key,e.val] rfl fun i c u h1 h2=>?_);match i with
   |0=>simp at h1 h2;subst h1 h2;exact .pv _ _ (.bool _)|1=>simp at h1 h2;subst h1 h2;rw[hfacts.1];exact .pv _ _ (.b8 hfacts.2.1)|2=>
    simp at h1 h2;subst h1 h2;refine .pv _ _ (hfacts.2.2.2.mono fun k hk=>?_);have hk1:aZ S0 w0.heap.size β st.aa w1 k:=by rcases hw1 with e|e<;>(rw[e];exact hk)
    have:=hset.2 k hk1;refine⟨this.1,this.2.trans ?_⟩;rcases hw1 with e|e<;>rw[e]<;>rfl|i+3=>simp at h1
  ·have hmo':∀k,aZ S0 w0.heap.size β st.aa w k→S' k∧w'.heap[k]?=w.heap[k]?:=by rcases hw1 with e|e<;>(rw[e]at hmo;exact hmo)
   refine⟨r,m,us,c,seen.push e.born,hp,hw',(hmo' m hm).1,(hmo' m hm).2.trans hmm,hst,?_,fun i x u g1 g2=>?_,fun x hx=>?_⟩;·rw[hleft,hremE,q195 hjl,q195 hjr,hl]
   ·rw[hremE,q207]at g1;rw[hleft,q207]at g2;have:∃q:Nat,rem[q]?=some x∧(leftOf us seen).toList[q]?=some u:=by
     split at g1;·rename_i hi;rw[if_pos hi]at g2;exact⟨i,g1,g2⟩
     ·rename_i hi;rw[if_neg hi]at g2;exact⟨i+1,g1,g2⟩
    obtain⟨q,q1,q2⟩:=this;have:=hc q x u q1 q2;exact⟨this.1,this.2.1,this.2.2.1,this.2.2.2.mono hmo'⟩
   ·cases hx;refine⟨e,seen,rfl,?_,hfacts.1,hfacts.2.1,hfacts.2.2.1,hfacts.2.2.2.mono hmo'⟩;have:e∈(leftOf us seen).toList:=he;unfold leftOf at this;simp only[q252,q125]at this;exact this.1
theorem FB {x:XK} (hc:Bo P o=some (x,xs)) (hd:∀s,o.dst=some s→s<N) (h:Rel P S0 L B0 w0 N st a w β) (hK:∀st a w β,K st→Rel P S0 L B0 w0 N st a w β→K' a w) (hs:ba o.dst x (xs.map (Ab.ev st.vars)) K st):o.wp P a w K' Q:=by
 have hput:∀{t:TypeId}{m k y:Operand}{kt et:TypeId}{s:Nat},(execOp a.eval o).run P w=(do Instr.mapUpdate t (a.eval m) (a.eval k) (a.eval y);pure Next.skip:Sem Next).run P w→jy P t=some (kt,et)→ko P kt=some s→ba o.dst (.TU s) ([m,k,y].map (Ab.ev st.vars)) K st→o.wp P a w K' Q:=by
  intro t m k y kt et s ho hm hsr hs;have hs:sk o.dst s (strip (Ab.ev st.vars m)) (strip (Ab.ev st.vars k)) (qx (strip (Ab.ev st.vars y))) ([m,k,y].map (Ab.ev st.vars)) K st:=hs;unfold sk at hs;split at hs;·rename_i t' p v e1 e2 e3;obtain⟨ha,hs⟩:=hs;obtain⟨es,hes,hp,hks,hKs⟩:=ae hs;obtain⟨w',hrun,hR⟩:=QA ho hm hsr h hd (h.dA m ha.1) (h.dA k ha.2.1) (h.dA y ha.2.2.1).nrm e1 e2 e3 (s8 hes) hp hks;exact jm hrun (hK _ _ _ β hKs hR)
  ·exact hs.elim
 unfold Bo at hc;split at hc
 ·rename_i t ho;split at hc
  ·split at hc;·cases hc;have hs:ai o.dst fun d=>st.aa d=none∧K ⟨Ab.put (some d) (.own d) st.vars,bG [(d,.iB [])] st.aa⟩:=hs;obtain⟨d,hdd,hn,hKs⟩:=ae hs;obtain⟨v,w',β',hrun,hR⟩:=Qe ho h (hd d hdd) hn;exact aK hrun (hK _ _ _ β' hKs (by rw[hdd];exact hR))
   ·cases hc
  ·cases hc
 ·rename_i t m k y ho;split at hc
  ·rename_i kt et hm;split at hc
   ·rename_i s hsr;split at hc;·cases hc;exact hput (by simp only[execOp,ho]) hm hsr hs
    ·cases hc
   ·cases hc
  ·cases hc
 ·rename_i t m k y ho;split at hc
  ·rename_i kt et hm;split at hc
   ·rename_i s hsr;split at hc;·cases hc;exact hput (by simp only[execOp,ho]) hm hsr hs
    ·cases hc
   ·cases hc
  ·cases hc
 ·rename_i t m k ok ho;split at hc
  ·rename_i kt et hm;split at hc
   ·rename_i s z hsr hz;split at hc
    ·cases hc;have hs:wP o.dst s z ok (strip (Ab.ev st.vars m)) (strip (Ab.ev st.vars k)) ([m,k].map (Ab.ev st.vars)) K st:=hs;unfold wP at hs;split at hs;·rename_i p e2;obtain⟨ha,hs⟩:=hs;obtain⟨es,hes,hz1,hp,hks,hKs⟩:=ae hs;obtain⟨v,hrun,hR⟩:=R3 ho hm hsr hz hz1 h hd (h.dA m ha.1) (h.dA k ha.2.1) e2 hes hp hks;exact aK hrun (hK _ _ _ β hKs hR)
     ·exact hs.elim
    ·cases hc
   ·cases hc
  ·cases hc
 ·rename_i op t x0 y yt ho;split at hc
  ·rename_i e hu;split at hc
   ·have fin:∀ne:Bool,o.op=.binOp (if ne=true then .neq else .eql) t x0 (.const (.pointer none)) yt→ba o.dst (.Eu ne) ([x0].map (Ab.ev st.vars)) K st→o.wp P a w K' Q:=by intro ne ho hs;have hs:aq ([x0].map (Ab.ev st.vars))∧ai (ux (strip (Ab.ev st.vars x0))) fun b=>K ⟨Ab.put o.dst (.pv (.bool (b !=ne))) st.vars,st.aa⟩:=hs;obtain⟨ha,hs⟩:=hs;obtain⟨b,hb,hKs⟩:=ae hs;obtain⟨v,hrun,hR⟩:=Lu ho hu h hd (h.dA x0 ha.1) hb;exact aK hrun (hK _ _ _ β hKs hR)
    split at hc;·cases hc;exact fin false ho hs
    ·cases hc;exact fin true ho hs
    ·cases hc
   ·cases hc
  ·cases hc
 ·rename_i c ho;split at hc
  ·rename_i m k t kt' e1 e2 e3;split at hc
   ·rename_i kt et hm;split at hc
    ·rename_i s hsr;split at hc
     ·rename_i hone;cases hc;have hs:wg o.dst s (strip (Ab.ev st.vars m)) (strip (Ab.ev st.vars k)) ([m,k].map (Ab.ev st.vars)) K st:=hs;unfold wg at hs;split at hs
      ·rename_i t' p e4 e5;obtain⟨ha,hs⟩:=hs;obtain⟨es,hes,hp,hks,hKs⟩:=ae hs;obtain⟨cal,args,tys⟩:=c;simp only at e1 e2 e3;have e2':args=#[m,k]:=by apply q114;simpa using e2
       have e3':tys=#[t,kt]:=by apply q114;rw[hone.2]at e3;simpa using e3
       subst e1 e2' e3';obtain⟨v,w',hrun,hR⟩:=OP ho hm hsr h hd (h.dA m ha.1) (h.dA k ha.2.1) e4 e5 (s8 hes) hp hks;exact aK hrun (hK _ _ _ β hKs hR)
      ·exact hs.elim
     ·cases hc
    ·cases hc
   ·cases hc
  ·cases hc
 ·rename_i t x0 ho;split at hc
  ·rename_i m hm;cases hc;have hs:xA o.dst (strip (Ab.ev st.vars x0)) ([x0].map (Ab.ev st.vars)) K st:=hs;unfold xA at hs;split at hs;·rename_i es e1;obtain⟨d,hdd,ha,hn,hKs⟩:=ae hs;have hX:=h.dA x0 ha.1;rw[e1]at hX;obtain⟨v,w',β',hrun,hR⟩:=Qr (kt:=m.1) (et:=m.2) ho hm h (hd d hdd) hn hX;exact aK hrun (hK _ _ _ β' hKs (by rw[hdd];exact hR))
   ·exact hs.elim
  ·cases hc
 ·rename_i x0 ho;cases hc;have hs:xo o.dst (strip (Ab.ev st.vars x0)) ([x0].map (Ab.ev st.vars)) K st:=hs;unfold xo at hs;split at hs
  ·rename_i t e1;obtain⟨ha,hs⟩:=hs;obtain⟨⟨rem,cur⟩,hr,h1,h2⟩:=ae hs;have hX:=h.dA x0 ha.1;rw[e1]at hX;rcases Q8 ho h hd (Bx hr) hX with⟨g1,v,hrun,hR⟩|⟨e,l,m,v,w',g1,hrun,hR⟩;·exact aK hrun (hK _ _ _ β (h1 g1) hR)
   ·exact aK hrun (hK _ _ _ β (h2 e l m g1) hR)
  ·exact hs.elim
 ·rename_i x0 ho;cases hc;have hs:wY o.dst (strip (Ab.ev st.vars x0)) ([x0].map (Ab.ev st.vars)) K st:=hs;unfold wY at hs;split at hs;·rename_i t e1;obtain⟨ha,hs⟩:=hs;obtain⟨⟨rem,cur⟩,hr,hs⟩:=ae hs;obtain⟨e,he,hKs⟩:=ae hs;have hX:=h.dA x0 ha.1;rw[e1]at hX;have hob:=Bx hr;simp only at he hob;rw[he]at hob;obtain⟨v,hrun,hR⟩:=PC ho h hd hob hX;exact aK hrun (hK _ _ _ β hKs hR)
  ·exact hs.elim
 ·cases hc
end
theorem pH {d:TypeDesc}{k:PV}{s:Nat} (hd:∀k,dB k=s→MapKept.IsKey d (b8 k)) (hk:dB k=s) (hs:s<99):∀(us:List MapEntry) (es:List (PV×AV)) (n:Nat),gu s es→us.length=es.length→(∀(i:Nat) (e:PV×AV) (u:MapEntry),es[i]?=some e→us[i]?=some u→u.key=b8 e.1)→(Instr.findNow d (b8 k) us n=some none∧getM k es=none∧∀v,jv k v es=es++[(k,v)])∨∃j e u,Instr.findNow d (b8 k) us n=some (some (n+j,u.val))∧es[j]?=some e∧us[j]?=some u∧u.key=b8 k∧getM k es=some e.2∧∀v,jv k v es=es.set j (k,v)|[],[],_,_,_,_=>.inl ⟨rfl,rfl,fun v=>rfl⟩|[],_::_,_,_,hl,_=>by simp at hl|_::_,[],_,_,hl,_=>by simp at hl|u::us,e::es,n,hks,hl,hu=>by have h1:=hu 0 e u rfl rfl;have hke:=hks e (by simp);obtain⟨r,hr,hiff⟩:=q284 (hd k hk) (hd e.1 hke);rw[←h1]at hr;cases r with|true=>have h2:b8 k=b8 e.1:=hiff.1 rfl;have h3:mU k e.1=true:=(pK hk hke hs).2 h2.symm;exact .inr ⟨0,e,u,by simp[Instr.findNow,hr],rfl,rfl,h1.trans h2.symm,by simp only[getM];rw[if_pos h3],fun v=>by simp only[jv];rw[if_pos h3];rfl⟩|false=>
 have h3:¬mU k e.1=true:=fun h=>by have:=hiff.2 ((pK hk hke hs).1 h).symm;cases this
 rcases pH hd hk hs us es (n+1) (fun x hx=>hks x (by simp[hx])) (by simpa using hl) (fun i x y hx hy=>hu (i+1) x y (by simpa using hx) (by simpa using hy)) with⟨g1,g2,g3⟩|⟨j,e',u',g1,g2,g3,g4,g5,g6⟩;·exact .inl ⟨by simp[Instr.findNow,hr,g1],by simp only[getM];rw[if_neg h3];exact g2,fun v=>by simp only[jv];rw[if_neg h3,g3 v];rfl⟩
 ·exact .inr ⟨j+1,e',u',by simp[Instr.findNow,hr,g1];omega,by simpa using g2,by simpa using g3,g4,by simp only[getM];rw[if_neg h3];exact g5,fun v=>by simp only[jv];rw[if_neg h3,g6 v];rfl⟩
theorem RV.pureD {P:Program}{w:World}{β:Nat→Value}{D:Nat→Prop}{u:Value}{v:AV} (h:RV P S w β D u v) (hp:eC v=true):RV P S w β (fun _=>False) u v:=by
 have hcell:∀{u:Value}{c:AV},RV P S w β D u c→gJ c=true→RV P S w β (fun _=>False) u c:=by intro u c h hp;cases c with
  |pv p=>cases h with|pv _ _ h=>exact .pv _ _ h
  |rp cs=>cases h with|rp ad _ us h1 h2 h3 h4=>exact .rp ad _ us h1 h2 h3 h4
  |_=>simp[gJ]at hp
 cases v with
 |agg cs=>cases h with|agg _ us hl hc=>exact .agg _ us hl fun i c u h1 h2=>hcell (hc i c u h1 h2) (iU cs i c hp h1)
 |bE f cs=>cases h with|bE _ _ us hl hc=>exact .bE f _ us hl fun i c u h1 h2=>hcell (hc i c u h1 h2) (iU cs i c hp h1)
 |_=>exact hcell h hp
theorem zz {es:List (PV×AV)} (h:xX q=some es):q=some (.map es):=by
 unfold xX at h;split at h;·cases h;rfl
 ·cases h
section
variable{P:Program}{Γ:bX}{S0 L:Nat→Prop}{B0:Nat→Value}{w0 w:World}{N:Nat}{st:St}{a:Act}{β:Nat→Value}{o:Oper}{xs:List Operand}
theorem FL (S:Nat→Prop) (D:Nat→Prop) (z:Value):RV P S w β D z (Gr z):=by cases z with|agg cs=>have:=lM.cv_ (P:=P) (S:=S) (w:=w) (β:=β) D cs.toList;exact .agg _ cs.toList this.1 fun i c u h1 h2=>this.2 i c u h1 h2|_=>exact uw P S w β D _
theorem O2 {t:TypeId}{m k x:Operand}{s:Nat} (ho:(execOp a.eval o).run P w=(do Instr.mapUpdate t (a.eval m) (a.eval k) (a.eval x);pure Next.skip:Sem Next).run P w) (hm:jy P t=some (kt,et)) (hsrt:ko P kt=some s) (h:Rel P S0 L B0 w0 N st a w β) (hd:∀s,o.dst=some s→s<N) {X K Y:AV} (hX:RV P (aZ S0 w0.heap.size β st.aa w) w β (aG st.aa) (a.eval m) X) (hK:RV P (aZ S0 w0.heap.size β st.aa w) w β (aG st.aa) (a.eval k) K) (hY:RV P (aZ S0 w0.heap.size β st.aa w) w β (aG st.aa) (a.eval x) Y) {tg:Nat}{es:List (PV×AV)} (e1:X=.own tg) (e2:K=.pv p) (hob:st.aa tg=some (.map es)) (hp:dB p=s) (hks:gu s es) (hpu:eC Y=true):∃w',(execOp a.eval o).run P w=.ok .skip w'∧Rel P S0 L B0 w0 N ⟨Ab.put o.dst .aw st.vars,aR tg (.map (jv p Y es)) st.aa⟩ (a.put o.dst undef) w' β:=by
 subst e1 e2;obtain⟨b,us,c,hb,hh,hl,hc⟩:=h.heap.holds tg _ hob;have hmt:=fP hm;obtain⟨d,hdk,hkey⟩:=gG hsrt;have hs99:=oG hsrt;have hmv:a.eval m=.map (some b):=hX.aX.1.trans hb;have hkv:a.eval k=b8 p:=lf hK hp hs99;have hblk:cr (β tg)=some b:=by rw[hb];rfl
 have hdt:aG st.aa tg:=⟨_,hob⟩;have hfind:=pH hkey hp hs99 us.toList es 0 hks hl fun i e u h1 h2=>(hc i e u h1 h2).1;have main:∀(us':Array MapEntry) (c':Nat),(execOp a.eval o).run P w=.ok .skip {w with heap:=w.heap.setIfInBounds b (.map us' c')}→us'.toList.length=(jv p Y es).length→(∀(i:Nat) (e:PV×AV) (u:MapEntry),(jv p Y es)[i]?=some e→us'.toList[i]?=some u→(e=(p,Y)∧u.key=b8 p∧u.val=a.eval x)∨∃j:Nat,es[j]?=some e∧us.toList[j]?=some u)→∃w',(execOp a.eval o).run P w=.ok .skip w'∧Rel P S0 L B0 w0 N ⟨Ab.put o.dst .aw st.vars,aR tg (.map (jv p Y es)) st.aa⟩ (a.put o.dst undef) w' β:=by
  intro us' c' hrun hl' hc';have hset:=MapKept.heap_set (o':=.map us' c') hh;have hmo:∀k,aZ S0 w0.heap.size β st.aa w k→aZ S0 w0.heap.size β (aR tg (.map (jv p Y es)) st.aa) {w with heap:=w.heap.setIfInBounds b (.map us' c')} k∧(w.heap.setIfInBounds b (.map us' c'))[k]?=w.heap[k]?:=by
   rintro k ⟨g1,g2,g3⟩;have hkb:k≠b:=fun e=>g3 ⟨tg,_,hob,by rw[e];exact hblk⟩;refine⟨⟨g1,by simpa using g2,?_⟩,hset.2 k hkb⟩;rintro⟨s,q,hs,hk⟩;by_cases e:s=tg;·subst e;exact hkb (by rw[hblk]at hk;injection hk with hk;exact hk.symm)
   ·exact g3 ⟨s,q,by simpa[aR,e]using hs,hk⟩
  have hR:=(h.wo (w':={w with heap:=w.heap.setIfInBounds b (.map us' c')}) (o':=.map (jv p Y es)) hob hblk rfl rfl rfl (by simp) hset.2 ⟨b,us',c',hb,hset.1,hl',fun i e u h1 h2=>by
   rcases hc' i e u h1 h2 with⟨rfl,g1,g2⟩|⟨j,g1,g2⟩;·rw[g2];exact⟨g1,(hY.pureD hpu).mono hmo fun _ hf=>hf.elim⟩
   ·exact⟨(hc j e u g1 g2).1,(hc j e u g1 g2).2.mono hmo fun _ hf=>hf.elim⟩⟩).1;exact⟨_,hrun,hR.put hd (.aw _)⟩
 rcases hfind with⟨h1,h2,h3⟩|⟨j,e,u,h1,h2,h3,h4,h5,h6⟩
 ·refine main (us.push {key:=b8 p,val:=a.eval x,born:=c}) (c+1) ?_ ?_ ?_;·rw[ho,hmv,hkv];simp[Instr.mapUpdate,run_underlying hmt,q99 hh,q109 hdk (hkey p hp),q111 hdk h1,q176 _ hh,Result.andThen]
  ·rw[h3];simpa using hl
  ·intro i e u g1 g2;rw[h3]at g1;simp only[Array.toList_push]at g2;by_cases hi:i<es.length;·rw[q85 hi]at g1;rw[q85 (by omega)]at g2;exact .inr ⟨i,g1,g2⟩
   ·rw[q97 (by omega)]at g1;rw[q97 (by omega),hl]at g2;cases hz:i-es.length with|zero=>rw[hz]at g1 g2;simp only[q69,qr]at g1 g2;subst g1 g2;exact .inl ⟨rfl,rfl,rfl⟩|succ n=>rw[hz]at g1;simp at g1
 ·have hj:us[j]?=some u:=by simpa using h3
  refine main (us.modify j fun e=>{e with key:=b8 p,val:=a.eval x}) c ?_ ?_ ?_;·rw[ho,hmv,hkv];rw[q133]at h1;simp[Instr.mapUpdate,run_underlying hmt,q99 hh,q109 hdk (hkey p hp),q111 hdk h1,hj,h4,q279 (hkey p hp),q176 _ hh,Result.andThen]
  ·rw[h6];simpa using hl
  ·intro i e' u' g1 g2;rw[h6]at g1;have g2':(us.modify j fun e=>{e with key:=b8 p,val:=a.eval x})[i]?=some u':=by rw[←q214];exact g2
   rw[q216]at g2';rw[q189]at g1;by_cases hij:j=i
   ·subst hij;rw[if_pos rfl,hj]at g2';rw[if_pos rfl]at g1;split at g1;·simp only[qr,q116]at g1 g2';subst g1 g2';exact .inl ⟨rfl,rfl,rfl⟩
    ·cases g1
   ·rw[if_neg hij]at g1 g2';exact .inr ⟨i,g1,by simpa using g2'⟩
theorem Qv {t:TypeId}{m k:Operand}{s:Nat} (ho:o.op=.lookup t m k ok) (hm:jy P t=some (kt,et)) (hsrt:ko P kt=some s) (hz:zeroV P et=some z) (h:Rel P S0 L B0 w0 N st a w β) (hd:∀s,o.dst=some s→s<N) {X K:AV} (hX:RV P (aZ S0 w0.heap.size β st.aa w) w β (aG st.aa) (a.eval m) X) (hK:RV P (aZ S0 w0.heap.size β st.aa w) w β (aG st.aa) (a.eval k) K) {tg:Nat}{es:List (PV×AV)} (e1:X=.own tg) (e2:K=.pv p) (hob:st.aa tg=some (.map es)) (hp:dB p=s) (hks:gu s es):∃v,(execOp a.eval o).run P w=.ok (.value v) w∧Rel P S0 L B0 w0 N ⟨Ab.put o.dst (if ok=true then .aO [(getM p es).getD (Gr z),.pv (.bool (getM p es).isSome)] else(getM p es).getD (Gr z)) st.vars,st.aa⟩ (a.put o.dst v) w β:=by
 subst e1 e2;obtain⟨b,us,c,hb,hh,hl,hc⟩:=h.heap.holds tg _ hob;have hmt:=fP hm;obtain⟨d,hdk,hkey⟩:=gG hsrt;have hs99:=oG hsrt;have hmv:a.eval m=.map (some b):=hX.aX.1.trans hb;have hkv:a.eval k=b8 p:=lf hK hp hs99;have hzr:(zeroValue et).run P w=.ok z w:=by unfold zeroV at hz;obtain⟨i,hi,hz⟩:=q63.1 hz;simp[zeroValue,typeInfo,hi,hz]
 have hfind:=pH hkey hp hs99 us.toList es 0 hks hl fun i e u h1 h2=>(hc i e u h1 h2).1;have fin:∀(v:Value) (x:AV) (f:Bool),(Instr.lookup t (.map (some b)) (b8 p) ok).run P w=.ok (if ok=true then .tuple #[v,.bool f] else v) w→RV P (aZ S0 w0.heap.size β st.aa w) w β (aG st.aa) v x→∃v,(execOp a.eval o).run P w=.ok (.value v) w∧Rel P S0 L B0 w0 N ⟨Ab.put o.dst (if ok=true then .aO [x,.pv (.bool f)] else x) st.vars,st.aa⟩ (a.put o.dst v) w β:=by intro v x f hrun hv;refine⟨_,by simp only[execOp,ho,hmv,hkv];simp[hrun,Result.andThen];rfl,h.put hd ?_⟩;cases ok with|false=>exact hv|true=>refine .aO _ [v,.bool f] rfl fun i c u h1 h2=>?_;match i with|0=>simp at h1 h2;subst h1 h2;exact hv|1=>simp at h1 h2;subst h1 h2;exact .pv _ _ (.bool f)|i+2=>simp at h1
 rcases hfind with⟨h1,h2,h3⟩|⟨j,e,u,h1,h2,h3,h4,h5,h6⟩;·rw[h2];refine fin z (Gr z) false ?_ (FL _ _ z);simp[Instr.lookup,run_underlying hmt,q99 hh,q109 hdk (hkey p hp),q111 hdk h1,hzr,Result.andThen]
 ·rw[h5];refine fin u.val e.2 true ?_ ((hc j e u h2 h3).2.mono (fun b hb=>⟨hb,rfl⟩) fun _ hf=>hf.elim);simp[Instr.lookup,run_underlying hmt,q99 hh,q109 hdk (hkey p hp),q111 hdk h1,Result.andThen]
theorem J1 {t:TypeId}{m k:Operand}{s:Nat} (ho:o.op=.lookup t m k ok) (hm:jy P t=some (kt,et)) (hsrt:ko P kt=some s) (hz:zeroV P et=some z) (h:Rel P S0 L B0 w0 N st a w β) (hd:∀s,o.dst=some s→s<N) {X K:AV} (hX:RV P (aZ S0 w0.heap.size β st.aa w) w β (aG st.aa) (a.eval m) X) (hK:RV P (aZ S0 w0.heap.size β st.aa w) w β (aG st.aa) (a.eval k) K) {ks:List PV} (e1:X=.pv (.mp ks)) (e2:K=.pv p) (hzu:wB z=true) (hp:dB p=s) (hks:∀x∈ks,dB x=s):∃v,(execOp a.eval o).run P w=.ok (.value v) w∧Rel P S0 L B0 w0 N ⟨Ab.put o.dst (if ok=true then .aO [.agg [],.pv (.bool (ks.any (mU p)))] else .agg []) st.vars,st.aa⟩ (a.put o.dst v) w β:=by
 subst e1 e2;obtain⟨b,us,c,hmv,hh,hl,hc⟩:∃b us c,a.eval m=.map (some b)∧w.heap[b]?=some (.map us c)∧us.toList.length=ks.length∧∀(i:Nat) (k:PV) (u:MapEntry),ks[i]?=some k→us.toList[i]?=some u→u.key=b8 k∧u.val=.agg #[]:=by have hx:=hX.bq;generalize a.eval m=V at hx;cases hx with|mp b us c ks h1 h2 h3 h4=>exact⟨b,us,c,rfl,h2,h3,h4⟩
 have hmt:=fP hm;obtain⟨d,hdk,hkey⟩:=gG hsrt;have hs99:=oG hsrt;have hkv:a.eval k=b8 p:=lf hK hp hs99;have hzr:(zeroValue et).run P w=.ok z w:=by unfold zeroV at hz;obtain⟨i,hi,hz⟩:=q63.1 hz;simp[zeroValue,typeInfo,hi,hz]
 have hany:∀l:List PV,(getM p (l.map fun x=>(x,AV.aw))).isSome=l.any (mU p):=by intro l;induction l with|nil=>rfl|cons x l ih=>
  simp only[q71,getM,q222];by_cases hx:mU p x=true;·simp[hx]
  ·have hx':mU p x=false:=by simpa using hx
   rw[if_neg hx,hx',q265,ih]
 have hfind:=pH hkey hp hs99 us.toList (ks.map fun x=>(x,AV.aw)) 0 (by intro e he;obtain⟨x,hx,rfl⟩:=q84.1 he;exact hks x hx) (by simpa using hl) fun i e u h1 h2=>by rw[q77]at h1;obtain⟨x,hx,rfl⟩:=q0.1 h1;exact(hc i x u hx h2).1
 have hzv:z=.agg #[]:=by
  unfold wB at hzu;split at hzu
  ·rename_i cs;have:cs=#[]:=by simpa using hzu
   rw[this]
  ·cases hzu
 have fin:∀(v:Value) (f:Bool),v=.agg #[]→(Instr.lookup t (.map (some b)) (b8 p) ok).run P w=.ok (if ok=true then .tuple #[v,.bool f] else v) w→∃v,(execOp a.eval o).run P w=.ok (.value v) w∧Rel P S0 L B0 w0 N ⟨Ab.put o.dst (if ok=true then .aO [.agg [],.pv (.bool f)] else .agg []) st.vars,st.aa⟩ (a.put o.dst v) w β:=by
  intro v f hv0 hrun;subst hv0;have hag:RV P (aZ S0 w0.heap.size β st.aa w) w β (aG st.aa) (.agg #[]) (.agg []):=.agg [] [] rfl fun i c u h1=>by simp at h1
  refine⟨_,by simp only[execOp,ho,hmv,hkv];simp[hrun,Result.andThen];rfl,h.put hd ?_⟩;cases ok with|false=>exact hag|true=>refine .aO _ [.agg #[],.bool f] rfl fun i c u h1 h2=>?_;match i with|0=>simp at h1 h2;subst h1 h2;exact hag|1=>simp at h1 h2;subst h1 h2;exact .pv _ _ (.bool f)|i+2=>simp at h1
 rw[←hany];rcases hfind with⟨h1,h2,h3⟩|⟨j,e,u,h1,h2,h3,h4,h5,h6⟩;·rw[h2];refine fin z false hzv ?_;simp[Instr.lookup,run_underlying hmt,q99 hh,q109 hdk (hkey p hp),q111 hdk h1,hzr,Result.andThen]
 ·rw[h5];obtain⟨x,hx,rfl⟩:=q0.1 (by rw[q77]at h2;exact h2);refine fin u.val true (hc j x u hx h3).2 ?_;simp[Instr.lookup,run_underlying hmt,q99 hh,q109 hdk (hkey p hp),q111 hdk h1,Result.andThen]
theorem Rel.froze (h:Rel P S0 L B0 w0 N st a w β) {w':World}{b:Nat} (hnl:¬live β st.aa b) (hown:w0.heap.size≤b∨L b) (hos:w'.os=w.os) (htp:w'.tape=w.tape) (hou:w'.output=w.output) (hsz:w'.heap.size=w.heap.size) (hoth:∀k,k≠b→w'.heap[k]?=w.heap[k]?) (hsb:uh w w' b):Rel P S0 L B0 w0 N st a w' β:=by
 have hok:aZ S0 w0.heap.size β st.aa w'=aZ S0 w0.heap.size β st.aa w:=by funext k;simp[aZ,hsz]
 have hm:∀k,aZ S0 w0.heap.size β st.aa w k→aZ S0 w0.heap.size β st.aa w' k∧uh w w' k:=fun k hk=>⟨by rw[hok];exact hk,by
  by_cases e:k=b;·subst e;exact hsb
  ·exact .of (hoth k e)⟩;have hD:∀t,aG st.aa t→aG st.aa t∧β t=β t:=fun t ht=>⟨ht,rfl⟩;refine⟨h.size,h.defers,fun s=>(h.vars s).gL hm hD,⟨fun t o ho=>(h.heap.holds t o ho).gL hm hD rfl fun k hk=>?_,h.heap.inj⟩,h.old,h.qb,h.vw,⟨hos.trans h.bZ.os,htp.trans h.bZ.tape,hou.trans h.bZ.output,by rw[hsz];exact h.bZ.size,fun k h1 h2=>?_⟩⟩;·exact hoth k fun e=>hnl ⟨t,o,ho,by rw[←e];exact hk⟩
 ·rw[hoth k (by rintro rfl;rcases hown with h3|h3;omega;exact h2 h3)];exact h.bZ.block k h1 h2
theorem LF (hL:∀b,L b→S0 b) {t e:TypeId}{x:Operand} (ho:o.op=.convert t t x) (hu:P.underlying t=some (.slice e)) (he:P.underlying e=some (.int .u8)) (hd:∀s,o.dst=some s→s<N) (h:Rel P S0 L B0 w0 N st a w β) (hK:∀st a w β,K st→Rel P S0 L B0 w0 N st a w β→K' a w) (hs:ba o.dst .mark ([x].map (Ab.ev st.vars)) K st):o.wp P a w K' Q:=by
 have hs:CK o.dst (strip (Ab.ev st.vars x)) [Ab.ev st.vars x] K st:=by unfold ba at hs;unfold CK;simp only[q71,q117]at hs;generalize strip (Ab.ev st.vars x)=X at hs;cases X<;>first|exact hs|exact hs.elim
 unfold CK at hs;split at hs;rotate_left;·exact hs.elim
 rename_i tg hx;obtain⟨ha,hs⟩:=hs;obtain⟨⟨e1,rows⟩,har,hne,hKs⟩:=ae hs;have hX:=h.dA x ha.1;rw[hx]at hX;have hob:=bK har;simp only at hob hne hKs;have hdt:aG st.aa tg:=⟨_,hob⟩;obtain⟨inf,us,hi,hown,hrl,hcs⟩:=h.heap.holds tg _ hob;have hown':=hown;rcases hown'.2 with⟨_,hz⟩|⟨g,cap,cur,hv,_,hheap,_,_,_,_⟩;·exact absurd (q72 hz) hne
 have hblk:cr (β tg)=some g:=by rw[hv];rfl
 have hxv:a.eval x=.slice (some ⟨g,0,none⟩) rows.length cap:=hX.aX.1.trans hv;have hR:=h.share hL hob;have hnl:¬live β (gb tg st.aa) g:=by rintro⟨s,o,hs,hbs⟩;obtain⟨h1,h2⟩:=c7.1 ⟨o,hs⟩;exact h1 (h.heap.inj s tg g h2 hdt hbs hblk)
 have hlt:g<w.heap.size:=h.lt hdt hblk;have hfz:(w.freeze ⟨g,cur.size,none⟩ 1).heap=w.heap.setIfInBounds g (.cells cur e1 (cur.size,cur.size+1)):=by
  unfold World.freeze;rw[if_neg (by decide)];apply q288;·simp
  ·intro i h1 h2;have hil:i<w.heap.size:=by simpa using h2
   rw[Array.getElem_modify,Array.getElem_setIfInBounds hil];by_cases hi:g=i
   ·subst hi;have hg:w.heap[g]=.cells cur e1 (0,0):=by have:=hheap;rw[q127 hlt]at this;simpa using this
    rw[if_pos rfl,if_pos rfl,hg];rfl
   ·rw[if_neg hi,if_neg hi]
 have hget:∀k,(w.freeze ⟨g,cur.size,none⟩ 1).heap[k]?=if g=k then some (.cells cur e1 (cur.size,cur.size+1)) else w.heap[k]?:=by
  intro k;rw[hfz,Array.getElem?_setIfInBounds];by_cases hk:g=k;·subst hk;simp[hlt]
  ·simp[hk]
 have hR2:=hR.froze (w':=w.freeze ⟨g,cur.size,none⟩ 1) hnl (h.old tg g hdt hblk) rfl rfl rfl (by rw[hfz];simp) (fun k hk=>by rw[hget,if_neg (fun e=>hk e.symm)]) ⟨fun ad had=>by unfold World.cell?;rw[had,hget,if_pos rfl,hheap],fun us c hm=>by rw[hheap]at hm;cases hm⟩;have hsh:w.shape? g=some (e1,cur.size):=by unfold World.shape?;rw[hheap]
 have hrun:(execOp a.eval o).run P w=.ok (.value (a.eval x)) (w.freeze ⟨g,cur.size,none⟩ 1):=by simp[execOp,ho,hxv,convert,run_underlying hu,run_underlying he,markStringish,hsh,Result.andThen]
 refine aK hrun (hK _ _ _ β hKs (hR2.put hd ?_));have hv0:=hR2.vars;have hro:RV P (aZ S0 w0.heap.size β (gb tg st.aa) w) w β (aG (gb tg st.aa)) (β tg) (.pv (.ro rows)):=by
  have hbk:∀b,cr (β tg)=some b→aZ S0 w0.heap.size β (gb tg st.aa) w b:=by
   intro b hb;have:b=g:=by rw[hblk]at hb;injection hb with hb;exact hb.symm
   subst this;exact⟨(h.old tg b hdt hblk).elim .inr fun hx=>.inl (hL b hx),hlt,hnl⟩
  have hlive:∀b,live β (gb tg st.aa) b→live β st.aa b:=by rintro b ⟨s,o,hs,hb⟩;obtain⟨o',ho'⟩:=(c7.1 ⟨o,hs⟩).2;exact⟨s,o',ho',hb⟩
  exact .pv _ _ (qI (S':=aZ S0 w0.heap.size β (gb tg st.aa) w) (h.heap.arr hob) (fun b hb=>⟨hb.1,hb.2.1,fun hl=>hb.2.2 (hlive b hl)⟩) hbk).1
 rw[hX.aX.1];have hok:aZ S0 w0.heap.size β (gb tg st.aa) (w.freeze ⟨g,cur.size,none⟩ 1)=aZ S0 w0.heap.size β (gb tg st.aa) w:=by funext k;simp[aZ,hfz]
 refine hro.gL (fun k hk=>⟨by rw[hok];exact hk,?_⟩) fun t ht=>⟨ht,rfl⟩;by_cases ek:k=g;·subst ek;exact⟨fun ad had=>by unfold World.cell?;rw[had,hget,if_pos rfl,hheap],fun us c hm=>by rw[hheap]at hm;cases hm⟩
 ·exact .of (by rw[hget,if_neg (fun e=>ek e.symm)])
theorem JF {t:TypeId}{d:Nat} (ho:o.op=.makeMap t none) (h:Rel P S0 L B0 w0 N st a w β) (hd:d<N) (ht:st.aa d=none):∃v w' β',(execOp a.eval o).run P w=.ok (.value v) w'∧Rel P S0 L B0 w0 N ⟨Ab.put (some d) (.own d) st.vars,bG [(d,.map [])] st.aa⟩ (a.put (some d) v) w' β':=by have hf:=h.fresh hd ht (cV w (.map #[] 0)) (v:=.map (some w.heap.size)) (fun b hb=>by simp[cr]at hb;omega) (o:=.map []) ⟨w.heap.size,#[],0,aY _ _ _,heap_alloc_new w _,rfl,fun i e u h1=>by simp at h1⟩;rw[cx];refine⟨.map (some w.heap.size),w.alloc (.map #[] 0),_,by simp[execOp,ho,Instr.makeMap,Result.andThen],hf.put (d:=some d) (fun s hs=>by injection hs with hs;omega) ?_⟩;have:=RV.own (P:=P) (S:=aZ S0 w0.heap.size (eG β d (.map (some w.heap.size))) (aR d (.map []) st.aa) (w.alloc (.map #[] 0))) (w:=w.alloc (.map #[] 0)) (β:=eG β d (.map (some w.heap.size))) (D:=aG (aR d (.map []) st.aa)) d (bU.2 (.inl rfl));rwa[aY]at this
theorem zn {t e yt:TypeId}{x y:Operand} (ho:o.op=.binOp (if ne=true then .neq else .eql) t x y yt) (hu:P.underlying t=some (.slice e)) (hy:fp y=true) (hd:∀s,o.dst=some s→s<N) (h:Rel P S0 L B0 w0 N st a w β) (hK:∀st a w β,K st→Rel P S0 L B0 w0 N st a w β→K' a w) (hs:ba o.dst (.vW ne) ([x].map (Ab.ev st.vars)) K st):o.wp P a w K' Q:=by
 have hyv:a.eval y=.slice none 0 0:=by
  unfold fp at hy;split at hy;·rfl
  ·cases hy
 unfold ba at hs;split at hs;·rename_i h1 _;cases h1
 ·rename_i h1 _;cases h1
 ·rename_i h1 _;cases h1
 ·rename_i h1;cases h1
 ·rename_i ne' X h1 hl;cases h1;simp only[q71,q117,q110,and_true]at hl;subst hl;obtain⟨ha,hs⟩:=hs;obtain⟨rows,hr,hs⟩:=ae hs;have hX:=h.dA x ha.1;have hv:∃A n c,a.eval x=.slice A n c∧(rows≠[]→A.isNone=false):=by
   have hro:∀{S':Nat→Prop}{rows:List (List PV)},dt S' w (a.eval x) (.ro rows)→∃A n c,a.eval x=.slice A n c∧(rows≠[]→A.isNone=false):=by intro S' rows hX;obtain⟨A,c,hv,hc,hne⟩:=hX.gq;refine⟨A,rows.length,c,hv,fun h0=>?_⟩;obtain⟨ad,sz,us,rfl,_⟩:=hne h0;rfl
   generalize strip (Ab.ev st.vars x)=X at hX hr;cases X with
   |pv p=>cases p with|nil=>cases hr;exact⟨none,0,0,hX.bq.eB,fun h0=>absurd rfl h0⟩|ro rows'=>cases hr;exact hro hX.bq|_=>simp[fx]at hr
   |own t'=>simp only[fx,q0]at hr;obtain⟨⟨e',rows'⟩,hs',rfl⟩:=hr;obtain⟨hro',_⟩:=qI (S':=fun _=>True) (h.heap.arr (bK hs')) (fun _ _=>trivial) (fun _ _=>trivial);rw[←hX.aX.1]at hro';exact hro hro'|sub t' e1 lo hi=>
    simp only[fx,q63]at hr;obtain⟨r,hs',hr⟩:=hr;split at hr;·rename_i he1;simp only[qr]at hr;subst hr he1;exact hro (Cr (S':=fun _=>True) (h.heap.arr (bK hs')) (fun _ _=>trivial) (fun _ _=>trivial) hX)
    ·cases hr|_=>simp[fx]at hr
  obtain⟨A,n,c,hxv,hA⟩:=hv;have hrun:(execOp a.eval o).run P w=.ok (.value (.bool (if ne=true then !A.isNone else A.isNone))) w:=by cases ne with|false=>simp[execOp,ho,hxv,hyv,eqGuard_at_slice,run_eql_slice_nil w t e A n c hu,Result.andThen]|true=>simp[execOp,ho,hxv,hyv,eqGuard_at_slice,run_neq_slice_nil w t e A n c hu,Result.andThen]
  exact aK hrun (hK _ _ _ β (hs A.isNone hA) (h.put hd (.pv _ _ (.bool _))))
 ·rename_i h1 _;cases h1
 ·rename_i h1;cases h1
 ·rename_i h1;cases h1
 ·rename_i h1;cases h1
 ·rename_i h1 _;cases h1
 ·rename_i h1 _;cases h1
 ·exact hs.elim
theorem C6 {fn:Func} (h:fn.name= "math/bits.Add64"):Extern.find fn=some add64Entry:=by unfold Extern.find;simp only[h];rfl
theorem H3 {f:FuncId}{args:Array Operand}{argTypes:Array TypeId} (ho:o.op=.call {callee:=.value (.func f),args:=args,argTypes:=argTypes}) (hf:yf P f=true) (hd:∀s,o.dst=some s→s<N) (h:Rel P S0 L B0 w0 N st a w β) (hK:∀st a w β,K st→Rel P S0 L B0 w0 N st a w β→K' a w) (hs:ba o.dst .Bs (args.toList.map (Ab.ev st.vars)) K st):o.wp P a w K' Q:=by
 have hs:se o.dst (args.toList.map (Ab.ev st.vars)) ((args.toList.map (Ab.ev st.vars)).map strip) K st:=hs
 ·unfold se at hs;split at hs;rotate_left;·exact hs.elim
  rename_i p q r hl;obtain⟨ha,⟨c1,c2,c3,c4⟩,hs⟩:=hs;obtain⟨x,y,z,hxyz⟩:∃x y z,args.toList=[x,y,z]:=by
   have:args.toList.length=3:=by have:=congrArg List.length hl;simpa using this
   match args.toList,this with|[x,y,z],_=>exact⟨x,y,z,rfl⟩
  have harr:args=#[x,y,z]:=by apply q114;simpa using hxyz
  rw[hxyz]at hl ha;simp only[q71,q117,q110,and_true]at hl;obtain⟨e1,e2,e3⟩:=hl;have hx:=h.dA x ha.1;have hy:=h.dA y ha.2.1;have hz:=h.dA z ha.2.2.1;rw[e1]at hx;rw[e2]at hy;rw[e3]at hz;unfold yf at hf;split at hf
  ·rename_i fn hfn;simp only[q73,beq_iff_eq]at hf;obtain⟨⟨f1,f2⟩,f3⟩:=hf;have hrun:(execOp a.eval o).run P w=.ok (.value (.tuple #[.int .u64 ((p+q+r)%18446744073709551616),.int .u64 ((p+q+r)/18446744073709551616)])) w:=by have:=run_callFunc_extern (P:=P) hfn (by rw[f1];rfl) f2 (by simpa using f3) (C6 f1) #[a.eval x,a.eval y,a.eval z] w;rw[hx.aN,hy.aN,hz.aN,run_add64 p q r c1 c2 c3 c4]at this;simp only[Result.andThen]at this;have hev:a.eval (.func f)=.func (.func f) #[] #[]:=rfl;simp[execOp,ho,resolve,hev,Deferred.ofValue,invoke,harr,hx.aN,hy.aN,hz.aN,this]
   refine aK hrun (hK _ _ _ β hs (h.put hd ?_));refine .aO _ [_,_] rfl fun i c u h1 h2=>?_;match i with|0=>simp at h1 h2;subst h1 h2;exact .pv _ _ (.int _ _)|1=>simp at h1 h2;subst h1 h2;exact .pv _ _ (.int _ _)|i+2=>simp at h1
  ·cases hf
theorem vP (z:Array Value) (n i j:Nat) (hi:i<n) (hj:j<z.size):(Builtin.zeroCells z n).toList[i*z.size+j]?=some z[j]:=by
 have hlt:i*z.size+j<n*z.size:=by have:=q86 z.size (show i+1≤n from hi);rw[q118]at this;omega
 have hm:(i*z.size+j)%z.size=j:=by rw[q170,q289,q115 hj]
 simp[Builtin.zeroCells,hlt,hm,hj]
theorem J5 {t:TypeId}{x:Operand}{e:TypeId} (ho:o.op=.call {callee:=.builtin .cap,args:=#[x],argTypes:=#[t]}) (ht:P.underlying t=some (.slice e)) (hd:∀s,o.dst=some s→s<N) (h:Rel P S0 L B0 w0 N st a w β) (hK:∀st a w β,K st→Rel P S0 L B0 w0 N st a w β→K' a w) (hs:ba o.dst .HS ([x].map (Ab.ev st.vars)) K st):o.wp P a w K' Q:=by
 have hs:mP o.dst (strip (Ab.ev st.vars x)) [Ab.ev st.vars x] K st:=by unfold ba at hs;unfold mP;simp only[q71,q117]at hs;generalize strip (Ab.ev st.vars x)=X at hs;cases X with
  |pv p=>cases p<;>first|exact hs|exact hs.elim
  |_=>exact hs.elim
 unfold mP at hs;split at hs;·rename_i hx;obtain⟨ha,hs⟩:=hs;have hX:=h.dA x ha.1;rw[hx]at hX;have hv:=hX.bq.eB;refine aK ?_ (hK _ _ _ β hs (h.put hd (.pv (.int .i64 0) _ (.int _ _))));simp[execOp,ho,resolve,invoke,builtin,Builtin.cap_,run_underlying ht,hv,goInt]
 ·exact hs.elim
theorem LQ {t tn e:TypeId}{kn:IntKind}{x y:Operand} (ho:o.op=.call {callee:=.builtin .append,args:=#[x,y],argTypes:=#[t,tn]}) (ht:P.underlying t=some (.slice e)) (htn:P.underlying tn=some (.int kn)) (hi:P.info? e=some inf) (hz:dQ P e=some zs) (hpos:0<inf.size) (hz1:zs.all (·.oneCell')=true) (hd:∀s,o.dst=some s→s<N) (h:Rel P S0 L B0 w0 N st a w β) (hK:∀st a w β,K st→Rel P S0 L B0 w0 N st a w β→K' a w) (hs:ba o.dst (.Er e inf.size inf.bytes zs) ([x,y].map (Ab.ev st.vars)) K st):o.wp P a w K' Q:=by
 have hs:mI o.dst e inf.bytes zs [Ab.ev st.vars x,Ab.ev st.vars y] [strip (Ab.ev st.vars x),strip (Ab.ev st.vars y)] K st:=hs;unfold mI at hs;split at hs;rotate_left;·exact hs.elim
 rename_i n hl;simp only[q110,and_true]at hl;obtain⟨e1,e2⟩:=hl;obtain⟨d,hdd,⟨ha1,ha2,_⟩,⟨c1,c2,c3⟩,hn,hKs⟩:=ae hs;have hX:=h.dA x ha1;have hY:=h.dA y ha2;rw[e1]at hX;rw[e2]at hY;have hxv:=hX.bq.eB;have hyv:=hY.aN;obtain⟨m,rfl⟩:∃m:Nat,n=(m:Int):=⟨n.toNat,by omega⟩;simp only[q68]at c3 hKs;obtain⟨i',zv,hi',hzv,hzs,rfl⟩:=dS hz;have:i'=inf:=by rw[hi]at hi';injection hi' with hi';exact hi'.symm
 subst this;rw[hdd]at hd;have key:∃v w',(Builtin.append_ #[t,tn] o.type #[.slice none 0 0,.int .i64 (m:Int)]).run P w=.ok v w'∧w.grownBy w' none∧(∀b,cr v=some b→w.heap.size≤b)∧w'.ownsRow 0 e i'.size v m (Builtin.zeroCells zv.cells m).toList:=by
  by_cases h0:m=0
  ·subst h0;refine⟨.slice none 0 0,w,?_,⟨rfl,rfl,rfl,q93 _,fun _ _ _=>rfl⟩,fun b hb=>by simp[cr]at hb,by simp[Builtin.zeroCells],.inl ⟨rfl,rfl⟩⟩;have hw0:IntKind.i64.wrap 0=0:=by decide
   simp[Builtin.append_,run_underlying ht,run_underlying htn,sizeOf,typeInfo,hi,asInt,asIntOf,hw0]
  ·have hr:=Lib.run_append_nil_zeros (P:=P) w t tn o.type e i' zv .i64 kn ht htn hi hzv m (by omega) hpos (by omega) (by omega);refine⟨_,_,hr,⟨rfl,rfl,rfl,by simp,fun k hk _=>q201 w.drew _ k hk⟩,fun b hb=>by simp[cr]at hb;omega,by simp[size_zeroCells,hzs],.inr ⟨w.heap.size,_,_,rfl,q126 _,heap_alloc_new w.drew _,grownCap_ge w m 0 e,grownCap_le_maxLen w m 0 e (by unfold maxLen;omega),?_,?_⟩⟩;·have:=grownCap_ge w m 0 e;simp only[q230,size_zeroCells,hzs,←q150];congr 1;omega
   ·rw[q224,show m*i'.size=(Builtin.zeroCells zv.cells m).toList.length from by simp[size_zeroCells,hzs]];exact q154
 obtain⟨v',w',hrun,hg,hv,hown⟩:=key;have hf:=h.fresh (hd d rfl) hn hg hv (o:=.arr e (List.replicate m (zv.cells.toList.map su))) ⟨i',_,hi,by rw[aY,q215];exact hown,fun r hr=>by rw[q202 hr];simp[hzs],fun i j r p hr hp=>by
  rw[q229]at hr;split at hr
  ·rename_i him;cases hr;rw[q77,q0]at hp;obtain⟨u,hu,rfl⟩:=hp;have hj:j<zv.cells.size:=by rw[q65]at hu;obtain⟨hj,_⟩:=hu;simpa using hj
   have hu':zv.cells[j]=u:=by rw[q65]at hu;obtain⟨_,hu⟩:=hu;simpa using hu
   have hone:u.oneCell'=true:=by rw[q90]at hz1;exact hz1 u (List.mem_of_getElem? hu)
   refine⟨u,?_,hone,iG _ _ u hone⟩;rw[←hu',←hzs];exact vP zv.cells m i j him hj
  ·cases hr⟩;have hp:=hf.put (d:=some d) (r:=eG β d v' d) (v:=.own d) hd (.own d (bU.2 (.inl rfl)));rw[aY]at hp;refine aK (r:=v') (w':=w') ?_ (hK _ _ _ (eG β d v') hKs ?_);·simp[execOp,ho,resolve,invoke,builtin,hxv,hyv,hrun]
 ·rw[cx,hdd];exact hp
theorem QS {t e:TypeId}{x y:Operand} (ho:o.op=.makeSlice t x y) (ht:P.underlying t=some (.slice e)) (hi:P.info? e=some inf) (hz:dQ P e=some zs) (hpos:0<inf.size) (hz1:zs.all (·.oneCell')=true) (hd:∀s,o.dst=some s→s<N) (h:Rel P S0 L B0 w0 N st a w β) (hK:∀st a w β,K st→Rel P S0 L B0 w0 N st a w β→K' a w) (hs:ba o.dst (.TT e inf.bytes zs) ([x,y].map (Ab.ev st.vars)) K st):o.wp P a w K' Q:=by
 have hs:Bk o.dst e inf.bytes zs [Ab.ev st.vars x,Ab.ev st.vars y] [strip (Ab.ev st.vars x),strip (Ab.ev st.vars y)] K st:=hs;unfold Bk at hs;split at hs;rotate_left;·exact hs.elim
 rename_i k n k' c hl;simp only[q110,and_true]at hl;obtain⟨e1,e2⟩:=hl;obtain⟨d,hdd,⟨ha1,ha2,_⟩,⟨rfl,c1,c2,c3⟩,hn,hKs⟩:=ae hs;have hX:=h.dA x ha1;have hY:=h.dA y ha2;rw[e1]at hX;rw[e2]at hY;have hxv:=hX.aN;have hyv:=hY.aN;obtain⟨m,rfl⟩:∃m:Nat,c=(m:Int):=⟨c.toNat,by omega⟩;simp only[q68]at c3 hKs;obtain⟨i',zv,hi',hzv,hzs,rfl⟩:=dS hz;have:i'=inf:=by rw[hi]at hi';injection hi' with hi';exact hi'.symm
 subst this;rw[hdd]at hd;have h63:((m:Nat):Int)≤9223372036854775807:=by omega
 have hbb:(i'.bytes:Int)*(m:Int)≤281474976710656:=by
  have h1:((i'.bytes*m:Nat):Int)≤281474976710656:=by rw[q170];omega
  rwa[Int.natCast_mul]at h1
 have hr:=run_make (P:=P) w t e i' zv ht hi hzv k k' (m:Int) (m:Int) c1 (q291 _) hbb h63;simp only[q68]at hr;have hcells:(madeCells zv.cells (m*i'.size)).size=m*i'.size:=size_madeCells _ _;have hget:∀i j,i<m→(hj:j<zv.cells.size)→(madeCells zv.cells (m*i'.size)).toList[i*zv.cells.size+j]?=some zv.cells[j]:=by
  intro i j hi hj;have hlt:i*zv.cells.size+j<m*zv.cells.size:=by have:=q86 zv.cells.size (show i+1≤m from hi);rw[q118]at this;omega
  have hm:(i*zv.cells.size+j)%zv.cells.size=j:=by rw[q170,q289,q115 hj]
  rw[←hzs];simp[madeCells,hlt,hm,hj]
 have hf:=h.fresh (hd d rfl) hn (cV w (.cells (madeCells zv.cells (m*i'.size)) e)) (v:=.slice (some ⟨w.heap.size,0,none⟩) m m) (fun b hb=>by simp[cr]at hb;omega) (o:=.arr e (List.replicate m (zv.cells.toList.map su))) ⟨i',(madeCells zv.cells (m*i'.size)).toList,hi,by rw[aY,q215];refine⟨by simpa using hcells,.inr ⟨w.heap.size,m,_,rfl,q126 _,heap_alloc_new w _,q93 _,by unfold maxLen;omega,hcells,?_⟩⟩;rw[List.take_of_length_le (by simpa using Nat.le_of_eq hcells)],fun r hr=>by rw[q202 hr];simp[hzs],fun i j r p hr hp=>by
  rw[q229]at hr;split at hr
  ·rename_i him;cases hr;rw[q77,q0]at hp;obtain⟨u,hu,rfl⟩:=hp;have hj:j<zv.cells.size:=by rw[q65]at hu;obtain⟨hj,_⟩:=hu;simpa using hj
   have hu':zv.cells[j]=u:=by rw[q65]at hu;obtain⟨_,hu⟩:=hu;simpa using hu
   have hone:u.oneCell'=true:=by rw[q90]at hz1;exact hz1 u (List.mem_of_getElem? hu)
   refine⟨u,?_,hone,iG _ _ u hone⟩;have:=hget i j him hj;rw[hu',hzs]at this;exact this
  ·cases hr⟩;have hp:=hf.put (d:=some d) (r:=eG β d (.slice (some ⟨w.heap.size,0,none⟩) m m) d) (v:=.own d) hd (.own d (bU.2 (.inl rfl)));rw[aY]at hp;refine aK (r:=.slice (some ⟨w.heap.size,0,none⟩) m m) (w':=w.alloc (.cells (madeCells zv.cells (m*i'.size)) e)) ?_ (hK _ _ _ (eG β d (.slice (some ⟨w.heap.size,0,none⟩) m m)) hKs ?_);·simp[execOp,ho,hxv,hyv,hr,Result.andThen]
 ·rw[cx,hdd];exact hp
theorem KT {t e:TypeId}{ops:Array (Nat×Operand)} (ho:o.op=.buildSlice t n ops) (hu:P.underlying t=some (.slice e)) (hsz:cz P e=some 1) (hz:dQ P e=some zs) (hord:ops.toList.map (·.1)=List.range n) (hbig:n*1≤2^24) (hzl:zs.length=1) (hd:∀s,o.dst=some s→s<N) (h:Rel P S0 L B0 w0 N st a w β) (hK:∀st a w β,K st→Rel P S0 L B0 w0 N st a w β→K' a w) (hs:ba o.dst (.FO e) ((ops.toList.map (·.2)).map (Ab.ev st.vars)) K st):o.wp P a w K' Q:=by
 have hs:yZ o.dst e ((ops.toList.map (·.2)).map (Ab.ev st.vars)) (((ops.toList.map (·.2)).map (Ab.ev st.vars)).map strip) K st:=hs;unfold yZ at hs;obtain⟨d,hdd,ha,hones,hn,hKs⟩:=ae hs;rw[hdd]at hd;obtain⟨inf,hi,hinf⟩:=gv hsz;obtain⟨i,zv,hi',hzv,hzs,rfl⟩:=dS hz;have:i=inf:=by rw[hi]at hi';injection hi' with hi';exact hi'.symm
 subst this;have hlen:ops.toList.length=n:=by have:=congrArg List.length hord;simpa using this
 have honeAt:∀(l:List AV) (i:Nat) (c:AV),fB l=true→l[i]?=some c→ez c=true:=by intro l;induction l with|nil=>intro i c _ hc;simp at hc|cons y l ih=>intro i c h hc;simp only[fB,q73]at h;cases i with|zero=>simp at hc;subst hc;exact h.1|succ i=>exact ih i c h.2 (by simpa using hc)
 have hrv:∀(k:Nat) (p:Nat×Operand),ops.toList[k]?=some p→RV P (aZ S0 w0.heap.size β st.aa w) w β (aG st.aa) (a.eval p.2) (strip (ev st.vars p.2))∧(a.eval p.2).oneCell'=true∧(a.eval p.2).cells=#[a.eval p.2]:=by
  intro k p hk;have hk2:(ops.toList.map (·.2))[k]?=some p.2:=by simp[hk]
  have hr:=h.dA p.2 (lY _ k _ ha hk2);have hone:=honeAt _ k (strip (ev st.vars p.2)) hones (by simp[hk]);exact⟨hr,kI h.heap hr hone⟩
 have hcsz:∀p∈ops.toList,(a.eval p.2).cells.size=1:=by intro p hp;obtain⟨k,hk⟩:=q101 hp;rw[(hrv k p hk).2.2];rfl
 have hfm:∀l:List (Nat×Operand),(∀p∈l,(a.eval p.2).cells=#[a.eval p.2])→(l.flatMap fun p=>(a.eval p.2).cells.toList)=l.map fun p=>a.eval p.2:=by intro l;induction l with|nil=>intro _;rfl|cons p l ih=>intro hl;simp only[q106,q71];rw[hl p (by simp),ih fun q hq=>hl q (by simp[hq])];rfl
 have hus:=hfm ops.toList fun p hp=>by obtain⟨k,hk⟩:=q101 hp;exact(hrv k p hk).2.2
 obtain⟨husl,hrun⟩:=yh (w:=w) ho hu hsz hi hzv hzl hord hbig hlen hcsz;rw[hus]at husl hrun;have hb:∀b,cr (.slice (some ⟨w.heap.size,0,none⟩) n n)=some b→w.heap.size≤b:=fun b hb=>by simp[cr]at hb;omega
 have hcl:(((ops.toList.map (·.2)).map (Ab.ev st.vars)).map strip).length=n:=by simp[hlen]
 have hm:=h.lr hn (cV w (.cells (ops.toList.map fun p=>a.eval p.2).toArray e)) (v:=.slice (some ⟨w.heap.size,0,none⟩) n n) hb (o:=.rws e (((ops.toList.map (·.2)).map (Ab.ev st.vars)).map strip));have hnm:n≤maxLen:=by simp only[maxLen];omega
 have hf:=h.fresh (hd d rfl) hn (cV w (.cells (ops.toList.map fun p=>a.eval p.2).toArray e)) (v:=.slice (some ⟨w.heap.size,0,none⟩) n n) hb (o:=.rws e (((ops.toList.map (·.2)).map (Ab.ev st.vars)).map strip)) ⟨i,ops.toList.map fun p=>a.eval p.2,hi,hinf,by rw[aY,hcl,hinf];exact⟨husl,.inr ⟨w.heap.size,n,_,rfl,q126 _,heap_alloc_new w _,q93 _,hnm,by simpa using husl,by generalize(ops.toList.map fun p=>a.eval p.2)=us at husl ⊢;rw[←husl];simp⟩⟩,fun k c u hc hu=>by
  have hlt:k<ops.toList.length:=by have:=(q65.1 hu).1;simpa using this
  have hk:ops.toList[k]?=some ops.toList[k]:=q64 hlt;obtain⟨h1,h2,_⟩:=hrv k _ hk;simp only[q77,hk,q116,qr]at hc hu;subst hc hu;exact⟨h2,h1.mono hm.1 hm.2⟩⟩;have hp:=hf.put (d:=some d) (r:=eG β d (.slice (some ⟨w.heap.size,0,none⟩) n n) d) (v:=.own d) hd (.own d (bU.2 (.inl rfl)));rw[aY]at hp;refine aK hrun (hK _ _ _ (eG β d (.slice (some ⟨w.heap.size,0,none⟩) n n)) hKs ?_);rw[cx,hdd];exact hp
theorem Lv {t e:TypeId}{sz n:Nat}{ops:Array (Nat×Operand)} (ho:o.op=.buildSlice t n ops) (hu:P.underlying t=some (.slice e)) (hsz:cz P e=some sz) (hz:dQ P e=some zs) (hord:ops.toList.map (·.1)=List.range n) (hbig:n*sz≤2^24) (hzl:zs.length=sz) (hpos:0<sz) (hd:∀s,o.dst=some s→s<N) (h:Rel P S0 L B0 w0 N st a w β) (hK:∀st a w β,K st→Rel P S0 L B0 w0 N st a w β→K' a w) (hs:ba o.dst (.nn e sz) ((ops.toList.map (·.2)).map (Ab.ev st.vars)) K st):o.wp P a w K' Q:=by have hs:qR o.dst e sz ((ops.toList.map (·.2)).map (Ab.ev st.vars)) (((ops.toList.map (·.2)).map (Ab.ev st.vars)).map strip) K st:=hs;unfold qR at hs;obtain⟨d,hdd,ha,hs⟩:=ae hs;obtain⟨rows,hrows,hφ,hn,hKs⟩:=ae hs;obtain⟨r,w',hr,β',hR⟩:=Nw (d:=d) (φ:=∀r∈rows,r.length=sz) (v:=.own d) (ao:=.arr e rows) ho hu hsz hz hord hbig hzl hpos h (hd d hdd) hn h.dA ha (by show(rowsOf (((ops.toList.map (·.2)).map (Ab.ev st.vars)).map strip)).map _=_;rw[hrows];rfl) hφ;refine aK hr (hK _ _ _ β' hKs ?_);rw[hdd];exact hR
theorem Rel.L8 (h:Rel P S0 L B0 w0 N st a w β) {t:Nat}{q q':AO} (ht:st.aa t=some q) (hh:bz P (aZ S0 w0.heap.size β st.aa w) w β (aG st.aa) t q'):Rel P S0 L B0 w0 N ⟨st.vars,aR t q' st.aa⟩ a w β:=by
 have hd:aG (aR t q' st.aa)=aG st.aa:=by funext s;apply propext;rw[bU];exact⟨fun e=>e.elim (fun e=>e▸⟨q,ht⟩) id,.inr⟩
 have hl:live β (aR t q' st.aa)=live β st.aa:=by
  funext b;apply propext;constructor;·rintro⟨s,x,hs,hb⟩;have hs:aG (aR t q' st.aa) s:=⟨x,hs⟩;rw[hd]at hs;exact⟨s,hs.choose,hs.choose_spec,hb⟩
  ·rintro⟨s,x,hs,hb⟩;have hs:aG st.aa s:=⟨x,hs⟩;rw[←hd]at hs;exact⟨s,hs.choose,hs.choose_spec,hb⟩
 have ho:aZ S0 w0.heap.size β (aR t q' st.aa) w=aZ S0 w0.heap.size β st.aa w:=by funext b;simp only[aZ,hl]
 refine⟨h.size,h.defers,fun s=>?_,⟨fun s x hs=>?_,fun s s' b hs hs'=>?_⟩,fun s b hs=>?_,h.qb,fun s h9 hs=>?_,h.bZ⟩;·show RV P (aZ S0 w0.heap.size β (aR t q' st.aa) w) w β (aG (aR t q' st.aa)) _ _;rw[ho,hd];exact h.vars s
 ·show bz P (aZ S0 w0.heap.size β (aR t q' st.aa) w) w β (aG (aR t q' st.aa)) s x;rw[ho,hd];have hs:aR t q' st.aa s=some x:=hs;by_cases e:s=t
  ·subst e;have:q'=x:=by simpa[aR]using hs
   subst this;exact hh
  ·exact h.heap.holds s x (by simpa[aR,e]using hs)
 ·have hs:aG (aR t q' st.aa) s:=hs;have hs':aG (aR t q' st.aa) s':=hs';rw[hd]at hs hs';exact h.heap.inj s s' b hs hs'
 ·have hs:aG (aR t q' st.aa) s:=hs;rw[hd]at hs;exact h.old s b hs
 ·have hs:aG (aR t q' st.aa) s:=hs;rw[hd]at hs;exact h.vw s h9 hs
theorem Sk {ts:TypeId}{x y:Operand} (ho:o.op=.store ts x y) (h1:cz P ts=some 1) (hd:∀s,o.dst=some s→s<N) (h:Rel P S0 L B0 w0 N st a w β) (hK:∀st a w β,K st→Rel P S0 L B0 w0 N st a w β→K' a w) (hs:ba o.dst .rst ([x,y].map (Ab.ev st.vars)) K st):o.wp P a w K' Q:=by
 have hs:xy o.dst (strip (Ab.ev st.vars x)) (strip (Ab.ev st.vars y)) [Ab.ev st.vars x,Ab.ev st.vars y] K st:=hs;unfold xy at hs;split at hs;rotate_left;·exact hs.elim
 rename_i t e i off q e1 e2;obtain⟨ha,hs⟩:=hs;obtain⟨⟨e',rows⟩,har,⟨hee,hoff⟩,⟨c1,c2,c3⟩,hKs⟩:=ae hs;simp only at hee c2 c3 hKs;subst hee hoff;have hX:=h.dA x ha.1;have hY:=h.dA y ha.2.1;rw[e1]at hX;rw[e2]at hY;have hob:=bK har;simp only at hob;obtain⟨b,n,c,inf,hx,hdt,hi,hb⟩:=hX.fR;have hv:=kI h.heap hY rfl;obtain⟨w',hst,hR⟩:=iS h (off:=0) (ps:=[PV.val (a.eval y)]) (us:=[a.eval y]) hob hi hb c1 c2 (by simp[c3]) rfl (fun j p hq=>by cases j with|zero=>simp at hq;subst hq;exact⟨_,rfl,hv.1,.val _ hv.1⟩|succ j=>simp at hq);have hrow:=kb c1 c2;obtain⟨infa,_,hia,_,hrla,_⟩:=h.heap.arr hob;have hia':infa=inf:=by rw[hi]at hia;injection hia with hia;exact hia.symm
 have hsz:inf.size=1:=by rw[←hia',←hrla _ (List.mem_of_getElem? hrow)];exact c3
 have hat:∀q':AO,aR t q' st.aa t=some q':=fun q'=>by simp[aR]
 obtain⟨inf2,us,hi2,hown,hrl,hcs⟩:=hR.heap.arr (hat _);have hi3:inf2=inf:=by rw[hi]at hi2;injection hi2 with hi2;exact hi2.symm
 subst hi3;have hO:=hR.L8 (q':=.rws e' ((rows.map fun x=>AV.pv (x.getD 0 .nil)).set i.toNat (.own q))) (hat _) ⟨inf2,us,hi,hsz,by simpa using hown,fun k c u hc hu=>?_⟩
 ·have hadd:∀q1 q2:AO,aR t q1 (aR t q2 st.aa)=aR t q1 st.aa:=fun q1 q2=>by funext s;unfold aR;split<;>rfl
  rw[hadd]at hO;exact jm (gT ho hx (by rw[hv.2];exact eA h1 w) (by rw[hv.2];exact hst)) (hK _ _ _ β hKs (hO.put hd (.aw _)))
 ·have hlt:i.toNat<rows.length:=by omega
  rw[q189]at hc;by_cases hik:i.toNat=k
  ·subst hik;rw[if_pos rfl,if_pos (by simpa using hlt)]at hc;injection hc with hc;subst hc;obtain⟨u',hu',ho1,hp⟩:=hcs i.toNat 0 _ (.val (a.eval y)) (by rw[q189,if_pos rfl,if_pos hlt]) (by simp[bY]);rw[hsz,q175,q155,hu]at hu';injection hu' with hu';subst hu';have:u=a.eval y:=by cases hp;rfl
   rw[this,hY.aX.1];exact⟨by rw[←hY.aX.1];exact hv.1,.own q (bU.2 (.inr hY.aX.2))⟩
  ·rw[if_neg hik,q77,q0]at hc;obtain⟨r,hr,rfl⟩:=hc;have hr1:r.length=1:=by rw[←hsz,←hia'];exact hrla _ (List.mem_of_getElem? hr)
   obtain⟨u',hu',ho1,hp⟩:=hcs k 0 r (r.getD 0 .nil) (by rw[q189,if_neg hik];exact hr) (by rw[q78,q64 (by omega)];rfl);rw[hsz,q175,q155,hu]at hu';injection hu' with hu';subst hu';exact⟨ho1,.pv _ _ hp⟩
theorem uS:∀{cs:List AV}{j q:Nat},uv cs=some (j,q)→cs[j]?=some (.own q)
 |[],j,q,h=>by simp[uv]at h|c::l,j,q,h=>by
  unfold uv at h;split at h;·cases h;rfl
  ·obtain⟨⟨j',q'⟩,h1,h2⟩:=q0.1 h;cases h2;simpa using uS h1
theorem Di (hL:∀b,L b→S0 b) {x:Operand} (hrun:(execOp a.eval o).run P w=.ok (.value (a.eval x)) w) (hd:∀s,o.dst=some s→s<N) (h:Rel P S0 L B0 w0 N st a w β) (hK:∀st a w β,K st→Rel P S0 L B0 w0 N st a w β→K' a w) (hs:ba o.dst .Fk ([x].map (Ab.ev st.vars)) K st):o.wp P a w K' Q:=by
 have hs:tr o.dst (strip (Ab.ev st.vars x)) [Ab.ev st.vars x] K st:=hs;unfold tr at hs;split at hs;rotate_left;·exact hs.elim
 rename_i t hx;obtain⟨ha,hs⟩:=hs;obtain⟨⟨e,cs⟩,hrw,hs⟩:=ae hs;obtain⟨⟨j,q⟩,hf,hs⟩:=ae hs;obtain⟨⟨e',rows⟩,har,hs⟩:=ae hs;obtain⟨ps,hps,hKs⟩:=ae hs;have hX:=h.dA x ha.1;rw[hx]at hX;have hj:=uS hf;have hot:st.aa t=some (.rws e cs):=by
  unfold XC at hrw;split at hrw;·rename_i h1;cases hrw;exact h1
  ·cases hrw
 have hoq:=bK har;simp only at hj hoq hps hKs;have hqt:t≠q:=by rintro rfl;rw[hot]at hoq;cases hoq
 have hR:=h.share hL hoq;have hos:gb q st.aa t=some (dY q (.rws e cs)):=by simp[gb,hqt,hot]
 have hdq:aG st.aa q:=⟨_,hoq⟩;have hlive:∀b,live β (gb q st.aa) b→live β st.aa b:=by rintro b ⟨s,o,hs,hb⟩;obtain⟨o',ho'⟩:=(c7.1 ⟨o,hs⟩).2;exact⟨s,o',ho',hb⟩
 have hm:∀b,aZ S0 w0.heap.size β st.aa w b→aZ S0 w0.heap.size β (gb q st.aa) w b∧w.heap[b]?=w.heap[b]?:=fun b hb=>⟨⟨hb.1,hb.2.1,fun hl=>hb.2.2 (hlive b hl)⟩,rfl⟩;have hbk:∀b,cr (β q)=some b→aZ S0 w0.heap.size β (gb q st.aa) w b:=by intro b hb;refine⟨(h.old q b hdq hb).elim .inr fun hx=>.inl (hL b hx),h.lt hdq hb,?_⟩;rintro⟨s,o,hs,hbs⟩;obtain⟨h1,h2⟩:=c7.1 ⟨o,hs⟩;exact h1 (h.heap.inj s q b h2 hdq hbs hb)
 have hro:=(qI (S':=aZ S0 w0.heap.size β (gb q st.aa) w) (h.heap.arr hoq) (fun b hb=>(hm b hb).1) hbk).1;obtain⟨inf,us,hi,hsz,hown,hcs⟩:=h.heap.holds t _ hot;obtain⟨g1,g2⟩:=qp _ ps hps;have hul:us.length=cs.length:=by have:=hown.1;rw[hsz,q175]at this;exact this
 rw[q186]at g1;have hO:=hR.L8 (q':=.arr e (ps.map fun p=>[p])) hos ⟨inf,us,hi,by rw[List.length_map,g1];exact hown,fun r hr=>?_,fun k i r p hk hp=>?_⟩;·have hp:=hO.put hd (d:=o.dst) (r:=a.eval x) (v:=.own t) (by rw[hX.aX.1];exact .own t (bU.2 (.inl rfl)));exact aK hrun (hK _ _ _ β hKs hp)
 ·obtain⟨p,_,rfl⟩:=q84.1 hr;rw[hsz];rfl
 ·rw[q77,q0]at hk;obtain⟨p',hk,rfl⟩:=hk;cases i with|succ i=>simp at hp|zero=>
  simp only[q69,qr]at hp;subst hp;have hkl:k<cs.length:=by rw[←g1];exact(q65.1 hk).1
  have hu:us[k]?=some us[k]:=q64 (by omega);rw[hsz,q175,q155];have hc:=g2 k p' hk;rw[q189]at hc;by_cases hjk:j=k;·subst hjk;rw[if_pos rfl,if_pos hkl]at hc;injection hc with hc;injection hc with hc;obtain⟨h1,h2⟩:=hcs j _ _ hj hu;refine⟨_,hu,h1,?_⟩;rw[←hc,h2.aX.1];exact hro
  ·rw[if_neg hjk]at hc;obtain⟨h1,h2⟩:=hcs k _ _ hc hu;exact⟨_,hu,h1,h2.bq.mono hm⟩
theorem zA (hL:∀b,L b→S0 b) {x:XK} (hc:jN P o=(x,xs)) (hd:∀s,o.dst=some s→s<N) (h:Rel P S0 L B0 w0 N st a w β) (hK:∀st a w β,K st→Rel P S0 L B0 w0 N st a w β→K' a w) (hs:ba o.dst x (xs.map (Ab.ev st.vars)) K st):o.wp P a w K' Q:=by
 have hput:∀{t:TypeId}{m k y:Operand}{kt et:TypeId}{s:Nat},(execOp a.eval o).run P w=(do Instr.mapUpdate t (a.eval m) (a.eval k) (a.eval y);pure Next.skip:Sem Next).run P w→jy P t=some (kt,et)→ko P kt=some s→ba o.dst (.IM s) ([m,k,y].map (Ab.ev st.vars)) K st→o.wp P a w K' Q:=by
  intro t m k y kt et s ho hm hsr hs;unfold ba at hs;split at hs;·rename_i h1 _;cases h1
  ·rename_i s' t' p v h1 hl;cases h1;simp only[q71,q117,q110,and_true]at hl;obtain⟨e1,e2,e3⟩:=hl;obtain⟨ha,hs⟩:=hs;obtain⟨es,hes,hp,hks,hpu,hKs⟩:=ae hs;obtain⟨w',hrun,hR⟩:=O2 ho hm hsr h hd (h.dA m ha.1) (h.dA k ha.2.1) (h.dA y ha.2.2.1) e1 e2 (zz hes) hp hks (by rw[e3];exact hpu);refine jm hrun (hK _ _ _ β hKs ?_);rw[e3]at hR;exact hR
  ·rename_i h1 _;cases h1
  ·rename_i h1;cases h1
  ·rename_i h1 _;cases h1
  ·rename_i h1 _;cases h1
  ·rename_i h1;cases h1
  ·rename_i h1;cases h1
  ·rename_i h1;cases h1
  ·rename_i h1 _;cases h1
  ·rename_i h1 _;cases h1
  ·exact hs.elim
 unfold jN at hc;split at hc;·rename_i r hr;subst hc;exact FB hr hd h hK hs
 cases hcx:vn P o with
 |none=>rw[hcx]at hc;cases hc;unfold ba at hs;split at hs<;>first|exact hs.elim|(rename_i h1;cases h1;done)|(rename_i h1 _;cases h1;done)
 |some r=>
 rw[hcx]at hc;have hc:r=(x,xs):=hc;subst hc;replace hc:=hcx;unfold vn at hc;split at hc
 ·rename_i t ho;split at hc;·cases hc;unfold ba at hs;obtain⟨d,hdd,hn,hKs⟩:=ae hs;obtain⟨v,w',β',hrun,hR⟩:=JF ho h (hd d hdd) hn;refine aK hrun (hK _ _ _ β' hKs ?_);rw[hdd];exact hR
  ·cases hc
 ·rename_i t m k y ho;split at hc
  ·rename_i kt et hm;split at hc;·rename_i s hsr;cases hc;exact hput (by simp[execOp,ho]) hm hsr hs
   ·cases hc
  ·cases hc
 ·rename_i t m k y ho;split at hc
  ·rename_i kt et hm;split at hc;·rename_i s hsr;cases hc;exact hput (by simp[execOp,ho]) hm hsr hs
   ·cases hc
  ·cases hc
 ·rename_i t m k ok ho;split at hc
  ·rename_i kt et hm;split at hc
   ·rename_i s z hsr hz;cases hc;unfold ba at hs;split at hs;·rename_i h1 _;cases h1
    ·rename_i h1 _;cases h1
    ·rename_i s' z' ok' t' p h1 hl;cases h1;simp only[q71,q117,q110,and_true]at hl;obtain⟨e1,e2⟩:=hl;obtain⟨ha,hs⟩:=hs;obtain⟨es,hes,hp,hks,hKs⟩:=ae hs;obtain⟨v,hrun,hR⟩:=Qv ho hm hsr hz h hd (h.dA m ha.1) (h.dA k ha.2.1) e1 e2 (zz hes) hp hks;exact aK hrun (hK _ _ _ _ hKs hR)
    ·rename_i h1;cases h1
    ·rename_i h1 _;cases h1
    ·rename_i h1 _;cases h1
    ·rename_i h1;cases h1
    ·rename_i h1;cases h1
    ·rename_i h1;cases h1
    ·rename_i s' z' ok' ks p h1 hl;cases h1;simp only[q71,q117,q110,and_true]at hl;obtain⟨e1,e2⟩:=hl;obtain⟨ha,hzu,hp,hks,hKs⟩:=hs;obtain⟨v,hrun,hR⟩:=J1 ho hm hsr hz h hd (h.dA m ha.1) (h.dA k ha.2.1) e1 e2 hzu hp hks;exact aK hrun (hK _ _ _ _ hKs hR)
    ·rename_i h1 _;cases h1
    ·exact hs.elim
   ·cases hc
  ·cases hc
 ·rename_i t n ps ho;split at hc
  ·rename_i e hu;split at hc
   ·rename_i sz zs hsz hz;split at hc;·rename_i hcond;cases hc;obtain⟨_,h1,h2,h3,h4⟩:=hcond;exact Lv ho hu hsz hz h1 h2 h3 h4 hd h hK hs
    split at hc;·rename_i hcond;cases hc;obtain⟨rfl,h1,h2,h3⟩:=hcond;exact KT ho hu hsz hz h1 h2 h3 hd h hK hs
    ·cases hc
   ·cases hc
  ·cases hc
 ·rename_i src dst x ho;split at hc
  ·rename_i hsd;subst hsd;split at hc
   ·rename_i e hu;split at hc;·rename_i he;cases hc;exact LF hL ho hu he hd h hK hs
    ·cases hc
   ·cases hc
  ·cases hc
 ·rename_i t x y ho;split at hc
  ·rename_i e hu;split at hc
   ·rename_i i zs hi hz;split at hc;·rename_i hcond;cases hc;exact QS ho hu hi hz hcond.1 hcond.2 hd h hK hs
    ·cases hc
   ·cases hc
  ·cases hc
 ·rename_i op t x y yt ho;split at hc
  ·rename_i e hu;split at hc
   ·rename_i hy;split at hc;·cases hc;exact zn (ne:=false) ho hu hy hd h hK hs
    ·cases hc;exact zn (ne:=true) ho hu hy hd h hK hs
    ·cases hc
   ·cases hc
  ·cases hc
 ·rename_i c ho;obtain⟨callee,args,argTypes⟩:=c;simp only at hc;split at hc
  ·rename_i f;split at hc;·rename_i hf;cases hc;exact H3 ho hf hd h hK hs
   ·cases hc
  ·rename_i b;unfold yj at hc;split at hc
   ·rename_i y t hxs hts;have ha:args=#[y]:=by apply q114;simpa using hxs
    have hat:argTypes=#[t]:=by apply q114;simpa using hts
    subst ha hat;split at hc;·rename_i e ht;cases hc;exact J5 ho ht hd h hK hs
    ·cases hc
   ·rename_i s y t t' hxs hts;have ha:args=#[s,y]:=by apply q114;simpa using hxs
    have hat:argTypes=#[t,t']:=by apply q114;simpa using hts
    subst ha hat;split at hc
    ·rename_i e k ht htn;split at hc
     ·rename_i i zs hi hz;split at hc;·rename_i hpz;cases hc;exact LQ ho ht htn hi hz hpz.1 hpz.2 hd h hK hs
      ·cases hc
     ·cases hc
    ·cases hc
   ·cases hc
  ·cases hc
 ·rename_i x ho;split at hc;·cases hc;exact Di hL (by simp[execOp,ho]) hd h hK hs
  ·cases hc
 ·rename_i x ho;split at hc;·cases hc;exact Di hL (by simp[execOp,ho]) hd h hK hs
  ·cases hc
 ·rename_i t x y ho;split at hc;·rename_i hcond;cases hc;exact Sk ho hcond.2 hd h hK hs
  ·cases hc
 ·cases hc
end
end Go.Proofs.YtlicclncicbajaaGreat.Ab
