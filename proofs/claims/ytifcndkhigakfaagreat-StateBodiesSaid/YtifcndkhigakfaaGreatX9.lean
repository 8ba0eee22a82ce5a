/- The abstract machine is sound: maps. -/
import Derived.Test.YtifcndkhigakfaaGreatX8
import Derived.MapKept
import Derived.Lib.LazyBuf
import Derived.Laws.Externs
import Derived.Lib.AppendZeros
import Derived.Laws.MakeOwn
set_option linter.unusedVariables false
set_option linter.unusedSimpArgs false
set_option linter.unnecessarySimpa false
set_option maxHeartbeats 40000000
set_option maxRecDepth 100000
namespace Go.Proofs.YtifcndkhigakfaaGreat.Ab
open Go Go.RowKit
theorem pC {d:TypeDesc}{k:PV}{s:Nat} (hd:∀k,dw k=s→MapKept.IsKey d (bY k)) (hk:dw k=s) (hs:s<99):∀(us:List MapEntry) (es:List (PV×AV)) (n:Nat),gY s es→us.length=es.length→(∀(i:Nat) (e:PV×AV) (u:MapEntry),es[i]?=some e→us[i]?=some u→u.key=bY e.1)→(Instr.findNow d (bY k) us n=some none∧getM k es=none∧∀v,kO k v es=es++[(k,v)])∨∃j e u,Instr.findNow d (bY k) us n=some (some (n+j,u.val))∧es[j]?=some e∧us[j]?=some u∧u.key=bY k∧getM k es=some e.2∧∀v,kO k v es=es.set j (k,v)|[],[],_,_,_,_=>.inl ⟨rfl,rfl,fun v=>rfl⟩|[],_::_,_,_,hl,_=>by simp at hl|_::_,[],_,_,hl,_=>by simp at hl|u::us,e::es,n,hks,hl,hu=>by have h1:=hu 0 e u rfl rfl;have hke:=hks e (by simp);obtain⟨r,hr,hiff⟩:=MapKept.sameNow_of_keys (hd k hk) (hd e.1 hke);rw[←h1]at hr;cases r with|true=>have h2:bY k=bY e.1:=hiff.1 rfl;have h3:m8 k e.1=true:=(pr hk hke hs).2 h2.symm;exact .inr ⟨0,e,u,by simp[Instr.findNow,hr],rfl,rfl,h1.trans h2.symm,by simp only[getM];rw[if_pos h3],fun v=>by simp only[kO];rw[if_pos h3];rfl⟩|false=>
 have h3:¬m8 k e.1=true:=fun h=>by have:=hiff.2 ((pr hk hke hs).1 h).symm;cases this
 rcases pC hd hk hs us es (n+1) (fun x hx=>hks x (by simp[hx])) (by simpa using hl) (fun i x y hx hy=>hu (i+1) x y (by simpa using hx) (by simpa using hy)) with⟨g1,g2,g3⟩|⟨j,e',u',g1,g2,g3,g4,g5,g6⟩;·exact .inl ⟨by simp[Instr.findNow,hr,g1],by simp only[getM];rw[if_neg h3];exact g2,fun v=>by simp only[kO];rw[if_neg h3,g3 v];rfl⟩
 ·exact .inr ⟨j+1,e',u',by simp[Instr.findNow,hr,g1];omega,by simpa using g2,by simpa using g3,g4,by simp only[getM];rw[if_neg h3];exact g5,fun v=>by simp only[kO];rw[if_neg h3,g6 v];rfl⟩
theorem RV.Xk {P:Program}{S:Nat→Prop}{w:World}{β:Nat→Value}{D:Nat→Prop}{u:Value}{v:AV} (h:RV P S w β D u v) (hp:dZ v=true):RV P S w β (fun _=>False) u v:=by
 have hcell:∀{u:Value}{c:AV},RV P S w β D u c→gM c=true→RV P S w β (fun _=>False) u c:=by intro u c h hp;cases c with
  |pv p=>cases h with|pv _ _ h=>exact .pv _ _ h
  |rp cs=>cases h with|rp ad _ us h1 h2 h3 h4=>exact .rp ad _ us h1 h2 h3 h4
  |_=>simp[gM]at hp
 cases v with
 |agg cs=>cases h with|agg _ us hl hc=>exact .agg _ us hl fun i c u h1 h2=>hcell (hc i c u h1 h2) (iY cs i c hp h1)
 |bZ f cs=>cases h with|bZ _ _ us hl hc=>exact .bZ f _ us hl fun i c u h1 h2=>hcell (hc i c u h1 h2) (iY cs i c hp h1)
 |_=>exact hcell h hp
theorem Bo {q:Option AO}{es:List (PV×AV)} (h:xJ q=some es):q=some (.map es):=by
 unfold xJ at h;split at h;·cases h;rfl
 ·cases h
section
variable{P:Program}{Γ:bR}{S0 L:Nat→Prop}{B0:Nat→Value}{w0 w:World}{N:Nat}{st:St}{a:Act}{β:Nat→Value}{o:Oper}{xs:List Operand}
theorem Fl (S:Nat→Prop) (D:Nat→Prop) (z:Value):RV P S w β D z (G8 z):=by cases z with|agg cs=>have:=lx.cv_ (P:=P) (S:=S) (w:=w) (β:=β) D cs.toList;exact .agg _ cs.toList this.1 fun i c u h1 h2=>this.2 i c u h1 h2|_=>exact sR P S w β D _
theorem Np {t:TypeId}{m k x:Operand}{kt et:TypeId}{s:Nat} (ho:(execOp a.eval o).run P w=(do Instr.mapUpdate t (a.eval m) (a.eval k) (a.eval x);pure Next.skip:Sem Next).run P w) (hm:jm P t=some (kt,et)) (hsrt:kb P kt=some s) (h:Rel P S0 L B0 w0 N st a w β) (hd:∀s,o.dst=some s→s<N) {X K Y:AV} (hX:RV P (aU S0 w0.heap.size β st.aa w) w β (aG st.aa) (a.eval m) X) (hK:RV P (aU S0 w0.heap.size β st.aa w) w β (aG st.aa) (a.eval k) K) (hY:RV P (aU S0 w0.heap.size β st.aa w) w β (aG st.aa) (a.eval x) Y) {tg:Nat}{p:PV}{es:List (PV×AV)} (e1:X=.own tg) (e2:K=.pv p) (hob:st.aa tg=some (.map es)) (hp:dw p=s) (hks:gY s es) (hpu:dZ Y=true):∃w',(execOp a.eval o).run P w=.ok .skip w'∧Rel P S0 L B0 w0 N ⟨Ab.put o.dst .ak st.vars,aN tg (.map (kO p Y es)) st.aa⟩ (a.put o.dst undef) w' β:=by
 subst e1 e2;obtain⟨b,us,c,hb,hh,hl,hc⟩:=h.heap.holds tg _ hob;have hmt:=fL hm;obtain⟨d,hdk,hkey⟩:=gH hsrt;have hs99:=ns hsrt;have hmv:a.eval m=.map (some b):=hX.aT.1.trans hb;have hkv:a.eval k=bY p:=ki hK hp hs99;have hblk:ct (β tg)=some b:=by rw[hb];rfl
 have hdt:aG st.aa tg:=⟨_,hob⟩;have hfind:=pC hkey hp hs99 us.toList es 0 hks hl fun i e u h1 h2=>(hc i e u h1 h2).1;have main:∀(us':Array MapEntry) (c':Nat),(execOp a.eval o).run P w=.ok .skip {w with heap:=w.heap.setIfInBounds b (.map us' c')}→us'.toList.length=(kO p Y es).length→(∀(i:Nat) (e:PV×AV) (u:MapEntry),(kO p Y es)[i]?=some e→us'.toList[i]?=some u→(e=(p,Y)∧u.key=bY p∧u.val=a.eval x)∨∃j:Nat,es[j]?=some e∧us.toList[j]?=some u)→∃w',(execOp a.eval o).run P w=.ok .skip w'∧Rel P S0 L B0 w0 N ⟨Ab.put o.dst .ak st.vars,aN tg (.map (kO p Y es)) st.aa⟩ (a.put o.dst undef) w' β:=by
  intro us' c' hrun hl' hc';have hset:=MapKept.heap_set (o':=.map us' c') hh;have hmo:∀k,aU S0 w0.heap.size β st.aa w k→aU S0 w0.heap.size β (aN tg (.map (kO p Y es)) st.aa) {w with heap:=w.heap.setIfInBounds b (.map us' c')} k∧(w.heap.setIfInBounds b (.map us' c'))[k]?=w.heap[k]?:=by
   rintro k ⟨g1,g2,g3⟩;have hkb:k≠b:=fun e=>g3 ⟨tg,_,hob,by rw[e];exact hblk⟩;refine⟨⟨g1,by simpa using g2,?_⟩,hset.2 k hkb⟩;rintro⟨s,q,hs,hk⟩;by_cases e:s=tg;·subst e;exact hkb (by rw[hblk]at hk;injection hk with hk;exact hk.symm)
   ·exact g3 ⟨s,q,by simpa[aN,e]using hs,hk⟩
  have hR:=(h.wE (w':={w with heap:=w.heap.setIfInBounds b (.map us' c')}) (o':=.map (kO p Y es)) hob hblk rfl rfl rfl (by simp) hset.2 ⟨b,us',c',hb,hset.1,hl',fun i e u h1 h2=>by
   rcases hc' i e u h1 h2 with⟨rfl,g1,g2⟩|⟨j,g1,g2⟩;·rw[g2];exact⟨g1,(hY.Xk hpu).mono hmo fun _ hf=>hf.elim⟩
   ·exact⟨(hc j e u g1 g2).1,(hc j e u g1 g2).2.mono hmo fun _ hf=>hf.elim⟩⟩).1;exact⟨_,hrun,hR.put hd (.ak _)⟩
 rcases hfind with⟨h1,h2,h3⟩|⟨j,e,u,h1,h2,h3,h4,h5,h6⟩
 ·refine main (us.push {key:=bY p,val:=a.eval x,born:=c}) (c+1) ?_ ?_ ?_;·rw[ho,hmv,hkv];simp[Instr.mapUpdate,run_underlying hmt,MapKept.run_getObj_map hh,MapKept.run_checkKey hdk (hkey p hp),MapKept.run_findKey hdk h1,MapKept.run_setObj_map _ hh,Result.andThen]
  ·rw[h3];simpa using hl
  ·intro i e u g1 g2;rw[h3]at g1;simp only[Array.toList_push]at g2;by_cases hi:i<es.length;·rw[List.getElem?_append_left hi]at g1;rw[List.getElem?_append_left (by omega)]at g2;exact .inr ⟨i,g1,g2⟩
   ·rw[List.getElem?_append_right (by omega)]at g1;rw[List.getElem?_append_right (by omega),hl]at g2;cases hz:i-es.length with|zero=>rw[hz]at g1 g2;simp only[List.getElem?_cons_zero,Option.some.injEq]at g1 g2;subst g1 g2;exact .inl ⟨rfl,rfl,rfl⟩|succ n=>rw[hz]at g1;simp at g1
 ·have hj:us[j]?=some u:=by simpa using h3
  refine main (us.modify j fun e=>{e with key:=bY p,val:=a.eval x}) c ?_ ?_ ?_;·rw[ho,hmv,hkv];rw[Nat.zero_add]at h1;simp[Instr.mapUpdate,run_underlying hmt,MapKept.run_getObj_map hh,MapKept.run_checkKey hdk (hkey p hp),MapKept.run_findKey hdk h1,hj,h4,MapKept.run_keyThatStays (hkey p hp),MapKept.run_setObj_map _ hh,Result.andThen]
  ·rw[h6];simpa using hl
  ·intro i e' u' g1 g2;rw[h6]at g1;have g2':(us.modify j fun e=>{e with key:=bY p,val:=a.eval x})[i]?=some u':=by rw[←Array.getElem?_toList];exact g2
   rw[Array.getElem?_modify]at g2';rw[List.getElem?_set]at g1;by_cases hij:j=i
   ·subst hij;rw[if_pos rfl,hj]at g2';rw[if_pos rfl]at g1;split at g1;·simp only[Option.some.injEq,Option.map_some]at g1 g2';subst g1 g2';exact .inl ⟨rfl,rfl,rfl⟩
    ·cases g1
   ·rw[if_neg hij]at g1 g2';exact .inr ⟨i,g1,by simpa using g2'⟩
theorem OP {t:TypeId}{m k:Operand}{kt et:TypeId}{s:Nat}{z:Value}{ok:Bool} (ho:o.op=.lookup t m k ok) (hm:jm P t=some (kt,et)) (hsrt:kb P kt=some s) (hz:zeroV P et=some z) (h:Rel P S0 L B0 w0 N st a w β) (hd:∀s,o.dst=some s→s<N) {X K:AV} (hX:RV P (aU S0 w0.heap.size β st.aa w) w β (aG st.aa) (a.eval m) X) (hK:RV P (aU S0 w0.heap.size β st.aa w) w β (aG st.aa) (a.eval k) K) {tg:Nat}{p:PV}{es:List (PV×AV)} (e1:X=.own tg) (e2:K=.pv p) (hob:st.aa tg=some (.map es)) (hp:dw p=s) (hks:gY s es):∃v,(execOp a.eval o).run P w=.ok (.value v) w∧Rel P S0 L B0 w0 N ⟨Ab.put o.dst (if ok=true then .aS [(getM p es).getD (G8 z),.pv (.bool (getM p es).isSome)] else(getM p es).getD (G8 z)) st.vars,st.aa⟩ (a.put o.dst v) w β:=by
 subst e1 e2;obtain⟨b,us,c,hb,hh,hl,hc⟩:=h.heap.holds tg _ hob;have hmt:=fL hm;obtain⟨d,hdk,hkey⟩:=gH hsrt;have hs99:=ns hsrt;have hmv:a.eval m=.map (some b):=hX.aT.1.trans hb;have hkv:a.eval k=bY p:=ki hK hp hs99;have hzr:(zeroValue et).run P w=.ok z w:=by unfold zeroV at hz;obtain⟨i,hi,hz⟩:=Option.bind_eq_some_iff.1 hz;simp[zeroValue,typeInfo,hi,hz]
 have hfind:=pC hkey hp hs99 us.toList es 0 hks hl fun i e u h1 h2=>(hc i e u h1 h2).1;have fin:∀(v:Value) (x:AV) (f:Bool),(Instr.lookup t (.map (some b)) (bY p) ok).run P w=.ok (if ok=true then .tuple #[v,.bool f] else v) w→RV P (aU S0 w0.heap.size β st.aa w) w β (aG st.aa) v x→∃v,(execOp a.eval o).run P w=.ok (.value v) w∧Rel P S0 L B0 w0 N ⟨Ab.put o.dst (if ok=true then .aS [x,.pv (.bool f)] else x) st.vars,st.aa⟩ (a.put o.dst v) w β:=by intro v x f hrun hv;refine⟨_,by simp only[execOp,ho,hmv,hkv];simp[hrun,Result.andThen];rfl,h.put hd ?_⟩;cases ok with|false=>exact hv|true=>refine .aS _ [v,.bool f] rfl fun i c u h1 h2=>?_;match i with|0=>simp at h1 h2;subst h1 h2;exact hv|1=>simp at h1 h2;subst h1 h2;exact .pv _ _ (.bool f)|i+2=>simp at h1
 rcases hfind with⟨h1,h2,h3⟩|⟨j,e,u,h1,h2,h3,h4,h5,h6⟩;·rw[h2];refine fin z (G8 z) false ?_ (Fl _ _ z);simp[Instr.lookup,run_underlying hmt,MapKept.run_getObj_map hh,MapKept.run_checkKey hdk (hkey p hp),MapKept.run_findKey hdk h1,hzr,Result.andThen]
 ·rw[h5];refine fin u.val e.2 true ?_ ((hc j e u h2 h3).2.mono (fun b hb=>⟨hb,rfl⟩) fun _ hf=>hf.elim);simp[Instr.lookup,run_underlying hmt,MapKept.run_getObj_map hh,MapKept.run_checkKey hdk (hkey p hp),MapKept.run_findKey hdk h1,Result.andThen]
theorem Jw {t:TypeId}{m k:Operand}{kt et:TypeId}{s:Nat}{z:Value}{ok:Bool} (ho:o.op=.lookup t m k ok) (hm:jm P t=some (kt,et)) (hsrt:kb P kt=some s) (hz:zeroV P et=some z) (h:Rel P S0 L B0 w0 N st a w β) (hd:∀s,o.dst=some s→s<N) {X K:AV} (hX:RV P (aU S0 w0.heap.size β st.aa w) w β (aG st.aa) (a.eval m) X) (hK:RV P (aU S0 w0.heap.size β st.aa w) w β (aG st.aa) (a.eval k) K) {p:PV}{ks:List PV} (e1:X=.pv (.mp ks)) (e2:K=.pv p) (hzu:zR z=true) (hp:dw p=s) (hks:∀x∈ks,dw x=s):∃v,(execOp a.eval o).run P w=.ok (.value v) w∧Rel P S0 L B0 w0 N ⟨Ab.put o.dst (if ok=true then .aS [.agg [],.pv (.bool (ks.any (m8 p)))] else .agg []) st.vars,st.aa⟩ (a.put o.dst v) w β:=by
 subst e1 e2;obtain⟨b,us,c,hmv,hh,hl,hc⟩:∃b us c,a.eval m=.map (some b)∧w.heap[b]?=some (.map us c)∧us.toList.length=ks.length∧∀(i:Nat) (k:PV) (u:MapEntry),ks[i]?=some k→us.toList[i]?=some u→u.key=bY k∧u.val=.agg #[]:=by have hx:=hX.bm;generalize a.eval m=V at hx;cases hx with|mp b us c ks h1 h2 h3 h4=>exact⟨b,us,c,rfl,h2,h3,h4⟩
 have hmt:=fL hm;obtain⟨d,hdk,hkey⟩:=gH hsrt;have hs99:=ns hsrt;have hkv:a.eval k=bY p:=ki hK hp hs99;have hzr:(zeroValue et).run P w=.ok z w:=by unfold zeroV at hz;obtain⟨i,hi,hz⟩:=Option.bind_eq_some_iff.1 hz;simp[zeroValue,typeInfo,hi,hz]
 have hany:∀l:List PV,(getM p (l.map fun x=>(x,AV.ak))).isSome=l.any (m8 p):=by intro l;induction l with|nil=>rfl|cons x l ih=>
  simp only[List.map_cons,getM,List.any_cons];by_cases hx:m8 p x=true;·simp[hx]
  ·have hx':m8 p x=false:=by simpa using hx
   rw[if_neg hx,hx',Bool.false_or,ih]
 have hfind:=pC hkey hp hs99 us.toList (ks.map fun x=>(x,AV.ak)) 0 (by intro e he;obtain⟨x,hx,rfl⟩:=List.mem_map.1 he;exact hks x hx) (by simpa using hl) fun i e u h1 h2=>by rw[List.getElem?_map]at h1;obtain⟨x,hx,rfl⟩:=Option.map_eq_some_iff.1 h1;exact(hc i x u hx h2).1
 have hzv:z=.agg #[]:=by
  unfold zR at hzu;split at hzu
  ·rename_i cs;have:cs=#[]:=by simpa using hzu
   rw[this]
  ·cases hzu
 have fin:∀(v:Value) (f:Bool),v=.agg #[]→(Instr.lookup t (.map (some b)) (bY p) ok).run P w=.ok (if ok=true then .tuple #[v,.bool f] else v) w→∃v,(execOp a.eval o).run P w=.ok (.value v) w∧Rel P S0 L B0 w0 N ⟨Ab.put o.dst (if ok=true then .aS [.agg [],.pv (.bool f)] else .agg []) st.vars,st.aa⟩ (a.put o.dst v) w β:=by
  intro v f hv0 hrun;subst hv0;have hag:RV P (aU S0 w0.heap.size β st.aa w) w β (aG st.aa) (.agg #[]) (.agg []):=.agg [] [] rfl fun i c u h1=>by simp at h1
  refine⟨_,by simp only[execOp,ho,hmv,hkv];simp[hrun,Result.andThen];rfl,h.put hd ?_⟩;cases ok with|false=>exact hag|true=>refine .aS _ [.agg #[],.bool f] rfl fun i c u h1 h2=>?_;match i with|0=>simp at h1 h2;subst h1 h2;exact hag|1=>simp at h1 h2;subst h1 h2;exact .pv _ _ (.bool f)|i+2=>simp at h1
 rw[←hany];rcases hfind with⟨h1,h2,h3⟩|⟨j,e,u,h1,h2,h3,h4,h5,h6⟩;·rw[h2];refine fin z false hzv ?_;simp[Instr.lookup,run_underlying hmt,MapKept.run_getObj_map hh,MapKept.run_checkKey hdk (hkey p hp),MapKept.run_findKey hdk h1,hzr,Result.andThen]
 ·rw[h5];obtain⟨x,hx,rfl⟩:=Option.map_eq_some_iff.1 (by rw[List.getElem?_map]at h2;exact h2);refine fin u.val true (hc j x u hx h3).2 ?_;simp[Instr.lookup,run_underlying hmt,MapKept.run_getObj_map hh,MapKept.run_checkKey hdk (hkey p hp),MapKept.run_findKey hdk h1,Result.andThen]
theorem Rel.froze (h:Rel P S0 L B0 w0 N st a w β) {w':World}{b:Nat} (hnl:¬live β st.aa b) (hown:w0.heap.size≤b∨L b) (hos:w'.os=w.os) (htp:w'.tape=w.tape) (hou:w'.output=w.output) (hsz:w'.heap.size=w.heap.size) (hoth:∀k,k≠b→w'.heap[k]?=w.heap[k]?) (hsb:uK w w' b):Rel P S0 L B0 w0 N st a w' β:=by
 have hok:aU S0 w0.heap.size β st.aa w'=aU S0 w0.heap.size β st.aa w:=by funext k;simp[aU,hsz]
 have hm:∀k,aU S0 w0.heap.size β st.aa w k→aU S0 w0.heap.size β st.aa w' k∧uK w w' k:=fun k hk=>⟨by rw[hok];exact hk,by
  by_cases e:k=b;·subst e;exact hsb
  ·exact .of (hoth k e)⟩;have hD:∀t,aG st.aa t→aG st.aa t∧β t=β t:=fun t ht=>⟨ht,rfl⟩;refine⟨h.size,h.defers,fun s=>(h.vars s).gN hm hD,⟨fun t o ho=>(h.heap.holds t o ho).gN hm hD rfl fun k hk=>?_,h.heap.inj⟩,h.old,h.qn,h.u5,⟨hos.trans h.bS.os,htp.trans h.bS.tape,hou.trans h.bS.output,by rw[hsz];exact h.bS.size,fun k h1 h2=>?_⟩⟩;·exact hoth k fun e=>hnl ⟨t,o,ho,by rw[←e];exact hk⟩
 ·rw[hoth k (by rintro rfl;rcases hown with h3|h3;omega;exact h2 h3)];exact h.bS.block k h1 h2
theorem Kj (hL:∀b,L b→S0 b) {t e:TypeId}{x:Operand}{K:St→Prop}{K':Act→World→Prop}{Q:Exit→Act→World→Prop} (ho:o.op=.convert t t x) (hu:P.underlying t=some (.slice e)) (he:P.underlying e=some (.int .u8)) (hd:∀s,o.dst=some s→s<N) (h:Rel P S0 L B0 w0 N st a w β) (hK:∀st a w β,K st→Rel P S0 L B0 w0 N st a w β→K' a w) (hs:aX o.dst .mark ([x].map (Ab.ev st.vars)) K st):o.wp P a w K' Q:=by
 have hs:B5 o.dst (strip (Ab.ev st.vars x)) [Ab.ev st.vars x] K st:=by unfold aX at hs;unfold B5;simp only[List.map_cons,List.map_nil]at hs;generalize strip (Ab.ev st.vars x)=X at hs;cases X<;>first|exact hs|exact hs.elim
 unfold B5 at hs;split at hs;rotate_left;·exact hs.elim
 rename_i tg hx;obtain⟨ha,hs⟩:=hs;obtain⟨⟨e1,rows⟩,har,hne,hKs⟩:=ae hs;have hX:=h.dr x ha.1;rw[hx]at hX;have hob:=bH har;simp only at hob hne hKs;have hdt:aG st.aa tg:=⟨_,hob⟩;obtain⟨inf,us,hi,hown,hrl,hcs⟩:=h.heap.holds tg _ hob;have hown':=hown;rcases hown'.2 with⟨_,hz⟩|⟨g,cap,cur,hv,_,hheap,_,_,_,_⟩;·exact absurd (List.eq_nil_of_length_eq_zero hz) hne
 have hblk:ct (β tg)=some g:=by rw[hv];rfl
 have hxv:a.eval x=.slice (some ⟨g,0,none⟩) rows.length cap:=hX.aT.1.trans hv;have hR:=h.share hL hob;have hnl:¬live β (gb tg st.aa) g:=by rintro⟨s,o,hs,hbs⟩;obtain⟨h1,h2⟩:=cY.1 ⟨o,hs⟩;exact h1 (h.heap.inj s tg g h2 hdt hbs hblk)
 have hlt:g<w.heap.size:=h.lt hdt hblk;have hfz:(w.freeze ⟨g,cur.size,none⟩ 1).heap=w.heap.setIfInBounds g (.cells cur e1 (cur.size,cur.size+1)):=by
  unfold World.freeze;rw[if_neg (by decide)];apply Array.ext;·simp
  ·intro i h1 h2;have hil:i<w.heap.size:=by simpa using h2
   rw[Array.getElem_modify,Array.getElem_setIfInBounds hil];by_cases hi:g=i
   ·subst hi;have hg:w.heap[g]=.cells cur e1 (0,0):=by have:=hheap;rw[Array.getElem?_eq_getElem hlt]at this;simpa using this
    rw[if_pos rfl,if_pos rfl,hg];rfl
   ·rw[if_neg hi,if_neg hi]
 have hget:∀k,(w.freeze ⟨g,cur.size,none⟩ 1).heap[k]?=if g=k then some (.cells cur e1 (cur.size,cur.size+1)) else w.heap[k]?:=by
  intro k;rw[hfz,Array.getElem?_setIfInBounds];by_cases hk:g=k;·subst hk;simp[hlt]
  ·simp[hk]
 have hR2:=hR.froze (w':=w.freeze ⟨g,cur.size,none⟩ 1) hnl (h.old tg g hdt hblk) rfl rfl rfl (by rw[hfz];simp) (fun k hk=>by rw[hget,if_neg (fun e=>hk e.symm)]) ⟨fun ad had=>by unfold World.cell?;rw[had,hget,if_pos rfl,hheap],fun us c hm=>by rw[hheap]at hm;cases hm⟩;have hsh:w.shape? g=some (e1,cur.size):=by unfold World.shape?;rw[hheap]
 have hrun:(execOp a.eval o).run P w=.ok (.value (a.eval x)) (w.freeze ⟨g,cur.size,none⟩ 1):=by simp[execOp,ho,hxv,convert,run_underlying hu,run_underlying he,markStringish,hsh,Result.andThen]
 refine aJ hrun (hK _ _ _ β hKs (hR2.put hd ?_));have hv0:=hR2.vars;have hro:RV P (aU S0 w0.heap.size β (gb tg st.aa) w) w β (aG (gb tg st.aa)) (β tg) (.pv (.ro rows)):=by
  have hbk:∀b,ct (β tg)=some b→aU S0 w0.heap.size β (gb tg st.aa) w b:=by
   intro b hb;have:b=g:=by rw[hblk]at hb;injection hb with hb;exact hb.symm
   subst this;exact⟨(h.old tg b hdt hblk).elim .inr fun hx=>.inl (hL b hx),hlt,hnl⟩
  have hlive:∀b,live β (gb tg st.aa) b→live β st.aa b:=by rintro b ⟨s,o,hs,hb⟩;obtain⟨o',ho'⟩:=(cY.1 ⟨o,hs⟩).2;exact⟨s,o',ho',hb⟩
  exact .pv _ _ (qp (S':=aU S0 w0.heap.size β (gb tg st.aa) w) (h.heap.arr hob) (fun b hb=>⟨hb.1,hb.2.1,fun hl=>hb.2.2 (hlive b hl)⟩) hbk).1
 rw[hX.aT.1];have hok:aU S0 w0.heap.size β (gb tg st.aa) (w.freeze ⟨g,cur.size,none⟩ 1)=aU S0 w0.heap.size β (gb tg st.aa) w:=by funext k;simp[aU,hfz]
 refine hro.gN (fun k hk=>⟨by rw[hok];exact hk,?_⟩) fun t ht=>⟨ht,rfl⟩;by_cases ek:k=g;·subst ek;exact⟨fun ad had=>by unfold World.cell?;rw[had,hget,if_pos rfl,hheap],fun us c hm=>by rw[hheap]at hm;cases hm⟩
 ·exact .of (by rw[hget,if_neg (fun e=>ek e.symm)])
theorem IL {t:TypeId}{d:Nat} (ho:o.op=.makeMap t none) (h:Rel P S0 L B0 w0 N st a w β) (hd:d<N) (ht:st.aa d=none):∃v w' β',(execOp a.eval o).run P w=.ok (.value v) w'∧Rel P S0 L B0 w0 N ⟨Ab.put (some d) (.own d) st.vars,bA [(d,.map [])] st.aa⟩ (a.put (some d) v) w' β':=by have hf:=h.fresh hd ht (cP w (.map #[] 0)) (v:=.map (some w.heap.size)) (fun b hb=>by simp[ct]at hb;omega) (o:=.map []) ⟨w.heap.size,#[],0,aV _ _ _,heap_alloc_new w _,rfl,fun i e u h1=>by simp at h1⟩;rw[cx];refine⟨.map (some w.heap.size),w.alloc (.map #[] 0),_,by simp[execOp,ho,Instr.makeMap,Result.andThen],hf.put (d:=some d) (fun s hs=>by injection hs with hs;omega) ?_⟩;have:=RV.own (P:=P) (S:=aU S0 w0.heap.size (eD β d (.map (some w.heap.size))) (aN d (.map []) st.aa) (w.alloc (.map #[] 0))) (w:=w.alloc (.map #[] 0)) (β:=eD β d (.map (some w.heap.size))) (D:=aG (aN d (.map []) st.aa)) d (bP.2 (.inl rfl));rwa[aV]at this
theorem Ar {ne:Bool}{t e yt:TypeId}{x y:Operand}{K:St→Prop}{K':Act→World→Prop}{Q:Exit→Act→World→Prop} (ho:o.op=.binOp (if ne=true then .neq else .eql) t x y yt) (hu:P.underlying t=some (.slice e)) (hy:fe y=true) (hd:∀s,o.dst=some s→s<N) (h:Rel P S0 L B0 w0 N st a w β) (hK:∀st a w β,K st→Rel P S0 L B0 w0 N st a w β→K' a w) (hs:aX o.dst (.vF ne) ([x].map (Ab.ev st.vars)) K st):o.wp P a w K' Q:=by
 have hyv:a.eval y=.slice none 0 0:=by
  unfold fe at hy;split at hy;·rfl
  ·cases hy
 unfold aX at hs;split at hs;·rename_i h1 _;cases h1
 ·rename_i h1 _;cases h1
 ·rename_i h1 _;cases h1
 ·rename_i h1;cases h1
 ·rename_i ne' X h1 hl;cases h1;simp only[List.map_cons,List.map_nil,List.cons.injEq,and_true]at hl;subst hl;obtain⟨ha,hs⟩:=hs;obtain⟨rows,hr,hs⟩:=ae hs;have hX:=h.dr x ha.1;have hv:∃A n c,a.eval x=.slice A n c∧(rows≠[]→A.isNone=false):=by
   have hro:∀{S':Nat→Prop}{rows:List (List PV)},da S' w (a.eval x) (.ro rows)→∃A n c,a.eval x=.slice A n c∧(rows≠[]→A.isNone=false):=by intro S' rows hX;obtain⟨A,c,hv,hc,hne⟩:=hX.fM;refine⟨A,rows.length,c,hv,fun h0=>?_⟩;obtain⟨ad,sz,us,rfl,_⟩:=hne h0;rfl
   generalize strip (Ab.ev st.vars x)=X at hX hr;cases X with
   |pv p=>cases p with|nil=>cases hr;exact⟨none,0,0,hX.bm.ef,fun h0=>absurd rfl h0⟩|ro rows'=>cases hr;exact hro hX.bm|_=>simp[fy]at hr
   |own t'=>simp only[fy,Option.map_eq_some_iff]at hr;obtain⟨⟨e',rows'⟩,hs',rfl⟩:=hr;obtain⟨hro',_⟩:=qp (S':=fun _=>True) (h.heap.arr (bH hs')) (fun _ _=>trivial) (fun _ _=>trivial);rw[←hX.aT.1]at hro';exact hro hro'|sub t' e1 lo hi=>
    simp only[fy,Option.bind_eq_some_iff]at hr;obtain⟨r,hs',hr⟩:=hr;split at hr;·rename_i he1;simp only[Option.some.injEq]at hr;subst hr he1;exact hro (Cf (S':=fun _=>True) (h.heap.arr (bH hs')) (fun _ _=>trivial) (fun _ _=>trivial) hX)
    ·cases hr|_=>simp[fy]at hr
  obtain⟨A,n,c,hxv,hA⟩:=hv;have hrun:(execOp a.eval o).run P w=.ok (.value (.bool (if ne=true then !A.isNone else A.isNone))) w:=by cases ne with|false=>simp[execOp,ho,hxv,hyv,eqGuard_at_slice,run_eql_slice_nil w t e A n c hu,Result.andThen]|true=>simp[execOp,ho,hxv,hyv,eqGuard_at_slice,run_neq_slice_nil w t e A n c hu,Result.andThen]
  exact aJ hrun (hK _ _ _ β (hs A.isNone hA) (h.put hd (.pv _ _ (.bool _))))
 ·rename_i h1 _;cases h1
 ·rename_i h1;cases h1
 ·rename_i h1;cases h1
 ·rename_i h1;cases h1
 ·rename_i h1 _;cases h1
 ·rename_i h1 _;cases h1
 ·exact hs.elim
theorem BK {fn:Func} (h:fn.name= "math/bits.Add64"):Extern.find fn=some add64Entry:=by unfold Extern.find;simp only[h];rfl
theorem Gt {f:FuncId}{args:Array Operand}{argTypes:Array TypeId}{K:St→Prop}{K':Act→World→Prop}{Q:Exit→Act→World→Prop} (ho:o.op=.call {callee:=.value (.func f),args:=args,argTypes:=argTypes}) (hf:ym P f=true) (hd:∀s,o.dst=some s→s<N) (h:Rel P S0 L B0 w0 N st a w β) (hK:∀st a w β,K st→Rel P S0 L B0 w0 N st a w β→K' a w) (hs:aX o.dst .zk (args.toList.map (Ab.ev st.vars)) K st):o.wp P a w K' Q:=by
 have hs:vI o.dst (args.toList.map (Ab.ev st.vars)) ((args.toList.map (Ab.ev st.vars)).map strip) K st:=hs
 ·unfold vI at hs;split at hs;rotate_left;·exact hs.elim
  rename_i p q r hl;obtain⟨ha,⟨c1,c2,c3,c4⟩,hs⟩:=hs;obtain⟨x,y,z,hxyz⟩:∃x y z,args.toList=[x,y,z]:=by
   have:args.toList.length=3:=by have:=congrArg List.length hl;simpa using this
   match args.toList,this with|[x,y,z],_=>exact⟨x,y,z,rfl⟩
  have harr:args=#[x,y,z]:=by apply Array.ext';simpa using hxyz
  rw[hxyz]at hl ha;simp only[List.map_cons,List.map_nil,List.cons.injEq,and_true]at hl;obtain⟨e1,e2,e3⟩:=hl;have hx:=h.dr x ha.1;have hy:=h.dr y ha.2.1;have hz:=h.dr z ha.2.2.1;rw[e1]at hx;rw[e2]at hy;rw[e3]at hz;unfold ym at hf;split at hf
  ·rename_i fn hfn;simp only[Bool.and_eq_true,beq_iff_eq]at hf;obtain⟨⟨f1,f2⟩,f3⟩:=hf;have hrun:(execOp a.eval o).run P w=.ok (.value (.tuple #[.int .u64 ((p+q+r)%18446744073709551616),.int .u64 ((p+q+r)/18446744073709551616)])) w:=by have:=run_callFunc_extern (P:=P) hfn (by rw[f1];rfl) f2 (by simpa using f3) (BK f1) #[a.eval x,a.eval y,a.eval z] w;rw[hx.aI,hy.aI,hz.aI,run_add64 p q r c1 c2 c3 c4]at this;simp only[Result.andThen]at this;have hev:a.eval (.func f)=.func (.func f) #[] #[]:=rfl;simp[execOp,ho,resolve,hev,Deferred.ofValue,invoke,harr,hx.aI,hy.aI,hz.aI,this]
   refine aJ hrun (hK _ _ _ β hs (h.put hd ?_));refine .aS _ [_,_] rfl fun i c u h1 h2=>?_;match i with|0=>simp at h1 h2;subst h1 h2;exact .pv _ _ (.int _ _)|1=>simp at h1 h2;subst h1 h2;exact .pv _ _ (.int _ _)|i+2=>simp at h1
  ·cases hf
theorem vx (z:Array Value) (n i j:Nat) (hi:i<n) (hj:j<z.size):(Builtin.zeroCells z n).toList[i*z.size+j]?=some z[j]:=by
 have hlt:i*z.size+j<n*z.size:=by have:=Nat.mul_le_mul_right z.size (show i+1≤n from hi);rw[Nat.succ_mul]at this;omega
 have hm:(i*z.size+j)%z.size=j:=by rw[Nat.mul_comm,Nat.mul_add_mod,Nat.mod_eq_of_lt hj]
 simp[Builtin.zeroCells,hlt,hm,hj]
theorem J2 {t:TypeId}{x:Operand}{e:TypeId}{K:St→Prop}{K':Act→World→Prop}{Q:Exit→Act→World→Prop} (ho:o.op=.call {callee:=.builtin .cap,args:=#[x],argTypes:=#[t]}) (ht:P.underlying t=some (.slice e)) (hd:∀s,o.dst=some s→s<N) (h:Rel P S0 L B0 w0 N st a w β) (hK:∀st a w β,K st→Rel P S0 L B0 w0 N st a w β→K' a w) (hs:aX o.dst .Hc ([x].map (Ab.ev st.vars)) K st):o.wp P a w K' Q:=by
 have hs:ma o.dst (strip (Ab.ev st.vars x)) [Ab.ev st.vars x] K st:=by unfold aX at hs;unfold ma;simp only[List.map_cons,List.map_nil]at hs;generalize strip (Ab.ev st.vars x)=X at hs;cases X with
  |pv p=>cases p<;>first|exact hs|exact hs.elim
  |_=>exact hs.elim
 unfold ma at hs;split at hs;·rename_i hx;obtain⟨ha,hs⟩:=hs;have hX:=h.dr x ha.1;rw[hx]at hX;have hv:=hX.bm.ef;refine aJ ?_ (hK _ _ _ β hs (h.put hd (.pv (.int .i64 0) _ (.int _ _))));simp[execOp,ho,resolve,invoke,builtin,Builtin.cap_,run_underlying ht,hv,goInt]
 ·exact hs.elim
theorem J5 {t tn e:TypeId}{kn:IntKind}{inf:TypeInfo}{zs:List Value}{x y:Operand}{K:St→Prop}{K':Act→World→Prop}{Q:Exit→Act→World→Prop} (ho:o.op=.call {callee:=.builtin .append,args:=#[x,y],argTypes:=#[t,tn]}) (ht:P.underlying t=some (.slice e)) (htn:P.underlying tn=some (.int kn)) (hi:P.info? e=some inf) (hz:dN P e=some zs) (hpos:0<inf.size) (hz1:zs.all (·.oneCell')=true) (hd:∀s,o.dst=some s→s<N) (h:Rel P S0 L B0 w0 N st a w β) (hK:∀st a w β,K st→Rel P S0 L B0 w0 N st a w β→K' a w) (hs:aX o.dst (.EO e inf.size inf.bytes zs) ([x,y].map (Ab.ev st.vars)) K st):o.wp P a w K' Q:=by
 have hs:mh o.dst e inf.bytes zs [Ab.ev st.vars x,Ab.ev st.vars y] [strip (Ab.ev st.vars x),strip (Ab.ev st.vars y)] K st:=hs;unfold mh at hs;split at hs;rotate_left;·exact hs.elim
 rename_i n hl;simp only[List.cons.injEq,and_true]at hl;obtain⟨e1,e2⟩:=hl;obtain⟨d,hdd,⟨ha1,ha2,_⟩,⟨c1,c2,c3⟩,hn,hKs⟩:=ae hs;have hX:=h.dr x ha1;have hY:=h.dr y ha2;rw[e1]at hX;rw[e2]at hY;have hxv:=hX.bm.ef;have hyv:=hY.aI;obtain⟨m,rfl⟩:∃m:Nat,n=(m:Int):=⟨n.toNat,by omega⟩;simp only[Int.toNat_natCast]at c3 hKs;obtain⟨i',zv,hi',hzv,hzs,rfl⟩:=dO hz;have:i'=inf:=by rw[hi]at hi';injection hi' with hi';exact hi'.symm
 subst this;rw[hdd]at hd;have key:∃v w',(Builtin.append_ #[t,tn] o.type #[.slice none 0 0,.int .i64 (m:Int)]).run P w=.ok v w'∧w.grownBy w' none∧(∀b,ct v=some b→w.heap.size≤b)∧w'.ownsRow 0 e i'.size v m (Builtin.zeroCells zv.cells m).toList:=by
  by_cases h0:m=0
  ·subst h0;refine⟨.slice none 0 0,w,?_,⟨rfl,rfl,rfl,Nat.le_refl _,fun _ _ _=>rfl⟩,fun b hb=>by simp[ct]at hb,by simp[Builtin.zeroCells],.inl ⟨rfl,rfl⟩⟩;have hw0:IntKind.i64.wrap 0=0:=by decide
   simp[Builtin.append_,run_underlying ht,run_underlying htn,sizeOf,typeInfo,hi,asInt,asIntOf,hw0]
  ·have hr:=Lib.run_append_nil_zeros (P:=P) w t tn o.type e i' zv .i64 kn ht htn hi hzv m (by omega) hpos (by omega) (by omega);refine⟨_,_,hr,⟨rfl,rfl,rfl,by simp,fun k hk _=>Below.heap_alloc w.drew _ k hk⟩,fun b hb=>by simp[ct]at hb;omega,by simp[size_zeroCells,hzs],.inr ⟨w.heap.size,_,_,rfl,Nat.zero_le _,heap_alloc_new w.drew _,grownCap_ge w m 0 e,grownCap_le_maxLen w m 0 e (by unfold maxLen;omega),?_,?_⟩⟩;·have:=grownCap_ge w m 0 e;simp only[Array.size_append,size_zeroCells,hzs,←Nat.add_mul];congr 1;omega
   ·rw[Array.toList_append,show m*i'.size=(Builtin.zeroCells zv.cells m).toList.length from by simp[size_zeroCells,hzs]];exact List.take_left
 obtain⟨v',w',hrun,hg,hv,hown⟩:=key;have hf:=h.fresh (hd d rfl) hn hg hv (o:=.arr e (List.replicate m (zv.cells.toList.map u7))) ⟨i',_,hi,by rw[aV,List.length_replicate];exact hown,fun r hr=>by rw[List.eq_of_mem_replicate hr];simp[hzs],fun i j r p hr hp=>by
  rw[List.getElem?_replicate]at hr;split at hr
  ·rename_i him;cases hr;rw[List.getElem?_map,Option.map_eq_some_iff]at hp;obtain⟨u,hu,rfl⟩:=hp;have hj:j<zv.cells.size:=by rw[List.getElem?_eq_some_iff]at hu;obtain⟨hj,_⟩:=hu;simpa using hj
   have hu':zv.cells[j]=u:=by rw[List.getElem?_eq_some_iff]at hu;obtain⟨_,hu⟩:=hu;simpa using hu
   have hone:u.oneCell'=true:=by rw[List.all_eq_true]at hz1;exact hz1 u (List.mem_of_getElem? hu)
   refine⟨u,?_,hone,iL _ _ u hone⟩;rw[←hu',←hzs];exact vx zv.cells m i j him hj
  ·cases hr⟩;have hp:=hf.put (d:=some d) (r:=eD β d v' d) (v:=.own d) hd (.own d (bP.2 (.inl rfl)));rw[aV]at hp;refine aJ (r:=v') (w':=w') ?_ (hK _ _ _ (eD β d v') hKs ?_);·simp[execOp,ho,resolve,invoke,builtin,hxv,hyv,hrun]
 ·rw[cx,hdd];exact hp
theorem NO {t e:TypeId}{inf:TypeInfo}{zs:List Value}{x y:Operand}{K:St→Prop}{K':Act→World→Prop}{Q:Exit→Act→World→Prop} (ho:o.op=.makeSlice t x y) (ht:P.underlying t=some (.slice e)) (hi:P.info? e=some inf) (hz:dN P e=some zs) (hpos:0<inf.size) (hz1:zs.all (·.oneCell')=true) (hd:∀s,o.dst=some s→s<N) (h:Rel P S0 L B0 w0 N st a w β) (hK:∀st a w β,K st→Rel P S0 L B0 w0 N st a w β→K' a w) (hs:aX o.dst (.Qk e inf.bytes zs) ([x,y].map (Ab.ev st.vars)) K st):o.wp P a w K' Q:=by
 have hs:Bd o.dst e inf.bytes zs [Ab.ev st.vars x,Ab.ev st.vars y] [strip (Ab.ev st.vars x),strip (Ab.ev st.vars y)] K st:=hs;unfold Bd at hs;split at hs;rotate_left;·exact hs.elim
 rename_i k n k' c hl;simp only[List.cons.injEq,and_true]at hl;obtain⟨e1,e2⟩:=hl;obtain⟨d,hdd,⟨ha1,ha2,_⟩,⟨rfl,c1,c2,c3⟩,hn,hKs⟩:=ae hs;have hX:=h.dr x ha1;have hY:=h.dr y ha2;rw[e1]at hX;rw[e2]at hY;have hxv:=hX.aI;have hyv:=hY.aI;obtain⟨m,rfl⟩:∃m:Nat,c=(m:Int):=⟨c.toNat,by omega⟩;simp only[Int.toNat_natCast]at c3 hKs;obtain⟨i',zv,hi',hzv,hzs,rfl⟩:=dO hz;have:i'=inf:=by rw[hi]at hi';injection hi' with hi';exact hi'.symm
 subst this;rw[hdd]at hd;have h63:((m:Nat):Int)≤9223372036854775807:=by omega
 have hbb:(i'.bytes:Int)*(m:Int)≤281474976710656:=by
  have h1:((i'.bytes*m:Nat):Int)≤281474976710656:=by rw[Nat.mul_comm];omega
  rwa[Int.natCast_mul]at h1
 have hr:=run_make (P:=P) w t e i' zv ht hi hzv k k' (m:Int) (m:Int) c1 (Int.le_refl _) hbb h63;simp only[Int.toNat_natCast]at hr;have hcells:(madeCells zv.cells (m*i'.size)).size=m*i'.size:=size_madeCells _ _;have hget:∀i j,i<m→(hj:j<zv.cells.size)→(madeCells zv.cells (m*i'.size)).toList[i*zv.cells.size+j]?=some zv.cells[j]:=by
  intro i j hi hj;have hlt:i*zv.cells.size+j<m*zv.cells.size:=by have:=Nat.mul_le_mul_right zv.cells.size (show i+1≤m from hi);rw[Nat.succ_mul]at this;omega
  have hm:(i*zv.cells.size+j)%zv.cells.size=j:=by rw[Nat.mul_comm,Nat.mul_add_mod,Nat.mod_eq_of_lt hj]
  rw[←hzs];simp[madeCells,hlt,hm,hj]
 have hf:=h.fresh (hd d rfl) hn (cP w (.cells (madeCells zv.cells (m*i'.size)) e)) (v:=.slice (some ⟨w.heap.size,0,none⟩) m m) (fun b hb=>by simp[ct]at hb;omega) (o:=.arr e (List.replicate m (zv.cells.toList.map u7))) ⟨i',(madeCells zv.cells (m*i'.size)).toList,hi,by rw[aV,List.length_replicate];refine⟨by simpa using hcells,.inr ⟨w.heap.size,m,_,rfl,Nat.zero_le _,heap_alloc_new w _,Nat.le_refl _,by unfold maxLen;omega,hcells,?_⟩⟩;rw[List.take_of_length_le (by simpa using Nat.le_of_eq hcells)],fun r hr=>by rw[List.eq_of_mem_replicate hr];simp[hzs],fun i j r p hr hp=>by
  rw[List.getElem?_replicate]at hr;split at hr
  ·rename_i him;cases hr;rw[List.getElem?_map,Option.map_eq_some_iff]at hp;obtain⟨u,hu,rfl⟩:=hp;have hj:j<zv.cells.size:=by rw[List.getElem?_eq_some_iff]at hu;obtain⟨hj,_⟩:=hu;simpa using hj
   have hu':zv.cells[j]=u:=by rw[List.getElem?_eq_some_iff]at hu;obtain⟨_,hu⟩:=hu;simpa using hu
   have hone:u.oneCell'=true:=by rw[List.all_eq_true]at hz1;exact hz1 u (List.mem_of_getElem? hu)
   refine⟨u,?_,hone,iL _ _ u hone⟩;have:=hget i j him hj;rw[hu',hzs]at this;exact this
  ·cases hr⟩;have hp:=hf.put (d:=some d) (r:=eD β d (.slice (some ⟨w.heap.size,0,none⟩) m m) d) (v:=.own d) hd (.own d (bP.2 (.inl rfl)));rw[aV]at hp;refine aJ (r:=.slice (some ⟨w.heap.size,0,none⟩) m m) (w':=w.alloc (.cells (madeCells zv.cells (m*i'.size)) e)) ?_ (hK _ _ _ (eD β d (.slice (some ⟨w.heap.size,0,none⟩) m m)) hKs ?_);·simp[execOp,ho,hxv,hyv,hr,Result.andThen]
 ·rw[cx,hdd];exact hp
theorem IE {t e:TypeId}{n:Nat}{zs:List Value}{ops:Array (Nat×Operand)}{K:St→Prop}{K':Act→World→Prop}{Q:Exit→Act→World→Prop} (ho:o.op=.buildSlice t n ops) (hu:P.underlying t=some (.slice e)) (hsz:cy P e=some 1) (hz:dN P e=some zs) (hord:ops.toList.map (·.1)=List.range n) (hbig:n*1≤2^24) (hzl:zs.length=1) (hd:∀s,o.dst=some s→s<N) (h:Rel P S0 L B0 w0 N st a w β) (hK:∀st a w β,K st→Rel P S0 L B0 w0 N st a w β→K' a w) (hs:aX o.dst (.Ex e) ((ops.toList.map (·.2)).map (Ab.ev st.vars)) K st):o.wp P a w K' Q:=by
 have hs:xT o.dst e ((ops.toList.map (·.2)).map (Ab.ev st.vars)) (((ops.toList.map (·.2)).map (Ab.ev st.vars)).map strip) K st:=hs;unfold xT at hs;obtain⟨d,hdd,ha,hones,hn,hKs⟩:=ae hs;rw[hdd]at hd;obtain⟨inf,hi,hinf⟩:=gl hsz;obtain⟨i,zv,hi',hzv,hzs,rfl⟩:=dO hz;have:i=inf:=by rw[hi]at hi';injection hi' with hi';exact hi'.symm
 subst this;have hlen:ops.toList.length=n:=by have:=congrArg List.length hord;simpa using this
 have honeAt:∀(l:List AV) (i:Nat) (c:AV),fA l=true→l[i]?=some c→eE c=true:=by intro l;induction l with|nil=>intro i c _ hc;simp at hc|cons y l ih=>intro i c h hc;simp only[fA,Bool.and_eq_true]at h;cases i with|zero=>simp at hc;subst hc;exact h.1|succ i=>exact ih i c h.2 (by simpa using hc)
 have hrv:∀(k:Nat) (p:Nat×Operand),ops.toList[k]?=some p→RV P (aU S0 w0.heap.size β st.aa w) w β (aG st.aa) (a.eval p.2) (strip (ev st.vars p.2))∧(a.eval p.2).oneCell'=true∧(a.eval p.2).cells=#[a.eval p.2]:=by
  intro k p hk;have hk2:(ops.toList.map (·.2))[k]?=some p.2:=by simp[hk]
  have hr:=h.dr p.2 (lJ _ k _ ha hk2);have hone:=honeAt _ k (strip (ev st.vars p.2)) hones (by simp[hk]);exact⟨hr,kW h.heap hr hone⟩
 have hcsz:∀p∈ops.toList,(a.eval p.2).cells.size=1:=by intro p hp;obtain⟨k,hk⟩:=List.getElem?_of_mem hp;rw[(hrv k p hk).2.2];rfl
 have hfm:∀l:List (Nat×Operand),(∀p∈l,(a.eval p.2).cells=#[a.eval p.2])→(l.flatMap fun p=>(a.eval p.2).cells.toList)=l.map fun p=>a.eval p.2:=by intro l;induction l with|nil=>intro _;rfl|cons p l ih=>intro hl;simp only[List.flatMap_cons,List.map_cons];rw[hl p (by simp),ih fun q hq=>hl q (by simp[hq])];rfl
 have hus:=hfm ops.toList fun p hp=>by obtain⟨k,hk⟩:=List.getElem?_of_mem hp;exact(hrv k p hk).2.2
 obtain⟨husl,hrun⟩:=xK (w:=w) ho hu hsz hi hzv hzl hord hbig hlen hcsz;rw[hus]at husl hrun;have hb:∀b,ct (.slice (some ⟨w.heap.size,0,none⟩) n n)=some b→w.heap.size≤b:=fun b hb=>by simp[ct]at hb;omega
 have hcl:(((ops.toList.map (·.2)).map (Ab.ev st.vars)).map strip).length=n:=by simp[hlen]
 have hm:=h.ko hn (cP w (.cells (ops.toList.map fun p=>a.eval p.2).toArray e)) (v:=.slice (some ⟨w.heap.size,0,none⟩) n n) hb (o:=.rws e (((ops.toList.map (·.2)).map (Ab.ev st.vars)).map strip));have hnm:n≤maxLen:=by simp only[maxLen];omega
 have hf:=h.fresh (hd d rfl) hn (cP w (.cells (ops.toList.map fun p=>a.eval p.2).toArray e)) (v:=.slice (some ⟨w.heap.size,0,none⟩) n n) hb (o:=.rws e (((ops.toList.map (·.2)).map (Ab.ev st.vars)).map strip)) ⟨i,ops.toList.map fun p=>a.eval p.2,hi,hinf,by rw[aV,hcl,hinf];exact⟨husl,.inr ⟨w.heap.size,n,_,rfl,Nat.zero_le _,heap_alloc_new w _,Nat.le_refl _,hnm,by simpa using husl,by generalize(ops.toList.map fun p=>a.eval p.2)=us at husl ⊢;rw[←husl];simp⟩⟩,fun k c u hc hu=>by
  have hlt:k<ops.toList.length:=by have:=(List.getElem?_eq_some_iff.1 hu).1;simpa using this
  have hk:ops.toList[k]?=some ops.toList[k]:=List.getElem?_eq_getElem hlt;obtain⟨h1,h2,_⟩:=hrv k _ hk;simp only[List.getElem?_map,hk,Option.map_some,Option.some.injEq]at hc hu;subst hc hu;exact⟨h2,h1.mono hm.1 hm.2⟩⟩;have hp:=hf.put (d:=some d) (r:=eD β d (.slice (some ⟨w.heap.size,0,none⟩) n n) d) (v:=.own d) hd (.own d (bP.2 (.inl rfl)));rw[aV]at hp;refine aJ hrun (hK _ _ _ (eD β d (.slice (some ⟨w.heap.size,0,none⟩) n n)) hKs ?_);rw[cx,hdd];exact hp
theorem JR {t e:TypeId}{sz n:Nat}{zs:List Value}{ops:Array (Nat×Operand)}{K:St→Prop}{K':Act→World→Prop}{Q:Exit→Act→World→Prop} (ho:o.op=.buildSlice t n ops) (hu:P.underlying t=some (.slice e)) (hsz:cy P e=some sz) (hz:dN P e=some zs) (hord:ops.toList.map (·.1)=List.range n) (hbig:n*sz≤2^24) (hzl:zs.length=sz) (hpos:0<sz) (hd:∀s,o.dst=some s→s<N) (h:Rel P S0 L B0 w0 N st a w β) (hK:∀st a w β,K st→Rel P S0 L B0 w0 N st a w β→K' a w) (hs:aX o.dst (.mW e sz) ((ops.toList.map (·.2)).map (Ab.ev st.vars)) K st):o.wp P a w K' Q:=by have hs:qu o.dst e sz ((ops.toList.map (·.2)).map (Ab.ev st.vars)) (((ops.toList.map (·.2)).map (Ab.ev st.vars)).map strip) K st:=hs;unfold qu at hs;obtain⟨d,hdd,ha,hs⟩:=ae hs;obtain⟨rows,hrows,hφ,hn,hKs⟩:=ae hs;obtain⟨r,w',hr,β',hR⟩:=KJ (d:=d) (φ:=∀r∈rows,r.length=sz) (v:=.own d) (ao:=.arr e rows) ho hu hsz hz hord hbig hzl hpos h (hd d hdd) hn h.dr ha (by show(rowsOf (((ops.toList.map (·.2)).map (Ab.ev st.vars)).map strip)).map _=_;rw[hrows];rfl) hφ;refine aJ hr (hK _ _ _ β' hKs ?_);rw[hdd];exact hR
theorem Rel.LS (h:Rel P S0 L B0 w0 N st a w β) {t:Nat}{q q':AO} (ht:st.aa t=some q) (hh:bn P (aU S0 w0.heap.size β st.aa w) w β (aG st.aa) t q'):Rel P S0 L B0 w0 N ⟨st.vars,aN t q' st.aa⟩ a w β:=by
 have hd:aG (aN t q' st.aa)=aG st.aa:=by funext s;apply propext;rw[bP];exact⟨fun e=>e.elim (fun e=>e▸⟨q,ht⟩) id,.inr⟩
 have hl:live β (aN t q' st.aa)=live β st.aa:=by
  funext b;apply propext;constructor;·rintro⟨s,x,hs,hb⟩;have hs:aG (aN t q' st.aa) s:=⟨x,hs⟩;rw[hd]at hs;exact⟨s,hs.choose,hs.choose_spec,hb⟩
  ·rintro⟨s,x,hs,hb⟩;have hs:aG st.aa s:=⟨x,hs⟩;rw[←hd]at hs;exact⟨s,hs.choose,hs.choose_spec,hb⟩
 have ho:aU S0 w0.heap.size β (aN t q' st.aa) w=aU S0 w0.heap.size β st.aa w:=by funext b;simp only[aU,hl]
 refine⟨h.size,h.defers,fun s=>?_,⟨fun s x hs=>?_,fun s s' b hs hs'=>?_⟩,fun s b hs=>?_,h.qn,fun s h9 hs=>?_,h.bS⟩;·show RV P (aU S0 w0.heap.size β (aN t q' st.aa) w) w β (aG (aN t q' st.aa)) _ _;rw[ho,hd];exact h.vars s
 ·show bn P (aU S0 w0.heap.size β (aN t q' st.aa) w) w β (aG (aN t q' st.aa)) s x;rw[ho,hd];have hs:aN t q' st.aa s=some x:=hs;by_cases e:s=t
  ·subst e;have:q'=x:=by simpa[aN]using hs
   subst this;exact hh
  ·exact h.heap.holds s x (by simpa[aN,e]using hs)
 ·have hs:aG (aN t q' st.aa) s:=hs;have hs':aG (aN t q' st.aa) s':=hs';rw[hd]at hs hs';exact h.heap.inj s s' b hs hs'
 ·have hs:aG (aN t q' st.aa) s:=hs;rw[hd]at hs;exact h.old s b hs
 ·have hs:aG (aN t q' st.aa) s:=hs;rw[hd]at hs;exact h.u5 s h9 hs
theorem Nt {ts:TypeId}{x y:Operand}{K:St→Prop}{K':Act→World→Prop}{Q:Exit→Act→World→Prop} (ho:o.op=.store ts x y) (h1:cy P ts=some 1) (hd:∀s,o.dst=some s→s<N) (h:Rel P S0 L B0 w0 N st a w β) (hK:∀st a w β,K st→Rel P S0 L B0 w0 N st a w β→K' a w) (hs:aX o.dst .Yu ([x,y].map (Ab.ev st.vars)) K st):o.wp P a w K' Q:=by
 have hs:vJ o.dst (strip (Ab.ev st.vars x)) (strip (Ab.ev st.vars y)) [Ab.ev st.vars x,Ab.ev st.vars y] K st:=hs;unfold vJ at hs;split at hs;rotate_left;·exact hs.elim
 rename_i t e i off q e1 e2;obtain⟨ha,hs⟩:=hs;obtain⟨⟨e',rows⟩,har,⟨hee,hoff⟩,⟨c1,c2,c3⟩,hKs⟩:=ae hs;simp only at hee c2 c3 hKs;subst hee hoff;have hX:=h.dr x ha.1;have hY:=h.dr y ha.2.1;rw[e1]at hX;rw[e2]at hY;have hob:=bH har;simp only at hob;obtain⟨b,n,c,inf,hx,hdt,hi,hb⟩:=hX.fP;have hv:=kW h.heap hY rfl;obtain⟨w',hst,hR⟩:=iR h (off:=0) (ps:=[PV.val (a.eval y)]) (us:=[a.eval y]) hob hi hb c1 c2 (by simp[c3]) rfl (fun j p hq=>by cases j with|zero=>simp at hq;subst hq;exact⟨_,rfl,hv.1,.val _ hv.1⟩|succ j=>simp at hq);have hrow:=jR c1 c2;obtain⟨infa,_,hia,_,hrla,_⟩:=h.heap.arr hob;have hia':infa=inf:=by rw[hi]at hia;injection hia with hia;exact hia.symm
 have hsz:inf.size=1:=by rw[←hia',←hrla _ (List.mem_of_getElem? hrow)];exact c3
 have hat:∀q':AO,aN t q' st.aa t=some q':=fun q'=>by simp[aN]
 obtain⟨inf2,us,hi2,hown,hrl,hcs⟩:=hR.heap.arr (hat _);have hi3:inf2=inf:=by rw[hi]at hi2;injection hi2 with hi2;exact hi2.symm
 subst hi3;have hO:=hR.LS (q':=.rws e' ((rows.map fun x=>AV.pv (x.getD 0 .nil)).set i.toNat (.own q))) (hat _) ⟨inf2,us,hi,hsz,by simpa using hown,fun k c u hc hu=>?_⟩
 ·have hadd:∀q1 q2:AO,aN t q1 (aN t q2 st.aa)=aN t q1 st.aa:=fun q1 q2=>by funext s;unfold aN;split<;>rfl
  rw[hadd]at hO;exact iQ (gW ho hx (by rw[hv.2];exact eh h1 w) (by rw[hv.2];exact hst)) (hK _ _ _ β hKs (hO.put hd (.ak _)))
 ·have hlt:i.toNat<rows.length:=by omega
  rw[List.getElem?_set]at hc;by_cases hik:i.toNat=k
  ·subst hik;rw[if_pos rfl,if_pos (by simpa using hlt)]at hc;injection hc with hc;subst hc;obtain⟨u',hu',ho1,hp⟩:=hcs i.toNat 0 _ (.val (a.eval y)) (by rw[List.getElem?_set,if_pos rfl,if_pos hlt]) (by simp[bX]);rw[hsz,Nat.mul_one,Nat.add_zero,hu]at hu';injection hu' with hu';subst hu';have:u=a.eval y:=by cases hp;rfl
   rw[this,hY.aT.1];exact⟨by rw[←hY.aT.1];exact hv.1,.own q (bP.2 (.inr hY.aT.2))⟩
  ·rw[if_neg hik,List.getElem?_map,Option.map_eq_some_iff]at hc;obtain⟨r,hr,rfl⟩:=hc;have hr1:r.length=1:=by rw[←hsz,←hia'];exact hrla _ (List.mem_of_getElem? hr)
   obtain⟨u',hu',ho1,hp⟩:=hcs k 0 r (r.getD 0 .nil) (by rw[List.getElem?_set,if_neg hik];exact hr) (by rw[List.getD_eq_getElem?_getD,List.getElem?_eq_getElem (by omega)];rfl);rw[hsz,Nat.mul_one,Nat.add_zero,hu]at hu';injection hu' with hu';subst hu';exact⟨ho1,.pv _ _ hp⟩
theorem uM:∀{cs:List AV}{j q:Nat},uC cs=some (j,q)→cs[j]?=some (.own q)
 |[],j,q,h=>by simp[uC]at h|c::l,j,q,h=>by
  unfold uC at h;split at h;·cases h;rfl
  ·obtain⟨⟨j',q'⟩,h1,h2⟩:=Option.map_eq_some_iff.1 h;cases h2;simpa using uM h1
theorem DX (hL:∀b,L b→S0 b) {x:Operand}{K:St→Prop}{K':Act→World→Prop}{Q:Exit→Act→World→Prop} (hrun:(execOp a.eval o).run P w=.ok (.value (a.eval x)) w) (hd:∀s,o.dst=some s→s<N) (h:Rel P S0 L B0 w0 N st a w β) (hK:∀st a w β,K st→Rel P S0 L B0 w0 N st a w β→K' a w) (hs:aX o.dst .Ew ([x].map (Ab.ev st.vars)) K st):o.wp P a w K' Q:=by
 have hs:s8 o.dst (strip (Ab.ev st.vars x)) [Ab.ev st.vars x] K st:=hs;unfold s8 at hs;split at hs;rotate_left;·exact hs.elim
 rename_i t hx;obtain⟨ha,hs⟩:=hs;obtain⟨⟨e,cs⟩,hrw,hs⟩:=ae hs;obtain⟨⟨j,q⟩,hf,hs⟩:=ae hs;obtain⟨⟨e',rows⟩,har,hs⟩:=ae hs;obtain⟨ps,hps,hKs⟩:=ae hs;have hX:=h.dr x ha.1;rw[hx]at hX;have hj:=uM hf;have hot:st.aa t=some (.rws e cs):=by
  unfold X6 at hrw;split at hrw;·rename_i h1;cases hrw;exact h1
  ·cases hrw
 have hoq:=bH har;simp only at hj hoq hps hKs;have hqt:t≠q:=by rintro rfl;rw[hot]at hoq;cases hoq
 have hR:=h.share hL hoq;have hos:gb q st.aa t=some (dX q (.rws e cs)):=by simp[gb,hqt,hot]
 have hdq:aG st.aa q:=⟨_,hoq⟩;have hlive:∀b,live β (gb q st.aa) b→live β st.aa b:=by rintro b ⟨s,o,hs,hb⟩;obtain⟨o',ho'⟩:=(cY.1 ⟨o,hs⟩).2;exact⟨s,o',ho',hb⟩
 have hm:∀b,aU S0 w0.heap.size β st.aa w b→aU S0 w0.heap.size β (gb q st.aa) w b∧w.heap[b]?=w.heap[b]?:=fun b hb=>⟨⟨hb.1,hb.2.1,fun hl=>hb.2.2 (hlive b hl)⟩,rfl⟩;have hbk:∀b,ct (β q)=some b→aU S0 w0.heap.size β (gb q st.aa) w b:=by intro b hb;refine⟨(h.old q b hdq hb).elim .inr fun hx=>.inl (hL b hx),h.lt hdq hb,?_⟩;rintro⟨s,o,hs,hbs⟩;obtain⟨h1,h2⟩:=cY.1 ⟨o,hs⟩;exact h1 (h.heap.inj s q b h2 hdq hbs hb)
 have hro:=(qp (S':=aU S0 w0.heap.size β (gb q st.aa) w) (h.heap.arr hoq) (fun b hb=>(hm b hb).1) hbk).1;obtain⟨inf,us,hi,hsz,hown,hcs⟩:=h.heap.holds t _ hot;obtain⟨g1,g2⟩:=qg _ ps hps;have hul:us.length=cs.length:=by have:=hown.1;rw[hsz,Nat.mul_one]at this;exact this
 rw[List.length_set]at g1;have hO:=hR.LS (q':=.arr e (ps.map fun p=>[p])) hos ⟨inf,us,hi,by rw[List.length_map,g1];exact hown,fun r hr=>?_,fun k i r p hk hp=>?_⟩;·have hp:=hO.put hd (d:=o.dst) (r:=a.eval x) (v:=.own t) (by rw[hX.aT.1];exact .own t (bP.2 (.inl rfl)));exact aJ hrun (hK _ _ _ β hKs hp)
 ·obtain⟨p,_,rfl⟩:=List.mem_map.1 hr;rw[hsz];rfl
 ·rw[List.getElem?_map,Option.map_eq_some_iff]at hk;obtain⟨p',hk,rfl⟩:=hk;cases i with|succ i=>simp at hp|zero=>
  simp only[List.getElem?_cons_zero,Option.some.injEq]at hp;subst hp;have hkl:k<cs.length:=by rw[←g1];exact(List.getElem?_eq_some_iff.1 hk).1
  have hu:us[k]?=some us[k]:=List.getElem?_eq_getElem (by omega);rw[hsz,Nat.mul_one,Nat.add_zero];have hc:=g2 k p' hk;rw[List.getElem?_set]at hc;by_cases hjk:j=k;·subst hjk;rw[if_pos rfl,if_pos hkl]at hc;injection hc with hc;injection hc with hc;obtain⟨h1,h2⟩:=hcs j _ _ hj hu;refine⟨_,hu,h1,?_⟩;rw[←hc,h2.aT.1];exact hro
  ·rw[if_neg hjk]at hc;obtain⟨h1,h2⟩:=hcs k _ _ hc hu;exact⟨_,hu,h1,h2.bm.mono hm⟩
theorem Ae (hL:∀b,L b→S0 b) {x:XK}{K:St→Prop}{K':Act→World→Prop}{Q:Exit→Act→World→Prop} (hc:jE P o=(x,xs)) (hd:∀s,o.dst=some s→s<N) (h:Rel P S0 L B0 w0 N st a w β) (hK:∀st a w β,K st→Rel P S0 L B0 w0 N st a w β→K' a w) (hs:aX o.dst x (xs.map (Ab.ev st.vars)) K st):o.wp P a w K' Q:=by
 have hput:∀{t:TypeId}{m k y:Operand}{kt et:TypeId}{s:Nat},(execOp a.eval o).run P w=(do Instr.mapUpdate t (a.eval m) (a.eval k) (a.eval y);pure Next.skip:Sem Next).run P w→jm P t=some (kt,et)→kb P kt=some s→aX o.dst (.FL s) ([m,k,y].map (Ab.ev st.vars)) K st→o.wp P a w K' Q:=by
  intro t m k y kt et s ho hm hsr hs;unfold aX at hs;split at hs;·rename_i h1 _;cases h1
  ·rename_i s' t' p v h1 hl;cases h1;simp only[List.map_cons,List.map_nil,List.cons.injEq,and_true]at hl;obtain⟨e1,e2,e3⟩:=hl;obtain⟨ha,hs⟩:=hs;obtain⟨es,hes,hp,hks,hpu,hKs⟩:=ae hs;obtain⟨w',hrun,hR⟩:=Np ho hm hsr h hd (h.dr m ha.1) (h.dr k ha.2.1) (h.dr y ha.2.2.1) e1 e2 (Bo hes) hp hks (by rw[e3];exact hpu);refine iQ hrun (hK _ _ _ β hKs ?_);rw[e3]at hR;exact hR
  ·rename_i h1 _;cases h1
  ·rename_i h1;cases h1
  ·rename_i h1 _;cases h1
  ·rename_i h1 _;cases h1
  ·rename_i h1;cases h1
  ·rename_i h1;cases h1
  ·rename_i h1;cases h1
  ·rename_i h1 _;cases h1
  ·rename_i h1 _;cases h1
  ·exact hs.elim
 unfold jE at hc;split at hc;·rename_i r hr;subst hc;exact EK hr hd h hK hs
 cases hcx:tZ P o with
 |none=>rw[hcx]at hc;cases hc;unfold aX at hs;split at hs<;>first|exact hs.elim|(rename_i h1;cases h1;done)|(rename_i h1 _;cases h1;done)
 |some r=>
 rw[hcx]at hc;have hc:r=(x,xs):=hc;subst hc;replace hc:=hcx;unfold tZ at hc;split at hc
 ·rename_i t ho;split at hc;·cases hc;unfold aX at hs;obtain⟨d,hdd,hn,hKs⟩:=ae hs;obtain⟨v,w',β',hrun,hR⟩:=IL ho h (hd d hdd) hn;refine aJ hrun (hK _ _ _ β' hKs ?_);rw[hdd];exact hR
  ·cases hc
 ·rename_i t m k y ho;split at hc
  ·rename_i kt et hm;split at hc;·rename_i s hsr;cases hc;exact hput (by simp[execOp,ho]) hm hsr hs
   ·cases hc
  ·cases hc
 ·rename_i t m k y ho;split at hc
  ·rename_i kt et hm;split at hc;·rename_i s hsr;cases hc;exact hput (by simp[execOp,ho]) hm hsr hs
   ·cases hc
  ·cases hc
 ·rename_i t m k ok ho;split at hc
  ·rename_i kt et hm;split at hc
   ·rename_i s z hsr hz;cases hc;unfold aX at hs;split at hs;·rename_i h1 _;cases h1
    ·rename_i h1 _;cases h1
    ·rename_i s' z' ok' t' p h1 hl;cases h1;simp only[List.map_cons,List.map_nil,List.cons.injEq,and_true]at hl;obtain⟨e1,e2⟩:=hl;obtain⟨ha,hs⟩:=hs;obtain⟨es,hes,hp,hks,hKs⟩:=ae hs;obtain⟨v,hrun,hR⟩:=OP ho hm hsr hz h hd (h.dr m ha.1) (h.dr k ha.2.1) e1 e2 (Bo hes) hp hks;exact aJ hrun (hK _ _ _ _ hKs hR)
    ·rename_i h1;cases h1
    ·rename_i h1 _;cases h1
    ·rename_i h1 _;cases h1
    ·rename_i h1;cases h1
    ·rename_i h1;cases h1
    ·rename_i h1;cases h1
    ·rename_i s' z' ok' ks p h1 hl;cases h1;simp only[List.map_cons,List.map_nil,List.cons.injEq,and_true]at hl;obtain⟨e1,e2⟩:=hl;obtain⟨ha,hzu,hp,hks,hKs⟩:=hs;obtain⟨v,hrun,hR⟩:=Jw ho hm hsr hz h hd (h.dr m ha.1) (h.dr k ha.2.1) e1 e2 hzu hp hks;exact aJ hrun (hK _ _ _ _ hKs hR)
    ·rename_i h1 _;cases h1
    ·exact hs.elim
   ·cases hc
  ·cases hc
 ·rename_i t n ps ho;split at hc
  ·rename_i e hu;split at hc
   ·rename_i sz zs hsz hz;split at hc;·rename_i hcond;cases hc;obtain⟨_,h1,h2,h3,h4⟩:=hcond;exact JR ho hu hsz hz h1 h2 h3 h4 hd h hK hs
    split at hc;·rename_i hcond;cases hc;obtain⟨rfl,h1,h2,h3⟩:=hcond;exact IE ho hu hsz hz h1 h2 h3 hd h hK hs
    ·cases hc
   ·cases hc
  ·cases hc
 ·rename_i src dst x ho;split at hc
  ·rename_i hsd;subst hsd;split at hc
   ·rename_i e hu;split at hc;·rename_i he;cases hc;exact Kj hL ho hu he hd h hK hs
    ·cases hc
   ·cases hc
  ·cases hc
 ·rename_i t x y ho;split at hc
  ·rename_i e hu;split at hc
   ·rename_i i zs hi hz;split at hc;·rename_i hcond;cases hc;exact NO ho hu hi hz hcond.1 hcond.2 hd h hK hs
    ·cases hc
   ·cases hc
  ·cases hc
 ·rename_i op t x y yt ho;split at hc
  ·rename_i e hu;split at hc
   ·rename_i hy;split at hc;·cases hc;exact Ar (ne:=false) ho hu hy hd h hK hs
    ·cases hc;exact Ar (ne:=true) ho hu hy hd h hK hs
    ·cases hc
   ·cases hc
  ·cases hc
 ·rename_i c ho;obtain⟨callee,args,argTypes⟩:=c;simp only at hc;split at hc
  ·rename_i f;split at hc;·rename_i hf;cases hc;exact Gt ho hf hd h hK hs
   ·cases hc
  ·rename_i b;unfold yL at hc;split at hc
   ·rename_i y t hxs hts;have ha:args=#[y]:=by apply Array.ext';simpa using hxs
    have hat:argTypes=#[t]:=by apply Array.ext';simpa using hts
    subst ha hat;split at hc;·rename_i e ht;cases hc;exact J2 ho ht hd h hK hs
    ·cases hc
   ·rename_i s y t t' hxs hts;have ha:args=#[s,y]:=by apply Array.ext';simpa using hxs
    have hat:argTypes=#[t,t']:=by apply Array.ext';simpa using hts
    subst ha hat;split at hc
    ·rename_i e k ht htn;split at hc
     ·rename_i i zs hi hz;split at hc;·rename_i hpz;cases hc;exact J5 ho ht htn hi hz hpz.1 hpz.2 hd h hK hs
      ·cases hc
     ·cases hc
    ·cases hc
   ·cases hc
  ·cases hc
 ·rename_i x ho;split at hc;·cases hc;exact DX hL (by simp[execOp,ho]) hd h hK hs
  ·cases hc
 ·rename_i x ho;split at hc;·cases hc;exact DX hL (by simp[execOp,ho]) hd h hK hs
  ·cases hc
 ·rename_i t x y ho;split at hc;·rename_i hcond;cases hc;exact Nt ho hcond.2 hd h hK hs
  ·cases hc
 ·cases hc
end
end Go.Proofs.YtifcndkhigakfaaGreat.Ab
