/- Chapter 16: is a record right? (walked at the machine). -/
import Derived.Test.YtlmkcmfmfahcfaaGreatX13
set_option linter.unusedVariables false
set_option linter.unusedSimpArgs false
set_option linter.unnecessarySimpa false
set_option maxHeartbeats 40000000
set_option maxRecDepth 100000
namespace Go.Proofs.YtlmkcmfmfahcfaaGreat.Ab
open Go Go.RowKit R
def iH:List (Int×List Nat):=[(1,[0,1]),(2,[0,1]),(3,[0]),(4,[0,2,4,5]),(5,[2,1]),(6,[2]),(7,[]),(8,[3]),(9,[6]),(10,[6]),(11,[6,7])]
def jR (k:Int):List (Int×List Nat)→Option (List Nat)|[]=>none|x::l=>if k=x.1 then some x.2 else jR k l
def cn (r:Rc):Bool:=match jR r.k iH with|none=>false|some ps=>!decide (65535<r.z)&&!decide (4294967295<r.m)&&!(qz ps ({r with p:=0,i:=0,s:=0},false)).2&&decide ((qz ps ({r with p:=0,i:=0,s:=0},false)).1=⟨r.k,0,0,0,0,0,0,0,0,0,[],[]⟩)
theorem X4 (k:Int):j4 (.int .u8 k) jt=(jR k iH).map fun l=>fF (l.map fun n:Nat=>(n:Int)):=by
 have:∀l:List (Int×List Nat),j4 (.int .u8 k) (l.map fun x=>(PV.int .u8 x.1,fF (x.2.map fun n:Nat=>(n:Int))))=(jR k l).map fun l=>fF (l.map fun n:Nat=>(n:Int)):=by intro l;induction l with|nil=>rfl|cons x l ih=>rw[List.map_cons,CQ,ih,jR];split<;>rfl
 exact this iH
theorem ji {S:Nat→Prop}{w w':World}{v:Value} (h:de S w v (.mv jt)) (k:Int) (hw:w'.heap=w.heap):∃u,(Instr.lookup 147 v (.int .u8 k) true).run Tryz.prog w'=.ok (.tuple #[u,.bool (jR k iH).isSome]) w'∧de S w u (((jR k iH).map fun l=>fF (l.map fun n:Nat=>(n:Int))).getD .nil):=by cases h with|mv b us c es g1 g2 g3 g4 g5 g6=>
 have hm:ie Tryz.prog 147=some (5,145):=by kernel_rfl
 have hsrt:jc Tryz.prog 5=some 6:=by kernel_rfl
 have hz:zeroV Tryz.prog 145=some (.slice none 0 0):=by kernel_rfl
 have hmt:=eI hm;obtain⟨d,hdk,hkey⟩:=fC hsrt;have hp:cX (.int .u8 k)=6:=rfl;have hks:eT 6 jt:=by simp[jt,zf,cX,lC]
 have hzr:(zeroValue 145).run Tryz.prog w'=.ok (.slice none 0 0) w':=by unfold zeroV at hz;obtain⟨i,hi,hz⟩:=Option.bind_eq_some_iff.1 hz;simp[zeroValue,typeInfo,hi,hz]
 have hh:w'.heap[b]?=some (.map us c):=by rw[hw];exact g2
 have hfind:=gx hkey hp (by decide) us.toList jt 0 hks g4 fun i e u h1 h2=>(g5 i e u h1 h2).1;have gk:=X4 k;rcases hfind with⟨h1,h2,_⟩|⟨j,e,u,h1,h2,h3,h4,h5,_⟩;·rw[h2]at gk;cases hf:jR k iH with|some l=>rw[hf]at gk;cases gk|none=>refine⟨.slice none 0 0,?_,.nil⟩;show(Instr.lookup 147 (.map (some b)) (Ab.bP (.int .u8 k)) true).run Tryz.prog w'=_;simp[Instr.lookup,run_underlying hmt,MapKept.run_getObj_map hh,MapKept.run_checkKey hdk (hkey _ hp),MapKept.run_findKey hdk h1,hzr,Result.andThen]
 ·rw[h5]at gk;cases hf:jR k iH with|none=>rw[hf]at gk;cases gk|some l=>
   rw[hf]at gk;refine⟨u.val,?_,?_⟩;·show(Instr.lookup 147 (.map (some b)) (Ab.bP (.int .u8 k)) true).run Tryz.prog w'=_;simp[Instr.lookup,run_underlying hmt,MapKept.run_getObj_map hh,MapKept.run_checkKey hdk (hkey _ hp),MapKept.run_findKey hdk h1,Result.andThen]
   ·simp only[Option.map_some,Option.some.injEq]at gk;rw[Option.map_some,Option.getD_some,←gk];exact g6 j e u h2 h3
theorem iy (w:World):Calls Tryz.prog 88 #[] w fun e w'=>∃v,e=.returned v∧de (fun b=>w.heap.size≤b∧b<w'.heap.size) w' v (.mv jt)∧Below w.heap.size w w':=by
 have hc:=FB [] True _ rfl trivial;have h:=hc w (fun _=>False) (fun _=>.nilIface) [] (fun b hb=>hb.elim) (fun t b ⟨o,ho⟩=>by simp[ab]at ho) ⟨fun t o ho=>by simp[ab]at ho,fun t t' b ⟨o,ho⟩=>by simp[ab]at ho⟩ rfl fun i v x hi=>by simp at hi
 refine h.mono ?_;rintro e w' ⟨v,β',rfl,hf,_,_,hv⟩;exact⟨v,rfl,hv.bk.mono fun b hb=>⟨⟨hb.1.elim False.elim id,hb.2.1⟩,rfl⟩,hf.os,hf.tape,hf.output,hf.size,fun k hk=>hf.block k hk fun⟨t,o,ho,_⟩=>by simp[ab]at ho⟩
theorem gQ {W:World}{b:Nat}{r:Rc} (h:W.heap[b]?=some (.cells (recC r) 33 (0,0))):W.cell? ⟨b,0,none⟩=some (.int .u8 r.k)∧W.cell? ⟨b,1,none⟩=some (.int .u64 r.p)∧W.cell? ⟨b,2,none⟩=some (.int .u64 r.i)∧W.cell? ⟨b,3,none⟩=some (.int .u64 r.s)∧W.cell? ⟨b,4,none⟩=some (.int .u64 r.e)∧W.cell? ⟨b,5,none⟩=some (.int .u64 r.u)∧W.cell? ⟨b,6,none⟩=some (.int .u64 r.v)∧W.cell? ⟨b,7,none⟩=some (.int .u64 r.c)∧W.cell? ⟨b,8,none⟩=some (.int .u64 r.z)∧W.cell? ⟨b,9,none⟩=some (.int .u64 r.m)∧W.cell? ⟨b,10,none⟩=some (.string ⟨r.n.toArray⟩)∧W.cell? ⟨b,11,none⟩=some (.string ⟨r.t.toArray⟩):=by
 have g:∀i v,(recC r)[i]?=some v→W.cell? ⟨b,i,none⟩=some v:=fun i v hv=>by rw[Lib.cell_of_heap h];exact hv
 exact⟨g 0 _ rfl,g 1 _ rfl,g 2 _ rfl,g 3 _ rfl,g 4 _ rfl,g 5 _ rfl,g 6 _ rfl,g 7 _ rfl,g 8 _ rfl,g 9 _ rfl,g 10 _ rfl,g 11 _ rfl⟩
theorem yK {n:Nat}{W:World}{u:Value}{ps:List Nat} (h:de (fun b=>n≤b∧b<W.heap.size) W u (fF (ps.map fun n:Nat=>(n:Int)))):∃A c,u=.slice A ps.length c∧ps.length≤c∧(0<ps.length→∃b o,A=some ⟨b,o,none⟩∧n≤b∧b<W.heap.size∧∀i (h:i<ps.length),W.cell? ⟨b,o+i,none⟩=some (.int .u8 ps[i])):=by
 obtain⟨A,c,hv,hc,hne⟩:=de.jF h;simp only[List.length_map]at hv hc;refine⟨A,c,hv,hc,fun hp=>?_⟩;obtain⟨ad,sz,us,rfl,g1,g2,g3,g4,g5⟩:=hne (by intro e;have:=congrArg List.length e;simp only[List.length_map,List.length_nil]at this;omega);have hsz:sz=1:=by rw[←g2 [.int .u8 ((ps[0]:Nat):Int)] (by simp only[List.map_map,List.mem_map];exact⟨ps[0],List.getElem_mem hp,rfl⟩)];rfl
 subst hsz;have hcl:∀i (h:i<ps.length),W.cell? (ad.add i)=some (.int .u8 ps[i]):=by
  intro i hi;have hr:((ps.map fun n:Nat=>(n:Int)).map fun n=>[PV.int .u8 n])[i]?=some [.int .u8 ps[i]]:=by simp[hi]
  have h1:=g3 i 0 (by simpa using hi) (by omega);have h2:=(g5 i 0 _ _ hr rfl).aT;rw[h2]at h1;simpa using h1
 obtain⟨b,o,sp⟩:=ad;have hsp:sp=none:=by have hx:=hcl 0 hp;cases sp with|none=>rfl|some s=>exfalso;simp[Addr.add,World.cell?]at hx;try(split at hx<;>simp at hx)
 subst hsp;exact⟨b,o,rfl,g1.1,g1.2,fun i hi=>by have:=hcl i hi;rw[Addr.add_lit]at this;exact this⟩
theorem iV (W:World) (o1 o2:Obj):((W.alloc o1).alloc o2).heap.size=W.heap.size+2:=by show((W.heap.push _).push _).size=_;simp
theorem Tw (W:World) (o1 o2:Obj):((W.alloc o1).alloc o2).heap[W.heap.size+1]?=some o2:=by show((W.heap.push _).push _)[W.heap.size+1]?=_;rw[Array.getElem?_push,if_pos (by simp)]
theorem Qd (W:World) (o1 o2:Obj):((W.alloc o1).alloc o2).heap[W.heap.size]?=some o1:=by show((W.heap.push _).push _)[W.heap.size]?=_;rw[Array.getElem?_push,if_neg (by simp),Array.getElem?_push,if_pos rfl]
theorem Gb (W:World) (o1 o2:Obj) (k:Nat) (hk:k<W.heap.size):((W.alloc o1).alloc o2).heap[k]?=W.heap[k]?:=by show((W.heap.push _).push _)[k]?=_;rw[Array.getElem?_push,if_neg (by simp;omega),Array.getElem?_push,if_neg (by omega)]
theorem Fy {k:Int}{ps:List Nat} (h:jR k iH=some ps):ps.length≤8∧∀q∈ps,q<8:=by
 simp only[iH,jR]at h;repeat' split at h
 all_goals first|cases h;decide|cases h
theorem yC (r:Rc) (w:World):Calls Tryz.prog 34 #[.agg (recC r)] w fun e w'=>e=.returned (.bool (cn r))∧Below w.heap.size w w':=by
 go_enter Tryz.func34,Tryz.ntmps34;have hrec:recC r=#[.int .u8 r.k,.int .u64 r.p,.int .u64 r.i,.int .u64 r.s,.int .u64 r.e,.int .u64 r.u,.int .u64 r.v,.int .u64 r.c,.int .u64 r.z,.int .u64 r.m,.string ⟨r.n.toArray⟩,.string ⟨r.t.toArray⟩]:=rfl;go_wp2;have h0:(w.alloc (Obj.cells (recC r) 33)).heap[w.heap.size]?=some (.cells (recC r) 33 (0,0)):=by show(w.heap.push _)[w.heap.size]?=_;simp
 have hb0:Below w.heap.size w (w.alloc (Obj.cells (recC r) 33)):=(Below.refl _ w).alloc (Nat.le_refl _) _;rw[hrec]at h0 hb0;revert h0 hb0;generalize w.alloc (Obj.cells #[.int .u8 r.k,.int .u64 r.p,.int .u64 r.i,.int .u64 r.s,.int .u64 r.e,.int .u64 r.u,.int .u64 r.v,.int .u64 r.c,.int .u64 r.z,.int .u64 r.m,.string ⟨r.n.toArray⟩,.string ⟨r.t.toArray⟩] 33)=W0;intro h0 hb0;rw[←hrec]at h0;have c1:=(gQ h0).1;clear hrec;generalize hbb:w.heap.size=b at h0 hb0 c1 ⊢;have bel:∀W1:World,Below W0.heap.size W0 W1→Below b w W1:=fun W1 hb=>⟨hb.os.trans hb0.os,hb.tape.trans hb0.tape,hb.output.trans hb0.output,Nat.le_trans hb0.size hb.size,fun k hk=>(hb.block k (Nat.lt_of_lt_of_le (hbb▸hk) hb0.size)).trans (hb0.block k hk)⟩;cases hf:jR r.k iH with
 |none=>
  have hR:cn r=false:=by simp[cn,hf]
  go_region_with(go_at_call 88;refine(iy _).mono ?_;rintro e W1 ⟨v,rfl,hv,hb⟩;obtain⟨u,hl,hu⟩:=ji hv r.k (w':=W1) rfl;replace hb:Below W0.heap.size W0 W1:=⟨hb.os,hb.tape,hb.output,hb.size,hb.block⟩;have h1:W1.heap[b]?=some (.cells (recC r) 33 (0,0)):=(hb.block b (Array.getElem?_eq_some_iff.1 h0).1).trans h0;have c2:=(gQ h1).1;rw[hf]at hl);all_goals go_wp2;go_ret;exact⟨by rw[hR];rfl,hbb▸bel _ hb⟩|some ps=>
  obtain⟨hl8,hq8⟩:=Fy hf;by_cases hz:65535<r.z
  ·have hR:cn r=false:=by simp[cn,hf,hz]
   go_region_with(go_at_call 88;refine(iy _).mono ?_;rintro e W1 ⟨v,rfl,hv,hb⟩;obtain⟨u,hl,hu⟩:=ji hv r.k (w':=W1) rfl;replace hb:Below W0.heap.size W0 W1:=⟨hb.os,hb.tape,hb.output,hb.size,hb.block⟩;have h1:W1.heap[b]?=some (.cells (recC r) 33 (0,0)):=(hb.block b (Array.getElem?_eq_some_iff.1 h0).1).trans h0;have hlt:=(Array.getElem?_eq_some_iff.1 h1).1;obtain⟨c2,d1,d2,d3,d4,d5,d6,d7,c3,c4,d8,d9⟩:=gQ h1;rw[hf]at hl);all_goals go_wp2;go_ret;exact⟨by rw[hR];rfl,hbb▸bel _ hb⟩
  by_cases hm:4294967295<r.m
  ·have hR:cn r=false:=by simp[cn,hf,hm]
   go_region_with(go_at_call 88;refine(iy _).mono ?_;rintro e W1 ⟨v,rfl,hv,hb⟩;obtain⟨u,hl,hu⟩:=ji hv r.k (w':=W1) rfl;replace hb:Below W0.heap.size W0 W1:=⟨hb.os,hb.tape,hb.output,hb.size,hb.block⟩;have h1:W1.heap[b]?=some (.cells (recC r) 33 (0,0)):=(hb.block b (Array.getElem?_eq_some_iff.1 h0).1).trans h0;have hlt:=(Array.getElem?_eq_some_iff.1 h1).1;obtain⟨c2,d1,d2,d3,d4,d5,d6,d7,c3,c4,d8,d9⟩:=gQ h1;rw[hf]at hl);all_goals go_wp2;go_ret;exact⟨by rw[hR];rfl,hbb▸bel _ hb⟩
  have hR:cn r=(!(qz ps ({r with p:=0,i:=0,s:=0},false)).2&&decide ((qz ps ({r with p:=0,i:=0,s:=0},false)).1=⟨r.k,0,0,0,0,0,0,0,0,0,[],[]⟩)):=by unfold cn;rw[hf];dsimp only;rw[decide_eq_false hz,decide_eq_false hm];rfl
  go_region_with(go_at_call 88;refine(iy _).mono ?_;rintro e W1 ⟨v,rfl,hv,hb⟩;obtain⟨u,hl,hu⟩:=ji hv r.k (w':=W1) rfl;replace hb:Below W0.heap.size W0 W1:=⟨hb.os,hb.tape,hb.output,hb.size,hb.block⟩;have h1:W1.heap[b]?=some (.cells (recC r) 33 (0,0)):=(hb.block b (Array.getElem?_eq_some_iff.1 h0).1).trans h0;have hlt:=(Array.getElem?_eq_some_iff.1 h1).1;obtain⟨c2,d1,d2,d3,d4,d5,d6,d7,c3,c4,d8,d9⟩:=gQ h1;rw[hf]at hl);all_goals
   rw[hf]at hu;obtain⟨A,c,rfl,hc,hA⟩:=yK hu;have t2:=Gb W1 (Obj.cells #[.bool false] 151) (Obj.cells (recC r) 33);go_wp2_with(go_at_call 89;refine(I5 r false ps hq8 hl8 _ (W1.heap.size+1) W1.heap.size (by omega) ?hlr ?hlt A c hc ?hA ?h1 ?h2).mono ?_);case hlr=>rw[iV];omega
   case hlt=>rw[iV];omega
   case hA=>
    intro hp;obtain⟨bb,o,rfl,e1,e2,e3⟩:=hA hp;refine⟨bb,o,rfl,by omega,by omega,?_,fun i hi=>?_⟩;·rw[iV];omega
    ·rw[←e3 i hi];unfold World.cell?;rw[←t2 bb e2];rfl
   case h1=>exact Tw _ _ _
   case h2=>exact Qd _ _ _
   rintro e W2 ⟨rfl,hV⟩;have s1:W2.heap[b]?=some (.cells (recC r) 33 (0,0)):=by rw[hV.block b (by rw[iV];omega) (by omega) (by omega)];exact(t2 b hlt).trans h1
   have s2:W2.cell? ⟨W1.heap.size,0,none⟩=some (.bool (qz ps ({r with p:=0,i:=0,s:=0},false)).2):=by rw[Lib.cell_of_heap hV.ht];rfl
   have B1:=bel _ hb;have bel2:Below b w W2:=⟨hV.os.trans B1.os,hV.tape.trans B1.tape,hV.output.trans B1.output,by have:=hV.size;rw[iV]at this;omega,fun k hk=>(hV.block k (by rw[iV];omega) (by omega) (by omega)).trans ((t2 k (by omega)).trans (B1.block k hk))⟩;have hr2:=hV.hr;clear hV t2 d1 d2 d3 d4 d5 d6 d7 d8 d9 hA c2 c3 c4 c1 hv hl hu h1;revert hR s2 hr2;generalize qz ps ({r with p:=0,i:=0,s:=0},false)=x;obtain⟨⟨xk,xp,xi,xs,xe,xu,xv,xc,xz,xm,xn,xt⟩,bx⟩:=x;intro hR s2 hr2;have c1:=(gQ s1).1;obtain⟨d0,d1,d2,d3,d4,d5,d6,d7,d8,d9,d10,d11⟩:=gQ hr2;cases bx with|true=>go_wp2;go_ret;exact⟨by rw[hR];rfl,hbb▸bel2⟩|false=>
    go_wp2;all_goals go_ret
    all_goals refine⟨?_,hbb▸bel2⟩
    all_goals rw[hR]
    all_goals simp[*]
theorem FM {P:Program}{f:FuncId}{args:List AV}{p:PV}{u:Value} (h:∀(w:World) (S:Nat→Prop) (vals:List Value),vals.length=args.length→(∀(i:Nat) (x:Value) (y:AV),vals[i]?=some x→args[i]?=some y→RV P S w (fun _=>.nilIface) (fun _=>False) x y)→Calls P f vals.toArray w fun e w'=>e=.returned u∧Below w.heap.size w w') (hu:∀S w,de S w u p):BV P f [] args [] (.pv p):=by
 intro w S0 β vals hS0 hlt hheap hvl hvr;have hno:∀t,bT (ab []) (fun t=>du (cellAt (.pv p) t)) t=none:=by
  intro t;show du (cellAt (.pv p) t)=none;simp only[cellAt,bQ];split;·split<;>rfl
  ·rfl
 refine(h w (aN S0 w.heap.size β (ab []) w) vals hvl fun i x y hx hy=>?_).mono ?_;·exact(hvr i x y hx hy).mono (fun b hb=>⟨hb,rfl⟩) (fun t ⟨o,ho⟩=>by simp[ab]at ho)
 ·rintro e w' ⟨rfl,hb⟩;refine⟨_,fun _=>.nilIface,rfl,⟨hb.os,hb.tape,hb.output,hb.size,fun k hk _=>hb.block k hk⟩,⟨fun t o ho=>?_,fun t t' b ⟨o,ho⟩=>?_⟩,fun t b ⟨o,ho⟩=>?_,.pv _ _ (hu _ _)⟩;·rw[hno]at ho;cases ho
  ·rw[hno]at ho;cases ho
  ·rw[hno]at ho;cases ho
@[simp] def CT:List AV→Option (Prop×AV)|[.agg [.pv (.int .u8 k),.pv (.int .u64 p),.pv (.int .u64 i),.pv (.int .u64 s),.pv (.int .u64 e),.pv (.int .u64 u),.pv (.int .u64 v),.pv (.int .u64 c),.pv (.int .u64 z),.pv (.int .u64 m),.pv (.str n),.pv (.str t)]]=>some (True,.pv (.bool (cn ⟨k,p,i,s,e,u,v,c,z,m,n,t⟩)))|_=>none
theorem Gi:aV Tryz.prog 34 CT:=by
 intro ys φ r h hφ;unfold CT at h;split at h;·rename_i k p i s e u v c z m n t;cases h;refine FM (u:=.bool (cn ⟨k,p,i,s,e,u,v,c,z,m,n,t⟩)) (fun w S vals hvl hvr=>?_) fun S w=>.bool _;match vals,hvl with|[v0],_=>obtain⟨us,rfl,hl,hus⟩:=(hvr 0 v0 _ rfl rfl).cV;match us,hl with|[a0,a1,a2,a3,a4,a5,a6,a7,a8,a9,a10,a11],_=>cases(hus 0 _ a0 rfl rfl).aT;cases(hus 1 _ a1 rfl rfl).aT;cases(hus 2 _ a2 rfl rfl).aT;cases(hus 3 _ a3 rfl rfl).aT;cases(hus 4 _ a4 rfl rfl).aT;cases(hus 5 _ a5 rfl rfl).aT;cases(hus 6 _ a6 rfl rfl).aT;cases(hus 7 _ a7 rfl rfl).aT;cases(hus 8 _ a8 rfl rfl).aT;cases(hus 9 _ a9 rfl rfl).aT;cases(hus 10 _ a10 rfl rfl).eh;cases(hus 11 _ a11 rfl rfl).eh;exact yC ⟨k,p,i,s,e,u,v,c,z,m,n,t⟩ w
 ·cases h
noncomputable def Zo (a:Ap):Option (Ap×Bool):=if a.r.k=1 then some (mi a) else if a.r.k=2 then some (oa a) else if a.r.k=3 then some (iY a) else if a.r.k=4 then some (lr a) else if a.r.k=5 then some (BH a) else if a.r.k=6 then some (nP a) else if a.r.k=7 then some (tL a) else if a.r.k=8 then some (ja a) else none
def bj (a:Ap):List AV:=[.pv (.int .u64 a.l.e),.pv (.int .u64 a.l.p),.pv (.int .u64 a.l.i),.pv (.int .u64 a.l.u),.pv (.bool a.l.h),.fr 94 (aC a.ps),.fr 73 (aF a.vs),.pv (.bool a.sl)]
noncomputable def cY (a:Ap):Ap×Int:=match Zo a with|none=>(a,220)|some x=>if cn a.r=true∧x.2=true then(x.1,0) else(a,220)
def vS (a:Ap):Prop:=cW a.l.e∧a.ps.length<50∧a.vs.length≤100000∧(∀e∈a.ps,eG e)∧(∀v∈a.vs,iq v)∧cW a.r.c∧cW a.s∧iq (iu a)
noncomputable def KU:List AV→Option (Prop×AV)|[.agg [.pv (.int .u64 e),.pv (.int .u64 p),.pv (.int .u64 i),.pv (.int .u64 u),.pv (.bool h),.pv (.ro a),.pv (.ro b),.pv (.bool sl)],.agg [.pv (.int .u8 k),.pv (.int .u64 rp),.pv (.int .u64 ri),.pv (.int .u64 rs),.pv (.int .u64 re),.pv (.int .u64 ru),.pv (.int .u64 rv),.pv (.int .u64 rc),.pv (.int .u64 rz),.pv (.int .u64 rm),.pv (.str rn),.pv (.str rt)],.pv (.int .u64 n),.pv (.int .u64 s)]=>(dec rowP a).bind fun ps=>(dec cQ b).map fun vs=>(vS ⟨⟨e,p,i,u,h⟩,ps,vs,sl,⟨k,rp,ri,rs,re,ru,rv,rc,rz,rm,rn,rt⟩,n,s⟩,.aL [.agg (bj (cY ⟨⟨e,p,i,u,h⟩,ps,vs,sl,⟨k,rp,ri,rs,re,ru,rv,rc,rz,rm,rn,rt⟩,n,s⟩).1),.pv (.int .i64 (cY ⟨⟨e,p,i,u,h⟩,ps,vs,sl,⟨k,rp,ri,rs,re,ru,rv,rc,rz,rm,rn,rt⟩,n,s⟩).2)])|_=>none
theorem Ti:aV Tryz.prog 12 KU:=by
 intro ys φ r h hφ;unfold KU at h;split at h
 ·rename_i e p i u h' ra rb sl k rp ri rs re ru rv rc rz rm rn rt n s;obtain⟨ps,hp,h⟩:=Option.bind_eq_some_iff.1 h;obtain⟨vs,hv,h⟩:=Option.map_eq_some_iff.1 h;cases h;cases aJ hp;cases aG hv;obtain⟨h1,h2,h3,h4,h5,h6,h7,h8⟩:=hφ;have h2:ps.length<50:=h2;have h3:vs.length≤100000:=h3;have h9:ps.length≤100000:=by omega
  refine ax (ah UO (ah JA (ah Gi (bp (ks:=[2]) C7 (by kernel_rfl) (bp (ks:=[2]) Ek (by kernel_rfl) (bp (ks:=[2]) yW (by kernel_rfl) (bp (ks:=[2]) BW (by kernel_rfl) (bp (ks:=[2]) J8 (by kernel_rfl) (bp (ks:=[2]) Dr (by kernel_rfl) (bp (ks:=[2]) EZ (by kernel_rfl) (bp (ks:=[2]) yD (by kernel_rfl) aj))))))))))) (by kernel_rfl) fn12 (by simp) ?_;unfold body12;apply af;·simp(config := { maxSteps := 3000000 });exact⟨rfl,rfl⟩
  apply af;·simp(config := { maxSteps := 3000000 }) [h9,h3];exact⟨rfl,rfl⟩
  have hE:cW e:=h1;have hP:(∀e∈ps,eG e)=True:=eq_true h4;have hV:(∀v∈vs,iq v)=True:=eq_true h5;have hC:cW rc:=h6;have hS:cW s:=h7;have hP6:ps.length≤1000000:=by omega
  have hV6:vs.length≤1000000:=by omega
  clear hp hv;have hk:k=1∨k=2∨k=3∨k=4∨k=5∨k=6∨k=7∨k=8∨((k≠1∧k≠2∧k≠3∧k≠4)∧k≠5∧k≠6∧k≠7∧k≠8):=by omega
  rcases hk with rfl|rfl|rfl|rfl|rfl|rfl|rfl|rfl|⟨⟨k1,k2,k3,k4⟩,k5,k6,k7,k8⟩
  ·have hA:cY ⟨⟨e,p,i,u,h'⟩,ps,vs,sl,⟨1,rp,ri,rs,re,ru,rv,rc,rz,rm,rn,rt⟩,n,s⟩=if cn ⟨1,rp,ri,rs,re,ru,rv,rc,rz,rm,rn,rt⟩=true∧(mi ⟨⟨e,p,i,u,h'⟩,ps,vs,sl,⟨1,rp,ri,rs,re,ru,rv,rc,rz,rm,rn,rt⟩,n,s⟩).2=true then((mi ⟨⟨e,p,i,u,h'⟩,ps,vs,sl,⟨1,rp,ri,rs,re,ru,rv,rc,rz,rm,rn,rt⟩,n,s⟩).1,0) else(⟨⟨e,p,i,u,h'⟩,ps,vs,sl,⟨1,rp,ri,rs,re,ru,rv,rc,rz,rm,rn,rt⟩,n,s⟩,220):=rfl;rw[hA];apply af;·simp(config := { maxSteps := 3000000 }) [jN,vQ];exact⟨rfl,rfl,rfl⟩
   generalize hx:mi ⟨⟨e,p,i,u,h'⟩,ps,vs,sl,⟨1,rp,ri,rs,re,ru,rv,rc,rz,rm,rn,rt⟩,n,s⟩=x;obtain⟨⟨⟨e',p',i',u',h''⟩,ps',vs',sl',⟨k',rp',ri',rs',re',ru',rv',rc',rz',rm',rn',rt'⟩,n',s'⟩,b⟩:=x;rw[cF];cases hR:cn ⟨1,rp,ri,rs,re,ru,rv,rc,rz,rm,rn,rt⟩ with
   |false=>
    apply af;·simp(config := { maxSteps := 3000000 }) [hR];exact⟨rfl,rfl⟩
    simp(config := { maxSteps := 3000000 }) [hR,h9,h3,bj]|true=>
    apply af;·simp(config := { maxSteps := 3000000 }) [hR,hx,mC,hE];exact⟨by kernel_rfl,rfl,rfl⟩
    cases b with|false=>simp(config := { maxSteps := 3000000 }) [hR,h9,h3,bj]|true=>simp(config := { maxSteps := 3000000 }) [hR,bj]
  ·have hA:cY ⟨⟨e,p,i,u,h'⟩,ps,vs,sl,⟨2,rp,ri,rs,re,ru,rv,rc,rz,rm,rn,rt⟩,n,s⟩=if cn ⟨2,rp,ri,rs,re,ru,rv,rc,rz,rm,rn,rt⟩=true∧(oa ⟨⟨e,p,i,u,h'⟩,ps,vs,sl,⟨2,rp,ri,rs,re,ru,rv,rc,rz,rm,rn,rt⟩,n,s⟩).2=true then((oa ⟨⟨e,p,i,u,h'⟩,ps,vs,sl,⟨2,rp,ri,rs,re,ru,rv,rc,rz,rm,rn,rt⟩,n,s⟩).1,0) else(⟨⟨e,p,i,u,h'⟩,ps,vs,sl,⟨2,rp,ri,rs,re,ru,rv,rc,rz,rm,rn,rt⟩,n,s⟩,220):=rfl;rw[hA];apply af;·simp(config := { maxSteps := 3000000 }) [jN,vQ];exact⟨rfl,rfl,rfl⟩
   generalize hx:oa ⟨⟨e,p,i,u,h'⟩,ps,vs,sl,⟨2,rp,ri,rs,re,ru,rv,rc,rz,rm,rn,rt⟩,n,s⟩=x;obtain⟨⟨⟨e',p',i',u',h''⟩,ps',vs',sl',⟨k',rp',ri',rs',re',ru',rv',rc',rz',rm',rn',rt'⟩,n',s'⟩,b⟩:=x;rw[cF];cases hR:cn ⟨2,rp,ri,rs,re,ru,rv,rc,rz,rm,rn,rt⟩ with
   |false=>
    apply af;·simp(config := { maxSteps := 3000000 }) [hR];exact⟨rfl,rfl⟩
    simp(config := { maxSteps := 3000000 }) [hR,h9,h3,bj]|true=>
    apply af;·simp(config := { maxSteps := 3000000 }) [hR,hx,mC];exact⟨by kernel_rfl,rfl,rfl⟩
    cases b with|false=>simp(config := { maxSteps := 3000000 }) [hR,h9,h3,bj]|true=>simp(config := { maxSteps := 3000000 }) [hR,bj]
  ·have hA:cY ⟨⟨e,p,i,u,h'⟩,ps,vs,sl,⟨3,rp,ri,rs,re,ru,rv,rc,rz,rm,rn,rt⟩,n,s⟩=if cn ⟨3,rp,ri,rs,re,ru,rv,rc,rz,rm,rn,rt⟩=true∧(iY ⟨⟨e,p,i,u,h'⟩,ps,vs,sl,⟨3,rp,ri,rs,re,ru,rv,rc,rz,rm,rn,rt⟩,n,s⟩).2=true then((iY ⟨⟨e,p,i,u,h'⟩,ps,vs,sl,⟨3,rp,ri,rs,re,ru,rv,rc,rz,rm,rn,rt⟩,n,s⟩).1,0) else(⟨⟨e,p,i,u,h'⟩,ps,vs,sl,⟨3,rp,ri,rs,re,ru,rv,rc,rz,rm,rn,rt⟩,n,s⟩,220):=rfl;rw[hA];apply af;·simp(config := { maxSteps := 3000000 }) [jN,vQ];exact⟨rfl,rfl,rfl⟩
   generalize hx:iY ⟨⟨e,p,i,u,h'⟩,ps,vs,sl,⟨3,rp,ri,rs,re,ru,rv,rc,rz,rm,rn,rt⟩,n,s⟩=x;obtain⟨⟨⟨e',p',i',u',h''⟩,ps',vs',sl',⟨k',rp',ri',rs',re',ru',rv',rc',rz',rm',rn',rt'⟩,n',s'⟩,b⟩:=x;rw[cF];cases hR:cn ⟨3,rp,ri,rs,re,ru,rv,rc,rz,rm,rn,rt⟩ with
   |false=>
    apply af;·simp(config := { maxSteps := 3000000 }) [hR];exact⟨rfl,rfl⟩
    simp(config := { maxSteps := 3000000 }) [hR,h9,h3,bj]|true=>
    apply af;·simp(config := { maxSteps := 3000000 }) [hR,hx,mC];exact⟨by kernel_rfl,rfl,rfl⟩
    cases b with|false=>simp(config := { maxSteps := 3000000 }) [hR,h9,h3,bj]|true=>simp(config := { maxSteps := 3000000 }) [hR,bj]
  ·have hA:cY ⟨⟨e,p,i,u,h'⟩,ps,vs,sl,⟨4,rp,ri,rs,re,ru,rv,rc,rz,rm,rn,rt⟩,n,s⟩=if cn ⟨4,rp,ri,rs,re,ru,rv,rc,rz,rm,rn,rt⟩=true∧(lr ⟨⟨e,p,i,u,h'⟩,ps,vs,sl,⟨4,rp,ri,rs,re,ru,rv,rc,rz,rm,rn,rt⟩,n,s⟩).2=true then((lr ⟨⟨e,p,i,u,h'⟩,ps,vs,sl,⟨4,rp,ri,rs,re,ru,rv,rc,rz,rm,rn,rt⟩,n,s⟩).1,0) else(⟨⟨e,p,i,u,h'⟩,ps,vs,sl,⟨4,rp,ri,rs,re,ru,rv,rc,rz,rm,rn,rt⟩,n,s⟩,220):=rfl;rw[hA];have hN:iq (iu ⟨⟨e,p,i,u,h'⟩,ps,vs,sl,⟨4,rp,ri,rs,re,ru,rv,rc,rz,rm,rn,rt⟩,n,s⟩):=h8;apply af;·simp(config := { maxSteps := 3000000 }) [jN,vQ];exact⟨rfl,rfl,rfl⟩
   generalize hx:lr ⟨⟨e,p,i,u,h'⟩,ps,vs,sl,⟨4,rp,ri,rs,re,ru,rv,rc,rz,rm,rn,rt⟩,n,s⟩=x;obtain⟨⟨⟨e',p',i',u',h''⟩,ps',vs',sl',⟨k',rp',ri',rs',re',ru',rv',rc',rz',rm',rn',rt'⟩,n',s'⟩,b⟩:=x;rw[cF];cases hR:cn ⟨4,rp,ri,rs,re,ru,rv,rc,rz,rm,rn,rt⟩ with
   |false=>
    apply af;·simp(config := { maxSteps := 3000000 }) [hR];exact⟨rfl,rfl⟩
    simp(config := { maxSteps := 3000000 }) [hR,h9,h3,bj]|true=>
    apply af;·simp(config := { maxSteps := 3000000 }) [hR,hx,mC,h3,hV,hN];exact⟨by kernel_rfl,rfl,rfl⟩
    cases b with|false=>simp(config := { maxSteps := 3000000 }) [hR,h9,h3,bj]|true=>simp(config := { maxSteps := 3000000 }) [hR,bj]
  ·have hA:cY ⟨⟨e,p,i,u,h'⟩,ps,vs,sl,⟨5,rp,ri,rs,re,ru,rv,rc,rz,rm,rn,rt⟩,n,s⟩=if cn ⟨5,rp,ri,rs,re,ru,rv,rc,rz,rm,rn,rt⟩=true∧(BH ⟨⟨e,p,i,u,h'⟩,ps,vs,sl,⟨5,rp,ri,rs,re,ru,rv,rc,rz,rm,rn,rt⟩,n,s⟩).2=true then((BH ⟨⟨e,p,i,u,h'⟩,ps,vs,sl,⟨5,rp,ri,rs,re,ru,rv,rc,rz,rm,rn,rt⟩,n,s⟩).1,0) else(⟨⟨e,p,i,u,h'⟩,ps,vs,sl,⟨5,rp,ri,rs,re,ru,rv,rc,rz,rm,rn,rt⟩,n,s⟩,220):=rfl;rw[hA];apply af;·simp(config := { maxSteps := 3000000 }) [jN,vQ];exact⟨rfl,rfl,rfl⟩
   generalize hx:BH ⟨⟨e,p,i,u,h'⟩,ps,vs,sl,⟨5,rp,ri,rs,re,ru,rv,rc,rz,rm,rn,rt⟩,n,s⟩=x;obtain⟨⟨⟨e',p',i',u',h''⟩,ps',vs',sl',⟨k',rp',ri',rs',re',ru',rv',rc',rz',rm',rn',rt'⟩,n',s'⟩,b⟩:=x;rw[cF];cases hR:cn ⟨5,rp,ri,rs,re,ru,rv,rc,rz,rm,rn,rt⟩ with
   |false=>
    apply af;·simp(config := { maxSteps := 3000000 }) [hR];exact⟨rfl,rfl⟩
    simp(config := { maxSteps := 3000000 }) [hR,h9,h3,bj]|true=>
    apply af;·simp(config := { maxSteps := 3000000 }) [hR,hx,mC,hP6,hV6];exact⟨by kernel_rfl,rfl,rfl⟩
    cases b with|false=>simp(config := { maxSteps := 3000000 }) [hR,h9,h3,bj]|true=>simp(config := { maxSteps := 3000000 }) [hR,bj]
  ·have hA:cY ⟨⟨e,p,i,u,h'⟩,ps,vs,sl,⟨6,rp,ri,rs,re,ru,rv,rc,rz,rm,rn,rt⟩,n,s⟩=if cn ⟨6,rp,ri,rs,re,ru,rv,rc,rz,rm,rn,rt⟩=true∧(nP ⟨⟨e,p,i,u,h'⟩,ps,vs,sl,⟨6,rp,ri,rs,re,ru,rv,rc,rz,rm,rn,rt⟩,n,s⟩).2=true then((nP ⟨⟨e,p,i,u,h'⟩,ps,vs,sl,⟨6,rp,ri,rs,re,ru,rv,rc,rz,rm,rn,rt⟩,n,s⟩).1,0) else(⟨⟨e,p,i,u,h'⟩,ps,vs,sl,⟨6,rp,ri,rs,re,ru,rv,rc,rz,rm,rn,rt⟩,n,s⟩,220):=rfl;rw[hA];apply af;·simp(config := { maxSteps := 3000000 }) [jN,vQ];exact⟨rfl,rfl,rfl⟩
   generalize hx:nP ⟨⟨e,p,i,u,h'⟩,ps,vs,sl,⟨6,rp,ri,rs,re,ru,rv,rc,rz,rm,rn,rt⟩,n,s⟩=x;obtain⟨⟨⟨e',p',i',u',h''⟩,ps',vs',sl',⟨k',rp',ri',rs',re',ru',rv',rc',rz',rm',rn',rt'⟩,n',s'⟩,b⟩:=x;rw[cF];cases hR:cn ⟨6,rp,ri,rs,re,ru,rv,rc,rz,rm,rn,rt⟩ with
   |false=>
    apply af;·simp(config := { maxSteps := 3000000 }) [hR];exact⟨rfl,rfl⟩
    simp(config := { maxSteps := 3000000 }) [hR,h9,h3,bj]|true=>
    apply af;·simp(config := { maxSteps := 3000000 }) [hR,hx,mC,h9];exact⟨by kernel_rfl,rfl,rfl⟩
    cases b with|false=>simp(config := { maxSteps := 3000000 }) [hR,h9,h3,bj]|true=>simp(config := { maxSteps := 3000000 }) [hR,bj]
  ·have hA:cY ⟨⟨e,p,i,u,h'⟩,ps,vs,sl,⟨7,rp,ri,rs,re,ru,rv,rc,rz,rm,rn,rt⟩,n,s⟩=if cn ⟨7,rp,ri,rs,re,ru,rv,rc,rz,rm,rn,rt⟩=true∧(tL ⟨⟨e,p,i,u,h'⟩,ps,vs,sl,⟨7,rp,ri,rs,re,ru,rv,rc,rz,rm,rn,rt⟩,n,s⟩).2=true then((tL ⟨⟨e,p,i,u,h'⟩,ps,vs,sl,⟨7,rp,ri,rs,re,ru,rv,rc,rz,rm,rn,rt⟩,n,s⟩).1,0) else(⟨⟨e,p,i,u,h'⟩,ps,vs,sl,⟨7,rp,ri,rs,re,ru,rv,rc,rz,rm,rn,rt⟩,n,s⟩,220):=rfl;rw[hA];apply af;·simp(config := { maxSteps := 3000000 }) [jN,vQ];exact⟨rfl,rfl,rfl⟩
   generalize hx:tL ⟨⟨e,p,i,u,h'⟩,ps,vs,sl,⟨7,rp,ri,rs,re,ru,rv,rc,rz,rm,rn,rt⟩,n,s⟩=x;obtain⟨⟨⟨e',p',i',u',h''⟩,ps',vs',sl',⟨k',rp',ri',rs',re',ru',rv',rc',rz',rm',rn',rt'⟩,n',s'⟩,b⟩:=x;rw[cF];cases hR:cn ⟨7,rp,ri,rs,re,ru,rv,rc,rz,rm,rn,rt⟩ with
   |false=>
    apply af;·simp(config := { maxSteps := 3000000 }) [hR];exact⟨rfl,rfl⟩
    simp(config := { maxSteps := 3000000 }) [hR,h9,h3,bj]|true=>
    apply af;·simp(config := { maxSteps := 3000000 }) [hR,hx,mC];exact⟨by kernel_rfl,rfl,rfl⟩
    cases b with|false=>simp(config := { maxSteps := 3000000 }) [hR,h9,h3,bj]|true=>simp(config := { maxSteps := 3000000 }) [hR,bj]
  ·have hA:cY ⟨⟨e,p,i,u,h'⟩,ps,vs,sl,⟨8,rp,ri,rs,re,ru,rv,rc,rz,rm,rn,rt⟩,n,s⟩=if cn ⟨8,rp,ri,rs,re,ru,rv,rc,rz,rm,rn,rt⟩=true∧(ja ⟨⟨e,p,i,u,h'⟩,ps,vs,sl,⟨8,rp,ri,rs,re,ru,rv,rc,rz,rm,rn,rt⟩,n,s⟩).2=true then((ja ⟨⟨e,p,i,u,h'⟩,ps,vs,sl,⟨8,rp,ri,rs,re,ru,rv,rc,rz,rm,rn,rt⟩,n,s⟩).1,0) else(⟨⟨e,p,i,u,h'⟩,ps,vs,sl,⟨8,rp,ri,rs,re,ru,rv,rc,rz,rm,rn,rt⟩,n,s⟩,220):=rfl;rw[hA];apply af;·simp(config := { maxSteps := 3000000 }) [jN,vQ];exact⟨rfl,rfl,rfl⟩
   generalize hx:ja ⟨⟨e,p,i,u,h'⟩,ps,vs,sl,⟨8,rp,ri,rs,re,ru,rv,rc,rz,rm,rn,rt⟩,n,s⟩=x;obtain⟨⟨⟨e',p',i',u',h''⟩,ps',vs',sl',⟨k',rp',ri',rs',re',ru',rv',rc',rz',rm',rn',rt'⟩,n',s'⟩,b⟩:=x;rw[cF];cases hR:cn ⟨8,rp,ri,rs,re,ru,rv,rc,rz,rm,rn,rt⟩ with
   |false=>
    apply af;·simp(config := { maxSteps := 3000000 }) [hR];exact⟨rfl,rfl⟩
    simp(config := { maxSteps := 3000000 }) [hR,h9,h3,bj]|true=>
    apply af;·simp(config := { maxSteps := 3000000 }) [hR,hx,mC,h2,hP,hC,hS,h3,hV];exact⟨by kernel_rfl,rfl,rfl⟩
    cases b with|false=>simp(config := { maxSteps := 3000000 }) [hR,h9,h3,bj]|true=>simp(config := { maxSteps := 3000000 }) [hR,bj]
  ·have hA:cY ⟨⟨e,p,i,u,h'⟩,ps,vs,sl,⟨k,rp,ri,rs,re,ru,rv,rc,rz,rm,rn,rt⟩,n,s⟩=(⟨⟨e,p,i,u,h'⟩,ps,vs,sl,⟨k,rp,ri,rs,re,ru,rv,rc,rz,rm,rn,rt⟩,n,s⟩,220):=by simp only[cY,Zo,k1,k2,k3,k4,k5,k6,k7,k8,if_false]
   rw[hA];apply af;·simp(config := { maxSteps := 3000000 }) [jN,vQ,k1,k2,k3,k4,k5,k6,k7,k8];exact⟨rfl,rfl,rfl⟩
   have hnf:pT Value.nilFunc=PV.val Value.nilFunc:=rfl;simp(config := { maxSteps := 3000000 }) [h9,h3,bj,hnf]
 ·cases h
structure Dc where
 l:Ls
 ps:List Pn
 vs:List Vn
 sl:Bool deriving DecidableEq
def cellsD (d:Dc):List AV:=[.pv (.int .u64 d.l.e),.pv (.int .u64 d.l.p),.pv (.int .u64 d.l.i),.pv (.int .u64 d.l.u),.pv (.bool d.l.h),.pv (.ro (aC d.ps)),.pv (.ro (aF d.vs)),.pv (.bool d.sl)]
noncomputable def mQ (ys:List AV) (K:Dc→Option (Prop×AV)):Option (Prop×AV):=match ys with|[.pv (.int .u64 e),.pv (.int .u64 p),.pv (.int .u64 i),.pv (.int .u64 u),.pv (.bool h),.pv (.ro a),.pv (.ro b),.pv (.bool sl)]=>(dec rowP a).bind fun ps=>(dec cQ b).bind fun vs=>K ⟨⟨e,p,i,u,h⟩,ps,vs,sl⟩|_=>none
@[simp] theorem Qh (e p i u:Int) (h sl:Bool) (a b:List (List PV)) (K:Dc→Option (Prop×AV)):mQ [.pv (.int .u64 e),.pv (.int .u64 p),.pv (.int .u64 i),.pv (.int .u64 u),.pv (.bool h),.pv (.ro a),.pv (.ro b),.pv (.bool sl)] K=(dec rowP a).bind fun ps=>(dec cQ b).bind fun vs=>K ⟨⟨e,p,i,u,h⟩,ps,vs,sl⟩:=rfl
theorem eF {ys:List AV}{K:Dc→Option (Prop×AV)}{x:Prop×AV} (h:mQ ys K=some x):∃d,ys=cellsD d∧K d=some x:=by
 unfold mQ at h;split at h;·obtain⟨ps,hp,h1⟩:=Option.bind_eq_some_iff.1 h;obtain⟨vs,hv,h2⟩:=Option.bind_eq_some_iff.1 h1;rw[aJ hp,aG hv];exact⟨_,rfl,h2⟩
 ·cases h
@[simp] noncomputable def Zh:List AV→Option (Prop×AV)|[.agg [.pv (.ro a)]]=>(dec rowP a).map fun l=>(l.length≤100000,.fr 123 (aC l))|_=>none
theorem XR:aV Tryz.prog 27 Zh:=by
 intro ys φ r h hφ;unfold Zh at h;split at h
 ·obtain⟨a,ha,h⟩:=Option.map_eq_some_iff.1 h;cases h;cases aJ ha;have hl:a.length≤100000:=hφ;refine ax aj (by kernel_rfl) fn27 (by simp) ?_;unfold body27;simp(config := { maxSteps := 3000000 });refine au (fun i:Nat=>i≤a.length) (fun i=>⟨[(1,.ptr 1 0),(2,.own 2),(3,.own 3),(4,.pv (.int .i64 i))],[(1,.box [.pv (.ro (aC a))]),(2,.arr 123 []),(3,.arr 123 (aC (a.take i)))]⟩) (fun i=>a.length-i) [] 0 (by simp) ?_ ?_;·simp
  ·intro i hi;have w2:IntKind.i64.wrap ((i:Int)+1)=(i:Int)+1:=wrap_i64 (by omega);by_cases hlt:i<a.length;·have r1:=cL hlt;simp(config := { maxSteps := 3000000 }) [w2,hlt,r1,aI];refine⟨⟨by omega,by omega⟩,i+1,by omega,⟨by omega,?_⟩,by omega⟩;rw[List.take_succ_eq_append_getElem hlt,gn];rfl
   ·simp(config := { maxSteps := 3000000 }) [hlt];rw[List.take_of_length_le (by omega)]
 ·cases h
@[simp] noncomputable def ZB:List AV→Option (Prop×AV)|[.pv (.ro a)]=>(dec cQ a).map fun l=>(l.length≤100000,.fr 92 (aF l))|_=>none
theorem YZ:aV Tryz.prog 28 ZB:=by
 intro ys φ r h hφ;unfold ZB at h;split at h
 ·obtain⟨a,ha,h⟩:=Option.map_eq_some_iff.1 h;cases h;cases aG ha;have hl:a.length≤100000:=hφ;refine ax aj (by kernel_rfl) fn28 (by simp) ?_;unfold body28;simp(config := { maxSteps := 3000000 });refine au (fun i:Nat=>i≤a.length) (fun i=>⟨[(0,.pv (.ro (aF a))),(2,.own 2),(3,.own 3),(4,.pv (.int .i64 i))],[(2,.arr 92 []),(3,.arr 92 (aF (a.take i)))]⟩) (fun i=>a.length-i) [] 0 (by simp) ?_ ?_;·simp
  ·intro i hi;have w2:IntKind.i64.wrap ((i:Int)+1)=(i:Int)+1:=wrap_i64 (by omega);by_cases hlt:i<a.length;·have r1:=bB hlt;simp(config := { maxSteps := 3000000 }) [w2,hlt,r1,aI];refine⟨⟨by omega,by omega⟩,i+1,by omega,⟨by omega,?_⟩,by omega⟩;rw[List.take_succ_eq_append_getElem hlt,c7];rfl
   ·simp(config := { maxSteps := 3000000 }) [hlt];rw[List.take_of_length_le (by omega)]
 ·cases h
@[simp] noncomputable def Zt:List AV→Option (Prop×AV)|[.agg ys]=>mQ ys fun d=>some (d.ps.length≤100000∧d.vs.length≤100000,.agg [.pv (.int .u64 d.l.e),.pv (.int .u64 d.l.p),.pv (.int .u64 d.l.i),.pv (.int .u64 d.l.u),.pv (.bool d.l.h),.fr 123 (aC d.ps),.fr 92 (aF d.vs),.pv (.bool d.sl)])|_=>none
theorem YE:aV Tryz.prog 9 Zt:=by
 intro ys φ r h hφ;unfold Zt at h;split at h;·obtain⟨d,hd,h2⟩:=eF h;subst hd;clear h;cases h2;obtain⟨h1,h2⟩:=hφ;refine ax (ah XR (ah YZ aj)) (by kernel_rfl) fn9 (by simp) ?_;unfold body9;simp(config := { maxSteps := 3000000 }) [cellsD,h1,h2]
 ·cases h
noncomputable def vB (d:Dc) (ts:List (List UInt8)):Dc×Int:=if(kT d.vs ts).2=0 then(⟨d.l,d.ps,(kT d.vs ts).1,d.sl⟩,0) else(⟨⟨0,0,0,0,false⟩,[],[],false⟩,(kT d.vs ts).2)
@[simp] noncomputable def ZZ (e1 e2:TypeId):List AV→Option (Prop×AV)|[.agg ys,.pv (.ro ts)]=>mQ ys fun d=>(dec CY ts).map fun ts=>(d.ps.length≤100000∧d.vs.length≤100000∧(∀v∈d.vs,iq v),.aL [.agg [.pv (.int .u64 (vB d ts).1.l.e),.pv (.int .u64 (vB d ts).1.l.p),.pv (.int .u64 (vB d ts).1.l.i),.pv (.int .u64 (vB d ts).1.l.u),.pv (.bool (vB d ts).1.l.h),.fr e1 (aC (vB d ts).1.ps),.fr e2 (aF (vB d ts).1.vs),.pv (.bool (vB d ts).1.sl)],.pv (.int .i64 (vB d ts).2)])|_=>none
def KH (n t:List UInt8):Bool:=decide (n.length≤100)&&decide (t.length≤100)
@[simp] def Zk:List AV→Option (Prop×AV)|[.agg [.pv (.int .u8 k),.pv (.int .u64 p),.pv (.int .u64 i),.pv (.int .u64 s),.pv (.int .u64 e),.pv (.int .u64 u),.pv (.int .u64 v),.pv (.int .u64 c),.pv (.int .u64 z),.pv (.int .u64 m),.pv (.str n),.pv (.str t)]]=>some (True,.pv (.bool (KH n t)))|_=>none
def vc (d:Dc):Bool:=d.vs.all (fun v=>decide (v.t.length≤100))&&decide (d.ps.length≤20)&&decide (d.vs.length≤20)
@[simp] noncomputable def HR:List AV→Option (Prop×AV)|[.agg ys]=>mQ ys fun d=>some (d.vs.length≤maxLen,.pv (.bool (vc d)))|_=>none
theorem Iv:aV Tryz.prog 6 HR:=by
 intro ys φ r h hφ;unfold HR at h;split at h
 ·obtain⟨d,hd,h2⟩:=eF h;subst hd;clear h;cases h2;obtain⟨⟨e,p,i,u,h'⟩,ps,vs,sl⟩:=d;have hl:vs.length≤maxLen:=hφ;rw[aI]at hl;refine ax aj (by kernel_rfl) fn6 (by simp) ?_;unfold body6;simp(config := { maxSteps := 3000000 }) [cellsD];refine au (fun i:Nat=>i≤vs.length∧∀v∈vs.take i,v.t.length≤100) (fun j=>⟨[(1,.ptr 1 0),(2,.pv (.bool false)),(3,.pv (.int .i64 j))],[(1,.box [.pv (.int .u64 e),.pv (.int .u64 p),.pv (.int .u64 i),.pv (.int .u64 u),.pv (.bool h'),.pv (.ro (aC ps)),.pv (.ro (aF vs)),.pv (.bool sl)])]⟩) (fun i=>vs.length-i) [] 0 (by simp) ?_ ?_;·simp
  ·rintro j ⟨hj,ht⟩;by_cases hlt:j<vs.length
   ·have r1:=bB hlt;have w2:IntKind.i64.wrap ((j:Int)+1)=(j:Int)+1:=wrap_i64 (by omega);by_cases h1:(100:Int)<vs[j].t.length
    ·have hf:vc ⟨⟨e,p,i,u,h'⟩,ps,vs,sl⟩=false:=by
      unfold vc;have:(vs.all fun v=>decide (v.t.length≤100))=false:=by rw[List.all_eq_false];exact⟨vs[j],List.getElem_mem hlt,by simp;omega⟩
      simp[this]
     simp(config := { maxSteps := 3000000 }) [w2,hlt,r1,h1,hf]
    ·have h1':(vs[j].t.length:Int)≤100:=by omega
     simp(config := { maxSteps := 3000000 }) [w2,hlt,r1,h1,h1'];refine⟨j+1,⟨by omega,fun v hv=>?_⟩,by omega,by omega⟩;rw[List.take_succ_eq_append_getElem hlt,List.mem_append]at hv;rcases hv with hv|hv;·exact ht v hv
     ·simp only[List.mem_singleton]at hv;subst hv;omega
   ·rw[List.take_of_length_le (by omega)]at ht;have hf:vc ⟨⟨e,p,i,u,h'⟩,ps,vs,sl⟩=(decide (ps.length≤20)&&decide (vs.length≤20)):=by
     unfold vc;have:(vs.all fun v=>decide (v.t.length≤100))=true:=by rw[List.all_eq_true];exact fun v hv=>decide_eq_true (ht v hv)
     simp[this]
    have e1:∀n:Nat,decide ((n:Int)≤20)=decide (n≤20):=fun n=>decide_eq_decide.2 (by omega);by_cases h2:(ps.length:Int)≤20<;>simp(config := { maxSteps := 3000000 }) [hlt,hf,h2,←e1]
 ·cases h
theorem At {a b:Vn}:a=b↔a.n=b.n∧a.b=b.b∧a.p=b.p∧a.i=b.i∧a.s=b.s∧a.z=b.z∧a.m=b.m∧a.t=b.t∧a.inl=b.inl∧a.fO=b.fO:=by cases a;cases b;simp
@[simp] noncomputable def RZ:List AV→Option (Prop×AV)|[.pv (.ro a),.pv (.ro b)]=>(dec cQ a).bind fun a=>(dec cQ b).map fun b=>(a.length≤1000000000,.pv (.bool (decide (a=b))))|_=>none
theorem Sx:aV Tryz.prog 58 RZ:=by
 intro ys φ r h hφ;unfold RZ at h;split at h
 ·obtain⟨a,ha,h1⟩:=Option.bind_eq_some_iff.1 h;obtain⟨b,hb,h2⟩:=Option.map_eq_some_iff.1 h1;clear h h1;cases h2;cases aG ha;cases aG hb;have hl:a.length≤1000000000:=hφ;refine ax aj (by kernel_rfl) fn58 (by simp) ?_;unfold body58;simp(config := { maxSteps := 3000000 });refine⟨fun hne=>?_,fun hlen=>?_⟩;·intro e;exact hne (by rw[e])
  refine au (fun i:Nat=>i≤a.length∧a.take i=b.take i) (fun i=>⟨[(0,.pv (.ro (aF a))),(1,.pv (.ro (aF b))),(12,.pv (.int .i64 a.length)),(13,.pv (.int .i64 i))],[]⟩) (fun i=>a.length-i) [] 0 (by simp) ?_ ?_;·simp
  ·rintro i ⟨hi,ht⟩;have w2:IntKind.i64.wrap ((i:Int)+1)=(i:Int)+1:=wrap_i64 (by omega);by_cases hlt:i<a.length
   ·have r1:=bB hlt;have hlb:i<b.length:=by omega
    have r2:=bB hlb;by_cases he:a[i]=b[i];·obtain⟨f1,f2,f3,f4,f5,f6,f7,f8,f9,f10⟩:=At.1 he;simp(config := { maxSteps := 3000000 }) [w2,hlt,hlb,r1,r2,f1,f2,f3,f4,f5,f6,f7,f8,f9,f10];refine⟨i+1,⟨by omega,?_⟩,by omega,by omega⟩;rw[List.take_succ_eq_append_getElem hlt,List.take_succ_eq_append_getElem hlb,ht,he]
    ·have hn:¬a=b:=fun e=>he (by subst e;rfl);simp(config := { maxSteps := 3000000 }) [w2,hlt,hlb,r1,r2,hn];exact fun f1 f2 f3 f4 f5 f6 f7 f8 f9 f10=>absurd (At.2 ⟨f1,f2,f3,f4,f5,f6,f7,f8,f9,f10⟩) he
   ·simp(config := { maxSteps := 3000000 }) [hlt];rw[List.take_of_length_le (by omega),List.take_of_length_le (by omega)]at ht;exact ht
 ·cases h
@[simp] noncomputable def Wp:List AV→Option (Prop×AV)|[.agg xs,.agg ys]=>mQ xs fun a=>mQ ys fun b=>some (a.ps.length≤1000000000∧a.vs.length≤1000000000,.pv (.bool (decide (a=b))))|_=>none
theorem XZ:aV Tryz.prog 20 Wp:=by
 intro ys φ r h hφ;unfold Wp at h;split at h
 ·obtain⟨a,ha,h1⟩:=eF h;obtain⟨b,hb,h2⟩:=eF h1;subst ha hb;clear h h1;cases h2;obtain⟨⟨e,p,i,u,h'⟩,ps,vs,sl⟩:=a;obtain⟨⟨e2,p2,i2,u2,h2'⟩,ps2,vs2,sl2⟩:=b;obtain⟨h1,h2⟩:=hφ;have h1:ps.length≤1000000000:=h1;have h2:vs.length≤1000000000:=h2;refine ax (ah Fv (ah Sx aj)) (by kernel_rfl) fn20 (by simp) ?_;unfold body20;have hs:(sl==sl2)=decide (sl=sl2):=by cases sl<;>cases sl2<;>rfl
  simp(config := { maxSteps := 3000000 }) [cellsD,h1,h2];rw[hs];ac_rfl
 ·cases h
theorem Qp:aV Tryz.prog 13 Wp:=by
 intro ys φ r h hφ;unfold Wp at h;split at h
 ·obtain⟨a,ha,h1⟩:=eF h;obtain⟨b,hb,h2⟩:=eF h1;subst ha hb;clear h h1;cases h2;obtain⟨⟨e,p,i,u,h'⟩,ps,vs,sl⟩:=a;obtain⟨⟨e2,p2,i2,u2,h2'⟩,ps2,vs2,sl2⟩:=b;obtain⟨h1,h2⟩:=hφ;have h1:ps.length≤1000000000:=h1;have h2:vs.length≤1000000000:=h2;refine ax (ah Gc aj) (by kernel_rfl) fn13 (by simp) ?_;unfold body13;apply af;·simp(config := { maxSteps := 3000000 }) [cellsD];exact⟨rfl,rfl⟩
  rw[cF];simp(config := { maxSteps := 3000000 }) [h1];refine⟨fun hx a1 a2 a3 a4 a5 a6 a7 a8=>?_,?_⟩;·subst a1 a2 a3 a4 a5 a6 a7 a8;simp at hx
  ·rintro rfl rfl rfl rfl rfl rfl rfl hlen;have hlen:vs.length=vs2.length:=by omega
   refine au (fun i:Nat=>i≤vs.length∧vs.take i=vs2.take i) (fun j=>⟨[(2,.ptr 2 0),(3,.ptr 3 0),(5,.pv (.int .i64 j))],[(2,.box [.pv (.int .u64 e),.pv (.int .u64 p),.pv (.int .u64 i),.pv (.int .u64 u),.pv (.bool h'),.pv (.ro (aC ps)),.pv (.ro (aF vs)),.pv (.bool sl)]),(3,.box [.pv (.int .u64 e),.pv (.int .u64 p),.pv (.int .u64 i),.pv (.int .u64 u),.pv (.bool h'),.pv (.ro (aC ps)),.pv (.ro (aF vs2)),.pv (.bool sl)])]⟩) (fun i=>vs.length-i) [] 0 (by simp) ?_ ?_;·simp
   ·rintro j ⟨hj,ht⟩;have w2:IntKind.i64.wrap ((j:Int)+1)=(j:Int)+1:=wrap_i64 (by omega);by_cases hlt:j<vs.length
    ·have r1:=bB hlt;have hlb:j<vs2.length:=by omega
     have r2:=bB hlb;by_cases he:vs[j]=vs2[j];·obtain⟨f1,f2,f3,f4,f5,f6,f7,f8,f9,f10⟩:=At.1 he;simp(config := { maxSteps := 3000000 }) [w2,hlt,hlb,r1,r2,f1,f2,f3,f4,f5,f6,f7,f8,f9,f10];refine⟨j+1,⟨by omega,?_⟩,by omega,by omega⟩;rw[List.take_succ_eq_append_getElem hlt,List.take_succ_eq_append_getElem hlb,ht,he]
     ·have hn:¬vs=vs2:=fun e=>he (by subst e;rfl);simp(config := { maxSteps := 3000000 }) [w2,hlt,hlb,r1,r2,hn];exact fun f1 f2 f3 f4 f5 f6 f7 f8 f9 f10=>absurd (At.2 ⟨f1,f2,f3,f4,f5,f6,f7,f8,f9,f10⟩) he
    ·simp(config := { maxSteps := 3000000 }) [hlt];rw[List.take_of_length_le (by omega),List.take_of_length_le (by omega)]at ht;exact ht
 ·cases h
@[simp] def Z1 (e1 e2:TypeId):List AV→Option (Prop×AV)|[.agg [.pv (.int .u64 e),.pv (.int .u64 p),.pv (.int .u64 i),.pv (.int .u64 u),.pv (.bool h),.fr x ra,.fr y rb,.pv (.bool sl)]]=>if x=e1∧y=e2 then some (ra.length≤1000000∧rb.length≤1000000∧(∀r∈ra,r.length=3)∧∀r∈rb,r.length=10,.bA 0 [.aL []]) else none|_=>none
@[simp] theorem WQ (e p i u:Int) (h:Bool) (a b:List (List PV)) (sl:Bool) (k rp ri rs re ru rv rc rz rm:Int) (rn rt:List UInt8) (n s:Int):KU [.agg [.pv (.int .u64 e),.pv (.int .u64 p),.pv (.int .u64 i),.pv (.int .u64 u),.pv (.bool h),.pv (.ro a),.pv (.ro b),.pv (.bool sl)],.agg [.pv (.int .u8 k),.pv (.int .u64 rp),.pv (.int .u64 ri),.pv (.int .u64 rs),.pv (.int .u64 re),.pv (.int .u64 ru),.pv (.int .u64 rv),.pv (.int .u64 rc),.pv (.int .u64 rz),.pv (.int .u64 rm),.pv (.str rn),.pv (.str rt)],.pv (.int .u64 n),.pv (.int .u64 s)]=(dec rowP a).bind fun ps=>(dec cQ b).map fun vs=>(vS ⟨⟨e,p,i,u,h⟩,ps,vs,sl,⟨k,rp,ri,rs,re,ru,rv,rc,rz,rm,rn,rt⟩,n,s⟩,.aL [.agg (bj (cY ⟨⟨e,p,i,u,h⟩,ps,vs,sl,⟨k,rp,ri,rs,re,ru,rv,rc,rz,rm,rn,rt⟩,n,s⟩).1),.pv (.int .i64 (cY ⟨⟨e,p,i,u,h⟩,ps,vs,sl,⟨k,rp,ri,rs,re,ru,rv,rc,rz,rm,rn,rt⟩,n,s⟩).2)]):=rfl
def p3:Pn:=⟨3,2,5⟩
def x2:Vn:=⟨2,0,7,1,0,0,0,[],false,false⟩
def x4:Vn:=⟨4,2,7,1,0,0,0,[],false,false⟩
def Yb:Vn:=⟨2,0,7,1,0,0,0,[],false,true⟩
theorem kA:cY ⟨⟨0,0,0,0,false⟩,[],[],false,⟨1,7,1,0,1,9,0,0,0,0,[],[]⟩,1,0⟩=(⟨⟨1,7,1,9,true⟩,[],[],false,⟨1,7,1,0,1,9,0,0,0,0,[],[]⟩,1,0⟩,0):=by kernel_rfl
theorem oA:vS ⟨⟨0,0,0,0,false⟩,[],[],false,⟨1,7,1,0,1,9,0,0,0,0,[],[]⟩,1,0⟩:=by simp[vS,cW,eG,iq,iu,p3,x2,x4]
theorem kB:cY ⟨⟨1,7,1,9,true⟩,[],[],false,⟨4,7,1,0,1,0,0,0,0,0,[],[]⟩,2,0⟩=(⟨⟨1,7,1,9,true⟩,[],[x2],false,⟨4,7,1,0,1,0,0,0,0,0,[],[]⟩,2,0⟩,0):=by kernel_rfl
theorem oB:vS ⟨⟨1,7,1,9,true⟩,[],[],false,⟨4,7,1,0,1,0,0,0,0,0,[],[]⟩,2,0⟩:=by simp[vS,cW,eG,iq,iu,p3,x2,x4]
theorem kC:cY ⟨⟨1,7,1,9,true⟩,[],[x2],false,⟨5,0,0,0,0,5,2,0,0,0,[],[]⟩,3,0⟩=(⟨⟨1,7,1,9,true⟩,[p3],[x2],false,⟨5,0,0,0,0,5,2,0,0,0,[],[]⟩,3,0⟩,0):=by kernel_rfl
theorem oC:vS ⟨⟨1,7,1,9,true⟩,[],[x2],false,⟨5,0,0,0,0,5,2,0,0,0,[],[]⟩,3,0⟩:=by simp[vS,cW,eG,iq,iu,p3,x2,x4]
theorem kX:cY ⟨⟨1,7,1,9,true⟩,[p3],[x2],false,⟨4,7,1,0,1,0,2,0,0,0,[],[]⟩,4,0⟩=(⟨⟨1,7,1,9,true⟩,[p3],[x2,x4],false,⟨4,7,1,0,1,0,2,0,0,0,[],[]⟩,4,0⟩,0):=by kernel_rfl
theorem oX:vS ⟨⟨1,7,1,9,true⟩,[p3],[x2],false,⟨4,7,1,0,1,0,2,0,0,0,[],[]⟩,4,0⟩:=by simp[vS,cW,eG,iq,iu,p3,x2,x4]
theorem kY:cY ⟨⟨1,7,1,9,true⟩,[p3],[x2,x4],false,⟨8,0,0,0,0,0,0,3,0,0,[],[]⟩,5,0⟩=(⟨⟨1,7,1,9,true⟩,[p3],[x2,x4],false,⟨8,0,0,0,0,0,0,3,0,0,[],[]⟩,5,0⟩,0):=by kernel_rfl
theorem oY:vS ⟨⟨1,7,1,9,true⟩,[p3],[x2,x4],false,⟨8,0,0,0,0,0,0,3,0,0,[],[]⟩,5,0⟩:=by simp[vS,cW,eG,iq,iu,p3,x2,x4]
theorem kZ:cY ⟨⟨1,7,1,9,true⟩,[p3],[x2,x4],false,⟨8,0,0,0,0,0,0,6,0,0,[],[]⟩,5,0⟩=(⟨⟨1,7,1,9,true⟩,[],[Yb,x4],false,⟨8,0,0,0,0,0,0,6,0,0,[],[]⟩,5,0⟩,0):=by kernel_rfl
theorem oZ:vS ⟨⟨1,7,1,9,true⟩,[p3],[x2,x4],false,⟨8,0,0,0,0,0,0,6,0,0,[],[]⟩,5,0⟩:=by simp[vS,cW,eG,iq,iu,p3,x2,x4]
theorem kK:cY ⟨⟨0,0,0,0,false⟩,[],[],false,⟨4,7,1,0,0,0,0,0,0,0,[],[]⟩,1,0⟩=(⟨⟨0,0,0,0,false⟩,[],[],false,⟨4,7,1,0,0,0,0,0,0,0,[],[]⟩,1,0⟩,220):=by kernel_rfl
theorem oK:vS ⟨⟨0,0,0,0,false⟩,[],[],false,⟨4,7,1,0,0,0,0,0,0,0,[],[]⟩,1,0⟩:=by simp[vS,cW,eG,iq,iu,p3,x2,x4]
theorem kM:cY ⟨⟨0,0,0,0,false⟩,[],[],false,⟨1,0,0,0,2,0,0,0,0,0,[],[]⟩,1,0⟩=(⟨⟨0,0,0,0,false⟩,[],[],false,⟨1,0,0,0,2,0,0,0,0,0,[],[]⟩,1,0⟩,220):=by kernel_rfl
theorem oM:vS ⟨⟨0,0,0,0,false⟩,[],[],false,⟨1,0,0,0,2,0,0,0,0,0,[],[]⟩,1,0⟩:=by simp[vS,cW,eG,iq,iu,p3,x2,x4]
theorem sY:bh [x2,x4]=[x2,x4]:=rfl
theorem sZ:bh [Yb,x4]=[x4]:=rfl
theorem fN:bV []:=fun _ h=>by cases h
theorem rX:rowAt (aF [x2]) 0=[.int .u64 2,.int .u64 0,.int .u64 7,.int .u64 1,.int .u64 0,.int .u64 0,.int .u64 0,.str [],.bool false,.bool false]:=rfl
theorem rZ:rowAt (aF [Yb,x4]) 0=[.int .u64 2,.int .u64 0,.int .u64 7,.int .u64 1,.int .u64 0,.int .u64 0,.int .u64 0,.str [],.bool false,.bool true]:=rfl
noncomputable def Kr:List AV→Option (Prop×AV)|[]=>some (True,.pv (.bool true))|_=>none
@[simp] theorem VT:Kr []=some (True,.pv (.bool true)):=rfl
theorem Th:aV Tryz.prog 8 Kr:=by
 intro ys φ r h hφ;unfold Kr at h;split at h
 ·cases h;refine ax (ah Ti (ah En (ah vP aj))) (by kernel_rfl) fn8 (by simp) ?_;unfold body8;apply af;·simp(config := { maxSteps := 3000000 });exact⟨rfl,rfl⟩
  apply af;·simp(config := { maxSteps := 3000000 });exact⟨rfl,rfl⟩
  apply af;·simp(config := { maxSteps := 3000000 }) [kA,oA,bj,fN,bF,aO];exact⟨rfl,rfl⟩
  apply af;·simp(config := { maxSteps := 3000000 }) [kB,oB,bj,fN,bF,aO];exact⟨rfl,rfl⟩
  apply af;·simp(config := { maxSteps := 3000000 }) [kC,oC,bj,fN,bF,aO];exact⟨rfl,rfl⟩
  apply af;·simp(config := { maxSteps := 3000000 }) [kX,oX,bj,fN,bF,aO];exact⟨rfl,rfl⟩
  apply af;·simp(config := { maxSteps := 3000000 }) [kY,oY,bj,fN,bF,aO];exact⟨rfl,rfl⟩
  apply af;·simp(config := { maxSteps := 3000000 }) [kZ,oZ,bj,fN,bF,aO];exact⟨rfl,rfl⟩
  apply af;·simp(config := { maxSteps := 3000000 }) [kK,oK,bj,fN,bF,aO];exact⟨rfl,rfl⟩
  apply af;·simp(config := { maxSteps := 3000000 }) [kM,oM,bj,fN,bF,aO];exact⟨rfl,rfl⟩
  apply af;·simp(config := { maxSteps := 3000000 });exact⟨rfl,rfl⟩
  apply af
  ·refine(show cC _ _ _ _ _ from ?_);apply fp 10 rfl rfl;·simp(config := { maxSteps := 3000000 }) [ib,sY,sZ,rX,rZ,aO];exact⟨rfl,rfl⟩
   apply fp 8 rfl rfl;·simp(config := { maxSteps := 3000000 }) [ib,sY,sZ,rX,rZ,aO];exact⟨rfl,rfl⟩
   apply fp 8 rfl rfl;·simp(config := { maxSteps := 3000000 }) [ib,sY,sZ,rX,rZ,aO];exact⟨rfl,rfl⟩
   apply fp 7 rfl rfl;·simp(config := { maxSteps := 3000000 }) [ib,sY,sZ,rX,rZ,aO];exact⟨rfl,rfl⟩
   apply fp 7 rfl rfl;·simp(config := { maxSteps := 3000000 }) [ib,sY,sZ,rX,rZ,aO];exact⟨rfl,rfl⟩
   apply fp 6 rfl rfl;·simp(config := { maxSteps := 3000000 }) [ib,sY,sZ,rX,rZ,aO];exact⟨rfl,rfl⟩
   simp(config := { maxSteps := 3000000 }) [rZ];exact⟨rfl,rfl⟩
  simp(config := { maxSteps := 3000000 })
 ·cases h
theorem XS (i:Nat):2^(7*(i+1))=128*2^(7*i):=by rw[Nat.mul_add,Nat.pow_add];omega
theorem yG (rest:List UInt8):∀(N n i acc:Nat),n≤N→n*2^(7*i)<2^64→i≤9→(0<n∨i=0)→bG (bI n++rest) i acc=(acc+n*2^(7*i),i+(bI n).length,0):=by intro N;induction N with
 |zero=>
  intro n i acc hN h1 h2 h3;have:n=0:=by omega
  subst this;have:i=0:=by omega
  subst this;rw[cT (by omega)];simp[bG]|succ N ih=>
  intro n i acc hN h1 h2 h3;by_cases hs:n<128
  ·rw[cT hs];have hc:n.toUInt8.toNat=n:=by simp;omega
   simp only[List.singleton_append,bG,hc];have hno:¬((i=9∧1<n)∨(n=0∧0<i)):=by
    rintro(⟨rfl,h⟩|⟨h,h'⟩);·omega
    ·omega
   rw[if_neg hno,if_pos hs,Nat.mod_eq_of_lt hs];rfl
  ·rw[fJ hs];have hc:(n%128+128).toUInt8.toNat=n%128+128:=by simp;omega
   simp only[List.cons_append,bG,hc];have hi9:¬i=9:=by rintro rfl;omega
   have hno:¬((i=9∧1<n%128+128)∨(n%128+128=0∧0<i)):=by
    rintro(⟨h,_⟩|⟨h,_⟩);·exact hi9 h
    ·omega
   have hp:=XS i;have hd:n=n%128+128*(n/128):=by omega
   have hm:n*2^(7*i)=n%128*2^(7*i)+n/128*2^(7*(i+1)):=by rw[hp];calc n*2^(7*i)=(n%128+128*(n/128))*2^(7*i):=by rw[←hd]
    _=n%128*2^(7*i)+n/128*(128*2^(7*i)):=by rw[Nat.add_mul,Nat.mul_comm 128 (n/128),Nat.mul_assoc]
   rw[if_neg hno,if_neg (by omega),show(n%128+128)%128=n%128 from by omega];rw[ih (n/128) (i+1) _ (by omega) (by omega) (by omega) (.inl (by omega))];simp only[List.length_cons,Prod.mk.injEq,and_true];omega
theorem Cl (n:Nat) (rest:List UInt8) (h:n<2^64):bG (bI n++rest) 0 0=(n,(bI n).length,0):=by have:=yG rest n n 0 0 (Nat.le_refl _) (by simpa using h) (by omega) (.inr rfl);simpa using this
theorem tu:∀(l pre:List UInt8),(∀x∈pre,128≤x.toNat)→(bG l pre.length (val pre)).2.2=0→(pre++l).take (bG l pre.length (val pre)).2.1=bI (bG l pre.length (val pre)).1
 |[],pre,_,h=>by simp[bG]at h|c::l,pre,hp,h=>by
  unfold bG at h ⊢;split at h;·cases h
  ·rename_i h0;rw[if_neg h0];by_cases hs:c.toNat<128
   ·rw[if_pos hs];dsimp only;rw[←mG,rJ pre c hp hs];·rw[show pre++c::l=(pre++[c])++l from by simp,show pre.length+1=(pre++[c]).length from by simp,List.take_left]
    ·by_cases hc:c.toNat=0;·right;have:¬0<pre.length:=fun hh=>h0 (.inr ⟨hc,hh⟩);exact List.eq_nil_of_length_eq_zero (by omega)
     ·exact .inl hc
   ·rw[if_neg hs]at h ⊢;have e1:pre.length+1=(pre++[c]).length:=by simp
    rw[←mG,e1]at h ⊢;have:=tu l (pre++[c]) (by
     intro x hx;rcases List.mem_append.1 hx with hx|hx;·exact hp x hx
     ·simp only[List.mem_singleton]at hx;subst hx;omega) h;rw[List.append_assoc,List.singleton_append]at this;exact this
theorem Eg {l:List UInt8} (h:(bG l 0 0).2.2=0):l.take (bG l 0 0).2.1=bI (bG l 0 0).1:=tu l [] (by simp) h
theorem kD (n:Nat):0<(bI n).length:=by
 by_cases h:n<128;·rw[cT h];simp
 ·rw[fJ h];simp
theorem mV {b r:List UInt8}{p:Nat} (h:b.drop p=r) (hr:0<r.length):p<b.length∧b.length=p+r.length:=by have:=congrArg List.length h;simp at this;omega
theorem gH {b:List UInt8}{p n:Nat}{r:List UInt8} (h:b.drop p=bI n++r) (hn:n<2^64):al b p=((n:Int),(p:Int)+((bI n).length:Int),0):=by have hp:=kD n;have hl:=(mV h (by simp;omega)).1;unfold al;rw[if_neg (by omega),Int.toNat_natCast,h,Cl n r hn]
theorem pA {b:List UInt8}{p:Nat}{s r:List UInt8} (h:b.drop p=df s++r) (hs:s.length<2^64):ba b p=(s,(p:Int)+((df s).length:Int),0):=by
 unfold df at h ⊢;rw[List.append_assoc]at h;have hL:=gH h hs;have hp:=kD s.length;have hl:=(mV h (by simp;omega)).2;simp only[List.length_append]at hl;have hd:b.drop (p+(bI s.length).length)=s++r:=by rw[←List.drop_drop,h,List.drop_left]
 unfold ba;rw[hL,if_neg (by simp),if_neg (by dsimp only;omega)];dsimp only;rw[show((p:Int)+((bI s.length).length:Int)).toNat=p+(bI s.length).length from by omega,hd,Int.toNat_natCast,List.take_left];simp only[List.length_append,Prod.mk.injEq,true_and,and_true];omega
theorem sH {b:List UInt8}{p:Int} (h:(al b p).2.2=0):∃q m:Nat,p=(q:Int)∧(al b p).1=(m:Int)∧m<2^64∧(al b p).2.1=((q+(bI m).length:Nat):Int)∧∃r,b.drop q=bI m++r:=by
 have hok:=dc b p;obtain⟨h1,h2,h3,_⟩:=hok;obtain⟨a1,a2,a3⟩:=h1 h;have hT:al b p=(((bG (b.drop p.toNat) 0 0).1:Int),p+((bG (b.drop p.toNat) 0 0).2.1:Int),(bG (b.drop p.toNat) 0 0).2.2):=by unfold al;rw[if_neg (by omega)]
 rw[hT]at h a2 a3 h2 h3 ⊢;dsimp only at h a2 a3 h2 h3 ⊢;have hi:=Eg h;have hb:(bG (b.drop p.toNat) 0 0).2.1≤(b.drop p.toNat).length:=by simp;omega
 refine⟨p.toNat,(bG (b.drop p.toNat) 0 0).1,by omega,rfl,by omega,?_,(b.drop p.toNat).drop (bG (b.drop p.toNat) 0 0).2.1,?_⟩;·rw[←hi,List.length_take,Nat.min_eq_left hb];omega
 ·rw[←hi,List.take_append_drop]
def ei (v:Vn):Bool:=decide (v=dA v.n v.t)
def ia (l:List Vn):Bool:=l.all ei
def rW (l:List Vn):Int:=if ia l=true then-1 else(l.findIdx (fun v=>!ei v):Int)
@[simp] def UK:List AV→Option (Prop×AV)|[.agg [.pv (.int .u64 n),.pv (.int .u64 b),.pv (.int .u64 p),.pv (.int .u64 i),.pv (.int .u64 s),.pv (.int .u64 z),.pv (.int .u64 m),.pv (.str t),.pv (.bool inl),.pv (.bool fO)]]=>some (True,.pv (.bool (!ei ⟨n,b,p,i,s,z,m,t,inl,fO⟩)))|_=>none
theorem SF:aV Tryz.prog 90 UK:=by
 intro ys φ r h hφ;unfold UK at h;split at h;·rename_i n b p i s z m t inl fO;cases h;have he:=DL ⟨n,b,p,i,s,z,m,t,inl,fO⟩ (dA n t);simp only[dA]at he;have hp:ei ⟨n,b,p,i,s,z,m,t,inl,fO⟩=decide ((⟨n,b,p,i,s,z,m,t,inl,fO⟩:Vn)=⟨n,0,0,0,0,0,0,t,true,false⟩):=rfl;refine ax (ah GM aj) (by kernel_rfl) fn90 (by simp) ?_;unfold body90;simp(config := { maxSteps := 3000000 }) [hp]
 ·cases h
theorem Al:fQ Tryz.prog 90=true:=by kernel_rfl
@[simp] noncomputable def RO:List AV→Option (Prop×AV)|[.pv (.ro a),.bA f []]=>if f=90 then(dec cQ a).map fun l=>(l.length≤1000000000,.pv (.int .i64 (rW l))) else none|_=>none
theorem UI:aV Tryz.prog 124 RO:=by
 intro ys φ r h hφ;unfold RO at h;split at h
 ·rename_i ra f;split at h
  ·rename_i hf;subst hf;obtain⟨a,ha,h⟩:=Option.map_eq_some_iff.1 h;cases h;cases aG ha;refine ax (ah SF aj) (by kernel_rfl) fn124 (by simp) ?_;unfold body124;simp(config := { maxSteps := 3000000 });refine au (fun i:Nat=>i≤a.length∧∀v∈a.take i,ei v=true) (fun i=>⟨[(0,.pv (.ro (aF a))),(1,.bA 90 []),(7,.pv (.int .i64 a.length)),(8,.pv (.int .i64 i))],[]⟩) (fun i=>a.length-i) [] 0 (by simp) ?_ ?_;·simp
   ·rintro i ⟨hi,ht⟩;have w2:IntKind.i64.wrap ((i:Int)+1)=(i:Int)+1:=wrap_i64 (by omega);by_cases hlt:i<a.length;·have r1:=bB hlt;have he:(⟨a[i].n,a[i].b,a[i].p,a[i].i,a[i].s,a[i].z,a[i].m,a[i].t,a[i].inl,a[i].fO⟩:Vn)=a[i]:=rfl;cases hp:ei a[i]with
     |true=>
      simp(config := { maxSteps := 3000000 }) [w2,hlt,r1,Al,he,hp];refine⟨i+1,⟨by omega,fun v hv=>?_⟩,by omega,by omega⟩;rw[List.take_succ_eq_append_getElem hlt,List.mem_append]at hv;rcases hv with hv|hv;·exact ht v hv
      ·rw[List.mem_singleton]at hv;rw[hv];exact hp|false=>
      have hall:ia a=false:=by unfold ia;rw[List.all_eq_false];exact⟨a[i],List.getElem_mem hlt,by simp[hp]⟩
      have hfi:a.findIdx (fun v=>!ei v)=i:=by
       rw[List.findIdx_eq hlt];refine⟨by simp[hp],fun j hj=>?_⟩;have:a[j]∈a.take i:=by rw[List.mem_take_iff_getElem];exact⟨j,by omega,rfl⟩
       simp[ht _ this]
      have hox:rW a=i:=by unfold rW;rw[hall,if_neg (by simp),hfi]
      simp(config := { maxSteps := 3000000 }) [w2,hlt,r1,Al,he,hp,hox]
    ·rw[List.take_of_length_le (by omega)]at ht;have hall:ia a=true:=by unfold ia;rw[List.all_eq_true];exact ht
     have hox:rW a=-1:=by unfold rW;rw[hall,if_pos rfl]
     simp(config := { maxSteps := 3000000 }) [hlt,hox]
  ·cases h
 ·cases h
@[simp] noncomputable def PX:List AV→Option (Prop×AV)|[.pv (.ro a),.bA f []]=>if f=90 then(dec cQ a).map fun l=>(l.length≤1000000000,.pv (.bool (!ia l))) else none|_=>none
theorem TF:aV Tryz.prog 93 PX:=by
 intro ys φ r h hφ;unfold PX at h;split at h
 ·rename_i ra f;split at h
  ·rename_i hf;subst hf;obtain⟨a,ha,h⟩:=Option.map_eq_some_iff.1 h;cases h;cases aG ha;refine ax (ah UI aj) (by kernel_rfl) fn93 (by simp) ?_;unfold body93;have hq:decide (0≤rW a)=!ia a:=by unfold rW;cases hall:ia a<;>simp
   simp(config := { maxSteps := 3000000 }) [hφ,hq]
  ·cases h
 ·cases h
def dq (v:Vn):List UInt8:=b6 v.n++df v.t
def bR (l:List Vn):List UInt8:=l.flatMap dq
def dY (l:List Vn):List UInt8:=b6 l.length++bR l
def cS (l:List Vn):List UInt8×Int:=if bD l=true∧ia l=true then(dY l,0) else([],2)
theorem gM {n:Int} (h:0≤n∧n≤18446744073709551615):(b6 n).length≤10:=eD (by omega)
theorem nH {v:Vn} (h:iq v) (ht:v.t.length≤1000000):(dq v).length≤1000020:=by have h1:=gM (n:=v.n) ⟨h.1,h.2.1⟩;have h2:=eD (n:=v.t.length) (by omega);simp only[dq,df,List.length_append];omega
theorem mb:∀{l:List Vn},(∀v∈l,iq v∧v.t.length≤1000000)→(bR l).length≤1000020*l.length|[],_=>by simp[bR]|n::l,h=>by have h1:=nH (h n (by simp)).1 (h n (by simp)).2;have h2:=mb (l:=l) fun m hm=>h m (by simp[hm]);unfold bR at h2 ⊢;simp only[List.flatMap_cons,List.length_append,List.length_cons];omega
theorem pE (l:List Vn) (e:Vn):bR (l++[e])=bR l++dq e:=by simp[bR]
@[simp] noncomputable def zW:List AV→Option (Prop×AV)|[.pv (.ro a)]=>(dec cQ a).map fun l=>(l.length≤1000∧(∀v∈l,iq v∧v.t.length≤1000000),.aL [.fr 5 (bytesRow (cS l).1),.pv (.int .i64 (cS l).2)])|_=>none
theorem Kt:aV Tryz.prog 36 zW:=by
 intro ys φ r h hφ;unfold zW at h;split at h
 ·rename_i ra;obtain⟨a,ha,h⟩:=Option.map_eq_some_iff.1 h;cases h;cases aG ha;obtain⟨hl,hn⟩:=hφ;refine ax (ah CS (ah TF (ah zX (ah Da aj)))) (by kernel_rfl) fn36 (by simp) ?_;unfold body36;have hl9:a.length≤1000000000:=by omega
  cases hr:bD a with|false=>
   have hp:cS a=([],2):=by simp[cS,hr]
   simp(config := { maxSteps := 3000000 }) [hl9,hr,hp]|true=>cases hall:ia a with
  |false=>
   have hp:cS a=([],2):=by simp[cS,hall]
   simp(config := { maxSteps := 3000000 }) [hl9,hr,hall,hp]|true=>
  have hp:cS a=(dY a,0):=by simp[cS,hr,hall]
  have wl:IntKind.u64.wrap (a.length:Int)=(a.length:Int):=wrap_u64 (by omega);have l0:(0:Int)≤(a.length:Int):=by omega
  have l1:(a.length:Int)≤18446744073709551615:=by omega
  have hv:=gM (n:=(a.length:Int)) ⟨by omega,by omega⟩;simp(config := { maxSteps := 3000000 }) [wl,l0,l1,hl9,hr,hall,hp];refine au (fun i:Nat=>i≤a.length) (fun i=>⟨[(5,.own 19),(20,.pv (.ro (aF a))),(21,.pv (.int .i64 a.length)),(22,.pv (.int .i64 i))],[(19,.arr 5 (bytesRow (b6 a.length++bR (a.take i))))]⟩) (fun i=>a.length-i) [] 0 (by simp) ?_ ?_;·simp[bR]
  ·rintro i hi;have w2:IntKind.i64.wrap ((i:Int)+1)=(i:Int)+1:=wrap_i64 (by omega);by_cases hlt:i<a.length
   ·have r1:=bB hlt;have ho:=hn _ (List.getElem_mem hlt);have h1:=nH ho.1 ho.2;have h2:=mb (l:=a.take i) fun n h=>hn n (List.mem_of_mem_take h);rw[List.length_take]at h2;have h3:(dq a[i]).length=(b6 a[i].n).length+(df a[i].t).length:=by simp[dq]
    obtain⟨⟨o1,o2,_,_⟩,hm6⟩:=ho;simp(config := { maxSteps := 3000000 }) [w2,hlt,r1,aI,o1,o2,hm6];refine⟨⟨by omega,by omega,aW _⟩,⟨by omega,by omega,aW _⟩,i+1,by omega,⟨by omega,?_⟩,by omega⟩;rw[List.take_succ_eq_append_getElem hlt,pE];simp only[aZ,dq,List.append_assoc]
   ·simp(config := { maxSteps := 3000000 }) [hlt];rw[List.take_of_length_le (by omega)];rfl
 ·cases h
theorem qF (v:Vn):ei v=true↔(v.inl=true∧v.fO=false∧v.b=0∧v.p=0∧v.i=0∧v.s=0∧v.z=0∧v.m=0):=by
 unfold ei;rw[decide_eq_true_eq,←Hl];simp only[dA];constructor;·rintro⟨_,h1,h2,h3,h4,h5,h6,_,h7,h8⟩;exact⟨h7,h8,h1,h2,h3,h4,h5,h6⟩
 ·rintro⟨h7,h8,h1,h2,h3,h4,h5,h6⟩;exact⟨trivial,h1,h2,h3,h4,h5,h6,trivial,h7,h8⟩
theorem Ge:aV Tryz.prog 43 zW:=by
 intro ys φ r h hφ;unfold zW at h;split at h
 ·rename_i ra;obtain⟨a,ha,h⟩:=Option.map_eq_some_iff.1 h;cases h;cases aG ha;obtain⟨hl,hn⟩:=hφ;refine ax (ah Hm (ah sR (ah Ax aj))) (by kernel_rfl) fn43 (by simp) ?_;unfold body43;have hl9:a.length≤1000000000:=by omega
  have hov:∀v∈a,iq v:=fun v hv=>(hn v hv).1;cases hr:bD a with
  |false=>
   have hp:cS a=([],2):=by simp[cS,hr]
   simp(config := { maxSteps := 3000000 }) [hl9,hr,hp];exact hov|true=>
  have wl:IntKind.u64.wrap (a.length:Int)=(a.length:Int):=wrap_u64 (by omega);have l0:(0:Int)≤(a.length:Int):=by omega
  have l1:(a.length:Int)≤18446744073709551615:=by omega
  have hv:=gM (n:=(a.length:Int)) ⟨by omega,by omega⟩;simp(config := { maxSteps := 3000000 }) [wl,l0,l1,hl9,hr];refine⟨hov,?_⟩;refine au (fun i:Nat=>i≤a.length∧∀v∈a.take i,ei v=true) (fun i=>⟨[(0,.pv (.ro (aF a))),(4,.own 13),(5,.pv (.int .i64 i))],[(13,.arr 5 (bytesRow (b6 a.length++bR (a.take i))))]⟩) (fun i=>a.length-i) [] 0 (by simp) ?_ ?_;·simp[bR]
  ·rintro i ⟨hi,ht⟩;have w2:IntKind.i64.wrap ((i:Int)+1)=(i:Int)+1:=wrap_i64 (by omega);by_cases hlt:i<a.length;·have r1:=bB hlt;cases hpl:ei a[i]with
    |false=>
     have hall:ia a=false:=by unfold ia;rw[List.all_eq_false];exact⟨a[i],List.getElem_mem hlt,by simp[hpl]⟩
     have hp:cS a=([],2):=by simp[cS,hall]
     have hnot:¬(a[i].inl=true∧a[i].fO=false∧a[i].b=0∧a[i].p=0∧a[i].i=0∧a[i].s=0∧a[i].z=0∧a[i].m=0):=by rw[←qF,hpl];simp
     cases e0:a[i].inl with|false=>simp(config := { maxSteps := 3000000 }) [hlt,r1,hp,e0]|true=>cases e1:a[i].fO with|true=>simp(config := { maxSteps := 3000000 }) [hlt,r1,hp,e0,e1]|false=>
     by_cases e2:a[i].b=0;rotate_left;·simp(config := { maxSteps := 3000000 }) [hlt,r1,hp,e0,e1,e2]
     by_cases e3:a[i].p=0;rotate_left;·simp(config := { maxSteps := 3000000 }) [hlt,r1,hp,e0,e1,e2,e3]
     by_cases e4:a[i].i=0;rotate_left;·simp(config := { maxSteps := 3000000 }) [hlt,r1,hp,e0,e1,e2,e3,e4]
     by_cases e5:a[i].s=0;rotate_left;·simp(config := { maxSteps := 3000000 }) [hlt,r1,hp,e0,e1,e2,e3,e4,e5]
     by_cases e6:a[i].z=0;rotate_left;·simp(config := { maxSteps := 3000000 }) [hlt,r1,hp,e0,e1,e2,e3,e4,e5,e6]
     by_cases e7:a[i].m=0;rotate_left;·simp(config := { maxSteps := 3000000 }) [hlt,r1,hp,e0,e1,e2,e3,e4,e5,e6,e7]
     exact absurd ⟨e0,e1,e2,e3,e4,e5,e6,e7⟩ hnot
    |true=>
     obtain⟨e1,e2,e3,e4,e5,e6,e7,e8⟩:=(qF _).1 hpl;have ho:=hn _ (List.getElem_mem hlt);have h1:=nH ho.1 ho.2;have h2:=mb (l:=a.take i) fun n h=>hn n (List.mem_of_mem_take h);rw[List.length_take]at h2;have h3:(dq a[i]).length=(b6 a[i].n).length+(df a[i].t).length:=by simp[dq]
     obtain⟨⟨o1,o2,_,_⟩,hm6⟩:=ho;simp(config := { maxSteps := 3000000 }) [w2,hlt,r1,aI,o1,o2,hm6,e1,e2,e3,e4,e5,e6,e7,e8];refine⟨⟨by omega,by omega,aW _⟩,⟨by omega,by omega,aW _⟩,i+1,⟨by omega,fun v hv=>?_⟩,⟨by omega,?_⟩,by omega⟩
     ·rw[List.take_succ_eq_append_getElem hlt,List.mem_append]at hv;rcases hv with hv|hv;·exact ht v hv
      ·rw[List.mem_singleton]at hv;rw[hv];exact hpl
     ·rw[List.take_succ_eq_append_getElem hlt,pE];simp only[aZ,dq,List.append_assoc]
   ·rw[List.take_of_length_le (by omega)]at ht;have hall:ia a=true:=by unfold ia;rw[List.all_eq_true];exact ht
    have hp:cS a=(dY a,0):=by simp[cS,hr,hall]
    simp(config := { maxSteps := 3000000 }) [hlt,hp];rw[List.take_of_length_le (by omega)];rfl
 ·cases h
theorem ll (b:List UInt8) (q:Int):((ba b q).2.2=0→0≤q∧q<(ba b q).2.1∧(ba b q).2.1≤b.length)∧((ba b q).2.2≠0→(ba b q).2.1=q):=by
 obtain⟨h1,h2,h3,h4,_⟩:=dc b q;unfold ba;split;·rename_i h;exact⟨fun h'=>absurd h' h,fun _=>rfl⟩
 ·rename_i h;have h0:(al b q).2.2=0:=by simpa using h
  obtain⟨g1,g2,g3⟩:=h1 h0;split;·exact⟨fun h'=>by simp at h',fun _=>rfl⟩
  ·rename_i h';refine⟨fun _=>?_,fun h=>absurd rfl h⟩;dsimp only;omega
def bo (b:List UInt8) (q:Int):Vn×Int×Int:=if(al b q).2.2≠0 then(v0,0,(al b q).2.2) else if(ba b (al b q).2.1).2.2≠0 then(v0,0,(ba b (al b q).2.1).2.2) else(dA (al b q).1 (ba b (al b q).2.1).1,(ba b (al b q).2.1).2.1,0)
def aX (b:List UInt8):Nat→Int→Int→List Vn×Int×Int|0,_,q=>([],q,0)|f+1,n,q=>if n≤0 then([],q,0) else if(bo b q).2.2≠0 then([],0,(bo b q).2.2) else if(aX b f (n-1) (bo b q).2.1).2.2≠0 then([],0,(aX b f (n-1) (bo b q).2.1).2.2) else((bo b q).1::(aX b f (n-1) (bo b q).2.1).1,(aX b f (n-1) (bo b q).2.1).2.1,0)
def il (b:List UInt8) (R:List Vn×Int×Int):List Vn×Int:=if R.2.2≠0 then([],R.2.2) else if R.2.1=b.length∧bD R.1=true then(R.1,0) else([],2)
def ca (b:List UInt8):List Vn×Int:=if(al b 0).2.2≠0 then([],(al b 0).2.2) else il b (aX b (b.length+1) (al b 0).1 (al b 0).2.1)
def fa (L:List Vn) (q:List Vn×Int×Int):List Vn×Int×Int:=if q.2.2≠0 then([],0,q.2.2) else(L++q.1,q.2.1,0)
theorem vU (b:List UInt8):∀(k:Nat) (n p:Int),(aX b k n p).2.2≠0→aX b k n p=([],0,(aX b k n p).2.2)
 |0,n,p,h=>absurd rfl h|k+1,n,p,h=>by
  unfold aX at h ⊢;split;·rename_i h0;rw[if_pos h0]at h;exact absurd rfl h
  ·rename_i h0;rw[if_neg h0]at h;split;·rfl
   ·split;·rfl
    ·rename_i h1 h2;rw[if_neg h1,if_neg h2]at h;exact absurd rfl h
theorem qV (b:List UInt8) (k:Nat) (n p:Int):fa [] (aX b k n p)=aX b k n p:=by
 unfold fa;split;·rename_i h;exact(vU b k n p h).symm
 ·rename_i h;have:(aX b k n p).2.2=0:=by simpa using h
  rw[←this];rfl
theorem oW (b:List UInt8) (L:List Vn) (k:Nat) (n p:Int) (hn:0<n) (h:(bo b p).2.2=0):fa L (aX b (k+1) n p)=fa (L++[(bo b p).1]) (aX b k (n-1) (bo b p).2.1):=by
 rw[aX,if_neg (by omega),if_neg (by simpa using h)];by_cases h2:(aX b k (n-1) (bo b p).2.1).2.2=0;·rw[if_neg (by simpa using h2)];simp[fa,h2]
 ·rw[if_pos h2];simp[fa,h2]
theorem jH (b:List UInt8) (L:List Vn) (k:Nat) (n p:Int) (hn:0<n) (h:(bo b p).2.2≠0):fa L (aX b (k+1) n p)=([],0,(bo b p).2.2):=by rw[aX,if_neg (by omega),if_pos h];simp[fa,h]
theorem qd (b:List UInt8) (L:List Vn) (k:Nat) (n p:Int) (hn:n≤0):fa L (aX b k n p)=(L,p,0):=by cases k with|zero=>simp[aX,fa]|succ k=>rw[aX,if_pos hn];simp[fa]
@[simp] noncomputable def zU (e:TypeId):List AV→Option (Prop×AV)|[.pv (.ro b)]=>(dec eK b).map fun l=>(l.length≤100000000,.aL [.fr e (aF (ca l).1),.pv (.int .i64 (ca l).2)])|_=>none
theorem FX:aV Tryz.prog 56 (zU 92):=by
 intro ys φ r h hφ;unfold zU at h;split at h
 ·rename_i rb;obtain⟨b,hb,h⟩:=Option.map_eq_some_iff.1 h;cases h;cases aU hb;have hl:b.length≤1000000000:=by omega
  refine ax (ah jy (ah (uK jy) (ah Hm aj))) (by kernel_rfl) fn56 (by simp) ?_;unfold body56;by_cases he:(al b 0).2.2=0
  ·have hT:ca b=il b (aX b (b.length+1) (al b 0).1 (al b 0).2.1):=by unfold ca;rw[if_neg (by simpa using he)]
   obtain⟨k1,k2,k3,k4,k5⟩:=dc b 0;obtain⟨j1,j2,j3⟩:=k1 he;generalize hP:ca b=T at*;simp(config := { maxSteps := 3000000 }) [hl,he];generalize(al b 0).1=n at*;generalize(al b 0).2.1=q0 at*;refine au (fun x:Nat×Int×List Vn=>(x.2.2.length:Int)≤n∧0≤x.2.1∧x.2.1≤b.length∧(b.length:Int)<x.1+x.2.1∧x.2.2.length≤x.2.1∧T=il b (fa x.2.2 (aX b x.1 (n-x.2.2.length) x.2.1))∧∀v∈x.2.2,iq v) (fun x=>⟨[(0,.pv (.ro (bytesRow b))),(4,.pv (.int .u64 n)),(5,.pv (.int .i64 x.2.1)),(7,.own 7)],[(7,.arr 92 (aF x.2.2))]⟩) (fun x=>(b.length-x.2.1).toNat) [] (b.length+1,q0,[]) ?_ ?_ ?_;·exact⟨by simpa using k2,by show 0≤q0;omega,j3,by simp;omega,by simp;omega,by rw[qV];simpa using hT,fun v hv=>by cases hv⟩
   ·simp
   ·rintro⟨f,q,acc⟩ ⟨hn,hq0,hq1,hf,hacc,hG,hokv⟩;dsimp only at hn hq0 hq1 hf hacc hG hokv;have wl:IntKind.u64.wrap (acc.length:Int)=(acc.length:Int):=wrap_u64 (by omega);have hq2:-9223372036854775808≤q:=by omega
    have hq3:q≤9223372036854775807:=by omega
    by_cases hlt:(acc.length:Int)<n
    ·obtain⟨f,rfl⟩:∃g,f=g+1:=⟨f-1,by omega⟩;obtain⟨t1,t2,t2b,t2c,t2d⟩:=dc b q;by_cases h0:(al b q).2.2=0
     ·obtain⟨t3,t4,t5⟩:=t1 h0;obtain⟨l1,l2⟩:=ll b (al b q).2.1;have hq4:-9223372036854775808≤(al b q).2.1:=by omega
      have hq5:(al b q).2.1≤9223372036854775807:=by omega
      by_cases h1:(ba b (al b q).2.1).2.2=0
      ·obtain⟨l6,l7,l8⟩:=l1 h1;have hE:bo b q=(dA (al b q).1 (ba b (al b q).2.1).1,(ba b (al b q).2.1).2.1,0):=by unfold bo;rw[if_neg (by simpa using h0),if_neg (by simpa using h1)]
       rw[oW b acc f (n-acc.length) q (by omega) (by rw[hE]),hE]at hG;simp(config := { maxSteps := 3000000 }) [wl,hlt,hl,hq2,hq3,hq4,hq5,h0,h1,aI];refine⟨by omega,f,(ba b (al b q).2.1).2.1,acc++[dA (al b q).1 (ba b (al b q).2.1).1],?_⟩;have hlen:((acc++[(dA (al b q).1 (ba b (al b q).2.1).1)]).length:Int)=acc.length+1:=by simp
       have hi:n-((acc++[(dA (al b q).1 (ba b (al b q).2.1).1)]).length:Int)=n-acc.length-1:=by omega
       refine⟨⟨by omega,by omega,l8,by omega,by omega,by rw[hi];exact hG,fun v hv=>by
        rcases List.mem_append.1 hv with hv|hv;·exact hokv v hv
        ·rw[List.mem_singleton]at hv;subst hv;exact⟨t2,t2b,Int.le_refl 0,by show(0:Int)≤18446744073709551615;decide⟩⟩,⟨rfl,?_⟩,by omega⟩;rw[c7];rfl
      ·have hE:bo b q=(v0,0,(ba b (al b q).2.1).2.2):=by unfold bo;rw[if_neg (by simpa using h0),if_pos h1]
       rw[jH b acc f _ q (by omega) (by rw[hE];exact h1),hE]at hG;have hTe:T=([],(ba b (al b q).2.1).2.2):=by rw[hG];simp[il,h1]
       simp(config := { maxSteps := 3000000 }) [wl,hlt,hl,hq2,hq3,hq4,hq5,h0,h1,hTe]
     ·have hE:bo b q=(v0,0,(al b q).2.2):=by unfold bo;rw[if_pos h0]
      rw[jH b acc f _ q (by omega) (by rw[hE];exact h0),hE]at hG;have hTe:T=([],(al b q).2.2):=by rw[hG];simp[il,h0]
      simp(config := { maxSteps := 3000000 }) [wl,hlt,hl,hq2,hq3,h0,hTe]
    ·have hle:n-acc.length≤0:=by omega
     rw[qd b acc f _ q hle]at hG;have ha9:acc.length≤1000000000:=by omega
     by_cases hqb:q=b.length;·cases hrs:bD acc with|false=>
      have hTe:T=([],2):=by rw[hG];simp[il,hrs]
      simp(config := { maxSteps := 3000000 }) [wl,hlt,ha9,hrs,hqb,hTe];try exact hokv|true=>
      have hTe:T=(acc,0):=by rw[hG];simp[il,hrs,hqb]
      simp(config := { maxSteps := 3000000 }) [wl,hlt,ha9,hrs,hqb,hTe];try exact hokv
     ·have hTe:T=([],2):=by rw[hG];simp[il,hqb]
      simp(config := { maxSteps := 3000000 }) [wl,hlt,ha9,hqb,hTe];try exact hokv
  ·have hT:ca b=([],(al b 0).2.2):=by unfold ca;rw[if_pos he]
   simp(config := { maxSteps := 3000000 }) [hl,he,hT]
 ·cases h
theorem IW:aV Tryz.prog 52 (zU 73):=by
 intro ys φ r h hφ;unfold zU at h;split at h
 ·rename_i rb;obtain⟨b,hb,h⟩:=Option.map_eq_some_iff.1 h;cases h;cases aU hb;have hl:b.length≤1000000000:=by omega
  refine ax (ah vO (ah A5 (ah CS aj))) (by kernel_rfl) fn52 (by simp) ?_;unfold body52;obtain⟨k1,k2,k3,k4,k5⟩:=dc b 0;have hT1:(al b 0).2.2=0→ca b=il b (aX b (b.length+1) (al b 0).1 (al b 0).2.1):=fun h=>by unfold ca;rw[if_neg (by simpa using h)]
  have hT2:(al b 0).2.2≠0→ca b=([],(al b 0).2.2):=fun h=>by unfold ca;rw[if_pos h]
  generalize hP:ca b=T at*;simp(config := { maxSteps := 3000000 }) [hl];generalize(al b 0).1=n at*;generalize(al b 0).2.1=q0 at*;generalize(al b 0).2.2=e0 at*;refine au (fun x:Nat×Int×List Vn×Int×Int=>0≤x.2.2.2.1∧x.2.2.2.1≤n∧(x.2.2.2.2=0→T=il b (fa x.2.2.1 (aX b x.1 (n-x.2.2.2.1) x.2.1))∧0≤x.2.1∧x.2.1≤b.length∧(b.length:Int)<x.1+x.2.1∧(x.2.2.1.length:Int)≤x.2.1)∧(x.2.2.2.2≠0→T=([],x.2.2.2.2))) (fun x=>⟨[(0,.pv (.ro (bytesRow b))),(4,.pv (.int .u64 n)),(5,.pv (.int .i64 x.2.1)),(6,.pv (.int .i64 x.2.2.2.2)),(7,.own 7),(8,.pv (.int .u64 x.2.2.2.1))],[(7,.arr 73 (aF x.2.2.1))]⟩) (fun x=>if x.2.2.2.2=0 then(b.length-x.2.1).toNat+1 else 0) [] (b.length+1,q0,[],0,e0) ?_ ?_ ?_
  ·refine⟨by show(0:Int)≤0;omega,k2,fun h=>⟨?_,?_⟩,hT2⟩;·rw[qV];simpa using hT1 h
   ·have:=k1 h;exact⟨by show 0≤q0;omega,by show q0≤b.length;omega,by show(b.length:Int)<(b.length+1:Nat)+q0;omega,by show(0:Int)≤q0;omega⟩
  ·simp
  ·rintro⟨f,q,acc,m,e⟩ ⟨hm0,hm1,hz,hnz⟩;dsimp only at hm0 hm1 hz hnz;by_cases he:e=0
   ·subst he;obtain⟨hG,g1,g2,g3,g4⟩:=hz rfl;clear hz hnz;have hacc:acc.length≤1000000000:=by omega
    have hq2:-9223372036854775808≤q:=by omega
    have hq3:q≤9223372036854775807:=by omega
    by_cases hlt:m<n
    ·obtain⟨f,rfl⟩:∃g,f=g+1:=⟨f-1,by omega⟩;have wl:IntKind.u64.wrap (m+1)=m+1:=wrap_u64 (by omega);obtain⟨t1,t2,t2b,t2c,t2d⟩:=dc b q;by_cases h0:(al b q).2.2=0
     ·obtain⟨t3,t4,t5⟩:=t1 h0;obtain⟨l1,l2⟩:=ll b (al b q).2.1;have hq4:-9223372036854775808≤(al b q).2.1:=by omega
      have hq5:(al b q).2.1≤9223372036854775807:=by omega
      by_cases h1:(ba b (al b q).2.1).2.2=0
      ·obtain⟨l6,l7,l8⟩:=l1 h1;have hE:bo b q=(dA (al b q).1 (ba b (al b q).2.1).1,(ba b (al b q).2.1).2.1,0):=by unfold bo;rw[if_neg (by simpa using h0),if_neg (by simpa using h1)]
       rw[oW b acc f (n-m) q (by omega) (by rw[hE]),hE]at hG;simp(config := { maxSteps := 3000000 }) [wl,hlt,hl,hq2,hq3,hq4,hq5,h0,h1,aI];refine⟨⟨by omega,by omega⟩,f,(ba b (al b q).2.1).2.1,acc++[dA (al b q).1 (ba b (al b q).2.1).1],m+1,0,⟨by omega,by omega,fun _=>⟨by rw[show n-(m+1)=n-m-1 from by omega];exact hG,by omega,l8,by omega,by simp;omega⟩,fun h=>absurd rfl h⟩,⟨⟨rfl,rfl,rfl⟩,by rw[c7];rfl⟩,?_⟩;rw[if_pos rfl];omega
      ·have hE:bo b q=(v0,0,(ba b (al b q).2.1).2.2):=by unfold bo;rw[if_neg (by simpa using h0),if_pos h1]
       rw[jH b acc f _ q (by omega) (by rw[hE];exact h1),hE]at hG;have hTe:T=([],(ba b (al b q).2.1).2.2):=by rw[hG];simp[il,h1]
       simp(config := { maxSteps := 3000000 }) [wl,hlt,hl,hq2,hq3,hq4,hq5,h0,h1,hTe,aI];refine⟨⟨by omega,by omega⟩,f,(ba b (al b q).2.1).2.1,acc++[dA (al b q).1 (ba b (al b q).2.1).1],m+1,(ba b (al b q).2.1).2.2,⟨by omega,by omega,fun h=>absurd h h1,fun _=>rfl⟩,⟨⟨rfl,rfl,rfl⟩,by rw[c7];rfl⟩,?_⟩;rw[if_neg h1];omega
     ·have hE:bo b q=(v0,0,(al b q).2.2):=by unfold bo;rw[if_pos h0]
      rw[jH b acc f _ q (by omega) (by rw[hE];exact h0),hE]at hG;have hTe:T=([],(al b q).2.2):=by rw[hG];simp[il,h0]
      simp(config := { maxSteps := 3000000 }) [wl,hlt,hl,hq2,hq3,h0,hTe]
    ·rw[qd b acc f _ q (by omega)]at hG;by_cases hqb:q=b.length;·cases hrs:bD acc with
      |false=>
       have hTe:T=([],2):=by rw[hG];simp[il,hrs]
       simp(config := { maxSteps := 3000000 }) [hlt,hacc,hrs,hqb,hTe]|true=>
       have hTe:T=(acc,0):=by rw[hG];simp[il,hrs,hqb]
       simp(config := { maxSteps := 3000000 }) [hlt,hacc,hrs,hqb,hTe]
     ·have hTe:T=([],2):=by rw[hG];simp[il,hqb]
      simp(config := { maxSteps := 3000000 }) [hlt,hacc,hqb,hTe]
   ·have hTe:=hnz he;simp(config := { maxSteps := 3000000 }) [he,hTe]
 ·cases h
def okW (v:Vn):Prop:=iq v∧ei v=true
theorem uB (e:Vn):0<(dq e).length:=by have:=kD e.n.toNat;unfold dq b6;simp only[List.length_append];omega
theorem mr:∀l:List Vn,l.length≤(bR l).length|[]=>by simp|e::l=>by have h1:=uB e;have h2:=mr l;unfold bR at h2 ⊢;simp only[List.flatMap_cons,List.length_append,List.length_cons];omega
theorem CA {v:Vn} (h:ei v=true):dA v.n v.t=v:=by unfold ei at h;rw[decide_eq_true_eq]at h;exact h.symm
theorem yy {b r:List UInt8}{p:Nat}{e:Vn} (h:b.drop p=dq e++r) (hi:okW e) (hn:e.t.length<2^64):bo b (p:Int)=(e,((p+(dq e).length:Nat):Int),0):=by
 obtain⟨⟨i1,i2,_,_⟩,hpl⟩:=hi;unfold dq at h;rw[List.append_assoc]at h;have hL:=gH (p:=p) (n:=e.n.toNat) h (by omega);have hd:b.drop (p+(bI e.n.toNat).length)=df e.t++r:=by rw[←List.drop_drop,h];unfold b6;rw[List.drop_left]
 have hT:=pA hd hn;have e1:(p:Int)+((bI e.n.toNat).length:Int)=((p+(bI e.n.toNat).length:Nat):Int):=by omega
 have e2:((e.n.toNat:Nat):Int)=e.n:=by omega
 rw[e1,e2]at hL;unfold bo;rw[hL];dsimp only;rw[hT,if_neg (by simp),if_neg (by simp),CA hpl];simp only[Prod.mk.injEq,and_true,true_and];have e3:(dq e).length=(bI e.n.toNat).length+(df e.t).length:=by simp[dq,b6]
 rw[e3];omega
theorem qY {b:List UInt8}:∀(l:List Vn) (f p:Nat) (r:List UInt8),b.drop p=bR l++r→(∀e∈l,okW e∧e.t.length<2^64)→l.length≤f→aX b f l.length (p:Int)=(l,((p+(bR l).length:Nat):Int),0)
 |[],f,p,r,_,_,_=>by cases f with|zero=>simp[aX,bR]|succ f=>rw[aX,if_pos (by simp)];simp[bR]
 |e::l,f,p,r,h,hn,hf=>by
  obtain⟨f,rfl⟩:∃g,f=g+1:=⟨f-1,by simp at hf;omega⟩;obtain⟨o1,o2⟩:=hn e (by simp);have hc:bR (e::l)=dq e++bR l:=by simp[bR]
  rw[hc,List.append_assoc]at h;have hE:=yy h o1 o2;have hd:b.drop (p+(dq e).length)=bR l++r:=by rw[←List.drop_drop,h,List.drop_left]
  have ih:=qY l f _ r hd (fun m hm=>hn m (by simp[hm])) (by simp at hf;omega);have hlen:(((e::l).length:Nat):Int)-1=(l.length:Int):=by simp
  rw[aX,if_neg (by simp only[List.length_cons];omega),hE];dsimp only;rw[hlen,ih,if_neg (by simp),if_neg (by simp),hc];simp only[List.length_append,Prod.mk.injEq,true_and,and_true];omega
theorem zb {l:List Vn} (hr:bD l=true) (hn:∀e∈l,okW e∧e.t.length<2^64) (hl:l.length<2^64):ca (dY l)=(l,0):=by
 have hv:b6 (l.length:Int)=bI l.length:=by unfold b6;rw[Int.toNat_natCast]
 have h0:(dY l).drop 0=bI l.length++bR l:=by rw[List.drop_zero,dY,hv]
 have hL:=gH (p:=0) h0 hl;have hd:(dY l).drop (bI l.length).length=bR l++[]:=by rw[dY,hv,List.drop_left,List.append_nil]
 have hlen:(dY l).length=(bI l.length).length+(bR l).length:=by rw[dY,hv,List.length_append]
 have hp:=mr l;have hG:=qY l ((dY l).length+1) _ [] hd hn (by omega);have e1:((0:Nat):Int)+((bI l.length).length:Int)=(((bI l.length).length:Nat):Int):=by omega
 rw[e1]at hL;unfold ca;rw[show(0:Int)=((0:Nat):Int) from rfl,hL,if_neg (by simp)];dsimp only;rw[hG];unfold il;rw[if_neg (by simp),if_pos ⟨by rw[hlen],hr⟩];rfl
theorem uN {b:List UInt8}{q:Int} (h:(ba b q).2.2=0):∃k:Nat,q=(k:Int)∧(ba b q).2.1=((k+(df (ba b q).1).length:Nat):Int)∧∃r,b.drop k=df (ba b q).1++r:=by
 by_cases h1:(al b q).2.2=0
 ·obtain⟨k,m,rfl,hm,hm2,hq,r,hr⟩:=sH h1;have hp:=kD m;have hl:=(mV hr (by simp;omega)).2;simp only[List.length_append]at hl;by_cases h2:(b.length:Int)-(al b (k:Int)).2.1<(al b (k:Int)).1;·unfold ba at h;rw[if_neg (by simpa using h1),if_pos h2]at h;cases h
  ·have hT:ba b (k:Int)=(r.take m,((k+(bI m).length:Nat):Int)+(m:Int),0):=by
    unfold ba;rw[if_neg (by simpa using h1),if_neg h2,hm,hq];have hd:b.drop (k+(bI m).length)=r:=by rw[←List.drop_drop,hr,List.drop_left]
    rw[Int.toNat_natCast,Int.toNat_natCast,hd]
   rw[hm,hq]at h2;have hrm:m≤r.length:=by omega
   have hvt:df (r.take m)=bI m++r.take m:=by unfold df;rw[List.length_take,Nat.min_eq_left hrm]
   rw[hT];dsimp only;refine⟨k,rfl,?_,r.drop m,?_⟩;·rw[hvt,List.length_append,List.length_take,Nat.min_eq_left hrm];omega
   ·rw[hvt,List.append_assoc,List.take_append_drop,hr]
 ·unfold ba at h;rw[if_pos h1]at h;exact absurd h h1
theorem zc {b:List UInt8}{q:Int} (h:(bo b q).2.2=0):∃k:Nat,q=(k:Int)∧(bo b q).2.1=((k+(dq (bo b q).1).length:Nat):Int)∧okW (bo b q).1∧∃r,b.drop k=dq (bo b q).1++r:=by
 by_cases h1:(al b q).2.2=0
 ·by_cases h2:(ba b (al b q).2.1).2.2=0
  ·have hE:bo b q=(dA (al b q).1 (ba b (al b q).2.1).1,(ba b (al b q).2.1).2.1,0):=by unfold bo;rw[if_neg (by simpa using h1),if_neg (by simpa using h2)]
   obtain⟨k,m,rfl,hm,hm2,hq,r,hr⟩:=sH h1;obtain⟨k2,hk2,ht,r2,hr2⟩:=uN h2;rw[hq]at hk2;have hk:k2=k+(bI m).length:=by omega
   have hb:dq (dA (al b (k:Int)).1 (ba b (al b (k:Int)).2.1).1)=bI m++df (ba b (al b (k:Int)).2.1).1:=by unfold dq b6 dA;dsimp only;rw[hm,Int.toNat_natCast]
   rw[hE];dsimp only;rw[hb];refine⟨k,rfl,?_,⟨⟨?_,?_,Int.le_refl 0,?_⟩,?_⟩,r2,?_⟩;·rw[ht,hk,List.length_append];congr 1;omega
   ·show 0≤(al b (k:Int)).1;omega
   ·show(al b (k:Int)).1≤18446744073709551615;omega
   ·show(0:Int)≤18446744073709551615;decide
   ·simp[ei,dA]
   ·have hd:b.drop k2=r:=by rw[hk,←List.drop_drop,hr,List.drop_left]
    rw[hr2]at hd;rw[List.append_assoc,hd,hr]
  ·unfold bo at h;rw[if_neg (by simpa using h1),if_pos h2]at h;exact absurd h h2
 ·unfold bo at h;rw[if_pos h1]at h;exact absurd h h1
theorem qu {b:List UInt8}:∀(f:Nat) (n:Int) (k:Nat),(aX b f n (k:Int)).2.2=0→0≤n→k≤b.length→b.length<f+k→((aX b f n (k:Int)).1.length:Int)=n∧(aX b f n (k:Int)).2.1=((k+(bR (aX b f n (k:Int)).1).length:Nat):Int)∧(∀e∈(aX b f n (k:Int)).1,okW e)∧∃r,b.drop k=bR (aX b f n (k:Int)).1++r
 |0,n,k,h,hn,hk,hf=>by omega|f+1,n,k,h,hn,hk,hf=>by
  by_cases h0:n≤0
  ·have hC:aX b (f+1) n (k:Int)=([],(k:Int),0):=by rw[aX,if_pos h0]
   rw[hC];refine⟨by simp;omega,by simp[bR],fun e he=>(by cases he),b.drop k,by simp[bR]⟩
  ·by_cases h1:(bo b (k:Int)).2.2=0
   ·by_cases h2:(aX b f (n-1) (bo b (k:Int)).2.1).2.2=0
    ·have hC:aX b (f+1) n (k:Int)=((bo b (k:Int)).1::(aX b f (n-1) (bo b (k:Int)).2.1).1,(aX b f (n-1) (bo b (k:Int)).2.1).2.1,0):=by rw[aX,if_neg h0,if_neg (by simpa using h1),if_neg (by simpa using h2)]
     obtain⟨k',hk',he,ho,r,hr⟩:=zc h1;have:k'=k:=by omega
     subst this;have hp:=uB (bo b (k':Int)).1;have hl:=(mV hr (by simp;omega)).2;simp only[List.length_append]at hl;rw[he]at h2 hC;obtain⟨g1,g2,g3,r2,g4⟩:=qu f (n-1) _ h2 (by omega) (by omega) (by omega);rw[hC];generalize aX b f (n-1) _=R at*;generalize bo b (k':Int)=E at*;have hc:bR (E.1::R.1)=dq E.1++bR R.1:=by simp[bR]
     dsimp only;rw[hc];refine⟨by simp;omega,?_,fun e hh=>?_,r2,?_⟩;·rw[g2,List.length_append];congr 1;omega
     ·rcases List.mem_cons.1 hh with rfl|hh;·exact ho
      ·exact g3 e hh
     ·have hd:b.drop (k'+(dq E.1).length)=r:=by rw[←List.drop_drop,hr,List.drop_left]
      rw[g4]at hd;rw[List.append_assoc,hd,hr]
    ·rw[aX,if_neg h0,if_neg (by simpa using h1),if_pos h2]at h;exact absurd h h2
   ·rw[aX,if_neg h0,if_pos h1]at h;exact absurd h h1
theorem yx {b:List UInt8} (h:(ca b).2=0):bD (ca b).1=true∧dY (ca b).1=b∧(∀e∈(ca b).1,okW e)∧(ca b).1.length≤b.length:=by
 by_cases h0:(al b 0).2.2=0
 ·have hP:ca b=il b (aX b (b.length+1) (al b 0).1 (al b 0).2.1):=by unfold ca;rw[if_neg (by simpa using h0)]
  obtain⟨k,m,hk,hm,hm2,hq,r,hr⟩:=sH h0;have:k=0:=by omega
  subst this;rw[List.drop_zero]at hr;have hbl:=congrArg List.length hr;simp only[List.length_append]at hbl;have e1:((0+(bI m).length:Nat):Int)=(((bI m).length:Nat):Int):=by omega
  rw[hm,hq,e1]at hP;rw[hP]at h ⊢;by_cases h1:(aX b (b.length+1) (m:Int) (((bI m).length:Nat):Int)).2.2=0
  ·obtain⟨g1,g2,g3,r2,g4⟩:=qu (b.length+1) (m:Int) _ h1 (by omega) (by omega) (by omega);generalize aX b (b.length+1) (m:Int) _=R at*;by_cases h2:R.2.1=b.length∧bD R.1=true
   ·have hF:il b R=(R.1,0):=by unfold il;rw[if_neg (by simpa using h1),if_pos h2]
    rw[hF];obtain⟨h3,h4⟩:=h2;have hr2:b.drop (bI m).length=r:=by rw[hr,List.drop_left]
    rw[g4]at hr2;have hr2l:=congrArg List.length hr2;simp only[List.length_append]at hr2l;have:r2=[]:=List.eq_nil_of_length_eq_zero (by omega);subst this;rw[List.append_nil]at hr2;have hp:=mr R.1;refine⟨h4,?_,g3,by dsimp only;omega⟩;show b6 (R.1.length:Int)++bR R.1=b;rw[g1,hr2];unfold b6;rw[Int.toNat_natCast,←hr]
   ·unfold il at h;rw[if_neg (by simpa using h1),if_neg h2]at h;cases h
  ·unfold il at h;rw[if_pos h1]at h;exact absurd h h1
 ·unfold ca at h;rw[if_pos h0]at h;exact absurd h h0
theorem zT (b:List UInt8):(ca b).1.length≤b.length:=by
 by_cases h:(ca b).2=0;·exact(yx h).2.2.2
 ·unfold ca il at h ⊢;split;·simp
  ·rename_i h1;rw[if_neg h1]at h;split;·simp
   ·rename_i h2;rw[if_neg h2]at h;split;·rename_i h3;rw[if_pos h3]at h;exact absurd rfl h
    ·simp
def bJ (b:Bool):Int:=if b=true then 1 else 0
theorem xF (b:Bool):cW (bJ b):=by cases b<;>simp[bJ,cW]
@[simp] def AD:List AV→Option (Prop×AV)|[.pv (.bool b)]=>some (True,.pv (.int .u64 (bJ b)))|_=>none
theorem IL:aV Tryz.prog 40 AD:=by
 intro ys φ r h hφ;unfold AD at h;split at h;·rename_i b;cases h;refine ax aj (by kernel_rfl) fn40 (by simp) ?_;unfold body40;cases b<;>simp(config := { maxSteps := 3000000 }) [bJ]
 ·cases h
theorem GC:aV Tryz.prog 46 AD:=by
 intro ys φ r h hφ;unfold AD at h;split at h;·rename_i b;cases h;refine ax aj (by kernel_rfl) fn46 (by simp) ?_;unfold body46;cases b<;>simp(config := { maxSteps := 3000000 }) [bJ]
 ·cases h
@[simp] noncomputable def Dm:List AV→Option (Prop×AV)|[.pv .nil,.pv (.int .i64 n)]=>some (0≤n∧n≤1000000,.fr 5 [])|_=>none
theorem EY:sd Tryz.prog 95 Dm:=by
 intro ys φ r h hφ;unfold Dm at h;split at h
 ·rename_i n;cases h;obtain⟨h1,h2⟩:=hφ;have hinf:(Tryz.prog.info? 5).isSome=true:=by kernel_rfl
  have w0:IntKind.i64.wrap 0=0:=wrap_i64 (by omega);have w1:IntKind.i64.wrap n=n:=wrap_i64 (by omega);refine lu aj (by kernel_rfl) fn95 (by simp) (by simp[cH,kl,ij]) (by simp) ?_;unfold body95;have hn0:¬n<0:=by omega
  by_cases h0:0<n;·simp(config := { maxSteps := 3000000 }) [hn0,h0,w0,w1,hinf];omega
  ·simp(config := { maxSteps := 3000000 }) [hn0,h0,w0,w1,hinf]
 ·cases h
@[simp] noncomputable def It:List AV→Option (Prop×AV)|[.pv (.ro [[.ro a],[.ro b],[.ro c]])]=>(dec eK a).bind fun la=>(dec eK b).bind fun lb=>(dec eK c).map fun lc=>(la.length≤200000∧lb.length≤200000∧lc.length≤200000,.fr 5 (bytesRow (la++(lb++lc))))|_=>none
theorem KO:aV Tryz.prog 38 It:=by
 intro ys φ r h hφ;unfold It at h;split at h
 ·rename_i ra rb rc;obtain⟨a,ha,h⟩:=Option.bind_eq_some_iff.1 h;obtain⟨b,hb,h⟩:=Option.bind_eq_some_iff.1 h;obtain⟨c,hc,h⟩:=Option.map_eq_some_iff.1 h;cases h;cases aU ha;cases aU hb;cases aU hc;obtain⟨hla,hlb,hlc⟩:=hφ;have w1:IntKind.i64.wrap 1=1:=wrap_i64 (by omega);have w2:IntKind.i64.wrap 2=2:=wrap_i64 (by omega);have w3:IntKind.i64.wrap 3=3:=wrap_i64 (by omega);have wa:IntKind.i64.wrap (a.length:Int)=a.length:=wrap_i64 (by omega);have wab:IntKind.i64.wrap ((a.length:Int)+(b.length:Int))=(a.length:Int)+(b.length:Int):=wrap_i64 (by omega);have wabc:IntKind.i64.wrap ((a.length:Int)+(b.length:Int)+(c.length:Int))=(a.length:Int)+(b.length:Int)+(c.length:Int):=wrap_i64 (by omega);have r0:rowAt [[PV.ro (bytesRow a)],[PV.ro (bytesRow b)],[PV.ro (bytesRow c)]] 0=[.ro (bytesRow a)]:=rfl;have r1:rowAt [[PV.ro (bytesRow a)],[PV.ro (bytesRow b)],[PV.ro (bytesRow c)]] 1=[.ro (bytesRow b)]:=rfl;have r2:rowAt [[PV.ro (bytesRow a)],[PV.ro (bytesRow b)],[PV.ro (bytesRow c)]] 2=[.ro (bytesRow c)]:=rfl;have ga:¬((a.length:Int)<0):=by omega
  have gab:¬((a.length:Int)+(b.length:Int)<0):=by omega
  have gabc:¬((a.length:Int)+(b.length:Int)+(c.length:Int)<0):=by omega
  have gc:(a.length:Int)+(b.length:Int)+(c.length:Int)≤1000000:=by omega
  have gd:(0:Int)≤(a.length:Int)+(b.length:Int)+(c.length:Int):=by omega
  refine ax (gv (p:=0) (k:=997) EY (by kernel_rfl) aj) (by kernel_rfl) fn38 (by simp) ?_;unfold body38;simp(config := { maxSteps := 3000000 });refine au (fun i:Nat=>i=0∨i=1∨i=2∨i=3) (fun i=>⟨[(0,.pv (.ro [[.ro (bytesRow a)],[.ro (bytesRow b)],[.ro (bytesRow c)]])),(2,.own 2),(3,.pv (.int .i64 (if i=0 then 0 else if i=1 then(a.length:Int) else if i=2 then(a.length:Int)+(b.length:Int) else(a.length:Int)+(b.length:Int)+(c.length:Int)))),(9,.pv (.ro [[.ro (bytesRow a)],[.ro (bytesRow b)],[.ro (bytesRow c)]])),(10,.pv (.int .i64 3)),(11,.pv (.int .i64 i))],[(2,.arr 5 [])]⟩) (fun i=>3-i) [] 0 (by simp) ?_ ?_;·simp
  ·rintro i (rfl|rfl|rfl|rfl);·simp(config := { maxSteps := 3000000 }) [r0,wa,ga,w1]
   ·simp(config := { maxSteps := 3000000 }) [r1,wab,gab,w2]
   ·simp(config := { maxSteps := 3000000 }) [r2,wabc,gabc,w3]
   ·simp(config := { maxSteps := 3000000 }) [gc,gd];refine au (fun i:Nat=>i=0∨i=1∨i=2∨i=3) (fun i=>⟨[(0,.pv (.ro [[.ro (bytesRow a)],[.ro (bytesRow b)],[.ro (bytesRow c)]])),(2,.own 2),(6,.own 24),(25,.pv (.ro [[.ro (bytesRow a)],[.ro (bytesRow b)],[.ro (bytesRow c)]])),(26,.pv (.int .i64 3)),(27,.pv (.int .i64 i))],[(2,.arr 5 []),(24,.arr 5 (if i=0 then[] else if i=1 then bytesRow a else if i=2 then bytesRow a++bytesRow b else bytesRow a++(bytesRow b++bytesRow c)))]⟩) (fun i=>3-i) [] 0 (by simp) ?_ ?_;·simp
    ·rintro i (rfl|rfl|rfl|rfl);·simp(config := { maxSteps := 3000000 }) [r0,w1,aI];exact⟨by omega,by omega,aW _⟩
     ·simp(config := { maxSteps := 3000000 }) [r1,w2,aI];exact⟨by omega,by omega,aW _⟩
     ·simp(config := { maxSteps := 3000000 }) [r2,w3,aI];exact⟨by omega,by omega,aW _⟩
     ·simp(config := { maxSteps := 3000000 }) [aZ]
 ·cases h
noncomputable def pJ (d:Dc):List UInt8×Int:=if(cS d.vs).2≠0∨eb d.ps=false then([],2) else(eH [d.l.e,d.l.p,d.l.i,d.l.u,bJ d.l.h,bJ d.sl]++(gg d.ps++df (cS d.vs).1),0)
def vV (d:Dc):Prop:=d.vs.length≤1000∧(∀v∈d.vs,iq v∧v.t.length≤1000000)∧d.ps.length≤1000∧(∀e∈d.ps,eG e)∧(cW d.l.e∧cW d.l.p∧cW d.l.i∧cW d.l.u)∧(cS d.vs).1.length≤100000
theorem ve {e p i u:Int}{h s:Bool} (o3:cW e) (o4:cW p) (o5:cW i) (o6:cW u):∀n∈[e,p,i,u,bJ h,bJ s],cW n:=by
 intro n hn;simp only[List.mem_cons,List.not_mem_nil,or_false]at hn;rcases hn with rfl|rfl|rfl|rfl|rfl|rfl;·exact o3
 ·exact o4
 ·exact o5
 ·exact o6
 ·exact xF _
 ·exact xF _
theorem sT {b:List UInt8} (h:b.length≤18446744073709551615):(df b).length≤b.length+10:=by have:=eD h;unfold df;rw[List.length_append];omega
theorem sG {ps:List Pn} (o2:∀e∈ps,eG e) (l2:ps.length≤1000):(gg ps).length≤40000:=by have h1:=dP (n:=(ps.length:Int)) (by unfold cW;omega);have h2:=lp o2;unfold gg;rw[List.length_append];omega
@[simp] noncomputable def Af:List AV→Option (Prop×AV)|[.agg ys]=>mQ ys fun d=>some (vV d,.aL [.fr 5 (bytesRow (pJ d).1),.pv (.int .i64 (pJ d).2)])|_=>none
theorem K6:aV Tryz.prog 15 Af:=by
 intro ys φ r h hφ;unfold Af at h;split at h
 ·obtain⟨d,rfl,h2⟩:=eF h;clear h;cases h2;obtain⟨⟨e,p,i,u,h'⟩,ps,vs,sl⟩:=d;obtain⟨l1,o1,l2,o2,⟨o3,o4,o5,o6⟩,l3⟩:=hφ;have l1:vs.length≤1000:=l1;have l2:ps.length≤1000:=l2;have l3:(cS vs).1.length≤100000:=l3;have o1:(∀v∈vs,iq v∧v.t.length≤1000000)=True:=eq_true o1;have o7:(∀e∈ps,eG e)=True:=eq_true o2;have o2:∀e∈ps,eG e:=o2;have o3:cW e:=o3;have o4:cW p:=o4;have o5:cW i:=o5;have o6:cW u:=o6;have o8:=ve o3 o4 o5 o6 (h:=h') (s:=sl);have a1:(eH [e,p,i,u,bJ h',bJ sl]).length≤60:=iQ o8;have a2:=sG o2 l2;have l4:ps.length≤1000000:=by omega
  have l5:ps.length≤1000000000:=by omega
  have l6:(cS vs).1.length≤1000000:=by omega
  have d6:dec dm [[.int .u64 e],[.int .u64 p],[.int .u64 i],[.int .u64 u],[.int .u64 (bJ h')],[.int .u64 (bJ sl)]]=some [e,p,i,u,bJ h',bJ sl]:=lx [e,p,i,u,bJ h',bJ sl];refine ax (ah Kt (ah qi (ah IL (ah (sK HE) (ah (sK KV) (ah (sK Da) (ah KO aj))))))) (by kernel_rfl) fn15 (by simp) ?_;unfold body15 pJ;apply af;·simp(config := { maxSteps := 3000000 }) [cellsD];exact⟨rfl,rfl⟩
  apply af;·simp(config := { maxSteps := 3000000 }) [l1,o1];exact⟨rfl,rfl⟩
  generalize hx:cS vs=x at*;obtain⟨b,x⟩:=x;by_cases he:x=0;·subst he;cases hr:eb ps with|false=>simp(config := { maxSteps := 3000000 }) [hr,l5]|true=>
   rw[if_neg (by simp)];apply af;·simp(config := { maxSteps := 3000000 }) [hr,l5];exact⟨rfl,rfl⟩
   apply af;·simp(config := { maxSteps := 3000000 });exact⟨rfl,rfl⟩
   apply af;·simp(config := { maxSteps := 3000000 }) [d6,o8,a1,a2,l3,l4,l6,o7];exact⟨⟨by omega,by omega,by have:b.length≤100000:=l3;have:=sT (b:=b) (by omega);omega⟩,dO _,rfl,rfl⟩
   simp(config := { maxSteps := 3000000 })
  ·simp(config := { maxSteps := 3000000 }) [he]
 ·cases h
theorem F9:aV Tryz.prog 16 Af:=by
 intro ys φ r h hφ;unfold Af at h;split at h
 ·obtain⟨d,rfl,h2⟩:=eF h;clear h;cases h2;obtain⟨⟨e,p,i,u,h'⟩,ps,vs,sl⟩:=d;obtain⟨l1,o1,l2,o2,⟨o3,o4,o5,o6⟩,l3⟩:=hφ;have l1:vs.length≤1000:=l1;have l2:ps.length≤1000:=l2;have l3:(cS vs).1.length≤100000:=l3;have o1:(∀v∈vs,iq v∧v.t.length≤1000000)=True:=eq_true o1;have o7:(∀e∈ps,eG e)=True:=eq_true o2;have o2:∀e∈ps,eG e:=o2;have o3:cW e:=o3;have o4:cW p:=o4;have o5:cW i:=o5;have o6:cW u:=o6;have o8:=ve o3 o4 o5 o6 (h:=h') (s:=sl);have a1:(eH [e,p,i,u,bJ h',bJ sl]).length≤60:=iQ o8;have a2:=sG o2 l2;have l4:ps.length≤1000000:=by omega
  have l5:ps.length≤1000000000:=by omega
  have l6:(cS vs).1.length≤1000000:=by omega
  have d6:dec dm [[.int .u64 e],[.int .u64 p],[.int .u64 i],[.int .u64 u],[.int .u64 (bJ h')],[.int .u64 (bJ sl)]]=some [e,p,i,u,bJ h',bJ sl]:=lx [e,p,i,u,bJ h',bJ sl];refine ax (ah Ge (ah xY (ah GC (ah CB (ah JW (ah Ax aj)))))) (by kernel_rfl) fn16 (by simp) ?_;unfold body16 pJ;apply af;·simp(config := { maxSteps := 3000000 }) [cellsD];exact⟨rfl,rfl⟩
  apply af;·simp(config := { maxSteps := 3000000 }) [l1,o1];exact⟨rfl,rfl⟩
  generalize hx:cS vs=x at*;obtain⟨b,x⟩:=x;by_cases he:x=0;·subst he;cases hr:eb ps with|false=>simp(config := { maxSteps := 3000000 }) [hr,l5]|true=>
   rw[if_neg (by simp)];apply af;·simp(config := { maxSteps := 3000000 }) [hr,l5];exact⟨rfl,rfl⟩
   apply af;·simp(config := { maxSteps := 3000000 }) [d6,o8,a1,a2,l3,l4,l6,o7];exact⟨rfl,rfl⟩
   simp(config := { maxSteps := 3000000 }) [l4,l6,o7,aI,aZ];have l7:b.length≤100000:=l3;have l8:=sT (b:=b) (by omega);exact⟨⟨by omega,by omega,aW _⟩,by omega,by omega,aW _⟩
  ·simp(config := { maxSteps := 3000000 }) [he]
 ·cases h
theorem rG (b:List UInt8):∀(k:Nat) (n p:Int),(bm b k n p).1.length≤k
 |0,n,p=>by simp[bm]|k+1,n,p=>by
  unfold bm;split;·simp
  ·split;·simp
   ·split;·simp
    ·have:=rG b k (n-1) (az b 3 p).2.1;simp only[List.length_cons];omega
theorem Cd (b:List UInt8) (p:Int):(cu b p).1.length≤b.length+1:=by
 unfold cu;split;·simp
 ·split;·simp
  ·split;·simp
   ·exact rG b _ _ _
theorem ma {b:List UInt8}:∀(l:List Int) (p:Nat) (r:List UInt8),b.drop p=eH l++r→(∀n∈l,cW n)→az b l.length (p:Int)=(l,((p+(eH l).length:Nat):Int),0)
 |[],p,r,_,_=>by simp[az,eH]|n::l,p,r,h,hn=>by
  obtain⟨o1,o2⟩:=hn n (by simp);have hc:eH (n::l)=b6 n++eH l:=by simp[eH]
  rw[hc,List.append_assoc]at h;have hL:=gH (p:=p) (n:=n.toNat) h (by omega);have hd:b.drop (p+(b6 n).length)=eH l++r:=by rw[←List.drop_drop,h,List.drop_left]
  have ih:=ma l _ r hd fun m hm=>hn m (by simp[hm]);have e1:(p:Int)+((bI n.toNat).length:Int)=((p+(b6 n).length:Nat):Int):=by unfold b6;omega
  have e2:((n.toNat:Nat):Int)=n:=by omega
  rw[e1,e2]at hL;rw[List.length_cons,az,hL];dsimp only;rw[ih,if_neg (by simp),if_neg (by simp),hc];simp only[List.length_append,Prod.mk.injEq,true_and,and_true];omega
theorem DU (e:Pn):0<(sA e).length:=by have:=kD e.i.toNat;unfold sA b6;simp only[List.length_append];omega
theorem tA:∀l:List Pn,l.length≤(dT l).length|[]=>by simp|e::l=>by have h1:=DU e;have h2:=tA l;unfold dT at h2 ⊢;simp only[List.flatMap_cons,List.length_append,List.length_cons];omega
theorem qO {b:List UInt8}:∀(l:List Pn) (k p:Nat) (r:List UInt8),l.length≤k→b.drop p=dT l++r→(∀e∈l,eG e)→bm b k (l.length:Int) (p:Int)=(l,((p+(dT l).length:Nat):Int),0)
 |[],k,p,r,_,_,_=>by cases k<;>simp[bm,dT]|e::l,0,p,r,hk,_,_=>absurd hk (by simp)|e::l,k+1,p,r,hk,h,ho=>by
  have hc:dT (e::l)=sA e++dT l:=by simp[dT]
  rw[hc,List.append_assoc]at h;obtain⟨o1,o2,o3⟩:=ho e (by simp);have hA:=ma [e.i,e.v,e.u] p (dT l++r) (by rw[mK];exact h) (by
   intro n hn;simp only[List.mem_cons,List.not_mem_nil,or_false]at hn;rcases hn with rfl|rfl|rfl;·exact o1
   ·exact o2
   ·exact o3);rw[mK]at hA;have hA:az b 3 (p:Int)=([e.i,e.v,e.u],((p+(sA e).length:Nat):Int),0):=hA;have hd:b.drop (p+(sA e).length)=dT l++r:=by rw[←List.drop_drop,h,List.drop_left]
  have ih:=qO l k _ r (by simpa using hk) hd fun m hm=>ho m (by simp[hm]);have e1:(((e::l).length:Nat):Int)-1=(l.length:Int):=by simp
  rw[bm,if_neg (by simp only[List.length_cons];omega),hA,e1];dsimp only;rw[ih,if_neg (by simp),if_neg (by simp),hc];simp only[tf,List.length_append,Prod.mk.injEq,true_and,and_true];omega
theorem By {b:List UInt8}{p:Nat}{l:List Pn}{r:List UInt8} (h:b.drop p=gg l++r) (ho:∀e∈l,eG e) (hl:l.length<2^64) (hr:eb l=true):cu b (p:Int)=(l,((p+(gg l).length:Nat):Int),0):=by
 unfold gg at h;rw[List.append_assoc]at h;have hv:b6 (l.length:Int)=bI l.length:=by unfold b6;rw[Int.toNat_natCast]
 rw[hv]at h;have hL:=gH (p:=p) h hl;have hd:b.drop (p+(bI l.length).length)=dT l++r:=by rw[←List.drop_drop,h,List.drop_left]
 have hlen:l.length≤b.length+1:=by have h1:=tA l;have h2:=congrArg List.length hd;simp only[List.length_drop,List.length_append]at h2;omega
 have hG:=qO l (b.length+1) _ r hlen hd ho;have e1:(p:Int)+((bI l.length).length:Int)=((p+(bI l.length).length:Nat):Int):=by omega
 rw[e1]at hL;unfold cu;rw[hL];dsimp only;rw[hG,if_neg (by simp),if_neg (by simp),if_neg (by simp[hr])];unfold gg;rw[hv];simp only[List.length_append,Prod.mk.injEq,true_and,and_true];omega
theorem tH (b:List UInt8):∀(k:Nat) (n p:Int),(bm b k n p).2.2=0→p≤b.length→p≤(bm b k n p).2.1∧(bm b k n p).2.1≤b.length
 |0,n,p,_,hp=>⟨Int.le_refl _,hp⟩|k+1,n,p,h,hp=>by
  unfold bm at h ⊢;split at h;·rename_i h1;rw[if_pos h1];exact⟨Int.le_refl _,hp⟩
  ·rename_i h1;rw[if_neg h1];split at h;·rename_i h2;exact absurd h h2
   ·rename_i h2;rw[if_neg h2];split at h;·rename_i h3;exact absurd h h3
    ·rename_i h3;rw[if_neg h3];have h2:(az b 3 p).2.2=0:=by simpa using h2
     have h3:(bm b k (n-1) (az b 3 p).2.1).2.2=0:=by simpa using h3
     obtain⟨_,_,g3,g4⟩:=gz b 3 p h2;obtain⟨g5,g6⟩:=g4 (by omega);have:=tH b k (n-1) _ h3 g6;exact⟨by show p≤(bm b k (n-1) (az b 3 p).2.1).2.1;omega,this.2⟩
theorem wD (b:List UInt8) (p:Int) (h:(cu b p).2.2=0):0≤(cu b p).2.1∧(cu b p).2.1≤b.length:=by
 unfold cu at h ⊢;split at h;·rename_i h1;exact absurd h h1
 ·rename_i h1;rw[if_neg h1];split at h;·rename_i h2;exact absurd h h2
  ·rename_i h2;rw[if_neg h2];split at h;·cases h
   ·rename_i h3;rw[if_neg h3];have h1:(al b p).2.2=0:=by simpa using h1
    obtain⟨g1,g2,g3⟩:=(dc b p).1 h1;have:=tH b (b.length+1) (al b p).1 (al b p).2.1 h g3;omega
theorem uo (b:List UInt8) (h:(bZ b 0 6).2.2=0):∃x0 x1 x2 x3 x4 x5,(bZ b 0 6).1=[x0,x1,x2,x3,x4,x5]∧0≤(bZ b 0 6).2.1∧(bZ b 0 6).2.1≤b.length:=by
 unfold bZ at h ⊢;split at h;·rename_i h1;exact absurd h h1
 ·rename_i h1;rw[if_neg h1];obtain⟨g1,g2,g3,g4⟩:=gz b 6 0 h;obtain⟨_,g5⟩:=g4 (by omega);match hl:(az b 6 0).1,g1 with|[x0,x1,x2,x3,x4,x5],_=>exact⟨x0,x1,x2,x3,x4,x5,rfl,by omega,g5⟩
theorem lT (b:List UInt8) (q:Int) (h:(ba b q).2.2=0):(ba b q).1.length≤b.length:=by obtain⟨k,_,_,r,hr⟩:=uN h;have:=congrArg List.length hr;simp only[List.length_drop,List.length_append,df]at this;omega
def zD:Dc:=⟨⟨0,0,0,0,false⟩,[],[],false⟩
noncomputable def dz (b:List UInt8):Dc×Int:=if(bZ b 0 6).2.2≠0 then(zD,(bZ b 0 6).2.2) else if(cu b (bZ b 0 6).2.1).2.2≠0 then(zD,(cu b (bZ b 0 6).2.1).2.2) else if 1<(bZ b 0 6).1.getD 4 0∨1<(bZ b 0 6).1.getD 5 0 then(zD,2) else if(ba b (cu b (bZ b 0 6).2.1).2.1).2.2≠0 then(zD,(ba b (cu b (bZ b 0 6).2.1).2.1).2.2) else if(ba b (cu b (bZ b 0 6).2.1).2.1).2.1<b.length then(zD,11) else if(ca (ba b (cu b (bZ b 0 6).2.1).2.1).1).2≠0 then(zD,(ca (ba b (cu b (bZ b 0 6).2.1).2.1).1).2) else(⟨⟨(bZ b 0 6).1.getD 0 0,(bZ b 0 6).1.getD 1 0,(bZ b 0 6).1.getD 2 0,(bZ b 0 6).1.getD 3 0,decide ((bZ b 0 6).1.getD 4 0=1)⟩,(cu b (bZ b 0 6).2.1).1,(ca (ba b (cu b (bZ b 0 6).2.1).2.1).1).1,decide ((bZ b 0 6).1.getD 5 0=1)⟩,0)
@[simp] noncomputable def Av (e1 e2:TypeId):List AV→Option (Prop×AV)|[.pv (.ro b)]=>(dec eK b).map fun l=>(l.length≤1000000,.aL [.agg [.pv (.int .u64 (dz l).1.l.e),.pv (.int .u64 (dz l).1.l.p),.pv (.int .u64 (dz l).1.l.i),.pv (.int .u64 (dz l).1.l.u),.pv (.bool (dz l).1.l.h),.fr e1 (aC (dz l).1.ps),.fr e2 (aF (dz l).1.vs),.pv (.bool (dz l).1.sl)],.pv (.int .i64 (dz l).2)])|_=>none
theorem IP:aV Tryz.prog 17 (Av 94 73):=by
 intro ys φ r h hφ;unfold Av at h;split at h
 ·obtain⟨b,hb,h⟩:=Option.map_eq_some_iff.1 h;cases h;cases aU hb;have hl:b.length≤1000000:=hφ;have l9:b.length≤1000000000:=by omega
  have l8:b.length≤100000000:=by omega
  have h6:(6:Int).toNat=6:=rfl;have hi1:(Tryz.prog.info? 94).isSome=true:=by kernel_rfl
  have hi2:(Tryz.prog.info? 73).isSome=true:=by kernel_rfl
  refine ax (ah Ay (ah SX (ah A5 (ah IW aj)))) (by kernel_rfl) fn17 (by simp) ?_;unfold body17 dz;apply af;·simp(config := { maxSteps := 3000000 });exact⟨rfl,rfl⟩
  apply af;·simp(config := { maxSteps := 3000000 }) [h6,l9];exact⟨rfl,rfl⟩
  have hA:=uo b;generalize bZ b 0 6=A at*;obtain⟨la,a,ea⟩:=A;by_cases he:ea=0;rotate_left;·simp(config := { maxSteps := 3000000 }) [he,hi1,hi2,zD]
  subst he;obtain⟨x0,x1,x2,x3,x4,x5,rfl,k1,k2⟩:=hA rfl;have k3:-9223372036854775808≤a:=by have:(0:Int)≤a:=k1;omega
  have k4:a≤9223372036854775807:=by have:a≤b.length:=k2;omega
  apply af;·simp(config := { maxSteps := 3000000 });exact⟨rfl,rfl⟩
  apply af;·simp(config := { maxSteps := 3000000 }) [l8,k3,k4];exact⟨rfl,rfl⟩
  have hP:=wD b a;dsimp only;generalize cu b a=Q at*;obtain⟨ps,q,ep⟩:=Q;by_cases hp:ep=0;rotate_left;·simp(config := { maxSteps := 3000000 }) [hp,hi1,hi2,zD]
  subst hp;obtain⟨m1,m2⟩:=hP rfl;have m3:-9223372036854775808≤q:=by have:(0:Int)≤q:=m1;omega
  have m4:q≤9223372036854775807:=by have:q≤b.length:=m2;omega
  have r0:rowAt (bH [x0,x1,x2,x3,x4,x5]) 0=[.int .u64 x0]:=rfl;have r1:rowAt (bH [x0,x1,x2,x3,x4,x5]) 1=[.int .u64 x1]:=rfl;have r2:rowAt (bH [x0,x1,x2,x3,x4,x5]) 2=[.int .u64 x2]:=rfl;have r3:rowAt (bH [x0,x1,x2,x3,x4,x5]) 3=[.int .u64 x3]:=rfl;have r4:rowAt (bH [x0,x1,x2,x3,x4,x5]) 4=[.int .u64 x4]:=rfl;have r5:rowAt (bH [x0,x1,x2,x3,x4,x5]) 5=[.int .u64 x5]:=rfl;by_cases h4:1<x4;·simp(config := { maxSteps := 3000000 }) [r4,r5,h4,hi1,hi2,zD]
  by_cases h5:1<x5;·simp(config := { maxSteps := 3000000 }) [r4,r5,h4,h5,hi1,hi2,zD]
  apply af;·simp(config := { maxSteps := 3000000 }) [r4,r5,h4,h5];exact⟨rfl,rfl⟩
  apply af;·simp(config := { maxSteps := 3000000 }) [l9,m3,m4];exact⟨rfl,rfl⟩
  have hT:=ll b q;have hN:=lT b q;dsimp only;generalize ba b q=T at*;obtain⟨s,t,et⟩:=T;by_cases ht:et=0;rotate_left;·simp(config := { maxSteps := 3000000 }) [ht,h4,h5,hi1,hi2,zD]
  subst ht;have hN:s.length≤b.length:=hN rfl;have lN:s.length≤100000000:=by omega
  by_cases hq:t<b.length;·simp(config := { maxSteps := 3000000 }) [hq,h4,h5,hi1,hi2,zD]
  apply af;·simp(config := { maxSteps := 3000000 }) [hq];exact⟨rfl,rfl⟩
  apply af;·simp(config := { maxSteps := 3000000 }) [lN];exact⟨rfl,rfl⟩
  dsimp only;generalize ca s=V at*;obtain⟨vs,ev⟩:=V;by_cases hv:ev=0;rotate_left;·simp(config := { maxSteps := 3000000 }) [hv,hq,h4,h5,hi1,hi2,zD]
  subst hv;apply af;·simp(config := { maxSteps := 3000000 });exact⟨rfl,rfl⟩
  simp(config := { maxSteps := 3000000 }) [r0,r1,r2,r3,r4,r5,hq,h4,h5]
 ·cases h
theorem Gt:aV Tryz.prog 18 (Av 123 92):=by
 intro ys φ r h hφ;unfold Av at h;split at h
 ·obtain⟨b,hb,h⟩:=Option.map_eq_some_iff.1 h;cases h;cases aU hb;have hl:b.length≤1000000:=hφ;have l9:b.length≤1000000000:=by omega
  have l8:b.length≤100000000:=by omega
  have h6:(6:Int).toNat=6:=rfl;have hi1:(Tryz.prog.info? 123).isSome=true:=by kernel_rfl
  have hi2:(Tryz.prog.info? 92).isSome=true:=by kernel_rfl
  refine ax (ah xb (ah UR (ah (uK jy) (ah FX aj)))) (by kernel_rfl) fn18 (by simp) ?_;unfold body18 dz;apply af;·simp(config := { maxSteps := 3000000 });exact⟨rfl,rfl⟩
  apply af;·simp(config := { maxSteps := 3000000 }) [h6,l9];exact⟨rfl,rfl⟩
  have hA:=uo b;generalize bZ b 0 6=A at*;obtain⟨la,a,ea⟩:=A;by_cases he:ea=0;rotate_left;·simp(config := { maxSteps := 3000000 }) [he,hi1,hi2,zD]
  subst he;obtain⟨x0,x1,x2,x3,x4,x5,rfl,k1,k2⟩:=hA rfl;have k3:-9223372036854775808≤a:=by have:(0:Int)≤a:=k1;omega
  have k4:a≤9223372036854775807:=by have:a≤b.length:=k2;omega
  apply af;·simp(config := { maxSteps := 3000000 });exact⟨rfl,rfl⟩
  apply af;·simp(config := { maxSteps := 3000000 }) [l8,k3,k4];exact⟨rfl,rfl⟩
  have hP:=wD b a;dsimp only;generalize cu b a=Q at*;obtain⟨ps,q,ep⟩:=Q;by_cases hp:ep=0;rotate_left;·simp(config := { maxSteps := 3000000 }) [hp,hi1,hi2,zD]
  subst hp;obtain⟨m1,m2⟩:=hP rfl;have m3:-9223372036854775808≤q:=by have:(0:Int)≤q:=m1;omega
  have m4:q≤9223372036854775807:=by have:q≤b.length:=m2;omega
  apply af;·simp(config := { maxSteps := 3000000 });exact⟨rfl,rfl⟩
  have r0:rowAt (bH [x0,x1,x2,x3,x4,x5]) 0=[.int .u64 x0]:=rfl;have r1:rowAt (bH [x0,x1,x2,x3,x4,x5]) 1=[.int .u64 x1]:=rfl;have r2:rowAt (bH [x0,x1,x2,x3,x4,x5]) 2=[.int .u64 x2]:=rfl;have r3:rowAt (bH [x0,x1,x2,x3,x4,x5]) 3=[.int .u64 x3]:=rfl;have r4:rowAt (bH [x0,x1,x2,x3,x4,x5]) 4=[.int .u64 x4]:=rfl;have r5:rowAt (bH [x0,x1,x2,x3,x4,x5]) 5=[.int .u64 x5]:=rfl;by_cases h4:1<x4;·simp(config := { maxSteps := 3000000 }) [r4,r5,h4,hi1,hi2,zD]
  by_cases h5:1<x5;·simp(config := { maxSteps := 3000000 }) [r4,r5,h4,h5,hi1,hi2,zD]
  apply af;·simp(config := { maxSteps := 3000000 }) [r4,r5,h4,h5];exact⟨rfl,rfl⟩
  apply af;·simp(config := { maxSteps := 3000000 }) [l9,m3,m4];exact⟨rfl,rfl⟩
  have hT:=ll b q;have hN:=lT b q;dsimp only;generalize ba b q=T at*;obtain⟨s,t,et⟩:=T;by_cases ht:et=0;rotate_left;·simp(config := { maxSteps := 3000000 }) [ht,h4,h5,hi1,hi2,zD]
  subst ht;apply af;·simp(config := { maxSteps := 3000000 });exact⟨rfl,rfl⟩
  have hN:s.length≤b.length:=hN rfl;have lN:s.length≤100000000:=by omega
  by_cases hq:t<b.length;·simp(config := { maxSteps := 3000000 }) [hq,h4,h5,hi1,hi2,zD]
  apply af;·simp(config := { maxSteps := 3000000 }) [hq];exact⟨rfl,rfl⟩
  apply af;·simp(config := { maxSteps := 3000000 }) [lN];exact⟨rfl,rfl⟩
  dsimp only;generalize ca s=V at*;obtain⟨vs,ev⟩:=V;by_cases hv:ev=0;rotate_left;·simp(config := { maxSteps := 3000000 }) [hv,hq,h4,h5,hi1,hi2,zD]
  subst hv;apply af;·simp(config := { maxSteps := 3000000 });exact⟨rfl,rfl⟩
  simp(config := { maxSteps := 3000000 }) [r0,r1,r2,r3,r4,r5,hq,h4,h5]
 ·cases h
theorem wo (b:Bool):¬1<bJ b:=by cases b<;>decide
theorem tQ (b:Bool):decide (bJ b=1)=b:=by cases b<;>rfl
theorem zL {l:List Vn} (h:(cS l).2=0):bD l=true∧ia l=true∧(cS l).1=dY l:=by
 unfold cS at h ⊢;split at h;·rename_i h1;rw[if_pos h1];exact⟨h1.1,h1.2,rfl⟩
 ·cases h
theorem Bk {d:Dc} (h:(pJ d).2=0):(cS d.vs).2=0∧eb d.ps=true∧(pJ d).1=eH [d.l.e,d.l.p,d.l.i,d.l.u,bJ d.l.h,bJ d.sl]++(gg d.ps++df (cS d.vs).1):=by
 unfold pJ at h ⊢;split at h;·cases h
 ·rename_i h1;rw[if_neg h1];refine⟨Classical.byContradiction fun h2=>h1 (Or.inl h2),?_,rfl⟩;cases hr:eb d.ps;·exact absurd (Or.inr hr) h1
  ·rfl
theorem zE {d:Dc} (h:(pJ d).2=0) (ok:vV d):dz (pJ d).1=(d,0):=by
 obtain⟨hv,hr,hb⟩:=Bk h;obtain⟨v1,v2,v3⟩:=zL hv;obtain⟨l1,o1,l2,o2,⟨o3,o4,o5,o6⟩,l3⟩:=ok;rw[v3]at hb l3;rw[hb];generalize hB:eH [d.l.e,d.l.p,d.l.i,d.l.u,bJ d.l.h,bJ d.sl]++(gg d.ps++df (dY d.vs))=B;have hA:bZ B 0 6=([d.l.e,d.l.p,d.l.i,d.l.u,bJ d.l.h,bJ d.sl],((0+(eH [d.l.e,d.l.p,d.l.i,d.l.u,bJ d.l.h,bJ d.sl]).length:Nat):Int),0):=by have:=ma (b:=B) [d.l.e,d.l.p,d.l.i,d.l.u,bJ d.l.h,bJ d.sl] 0 (gg d.ps++df (dY d.vs)) (by rw[List.drop_zero,←hB]) (ve o3 o4 o5 o6);unfold bZ;have e:az B 6 0=([d.l.e,d.l.p,d.l.i,d.l.u,bJ d.l.h,bJ d.sl],((0+(eH [d.l.e,d.l.p,d.l.i,d.l.u,bJ d.l.h,bJ d.sl]).length:Nat):Int),0):=this;rw[e,if_neg (by simp)]
 generalize hq:eH [d.l.e,d.l.p,d.l.i,d.l.u,bJ d.l.h,bJ d.sl]=X at*;rw[Nat.zero_add]at hA;have h1:B.drop X.length=gg d.ps++df (dY d.vs):=by rw[←hB,List.drop_left]
 have hP:=By h1 o2 (by omega) hr;have h2:B.drop (X.length+(gg d.ps).length)=df (dY d.vs)++[]:=by rw[←List.drop_drop,h1,List.drop_left,List.append_nil]
 have hT:=pA h2 (by omega);have hl:B.length=X.length+(gg d.ps).length+(df (dY d.vs)).length:=by rw[←hB];simp only[List.length_append];omega
 have hV:ca (dY d.vs)=(d.vs,0):=zb v1 (fun e he=>⟨⟨(o1 e he).1,List.all_eq_true.1 v2 e he⟩,by have:=(o1 e he).2;omega⟩) (by omega);obtain⟨⟨e,p,i,u,h'⟩,ps,vs,sl⟩:=d;unfold dz;rw[hA];dsimp only at*;rw[if_neg (by simp),hP];dsimp only;rw[if_neg (by simp),if_neg (by show¬(1<bJ h'∨1<bJ sl);exact fun hx=>hx.elim (wo _) (wo _)),hT];dsimp only;rw[if_neg (by simp),if_neg (by omega),hV];rw[if_neg (by simp)];show((⟨⟨e,p,i,u,decide (bJ h'=1)⟩,ps,vs,decide (bJ sl=1)⟩:Dc),(0:Int))=_;rw[tQ,tQ]
theorem yw (b:List UInt8):(dz b).1.ps.length≤b.length+1∧(dz b).1.vs.length≤b.length:=by
 have z:zD.ps.length≤b.length+1∧zD.vs.length≤b.length:=⟨Nat.zero_le _,Nat.zero_le _⟩;unfold dz;split;·exact z
 split;·exact z
 split;·exact z
 split;·exact z
 rename_i h4;split;·exact z
 split;·exact z
 have h5:=zT (ba b (cu b (bZ b 0 6).2.1).2.1).1;have h6:=lT b (cu b (bZ b 0 6).2.1).2.1 (by simpa using h4);exact⟨Cd b _,Nat.le_trans h5 h6⟩
end Go.Proofs.YtlmkcmfmfahcfaaGreat.Ab
