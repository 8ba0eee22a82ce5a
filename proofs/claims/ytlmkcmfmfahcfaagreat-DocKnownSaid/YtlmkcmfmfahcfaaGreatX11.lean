/- Chapter 16: is a record right? (walked at the machine). -/
import Derived.Test.YtlmkcmfmfahcfaaGreatX10
import Derived.Sort.Defs
import Derived.Sort.WalkC
set_option linter.unusedVariables false
set_option linter.unusedSimpArgs false
set_option linter.unnecessarySimpa false
set_option maxHeartbeats 40000000
set_option maxRecDepth 100000
namespace Go.Proofs.YtlmkcmfmfahcfaaGreat.Ab
open Go Go.RowKit R
def fR:List (Int×List Nat):=[(1,[0,1]),(2,[0,1]),(3,[0]),(4,[0,2,4,5]),(5,[2,1]),(6,[2]),(7,[]),(8,[3]),(9,[6]),(10,[6]),(11,[6,7])]
def iG (k:Int):List (Int×List Nat)→Option (List Nat)|[]=>none|x::l=>if k=x.1 then some x.2 else iG k l
def bM (r:Rc):Bool:=match iG r.k fR with|none=>false|some ps=>!decide (65535<r.z)&&!decide (4294967295<r.m)&&!(rG ps ({r with p:=0,i:=0,s:=0},false)).2&&decide ((rG ps ({r with p:=0,i:=0,s:=0},false)).1=⟨r.k,0,0,0,0,0,0,0,0,0,[],[]⟩)
theorem getK (k:Int):lf (.int .u8 k) jZ=(iG k fR).map fun l=>gr (l.map fun n:Nat=>(n:Int)):=by
 have:∀l:List (Int×List Nat),lf (.int .u8 k) (l.map fun x=>(PV.int .u8 x.1,gr (x.2.map fun n:Nat=>(n:Int))))=(iG k l).map fun l=>gr (l.map fun n:Nat=>(n:Int)):=by intro l;induction l with|nil=>rfl|cons x l ih=>rw[List.map_cons,FP,ih,iG];split<;>rfl
 exact this fR
theorem j7 {S:Nat→Prop}{w w':World}{v:Value} (h:dw S w v (.mv jZ)) (k:Int) (hw:w'.heap=w.heap):∃u,(Instr.lookup 147 v (.int .u8 k) true).run Tryz.prog w'=.ok (.tuple #[u,.bool (iG k fR).isSome]) w'∧dw S w u (((iG k fR).map fun l=>gr (l.map fun n:Nat=>(n:Int))).getD .nil):=by cases h with|mv b us c es g1 g2 g3 g4 g5 g6=>
 have hm:ji Tryz.prog 147=some (5,145):=by kernel_rfl
 have hsrt:jT Tryz.prog 5=some 6:=by kernel_rfl
 have hz:zeroV Tryz.prog 145=some (.slice none 0 0):=by kernel_rfl
 have hmt:=fu hm;obtain⟨d,hdk,hkey⟩:=gw hsrt;have hp:dk (.int .u8 k)=6:=rfl;have hks:fC 6 jZ:=by simp[jZ,Bx,dk,mK]
 have hzr:(zeroValue 145).run Tryz.prog w'=.ok (.slice none 0 0) w':=by unfold zeroV at hz;obtain⟨i,hi,hz⟩:=Option.bind_eq_some_iff.1 hz;simp[zeroValue,typeInfo,hi,hz]
 have hh:w'.heap[b]?=some (.map us c):=by rw[hw];exact g2
 have hfind:=iq hkey hp (by decide) us.toList jZ 0 hks g4 fun i e u h1 h2=>(g5 i e u h1 h2).1;have gk:=getK k;rcases hfind with⟨h1,h2,_⟩|⟨j,e,u,h1,h2,h3,h4,h5,_⟩;·rw[h2]at gk;cases hf:iG k fR with|some l=>rw[hf]at gk;cases gk|none=>refine⟨.slice none 0 0,?_,.nil⟩;show(Instr.lookup 147 (.map (some b)) (Ab.bZ (.int .u8 k)) true).run Tryz.prog w'=_;simp[Instr.lookup,run_underlying hmt,MapKept.run_getObj_map hh,MapKept.run_checkKey hdk (hkey _ hp),MapKept.run_findKey hdk h1,hzr,Result.andThen]
 ·rw[h5]at gk;cases hf:iG k fR with|none=>rw[hf]at gk;cases gk|some l=>
   rw[hf]at gk;refine⟨u.val,?_,?_⟩;·show(Instr.lookup 147 (.map (some b)) (Ab.bZ (.int .u8 k)) true).run Tryz.prog w'=_;simp[Instr.lookup,run_underlying hmt,MapKept.run_getObj_map hh,MapKept.run_checkKey hdk (hkey _ hp),MapKept.run_findKey hdk h1,Result.andThen]
   ·simp only[Option.map_some,Option.some.injEq]at gk;rw[Option.map_some,Option.getD_some,←gk];exact g6 j e u h2 h3
theorem jo (w:World):Calls Tryz.prog 88 #[] w fun e w'=>∃v,e=.returned v∧dw (fun b=>w.heap.size≤b∧b<w'.heap.size) w' v (.mv jZ)∧Below w.heap.size w w':=by
 have hc:=IQ [] True _ rfl trivial;have h:=hc w (fun _=>False) (fun _=>.nilIface) [] (fun b hb=>hb.elim) (fun t b ⟨o,ho⟩=>by simp[ab]at ho) ⟨fun t o ho=>by simp[ab]at ho,fun t t' b ⟨o,ho⟩=>by simp[ab]at ho⟩ rfl fun i v x hi=>by simp at hi
 refine h.mono ?_;rintro e w' ⟨v,β',rfl,hf,_,_,hv⟩;exact⟨v,rfl,hv.bD.mono fun b hb=>⟨⟨hb.1.elim False.elim id,hb.2.1⟩,rfl⟩,hf.os,hf.tape,hf.output,hf.size,fun k hk=>hf.block k hk fun⟨t,o,ho,_⟩=>by simp[ab]at ho⟩
theorem iD {W:World}{b:Nat}{r:Rc} (h:W.heap[b]?=some (.cells (recC r) 33 (0,0))):W.cell? ⟨b,0,none⟩=some (.int .u8 r.k)∧W.cell? ⟨b,1,none⟩=some (.int .u64 r.p)∧W.cell? ⟨b,2,none⟩=some (.int .u64 r.i)∧W.cell? ⟨b,3,none⟩=some (.int .u64 r.s)∧W.cell? ⟨b,4,none⟩=some (.int .u64 r.e)∧W.cell? ⟨b,5,none⟩=some (.int .u64 r.u)∧W.cell? ⟨b,6,none⟩=some (.int .u64 r.v)∧W.cell? ⟨b,7,none⟩=some (.int .u64 r.c)∧W.cell? ⟨b,8,none⟩=some (.int .u64 r.z)∧W.cell? ⟨b,9,none⟩=some (.int .u64 r.m)∧W.cell? ⟨b,10,none⟩=some (.string ⟨r.n.toArray⟩)∧W.cell? ⟨b,11,none⟩=some (.string ⟨r.t.toArray⟩):=by
 have g:∀i v,(recC r)[i]?=some v→W.cell? ⟨b,i,none⟩=some v:=fun i v hv=>by rw[Lib.cell_of_heap h];exact hv
 exact⟨g 0 _ rfl,g 1 _ rfl,g 2 _ rfl,g 3 _ rfl,g 4 _ rfl,g 5 _ rfl,g 6 _ rfl,g 7 _ rfl,g 8 _ rfl,g 9 _ rfl,g 10 _ rfl,g 11 _ rfl⟩
theorem Bu {n:Nat}{W:World}{u:Value}{ps:List Nat} (h:dw (fun b=>n≤b∧b<W.heap.size) W u (gr (ps.map fun n:Nat=>(n:Int)))):∃A c,u=.slice A ps.length c∧ps.length≤c∧(0<ps.length→∃b o,A=some ⟨b,o,none⟩∧n≤b∧b<W.heap.size∧∀i (h:i<ps.length),W.cell? ⟨b,o+i,none⟩=some (.int .u8 ps[i])):=by
 obtain⟨A,c,hv,hc,hne⟩:=dw.kv h;simp only[List.length_map]at hv hc;refine⟨A,c,hv,hc,fun hp=>?_⟩;obtain⟨ad,sz,us,rfl,g1,g2,g3,g4,g5⟩:=hne (by intro e;have:=congrArg List.length e;simp only[List.length_map,List.length_nil]at this;omega);have hsz:sz=1:=by rw[←g2 [.int .u8 ((ps[0]:Nat):Int)] (by simp only[List.map_map,List.mem_map];exact⟨ps[0],List.getElem_mem hp,rfl⟩)];rfl
 subst hsz;have hcl:∀i (h:i<ps.length),W.cell? (ad.add i)=some (.int .u8 ps[i]):=by
  intro i hi;have hr:((ps.map fun n:Nat=>(n:Int)).map fun n=>[PV.int .u8 n])[i]?=some [.int .u8 ps[i]]:=by simp[hi]
  have h1:=g3 i 0 (by simpa using hi) (by omega);have h2:=(g5 i 0 _ _ hr rfl).ba;rw[h2]at h1;simpa using h1
 obtain⟨b,o,sp⟩:=ad;have hsp:sp=none:=by have hx:=hcl 0 hp;cases sp with|none=>rfl|some s=>exfalso;simp[Addr.add,World.cell?]at hx;try(split at hx<;>simp at hx)
 subst hsp;exact⟨b,o,rfl,g1.1,g1.2,fun i hi=>by have:=hcl i hi;rw[Addr.add_lit]at this;exact this⟩
theorem jM (W:World) (o1 o2:Obj):((W.alloc o1).alloc o2).heap.size=W.heap.size+2:=by show((W.heap.push _).push _).size=_;simp
theorem S4 (W:World) (o1 o2:Obj):((W.alloc o1).alloc o2).heap[W.heap.size+1]?=some o2:=by show((W.heap.push _).push _)[W.heap.size+1]?=_;rw[Array.getElem?_push,if_pos (by simp)]
theorem Wi (W:World) (o1 o2:Obj):((W.alloc o1).alloc o2).heap[W.heap.size]?=some o1:=by show((W.heap.push _).push _)[W.heap.size]?=_;rw[Array.getElem?_push,if_neg (by simp),Array.getElem?_push,if_pos rfl]
theorem Ic (W:World) (o1 o2:Obj) (k:Nat) (hk:k<W.heap.size):((W.alloc o1).alloc o2).heap[k]?=W.heap[k]?:=by show((W.heap.push _).push _)[k]?=_;rw[Array.getElem?_push,if_neg (by simp;omega),Array.getElem?_push,if_neg (by omega)]
theorem Hr {k:Int}{ps:List Nat} (h:iG k fR=some ps):ps.length≤8∧∀q∈ps,q<8:=by
 simp only[fR,iG]at h;repeat' split at h
 all_goals first|cases h;decide|cases h
theorem Bs (r:Rc) (w:World):Calls Tryz.prog 34 #[.agg (recC r)] w fun e w'=>e=.returned (.bool (bM r))∧Below w.heap.size w w':=by
 go_enter Tryz.func34,Tryz.ntmps34;have hrec:recC r=#[.int .u8 r.k,.int .u64 r.p,.int .u64 r.i,.int .u64 r.s,.int .u64 r.e,.int .u64 r.u,.int .u64 r.v,.int .u64 r.c,.int .u64 r.z,.int .u64 r.m,.string ⟨r.n.toArray⟩,.string ⟨r.t.toArray⟩]:=rfl;go_wp2;have h0:(w.alloc (Obj.cells (recC r) 33)).heap[w.heap.size]?=some (.cells (recC r) 33 (0,0)):=by show(w.heap.push _)[w.heap.size]?=_;simp
 have hb0:Below w.heap.size w (w.alloc (Obj.cells (recC r) 33)):=(Below.refl _ w).alloc (Nat.le_refl _) _;rw[hrec]at h0 hb0;revert h0 hb0;generalize w.alloc (Obj.cells #[.int .u8 r.k,.int .u64 r.p,.int .u64 r.i,.int .u64 r.s,.int .u64 r.e,.int .u64 r.u,.int .u64 r.v,.int .u64 r.c,.int .u64 r.z,.int .u64 r.m,.string ⟨r.n.toArray⟩,.string ⟨r.t.toArray⟩] 33)=W0;intro h0 hb0;rw[←hrec]at h0;have c1:=(iD h0).1;clear hrec;generalize hbb:w.heap.size=b at h0 hb0 c1 ⊢;have bel:∀W1:World,Below W0.heap.size W0 W1→Below b w W1:=fun W1 hb=>⟨hb.os.trans hb0.os,hb.tape.trans hb0.tape,hb.output.trans hb0.output,Nat.le_trans hb0.size hb.size,fun k hk=>(hb.block k (Nat.lt_of_lt_of_le (hbb▸hk) hb0.size)).trans (hb0.block k hk)⟩;cases hf:iG r.k fR with
 |none=>
  have hR:bM r=false:=by simp[bM,hf]
  go_region_with(go_at_call 88;refine(jo _).mono ?_;rintro e W1 ⟨v,rfl,hv,hb⟩;obtain⟨u,hl,hu⟩:=j7 hv r.k (w':=W1) rfl;replace hb:Below W0.heap.size W0 W1:=⟨hb.os,hb.tape,hb.output,hb.size,hb.block⟩;have h1:W1.heap[b]?=some (.cells (recC r) 33 (0,0)):=(hb.block b (Array.getElem?_eq_some_iff.1 h0).1).trans h0;have c2:=(iD h1).1;rw[hf]at hl);all_goals go_wp2;go_ret;exact⟨by rw[hR];rfl,hbb▸bel _ hb⟩|some ps=>
  obtain⟨hl8,hq8⟩:=Hr hf;by_cases hz:65535<r.z
  ·have hR:bM r=false:=by simp[bM,hf,hz]
   go_region_with(go_at_call 88;refine(jo _).mono ?_;rintro e W1 ⟨v,rfl,hv,hb⟩;obtain⟨u,hl,hu⟩:=j7 hv r.k (w':=W1) rfl;replace hb:Below W0.heap.size W0 W1:=⟨hb.os,hb.tape,hb.output,hb.size,hb.block⟩;have h1:W1.heap[b]?=some (.cells (recC r) 33 (0,0)):=(hb.block b (Array.getElem?_eq_some_iff.1 h0).1).trans h0;have hlt:=(Array.getElem?_eq_some_iff.1 h1).1;obtain⟨c2,d1,d2,d3,d4,d5,d6,d7,c3,c4,d8,d9⟩:=iD h1;rw[hf]at hl);all_goals go_wp2;go_ret;exact⟨by rw[hR];rfl,hbb▸bel _ hb⟩
  by_cases hm:4294967295<r.m
  ·have hR:bM r=false:=by simp[bM,hf,hm]
   go_region_with(go_at_call 88;refine(jo _).mono ?_;rintro e W1 ⟨v,rfl,hv,hb⟩;obtain⟨u,hl,hu⟩:=j7 hv r.k (w':=W1) rfl;replace hb:Below W0.heap.size W0 W1:=⟨hb.os,hb.tape,hb.output,hb.size,hb.block⟩;have h1:W1.heap[b]?=some (.cells (recC r) 33 (0,0)):=(hb.block b (Array.getElem?_eq_some_iff.1 h0).1).trans h0;have hlt:=(Array.getElem?_eq_some_iff.1 h1).1;obtain⟨c2,d1,d2,d3,d4,d5,d6,d7,c3,c4,d8,d9⟩:=iD h1;rw[hf]at hl);all_goals go_wp2;go_ret;exact⟨by rw[hR];rfl,hbb▸bel _ hb⟩
  have hR:bM r=(!(rG ps ({r with p:=0,i:=0,s:=0},false)).2&&decide ((rG ps ({r with p:=0,i:=0,s:=0},false)).1=⟨r.k,0,0,0,0,0,0,0,0,0,[],[]⟩)):=by unfold bM;rw[hf];dsimp only;rw[decide_eq_false hz,decide_eq_false hm];rfl
  go_region_with(go_at_call 88;refine(jo _).mono ?_;rintro e W1 ⟨v,rfl,hv,hb⟩;obtain⟨u,hl,hu⟩:=j7 hv r.k (w':=W1) rfl;replace hb:Below W0.heap.size W0 W1:=⟨hb.os,hb.tape,hb.output,hb.size,hb.block⟩;have h1:W1.heap[b]?=some (.cells (recC r) 33 (0,0)):=(hb.block b (Array.getElem?_eq_some_iff.1 h0).1).trans h0;have hlt:=(Array.getElem?_eq_some_iff.1 h1).1;obtain⟨c2,d1,d2,d3,d4,d5,d6,d7,c3,c4,d8,d9⟩:=iD h1;rw[hf]at hl);all_goals
   rw[hf]at hu;obtain⟨A,c,rfl,hc,hA⟩:=Bu hu;have t2:=Ic W1 (Obj.cells #[.bool false] 151) (Obj.cells (recC r) 33);go_wp2_with(go_at_call 89;refine(Mi r false ps hq8 hl8 _ (W1.heap.size+1) W1.heap.size (by omega) ?hlr ?hlt A c hc ?hA ?h1 ?h2).mono ?_);case hlr=>rw[jM];omega
   case hlt=>rw[jM];omega
   case hA=>
    intro hp;obtain⟨bb,o,rfl,e1,e2,e3⟩:=hA hp;refine⟨bb,o,rfl,by omega,by omega,?_,fun i hi=>?_⟩;·rw[jM];omega
    ·rw[←e3 i hi];unfold World.cell?;rw[←t2 bb e2];rfl
   case h1=>exact S4 _ _ _
   case h2=>exact Wi _ _ _
   rintro e W2 ⟨rfl,hV⟩;have s1:W2.heap[b]?=some (.cells (recC r) 33 (0,0)):=by rw[hV.block b (by rw[jM];omega) (by omega) (by omega)];exact(t2 b hlt).trans h1
   have s2:W2.cell? ⟨W1.heap.size,0,none⟩=some (.bool (rG ps ({r with p:=0,i:=0,s:=0},false)).2):=by rw[Lib.cell_of_heap hV.ht];rfl
   have B1:=bel _ hb;have bel2:Below b w W2:=⟨hV.os.trans B1.os,hV.tape.trans B1.tape,hV.output.trans B1.output,by have:=hV.size;rw[jM]at this;omega,fun k hk=>(hV.block k (by rw[jM];omega) (by omega) (by omega)).trans ((t2 k (by omega)).trans (B1.block k hk))⟩;have hr2:=hV.hr;clear hV t2 d1 d2 d3 d4 d5 d6 d7 d8 d9 hA c2 c3 c4 c1 hv hl hu h1;revert hR s2 hr2;generalize rG ps ({r with p:=0,i:=0,s:=0},false)=x;obtain⟨⟨xk,xp,xi,xs,xe,xu,xv,xc,xz,xm,xn,xt⟩,bx⟩:=x;intro hR s2 hr2;have c1:=(iD s1).1;obtain⟨d0,d1,d2,d3,d4,d5,d6,d7,d8,d9,d10,d11⟩:=iD hr2;cases bx with|true=>go_wp2;go_ret;exact⟨by rw[hR];rfl,hbb▸bel2⟩|false=>
    go_wp2;all_goals go_ret
    all_goals refine⟨?_,hbb▸bel2⟩
    all_goals rw[hR]
    all_goals simp[*]
theorem Hs {P:Program}{f:FuncId}{args:List AV}{p:PV}{u:Value} (h:∀(w:World) (S:Nat→Prop) (vals:List Value),vals.length=args.length→(∀(i:Nat) (x:Value) (y:AV),vals[i]?=some x→args[i]?=some y→RV P S w (fun _=>.nilIface) (fun _=>False) x y)→Calls P f vals.toArray w fun e w'=>e=.returned u∧Below w.heap.size w w') (hu:∀S w,dw S w u p):za P f [] args [] (.pv p):=by
 intro w S0 β vals hS0 hlt hheap hvl hvr;have hno:∀t,b8 (ab []) (fun t=>dN (cellAt (.pv p) t)) t=none:=by
  intro t;show dN (cellAt (.pv p) t)=none;simp only[cellAt,b6];split;·split<;>rfl
  ·rfl
 refine(h w (aS S0 w.heap.size β (ab []) w) vals hvl fun i x y hx hy=>?_).mono ?_;·exact(hvr i x y hx hy).mono (fun b hb=>⟨hb,rfl⟩) (fun t ⟨o,ho⟩=>by simp[ab]at ho)
 ·rintro e w' ⟨rfl,hb⟩;refine⟨_,fun _=>.nilIface,rfl,⟨hb.os,hb.tape,hb.output,hb.size,fun k hk _=>hb.block k hk⟩,⟨fun t o ho=>?_,fun t t' b ⟨o,ho⟩=>?_⟩,fun t b ⟨o,ho⟩=>?_,.pv _ _ (hu _ _)⟩;·rw[hno]at ho;cases ho
  ·rw[hno]at ho;cases ho
  ·rw[hno]at ho;cases ho
def bf (r:Rc):List AV:=[.pv (.int .u8 r.k),.pv (.int .u64 r.p),.pv (.int .u64 r.i),.pv (.int .u64 r.s),.pv (.int .u64 r.e),.pv (.int .u64 r.u),.pv (.int .u64 r.v),.pv (.int .u64 r.c),.pv (.int .u64 r.z),.pv (.int .u64 r.m),.pv (.str r.n),.pv (.str r.t)]
@[simp] def GP:List AV→Option (Prop×AV)|[.agg [.pv (.int .u8 k),.pv (.int .u64 p),.pv (.int .u64 i),.pv (.int .u64 s),.pv (.int .u64 e),.pv (.int .u64 u),.pv (.int .u64 v),.pv (.int .u64 c),.pv (.int .u64 z),.pv (.int .u64 m),.pv (.str n),.pv (.str t)]]=>some (True,.pv (.bool (bM ⟨k,p,i,s,e,u,v,c,z,m,n,t⟩)))|_=>none
theorem JG:aO Tryz.prog 34 GP:=by
 intro ys φ r h hφ;unfold GP at h;split at h;·rename_i k p i s e u v c z m n t;cases h;refine Hs (u:=.bool (bM ⟨k,p,i,s,e,u,v,c,z,m,n,t⟩)) (fun w S vals hvl hvr=>?_) fun S w=>.bool _;match vals,hvl with|[v0],_=>obtain⟨us,rfl,hl,hus⟩:=(hvr 0 v0 _ rfl rfl).dj;match us,hl with|[a0,a1,a2,a3,a4,a5,a6,a7,a8,a9,a10,a11],_=>cases(hus 0 _ a0 rfl rfl).ba;cases(hus 1 _ a1 rfl rfl).ba;cases(hus 2 _ a2 rfl rfl).ba;cases(hus 3 _ a3 rfl rfl).ba;cases(hus 4 _ a4 rfl rfl).ba;cases(hus 5 _ a5 rfl rfl).ba;cases(hus 6 _ a6 rfl rfl).ba;cases(hus 7 _ a7 rfl rfl).ba;cases(hus 8 _ a8 rfl rfl).ba;cases(hus 9 _ a9 rfl rfl).ba;cases(hus 10 _ a10 rfl rfl).eY;cases(hus 11 _ a11 rfl rfl).eY;exact Bs ⟨k,p,i,s,e,u,v,c,z,m,n,t⟩ w
 ·cases h
@[simp] def iF (ys:List AV) (K:Rc→Option (Prop×AV)):Option (Prop×AV):=match ys with|[.pv (.int .u8 k),.pv (.int .u64 p),.pv (.int .u64 i),.pv (.int .u64 s),.pv (.int .u64 e),.pv (.int .u64 u),.pv (.int .u64 v),.pv (.int .u64 c),.pv (.int .u64 z),.pv (.int .u64 m),.pv (.str n),.pv (.str t)]=>K ⟨k,p,i,s,e,u,v,c,z,m,n,t⟩|_=>none
theorem dM {ys:List AV}{K:Rc→Option (Prop×AV)}{x:Prop×AV} (h:iF ys K=some x):∃r,ys=bf r∧K r=some x:=by
 unfold iF at h;split at h;·exact⟨_,rfl,h⟩
 ·cases h
theorem KC {a b:Rc}:a=b↔a.k=b.k∧a.p=b.p∧a.i=b.i∧a.s=b.s∧a.e=b.e∧a.u=b.u∧a.v=b.v∧a.c=b.c∧a.z=b.z∧a.m=b.m∧a.n=b.n∧a.t=b.t:=by cases a;cases b;simp
@[simp] def KI:List AV→Option (Prop×AV)|[.agg ys]=>iF ys fun r=>some (True,.agg (bf r))|_=>none
theorem N1:aO Tryz.prog 11 KI:=by
 intro ys φ r h hφ;unfold KI at h;split at h;·obtain⟨r,rfl,h1⟩:=dM h;cases h1;refine aw ah (by kernel_rfl) (by conv=>lhs;reduce) (by simp) ?_;simp(config := { maxSteps := 3000000 }) [bf]
 ·cases h
def GA (r:Rc) (c:Int):Int:=if c=101 then r.e else if c=117 then r.u else if c=118 then r.v else if c=115 then r.z else if c=99 then r.m else r.c
def uK (r:Rc) (c:Int):List UInt8:=if c=110 then r.n else r.t
def zY (x:Rc) (c n:Int) (s:List UInt8):Rc:=if c=101 then{x with e:=n} else if c=117 then{x with u:=n} else if c=118 then{x with v:=n} else if c=115 then{x with z:=n} else if c=99 then{x with m:=n} else if c=107 then{x with c:=n} else if c=110 then{x with n:=s} else{x with t:=s}
def Dt (c:Int):Bool:=decide (c=110)||decide (c=116)
def AS:List (List UInt8):=[[],[101,117],[101,117],[101],[101,118,115,99],[118,117],[118],[],[107],[110],[110],[110,116]]
def lG (k:Int):List UInt8:=if 11<k then[] else(AS[k.toNat]?).getD []
@[simp] def K0:List AV→Option (Prop×AV)|[.agg ys,.pv (.int .u8 c)]=>iF ys fun r=>some (True,.pv (.int .u64 (GA r c)))|_=>none
theorem MW:aO Tryz.prog 64 K0:=by
 intro ys φ r h hφ;unfold K0 at h;split at h
 ·rename_i ys c;obtain⟨r,rfl,h1⟩:=dM h;cases h1;refine aw ah (by kernel_rfl) (by conv=>lhs;reduce) (by simp) ?_;unfold GA;by_cases h1:c=101;·simp(config := { maxSteps := 3000000 }) [bf,h1]
  by_cases h2:c=117;·simp(config := { maxSteps := 3000000 }) [bf,h2]
  by_cases h3:c=118;·simp(config := { maxSteps := 3000000 }) [bf,h3]
  by_cases h4:c=115;·simp(config := { maxSteps := 3000000 }) [bf,h4]
  by_cases h5:c=99;·simp(config := { maxSteps := 3000000 }) [bf,h5]
  simp(config := { maxSteps := 3000000 }) [bf,h1,h2,h3,h4,h5]
 ·cases h
@[simp] def Kw:List AV→Option (Prop×AV)|[.agg ys,.pv (.int .u8 c)]=>iF ys fun r=>some (True,.pv (.str (uK r c)))|_=>none
theorem ON:aO Tryz.prog 65 Kw:=by
 intro ys φ r h hφ;unfold Kw at h;split at h;·rename_i ys c;obtain⟨r,rfl,h1⟩:=dM h;cases h1;refine aw ah (by kernel_rfl) (by conv=>lhs;reduce) (by simp) ?_;unfold uK;by_cases h1:c=110<;>simp(config := { maxSteps := 3000000 }) [bf,h1]
 ·cases h
@[simp] def Ff:List AV→Option (Prop×AV)|[.agg ys,.pv (.int .u8 c),.pv (.int .u64 n),.pv (.str s)]=>iF ys fun r=>some (True,.agg (bf (zY r c n s)))|_=>none
theorem H3:aO Tryz.prog 63 Ff:=by
 intro ys φ r h hφ;unfold Ff at h;split at h
 ·rename_i ys c n s;obtain⟨r,rfl,h1⟩:=dM h;cases h1;refine aw ah (by kernel_rfl) (by conv=>lhs;reduce) (by simp) ?_;unfold zY;by_cases h1:c=101;·simp(config := { maxSteps := 3000000 }) [bf,h1]
  by_cases h2:c=117;·simp(config := { maxSteps := 3000000 }) [bf,h2]
  by_cases h3:c=118;·simp(config := { maxSteps := 3000000 }) [bf,h3]
  by_cases h4:c=115;·simp(config := { maxSteps := 3000000 }) [bf,h4]
  by_cases h5:c=99;·simp(config := { maxSteps := 3000000 }) [bf,h5]
  by_cases h6:c=107;·simp(config := { maxSteps := 3000000 }) [bf,h6]
  by_cases h7:c=110;·simp(config := { maxSteps := 3000000 }) [bf,h7]
  simp(config := { maxSteps := 3000000 }) [bf,h1,h2,h3,h4,h5,h6,h7]
 ·cases h
@[simp] def Y0:List AV→Option (Prop×AV)|[.pv (.int .u8 c)]=>some (True,.pv (.bool (Dt c)))|_=>none
theorem WX:aO Tryz.prog 66 Y0:=by
 intro ys φ r h hφ;unfold Y0 at h;split at h;·cases h;refine aw ah (by kernel_rfl) (by conv=>lhs;reduce) (by simp) ?_;simp(config := { maxSteps := 3000000 }) [Dt]
 ·cases h
@[simp] def C9:List AV→Option (Prop×AV)|[.pv (.int .u8 k)]=>some (0≤k,.pv (.str (lG k)))|_=>none
theorem G1:aO Tryz.prog 62 C9:=by
 intro ys φ r h hφ;unfold C9 at h;split at h
 ·rename_i k;cases h;have hk0:0≤k:=hφ;refine aw ah (by kernel_rfl) (by conv=>lhs;reduce) (by simp) ?_;by_cases h1:11<k;·simp(config := { maxSteps := 3000000 }) [lG,h1]
  have hk:k=0∨k=1∨k=2∨k=3∨k=4∨k=5∨k=6∨k=7∨k=8∨k=9∨k=10∨k=11:=by omega
  rcases hk with rfl|rfl|rfl|rfl|rfl|rfl|rfl|rfl|rfl|rfl|rfl|rfl<;>simp(config := { maxSteps := 3000000 }) [lG,AS,rowAt]
 ·cases h
def HN (r x:Rc) (c:UInt8):Rc:=zY x (c.toNat:Int) (GA r (c.toNat:Int)) (uK r (c.toNat:Int))
def J1 (r:Rc) (c:UInt8):Bool:=Dt (c.toNat:Int)&&(decide ((uK r (c.toNat:Int)).length<1)||decide (64<(uK r (c.toNat:Int)).length))
def Kd (r:Rc):Rc:=⟨r.k,r.p,r.i,r.s,0,0,0,0,0,0,[],[]⟩
theorem qc {r:Rc} (h:r.k<1∨11<r.k):bM r=false:=by
 have:iG r.k fR=none:=by unfold fR;simp only[iG];repeat rw[if_neg (by omega)]
 unfold bM;rw[this]
theorem wF {r:Rc} (h:65535<r.z∨4294967295<r.m):bM r=false:=by
 unfold bM;split;·rfl
 ·rcases h with h|h<;>simp[h]
theorem OW {r:Rc} (h1:1≤r.k) (h2:r.k≤11) (h3:¬65535<r.z) (h4:¬4294967295<r.m):bM r=(!(lG r.k).any (J1 r)&&decide ((lG r.k).foldl (HN r) (Kd r)=r)):=by
 obtain⟨k,p,i,s,e,u,v,c,z,m,n,t⟩:=r;have h1:1≤k:=h1;have h2:k≤11:=h2;have h3:¬65535<z:=h3;have h4:¬4294967295<m:=h4;have hk:k=1∨k=2∨k=3∨k=4∨k=5∨k=6∨k=7∨k=8∨k=9∨k=10∨k=11:=by omega
 have e1:∀l:List UInt8,decide (l.length<1)=decide (l=[]):=fun l=>decide_eq_decide.2 (by cases l<;>simp);rcases hk with rfl|rfl|rfl|rfl|rfl|rfl|rfl|rfl|rfl|rfl|rfl<;>simp[bM,iG,fR,rG,uO,VO,lG,AS,J1,Dt,uK,HN,zY,GA,Kd,h3,h4,e1,KC,eq_comm,and_comm,and_left_comm,and_assoc];simp only[Bool.and_assoc]
@[simp] def CO:List AV→Option (Prop×AV)|[.agg ys]=>iF ys fun r=>some (True,.pv (.bool (bM r)))|_=>none
theorem Gb:aO Tryz.prog 29 CO:=by
 intro ys φ r h hφ;unfold CO at h;split at h
 ·obtain⟨r,rfl,h1⟩:=dM h;cases h1;refine aw (ag G1 (ag MW (ag ON (ag H3 (ag WX ah))))) (by kernel_rfl) (by conv=>lhs;reduce) (by simp) ?_;apply af;·simp(config := { maxSteps := 3000000 }) [bf];exact⟨rfl,rfl⟩
  by_cases h1:r.k<1;·have hb:=qc (Or.inl h1);simp(config := { maxSteps := 3000000 }) [h1,hb]
  by_cases h2:11<r.k;·have hb:=qc (Or.inr h2);simp(config := { maxSteps := 3000000 }) [h1,h2,hb]
  by_cases h3:65535<r.z;·have hb:=wF (Or.inl h3);simp(config := { maxSteps := 3000000 }) [h1,h2,h3,hb]
  by_cases h4:4294967295<r.m;·have hb:=wF (Or.inr h4);simp(config := { maxSteps := 3000000 }) [h1,h2,h3,h4,hb]
  have hr6:=OW (r:=r) (by omega) (by omega) h3 h4;have hk0:0≤r.k:=by omega
  have hl10:(lG r.k).length≤4:=by
   have hk:r.k=1∨r.k=2∨r.k=3∨r.k=4∨r.k=5∨r.k=6∨r.k=7∨r.k=8∨r.k=9∨r.k=10∨r.k=11:=by omega
   rcases hk with hk|hk|hk|hk|hk|hk|hk|hk|hk|hk|hk<;>rw[hk]<;>decide
  apply af;·simp(config := { maxSteps := 3000000 }) [h1,h2,h3,h4];exact⟨rfl,rfl⟩
  apply af;·simp(config := { maxSteps := 3000000 }) [hk0];exact⟨rfl,rfl⟩
  apply af;·simp(config := { maxSteps := 3000000 });exact⟨rfl,rfl⟩
  generalize hl:lG r.k=l at*;obtain⟨k,rp,ri,rs,re,ru,rv,rc,rz,rm,rn,rt⟩:=r;rw[bd];apply af;·simp(config := { maxSteps := 3000000 });exact⟨rfl,rfl⟩
  rw[aM];refine aq (fun j:Nat=>j≤l.length∧(l.take j).any (J1 ⟨k,rp,ri,rs,re,ru,rv,rc,rz,rm,rn,rt⟩)=false) (fun j=>⟨[(1,.ptr 1 0),(2,.pv (.bool false)),(3,.pv (.str l)),(4,.ptr 4 0),(5,.pv (.int .i64 (j:Int)))],[(1,.box [.pv (.int .u8 k),.pv (.int .u64 rp),.pv (.int .u64 ri),.pv (.int .u64 rs),.pv (.int .u64 re),.pv (.int .u64 ru),.pv (.int .u64 rv),.pv (.int .u64 rc),.pv (.int .u64 rz),.pv (.int .u64 rm),.pv (.str rn),.pv (.str rt)]),(4,.box (bf ((l.take j).foldl (HN ⟨k,rp,ri,rs,re,ru,rv,rc,rz,rm,rn,rt⟩) (Kd ⟨k,rp,ri,rs,re,ru,rv,rc,rz,rm,rn,rt⟩))))]⟩) (fun j=>l.length-j) [] 0 ⟨by simp,rfl⟩ ?_ ?_;·simp[bf,Kd]
  ·rintro j ⟨hj,ht⟩;have w2:IntKind.i64.wrap ((j:Int)+1)=(j:Int)+1:=wrap_i64 (by omega);rw[kG];dsimp only;by_cases hlt:j<l.length
   ·have hg:l.getD j 0=l[j]:=by simp[hlt]
    have hF:(l.take (j+1)).foldl (HN ⟨k,rp,ri,rs,re,ru,rv,rc,rz,rm,rn,rt⟩) (Kd ⟨k,rp,ri,rs,re,ru,rv,rc,rz,rm,rn,rt⟩)=HN ⟨k,rp,ri,rs,re,ru,rv,rc,rz,rm,rn,rt⟩ ((l.take j).foldl (HN ⟨k,rp,ri,rs,re,ru,rv,rc,rz,rm,rn,rt⟩) (Kd ⟨k,rp,ri,rs,re,ru,rv,rc,rz,rm,rn,rt⟩)) l[j]:=by rw[List.take_succ_eq_append_getElem hlt,List.foldl_append];rfl
    have hA:(l.take (j+1)).any (J1 ⟨k,rp,ri,rs,re,ru,rv,rc,rz,rm,rn,rt⟩)=J1 ⟨k,rp,ri,rs,re,ru,rv,rc,rz,rm,rn,rt⟩ l[j]:=by rw[List.take_succ_eq_append_getElem hlt,List.any_append,ht];simp
    have hB:J1 ⟨k,rp,ri,rs,re,ru,rv,rc,rz,rm,rn,rt⟩ l[j]=true→bM ⟨k,rp,ri,rs,re,ru,rv,rc,rz,rm,rn,rt⟩=false:=by intro hb;have:l.any (J1 ⟨k,rp,ri,rs,re,ru,rv,rc,rz,rm,rn,rt⟩)=true:=List.any_eq_true.2 ⟨_,List.getElem_mem hlt,hb⟩;rw[hr6,this];rfl
    generalize(l.take j).foldl (HN ⟨k,rp,ri,rs,re,ru,rv,rc,rz,rm,rn,rt⟩) (Kd ⟨k,rp,ri,rs,re,ru,rv,rc,rz,rm,rn,rt⟩)=x at*;obtain⟨xk,xp,xi,xs,xe,xu,xv,xc,xz,xm,xn,xt⟩:=x;apply af;·simp(config := { maxSteps := 3000000 }) [hlt];exact⟨rfl,rfl⟩
    rw[bd,aM];apply af;·simp(config := { maxSteps := 3000000 }) [hlt,hg,bf];exact⟨rfl,rfl⟩
    rw[bd];generalize hX:HN ⟨k,rp,ri,rs,re,ru,rv,rc,rz,rm,rn,rt⟩ ⟨xk,xp,xi,xs,xe,xu,xv,xc,xz,xm,xn,xt⟩ l[j]=X at*;have hX':zY ⟨xk,xp,xi,xs,xe,xu,xv,xc,xz,xm,xn,xt⟩ (l[j].toNat:Int) (GA ⟨k,rp,ri,rs,re,ru,rv,rc,rz,rm,rn,rt⟩ (l[j].toNat:Int)) (uK ⟨k,rp,ri,rs,re,ru,rv,rc,rz,rm,rn,rt⟩ (l[j].toNat:Int))=X:=hX;have hD:J1 ⟨k,rp,ri,rs,re,ru,rv,rc,rz,rm,rn,rt⟩ l[j]=(Dt (l[j].toNat:Int)&&(decide ((uK ⟨k,rp,ri,rs,re,ru,rv,rc,rz,rm,rn,rt⟩ (l[j].toNat:Int)).length<1)||decide (64<(uK ⟨k,rp,ri,rs,re,ru,rv,rc,rz,rm,rn,rt⟩ (l[j].toNat:Int)).length))):=rfl;generalize hT:uK ⟨k,rp,ri,rs,re,ru,rv,rc,rz,rm,rn,rt⟩ (l[j].toNat:Int)=T at*;cases hI:Dt (l[j].toNat:Int) with|false=>rw[hD,hI]at hA;simp(config := { maxSteps := 3000000 }) [bf,hlt,hI,hT,hX',w2];exact⟨j+1,⟨by omega,by simpa using hA⟩,⟨by omega,by simp[hF]⟩,by omega⟩|true=>
     rw[hD,hI]at hA hB;by_cases h5:T.length<1
     ·have hf:=hB (by simp[h5]);have h5':(T.length:Int)<1:=by omega
      simp(config := { maxSteps := 3000000 }) [bf,hlt,hI,hT,hX',w2,h5',hf]
     by_cases h6:64<T.length
     ·have hf:=hB (by simp[h6]);have h5':¬(T.length:Int)<1:=by omega
      have h6':(64:Int)<T.length:=by omega
      simp(config := { maxSteps := 3000000 }) [bf,hlt,hI,hT,hX',w2,h5',h6',hf]
     ·have h5':¬(T.length:Int)<1:=by omega
      have h6':¬(64:Int)<T.length:=by omega
      simp(config := { maxSteps := 3000000 }) [bf,hlt,hI,hT,hX',w2,h5',h6'];have hA2:(decide (T.length<1)||decide (64<T.length))=false:=by rw[decide_eq_false (by omega),decide_eq_false (by omega)];rfl
      rw[hA2]at hA;exact⟨j+1,⟨by omega,by simpa using hA⟩,⟨by omega,by simp[hF]⟩,by omega⟩
   ·rw[List.take_of_length_le (by omega)]at ht;rw[List.take_of_length_le (by omega)];rw[ht]at hr6;generalize l.foldl (HN ⟨k,rp,ri,rs,re,ru,rv,rc,rz,rm,rn,rt⟩) (Kd ⟨k,rp,ri,rs,re,ru,rv,rc,rz,rm,rn,rt⟩)=x at*;obtain⟨xk,xp,xi,xs,xe,xu,xv,xc,xz,xm,xn,xt⟩:=x;simp(config := { maxSteps := 3000000 }) [hlt,bf,hr6]
 ·cases h
def lg (m:Nat):Int:=([1,4,4,5,2,4,8,6,3,1,7,4]:List Int).getD m 0
def A4 (m b s n i:Nat):Rc:=⟨lg m,1+b,1,i,if lg m=1∨lg m=2 then 1+s%2 else if lg m=3 then 1 else if lg m=4 then 1+s/3 else 0,if lg m=1 then 10 else if lg m=2 then 5*s else if lg m=5 then 4*s else 0,if lg m=4 then s%3 else if lg m=5 then 1+s else if lg m=6 then 2+s else 0,if lg m=8 then 3*s else 0,if lg m=4 then 3 else 0,if lg m=4 then n else 0,[],[]⟩
@[simp] def Kl:List AV→Option (Prop×AV)|[.pv (.int .i64 n),.pv (.int .i64 i)]=>some ((0≤n∧n≤100000)∧0≤i∧i≤100,.agg (bf (A4 (n.toNat%12) (n.toNat/12%2) (n.toNat/24%4) n.toNat i.toNat)))|_=>none
theorem Ma:aO Tryz.prog 21 Kl:=by
 intro ys φ r h hφ;unfold Kl at h;split at h
 ·rename_i n i;cases h;obtain⟨⟨h1,h2⟩,h3,h4⟩:=hφ;obtain⟨n,rfl⟩:=Int.eq_ofNat_of_zero_le h1;obtain⟨i,rfl⟩:=Int.eq_ofNat_of_zero_le h3;have e1:Int.tmod (n:Int) 12=((n%12:Nat):Int):=(Int.ofNat_tmod n 12).symm;have e2:IntKind.i64.wrap ((n:Int)/12)=((n/12:Nat):Int):=by rw[wrap_i64 (by omega)];omega
  have e3:Int.tmod ((n/12:Nat):Int) 2=((n/12%2:Nat):Int):=(Int.ofNat_tmod _ 2).symm;have e4:IntKind.i64.wrap ((n:Int)/24)=((n/24:Nat):Int):=by rw[wrap_i64 (by omega)];omega
  have e5:Int.tmod ((n/24:Nat):Int) 4=((n/24%4:Nat):Int):=(Int.ofNat_tmod _ 4).symm;have b1:n%12<12:=Nat.mod_lt _ (by decide);have b2:n/12%2<2:=Nat.mod_lt _ (by decide);have b3:n/24%4<4:=Nat.mod_lt _ (by decide);simp only[Int.toNat_natCast];generalize n/12=a at*;generalize n/24=c at*;generalize n%12=m at*;generalize a%2=b at*;generalize c%4=s at*;have hr:rowAt [[PV.int .u8 1],[.int .u8 4],[.int .u8 4],[.int .u8 5],[.int .u8 2],[.int .u8 4],[.int .u8 8],[.int .u8 6],[.int .u8 3],[.int .u8 1],[.int .u8 7],[.int .u8 4]] (m:Int)=[.int .u8 (lg m)]∧(lg m=1∨lg m=2∨lg m=3∨lg m=4∨lg m=5∨lg m=6∨lg m=7∨lg m=8):=by
   have:∀m:Fin 12,lg m=1∨lg m=2∨lg m=3∨lg m=4∨lg m=5∨lg m=6∨lg m=7∨lg m=8:=by decide
   refine⟨?_,this ⟨m,b1⟩⟩;have hm:m=0∨m=1∨m=2∨m=3∨m=4∨m=5∨m=6∨m=7∨m=8∨m=9∨m=10∨m=11:=by omega
   rcases hm with rfl|rfl|rfl|rfl|rfl|rfl|rfl|rfl|rfl|rfl|rfl|rfl<;>rfl
  obtain⟨hr,hk⟩:=hr;have w1:IntKind.i64.wrap (1+(b:Int))=1+b:=wrap_i64 (by omega);have w2:IntKind.u64.wrap (1+(b:Int))=1+b:=wrap_u64 (by omega);have w3:IntKind.u64.wrap (i:Int)=i:=wrap_u64 (by omega);have w4:IntKind.u64.wrap (s:Int)=s:=wrap_u64 (by omega);have w5:IntKind.u64.wrap (n:Int)=n:=wrap_u64 (by omega);have t1:Int.tmod (s:Int) 2=(s:Int)%2:=Int.tmod_eq_emod_of_nonneg (by omega);have t2:Int.tmod (s:Int) 3=(s:Int)%3:=Int.tmod_eq_emod_of_nonneg (by omega);have t3:IntKind.u64.wrap ((s:Int)/3)=(s:Int)/3:=wrap_u64 (by omega);have t4:IntKind.u64.wrap (1+(s:Int)%2)=1+(s:Int)%2:=wrap_u64 (by omega);have t5:IntKind.u64.wrap (1+(s:Int)/3)=1+(s:Int)/3:=wrap_u64 (by omega);have t6:IntKind.u64.wrap (5*(s:Int))=5*s:=wrap_u64 (by omega);have t7:IntKind.u64.wrap (4*(s:Int))=4*s:=wrap_u64 (by omega);have t8:IntKind.u64.wrap (3*(s:Int))=3*s:=wrap_u64 (by omega);have t9:IntKind.u64.wrap (1+(s:Int))=1+s:=wrap_u64 (by omega);have t0:IntKind.u64.wrap (2+(s:Int))=2+s:=wrap_u64 (by omega);refine aw ah (by kernel_rfl) (by conv=>lhs;reduce) (by simp) ?_;have b0:(m:Int)<12:=by omega
  apply af;·simp(config := { maxSteps := 3000000 });exact⟨rfl,rfl⟩
  unfold A4;generalize lg m=k at*;apply af;·simp(config := { maxSteps := 3000000 }) [e1,e2,e3,w1,w2,w3,hr,b0,b1];exact⟨rfl,rfl⟩
  apply af;·simp(config := { maxSteps := 3000000 }) [e4,e5,w4];exact⟨rfl,rfl⟩
  clear e1 e2 e3 e4 e5 b0 b1 b2 b3 w1 w2 w3 w4 hr;rcases hk with rfl|rfl|rfl|rfl|rfl|rfl|rfl|rfl<;>simp(config := { maxSteps := 3000000 }) [bf,w5,t1,t2,t3,t4,t5,t6,t7,t8,t9,t0]
 ·cases h
@[simp] noncomputable def Vo:List AV→Option (Prop×AV)|[.pv (.ro a)]=>(dec cM a).map fun l=>(l.length≤1000000,.fr 73 (aC l))|_=>none
theorem E0:aO Tryz.prog 79 Vo:=by
 intro ys φ r h hφ;unfold Vo at h;split at h;·rename_i ra;obtain⟨a,ha,h⟩:=Option.map_eq_some_iff.1 h;cases h;cases aD ha;refine aw ah (by kernel_rfl) (by conv=>lhs;reduce) (by simp) ?_;cases a with|nil=>simp(config := { maxSteps := 3000000 }) [th]|cons x l=>have hx:aC (x::l)=cM x::aC l:=rfl;simp(config := { maxSteps := 3000000 }) [hx,aB];simp only[List.length_cons]at hφ;exact⟨by omega,by omega,rfl,fS l⟩
 ·cases h
@[simp] def Fv:List AV→Option (Prop×AV)|[.pv (.int .u64 n),.pv (.str t)]=>some (True,.agg [.pv (.int .u64 n),.pv (.int .u64 0),.pv (.int .u64 0),.pv (.int .u64 0),.pv (.int .u64 0),.pv (.int .u64 0),.pv (.int .u64 0),.pv (.str t),.pv (.bool true),.pv (.bool false)])|_=>none
theorem Dg:aO Tryz.prog 91 Fv:=by
 intro ys φ r h hφ;unfold Fv at h;split at h;·cases h;refine aw ah (by kernel_rfl) (by conv=>lhs;reduce) (by simp) ?_;simp(config := { maxSteps := 3000000 })
 ·cases h
def df (n:Int) (t:List UInt8):Vn:=⟨n,0,0,0,0,0,0,t,true,false⟩
def kN (l:List Vn):Int:=((l.getLast?).getD v0).n
theorem kl {l:List Vn} (hr:aK l=true) {i:Nat} (h:i+1<l.length):l[i].n<l[i+1].n:=by have:=(ez l).1 hr (i+1) h;unfold gI at this;rw[Bool.and_eq_true]at this;have h1:=this.1;simp only[eS,List.getElem?_eq_getElem h,List.getElem?_eq_getElem (show i<l.length by omega),Option.getD_some,decide_eq_true_eq]at h1;exact h1
theorem iM {l:List Vn} (hr:aK l=true) {i:Nat}:∀(d:Nat) (h:i+d<l.length),l[i].n≤l[i+d].n|0,h=>Int.le_refl _|d+1,h=>by have h1:=iM hr d (show i+d<l.length by omega);have h2:=kl hr (i:=i+d) (by omega);have:l[i+(d+1)].n=l[i+d+1].n:=rfl;omega
theorem B5 {l:List Vn} (hr:aK l=true) {i:Nat} (h:i<l.length):l[i].n≤kN l:=by
 have hlt:l.length-1<l.length:=by omega
 have:=iM hr (i:=i) (l.length-1-i) (by omega);have he:i+(l.length-1-i)=l.length-1:=by omega
 simp only[he]at this;unfold kN;rw[List.getLast?_eq_getElem?,List.getElem?_eq_getElem hlt];exact this
def ln (s:List UInt8):List PV:=[.str s]
theorem Dv:∀a b,ln a=ln b→a=b:=by intro a b h;simpa[ln]using h
def eZ (l:List (List UInt8)):List (List PV):=l.map ln
@[simp] theorem OF:eZ []=[]:=rfl
@[simp] theorem Hb (l:List (List UInt8)):(eZ l).length=l.length:=by simp[eZ]
theorem pV {l:List (List UInt8)}{i:Nat} (h:i<l.length):rowAt (eZ l) (i:Int)=[.str l[i]]:=by simp[rowAt,eZ,h,ln]
@[simp] theorem LX (l:List (List UInt8)):dec ln (eZ l)=some l:=kg Dv l
theorem ej {rows:List (List PV)}{l:List (List UInt8)} (h:dec ln rows=some l):rows=eZ l:=ke h
@[simp] noncomputable def TB:List AV→Option (Prop×AV)|[.agg [.pv (.int .u64 e),.pv (.int .u64 p),.pv (.int .u64 i),.pv (.int .u64 u),.pv (.bool h),.pv (.ro a),.pv (.ro b),.pv (.bool sl)]]=>(dec rowP a).bind fun ps=>(dec cM b).map fun vs=>(ps.length≤100000∧vs.length≤100000,.agg [.pv (.int .u64 e),.pv (.int .u64 p),.pv (.int .u64 i),.pv (.int .u64 u),.pv (.bool h),.fr 94 (aF ps),.fr 73 (aC vs),.pv (.bool sl)])|_=>none
theorem KS:aO Tryz.prog 32 TB:=by
 intro ys φ r h hφ;unfold TB at h;split at h
 ·obtain⟨ps,hp,h⟩:=Option.bind_eq_some_iff.1 h;obtain⟨vs,hv,h⟩:=Option.map_eq_some_iff.1 h;cases h;cases aG hp;cases aD hv;obtain⟨h1,h2⟩:=hφ;have h3:ps.length≤100000000:=by omega
  have h4:vs.length≤1000000:=by omega
  refine aw (ag s8 (ag E0 ah)) (by kernel_rfl) (by conv=>lhs;reduce) (by simp) ?_;simp(config := { maxSteps := 3000000 }) [h3,h4]
 ·cases h
def yo (f:Nat):PV:=.val (.func (.func f) #[] #[])
def kJ:List (PV×PV):=[(.int .u8 1,yo 80),(.int .u8 2,yo 81),(.int .u8 3,yo 82),(.int .u8 4,yo 83),(.int .u8 5,yo 84),(.int .u8 6,yo 85),(.int .u8 7,yo 86),(.int .u8 8,yo 87)]
def F7:List AV→Option (Prop×AV)|[]=>some (True,.pv (.mv kJ))|_=>none
@[simp] theorem UK:F7 []=some (True,.pv (.mv kJ)):=rfl
theorem N5:aO Tryz.prog 33 F7:=by
 intro ys φ r h hφ;unfold F7 at h;split at h;·cases h;refine aw ah (by kernel_rfl) (by conv=>lhs;reduce) (by simp) ?_;simp(config := { maxSteps := 3000000 }) [kJ,yo]
 ·cases h
def zT (acc:List Int) (x:Int):List Int:=if acc.getLast?=some x then acc else acc++[x]
def kc (l:List Int):List Int:=l.foldl zT []
theorem DZ (l:List Int) (x:Int):kc (l++[x])=zT (kc l) x:=by simp[kc,List.foldl_append]
theorem Gx (acc:List Int) (x:Int):(zT acc x).getLast?=some x:=by
 unfold zT;split;·assumption
 ·simp
theorem jH {l:List Int}{i:Nat} (h:i<l.length):kc (l.take (i+1))=zT (kc (l.take i)) l[i]:=by rw[List.take_succ_eq_append_getElem h,DZ]
theorem vj {l:List Int}{i:Nat} (h:i<l.length):(kc (l.take (i+1))).getLast?=some l[i]:=by rw[jH h,Gx]
theorem HI (acc:List Int) (x:Int):(zT acc x).length≤acc.length+1:=by unfold zT;split<;>simp
theorem tf (l:List Int):∀i,(kc (l.take i)).length≤i
 |0=>by simp[kc]|i+1=>by
  by_cases h:i<l.length;·rw[jH h];have:=HI (kc (l.take i)) l[i];have:=tf l i;omega
  ·rw[List.take_of_length_le (by omega)];have:=tf l i;rw[List.take_of_length_le (by omega)]at this;omega
theorem Cg (acc:List Int) (x y:Int):y∈zT acc x↔y∈acc∨y=x:=by
 unfold zT;split
 ·rename_i h;constructor;·exact .inl
  ·rintro(h1|rfl);·exact h1
   ·exact List.mem_of_getLast? h
 ·simp
theorem AR (acc:List Int) (x:Int) (h:acc.Pairwise (·<·)) (hx:∀y∈acc,y≤x):(zT acc x).Pairwise (·<·):=by
 unfold zT;split;·exact h
 ·rename_i hl;rw[List.pairwise_append];refine⟨h,by simp,?_⟩;intro a ha b hb;simp at hb;subst hb;have h1:=hx a ha;rcases Int.lt_or_eq_of_le h1 with h2|rfl;·exact h2
  ·exfalso;apply hl;obtain⟨l1,l2,rfl⟩:=List.append_of_mem ha;cases l2 with|nil=>simp|cons c l2=>have:=(List.pairwise_append.1 h).2.1;have h3:=(List.pairwise_cons.1 this).1 c (by simp);have h4:=hx c (by simp);omega
theorem qS:∀(l acc:List Int),l.Pairwise (·≤·)→acc.Pairwise (·<·)→(∀y∈acc,∀x∈l,y≤x)→(l.foldl zT acc).Pairwise (·<·)
 |[],acc,_,h,_=>h|x::l,acc,h1,h2,h3=>by
  rw[List.pairwise_cons]at h1;refine qS l _ h1.2 (AR acc x h2 fun y hy=>h3 y hy x (by simp)) ?_;intro y hy z hz;rcases(Cg acc x y).1 hy with h|rfl;·exact h3 y h z (by simp[hz])
  ·exact h1.1 z hz
theorem yT (y:Int):∀(l acc:List Int),y∈l.foldl zT acc↔y∈acc∨y∈l|[],acc=>by simp|x::l,acc=>by rw[List.foldl_cons,yT y l,Cg,List.mem_cons,or_assoc]
theorem tD:∀(a b:List Int),a.Pairwise (·<·)→b.Pairwise (·<·)→(∀y,y∈a↔y∈b)→a=b
 |[],[],_,_,_=>rfl|[],y::b,_,_,h=>by have:=(h y).2 (by simp);simp at this|x::a,[],_,_,h=>by have:=(h x).1 (by simp);simp at this|x::a,y::b,ha,hb,h=>by
  rw[List.pairwise_cons]at ha hb;have hxy:x=y:=by
   have h1:=(h x).1 (by simp);have h2:=(h y).2 (by simp);rw[List.mem_cons]at h1 h2;rcases h1 with h1|h1;·exact h1
   ·rcases h2 with h2|h2;·exact h2.symm
    ·have:=ha.1 y h2;have:=hb.1 x h1;omega
  subst hxy;rw[tD a b ha.2 hb.2 fun z=>?_];have hz:=h z;rw[List.mem_cons,List.mem_cons]at hz;constructor
  ·intro h1;rcases hz.1 (.inr h1) with rfl|h2;·have:=ha.1 z h1;omega
   ·exact h2
  ·intro h1;rcases hz.2 (.inr h1) with rfl|h2;·have:=hb.1 z h1;omega
   ·exact h2
def tF (l:List Int):List Int:=l.mergeSort fun x y=>decide (x≤y)
def kI (l:List Int):List Int:=kc (tF l)
theorem zL (l:List Int):(tF l).Pairwise (·≤·):=by have:=List.pairwise_mergeSort (le:=fun x y:Int=>decide (x≤y)) (fun a b c h1 h2=>by simp at h1 h2 ⊢;omega) (fun a b=>by simp;omega) l;exact this.imp (by simp)
theorem E4 {l a:List Int} (h:a.Pairwise (·<·)) (hm:∀y,y∈a↔y∈l):a=kI l:=by
 apply tD _ _ h;·exact qS _ _ (zL l) .nil (by simp)
 ·intro y;unfold kI kc;rw[yT,hm y];simp[tF]
theorem wg (l:List Int):(kI l).length≤l.length:=by have:=tf (tF l) (tF l).length;rw[List.take_of_length_le (Nat.le_refl _)]at this;unfold kI;simpa[tF]using this
theorem vA (l:List Int) (i:Nat) (x:Int):(bA l).set i [.int .u64 x]=bA (l.set i x):=by unfold bA;rw[List.map_set];rfl
theorem uY (l:List Int):∀r∈bA l,r.length=1:=by intro r hr;simp only[bA,List.mem_map]at hr;obtain⟨c,_,rfl⟩:=hr;rfl
@[simp] noncomputable def VN:List AV→Option (Prop×AV)|[.fr e a]=>if e=22 then(dec dF a).map fun l=>(l.length≤1000000,.fr 22 (bA (kc l))) else none|_=>none
theorem SS:rW Tryz.prog 141 VN:=by
 intro ys φ r h hφ;unfold VN at h;split at h
 ·rename_i e ra;split at h
  ·rename_i he;subst he;obtain⟨a,ha,h⟩:=Option.map_eq_some_iff.1 h;cases h;cases cZ ha;have hl6:a.length≤1000000:=hφ;refine mu ah (by kernel_rfl) (by conv=>lhs;reduce) (by simp) (by simp[cU,ll,jh]) (by simp) ?_;by_cases h2:a.length<2
   ·have h2':(a.length:Int)<2:=by omega
    have hc:kc a=a:=by match a,h2 with|[],_=>rfl|[x],_=>rfl
    simp(config := { maxSteps := 3000000 }) [h2,h2',hc]
   ·have h2':¬(a.length:Int)<2:=by omega
    have w1:IntKind.i64.wrap 1=1:=wrap_i64 (by omega);apply af;·simp(config := { maxSteps := 3000000 });exact⟨rfl,rfl⟩
    apply af;·simp(config := { maxSteps := 3000000 }) [h2,h2'];exact⟨rfl,rfl⟩
    rw[bd];simp(config := { maxSteps := 3000000 });refine aq (fun i:Nat=>1≤i∧i≤a.length∧kc (a.take i)=a.take i) (fun i=>⟨[(0,.own 998),(3,.pv (.int .i64 i))],[(998,.arr 22 (bA a))]⟩) (fun i=>a.length-i) [] 1 ⟨by omega,by omega,by cases a with|nil=>rfl|cons x a=>rfl⟩ ?_ ?_;·simp[w1]
    ·rintro i ⟨hi1,hi2,hi3⟩;have w2:IntKind.i64.wrap ((i:Int)+1)=(i:Int)+1:=wrap_i64 (by omega);by_cases hlt:i<a.length
     ·obtain⟨p,rfl⟩:∃p,i=p+1:=⟨i-1,by omega⟩;have hpl:p<a.length:=by omega
      have w3:IntKind.i64.wrap (p:Int)=(p:Int):=wrap_i64 (by omega);have r1:rowAt (bA a) ((p:Int)+1)=[.int .u64 a[p+1]]:=by have:=ey hlt;simpa using this
      have r2:=ey hpl;have q1:(0:Int)≤(p:Int)+1:=by omega
      have q2:(p:Int)+1<a.length:=by omega
      have q3:(p:Int)<a.length:=by omega
      have hla:=vj hpl;by_cases hq:a[p+1]=a[p]
      ·apply af;·simp(config := { maxSteps := 3000000 }) [hlt,q2];exact⟨rfl,rfl⟩
       rw[bd];rw[aM];apply af;·simp(config := { maxSteps := 3000000 }) [w3,r1,r2,q1,q2,q3,hq];exact⟨hpl,rfl,rfl⟩
       apply gN rfl;apply af;·simp(config := { maxSteps := 3000000 }) [q1,q2];exact⟨⟨by omega,uY a⟩,rfl,rfl⟩
       rw[bd];apply af;·simp(config := { maxSteps := 3000000 });exact⟨rfl,rfl⟩
       rw[aM];obtain⟨i,hi⟩:∃i,i=p+1:=⟨_,rfl⟩;have hst:kc (a.take (i+1))=a.take i:=by subst hi;rw[jH hlt,zT,if_pos (by rw[hla,hq]),hi3]
       refine aq (fun x:Nat×Nat×List Int=>1≤x.2.1∧x.1<i+x.2.1∧i+x.2.1≤a.length∧x.2.2.length=a.length∧x.2.2.take x.1=kc (a.take (i+x.2.1))∧x.2.2.drop (i+x.2.1-1)=a.drop (i+x.2.1-1)) (fun x=>⟨[(0,.own 998),(3,.pv (.int .i64 x.1)),(4,.sub 998 22 i a.length),(5,.pv (.int .i64 x.2.1))],[(998,.arr 22 (bA x.2.2))]⟩) (fun x=>a.length-x.2.1) [] (i,1,a) ?_ ?_ ?_;·exact⟨Nat.le_refl _,by show i<i+1;omega,by show i+1≤a.length;omega,rfl,hst.symm,rfl⟩
       ·simp;omega
       ·rintro⟨k,j,b⟩ ⟨h1,h3,h4,h5,h6,h7⟩;dsimp only at h1 h3 h4 h5 h6 h7;obtain⟨m,hm⟩:∃m,m=i+j-1:=⟨_,rfl⟩;rw[←hm]at h7;have hm1:i+j=m+1:=by omega
        rw[hm1]at h6;have u2:IntKind.i64.wrap ((j:Int)+1)=(j:Int)+1:=wrap_i64 (by omega);have u3:IntKind.i64.wrap ((k:Int)+1)=(k:Int)+1:=wrap_i64 (by omega);have u4:IntKind.i64.wrap ((j:Int)-1)=(j:Int)-1:=wrap_i64 (by omega);have u5:(i:Int)+((j:Int)-1)=(m:Int):=by omega
        obtain⟨n,hn⟩:∃n,n=m+1:=⟨_,rfl⟩;have u6:(i:Int)+(j:Int)=(n:Int):=by omega
        rw[←hn]at h6;by_cases hjl:(j:Int)<(a.length:Int)-(i:Int)
        ·have hna:n<a.length:=by omega
         have hma:m<a.length:=by omega
         have hnb:n<b.length:=by omega
         have hmb:m<b.length:=by omega
         have hkb:k<b.length:=by omega
         have e1:=List.drop_eq_getElem_cons hmb;have e2:=List.drop_eq_getElem_cons hma;have e3:b[m]=a[m]∧b.drop n=a.drop n:=by rw[h7,e2]at e1;injection e1 with e1 e4;exact⟨e1.symm,by rw[hn];exact e4.symm⟩
         have e4:b[n]=a[n]:=by have e5:=List.drop_eq_getElem_cons hnb;have e6:=List.drop_eq_getElem_cons hna;rw[e3.2,e6]at e5;injection e5 with e5 _;exact e5.symm
         have r3:=ey hnb;have r4:=ey hmb;have r5:=ey hkb;rw[e4]at r3;rw[e3.1]at r4;have hla:(kc (a.take n)).getLast?=some a[m]:=by rw[hn];exact vj hma
         have hstep:=jH hna;have hin:i+(j+1)=n+1:=by omega
         have j1:(0:Int)≤(j:Int)-1:=by omega
         have j2:(j:Int)-1<(a.length:Int)-(i:Int):=by omega
         have j3:(k:Int)<(b.length:Int):=by omega
         by_cases hq2:a[n]=a[m];·rw[zT,if_pos (by rw[hla,hq2])]at hstep;simp(config := { maxSteps := 3000000 }) [hjl,u2,u3,u4,u5,u6,r3,r4,j1,j2,j3,hq2];exact⟨hnb,by omega,hmb,k,j+1,b,⟨by omega,by omega,by omega,h5,by rw[hin,hstep,h6],by rw[hin];exact e3.2⟩,⟨⟨rfl,by omega⟩,rfl⟩,by omega⟩
         ·rw[zT,if_neg (by rw[hla];simp;exact fun h=>hq2 h.symm)]at hstep;simp(config := { maxSteps := 3000000 }) [hjl,u2,u3,u4,u5,u6,r3,r4,j1,j2,j3,hq2,vA,r5];refine⟨hnb,by omega,hmb,hnb,hkb,k+1,j+1,b.set k a[n],⟨by omega,by omega,by omega,by rw[List.length_set];exact h5,?_,?_⟩,⟨⟨by omega,by omega⟩,rfl⟩,by omega⟩;·rw[hin,hstep,←h6,List.take_succ_eq_append_getElem (by simp;omega)];simp[List.take_set_of_le]
          ·rw[hin,Nat.add_sub_cancel,List.drop_set_of_lt (by omega)];exact e3.2
        ·have hma:m+1=a.length:=by omega
         have h6:b.take k=kc a:=by rw[h6,hn,hma,List.take_length]
         have h3r:=uY b;simp(config := { maxSteps := 3000000 }) [hjl];refine⟨⟨by omega,h3r⟩,⟨by omega,?_⟩,?_⟩
         ·rintro x (hx|⟨_,rfl⟩|hx);·exact h3r x (List.mem_of_mem_take hx)
          ·rfl
          ·exact h3r x (List.mem_of_mem_drop hx)
         ·rw[List.take_append_of_le_length (by simp;omega),List.take_take,Nat.min_self,←h6];simp[bA,List.map_take]
      ·have hst:kc (a.take (p+1+1))=a.take (p+1+1):=by rw[jH hlt,zT,if_neg (by rw[hla];simp;exact fun h=>hq h.symm),hi3,←List.take_succ_eq_append_getElem hlt]
       simp(config := { maxSteps := 3000000 }) [w2,w3,r1,r2,q1,q2,q3,hq];exact⟨hpl,p+2,⟨by omega,by omega,hst⟩,by rw[wrap_i64 (by omega)];omega,by omega⟩
     ·have hia:i=a.length:=by omega
      subst hia;rw[List.take_length]at hi3;simp(config := { maxSteps := 3000000 }) [hi3]
  ·cases h
 ·cases h
@[simp] noncomputable def Gnums:List AV→Option (Prop×AV)|[.pv (.ro a),.pv (.ro b)]=>(dec dF a).bind fun la=>(dec dF b).map fun lb=>(la.length≤1000000000,.pv (.bool (decide (la=lb))))|_=>none
theorem Fi {o L:List Int}{k:Nat}{x:Int} (hk:k<o.length) (hL:L=o.take (k+1)++x::o.drop (k+1)):(L.set k x).set (k+1) o[k]=o.take k++x::o.drop k:=by
 subst hL;have h1:o.take (k+1)=o.take k++[o[k]]:=List.take_succ_eq_append_getElem hk;have h2:o.drop k=o[k]::o.drop (k+1):=List.drop_eq_getElem_cons hk;have h3:(o.take k).length=k:=by rw[List.length_take];omega
 generalize o[k]=y at*;generalize o.drop (k+1)=B at*;rw[h1,h2];generalize o.take k=A at*;subst h3;simp[List.set_append]
theorem BU {o:List Int}{k:Nat}{x:Int} (hkl:k≤o.length) (ho:o.Pairwise (·<·)) (h:∀y∈o.drop k,x<y) (hk:∀j (hj:j<o.length),k=j+1→o[j]<x):(o.take k++x::o.drop k).Pairwise (·<·):=by
 have hto:∀y∈o.take k,y<x:=by intro y hy;rw[List.mem_take_iff_getElem]at hy;obtain⟨i,hi,rfl⟩:=hy;cases k with|zero=>omega|succ j=>
  have h1:=hk j (by omega) rfl;by_cases hij:i=j;·subst hij;exact h1
  ·have:=(List.pairwise_iff_getElem.1 ho) i j (by omega) (by omega) (by omega);omega
 have hsp:=ho;rw[←List.take_append_drop k o,List.pairwise_append]at hsp;rw[List.pairwise_append,List.pairwise_cons];refine⟨hsp.1,⟨h,hsp.2.1⟩,?_⟩;intro a ha b hb;rw[List.mem_cons]at hb;rcases hb with rfl|hb;·exact hto a ha
 ·exact hsp.2.2 a ha b hb
@[simp] noncomputable def GrV:List AV→Option (Prop×AV)|[.pv (.ro a)]=>(dec rowP a).map fun l=>(l.length≤1000000,.fr 22 (bA (kI (l.map Pn.v))))|_=>none
theorem c_rV:aO Tryz.prog 77 GrV:=by
 intro ys φ r h hφ;unfold GrV at h;split at h
 ·rename_i ra;obtain⟨a,ha,h⟩:=Option.map_eq_some_iff.1 h;cases h;cases aG ha;have hl6:a.length≤1000000:=hφ;refine aw (ag UO ah) (by kernel_rfl) (by conv=>lhs;reduce) (by simp) ?_;simp(config := { maxSteps := 3000000 });refine aq (fun x:Nat×List Int=>x.1≤a.length∧x.2.Pairwise (·<·)∧(∀y,y∈x.2↔y∈(a.take x.1).map Pn.v)∧x.2.length≤x.1) (fun x=>⟨[(0,.pv (.ro (aF a))),(3,.own 3),(4,.pv (.int .i64 (x.1:Int)))],[(3,.arr 22 (bA x.2))]⟩) (fun x=>a.length-x.1) [] (0,[]) ⟨by simp,.nil,by simp,by simp⟩ ?_ ?_;·simp
  ·rintro⟨i,o⟩ ⟨hi,ho,hm,hol⟩;have hi:i≤a.length:=hi;have ho:o.Pairwise (·<·):=ho;have hm:∀y,y∈o↔y∈(a.take i).map Pn.v:=hm;have hol:o.length≤i:=hol;have w2:IntKind.i64.wrap ((i:Int)+1)=(i:Int)+1:=wrap_i64 (by omega);by_cases hlt:i<a.length
   ·have r1:=cr hlt;have htk:(a.take (i+1)).map Pn.v=(a.take i).map Pn.v++[a[i].v]:=by rw[List.take_succ_eq_append_getElem hlt,List.map_append];rfl
    have hofm:FV (a.take i) a[i].v=true↔a[i].v∈o:=by rw[hm];unfold FV;simp only[List.any_eq_true,decide_eq_true_eq,List.mem_map]
    obtain⟨x,hx⟩:∃x,x=a[i].v:=⟨_,rfl⟩;rw[←hx]at r1 htk hofm;have htl:(a.take i).length≤1000000000:=by rw[List.length_take];omega
    have h3:=dH a;by_cases hof:FV (a.take i) x=true
    ·simp(config := { maxSteps := 3000000 }) [w2,hlt,r1,mA,hof,htl,h3];refine⟨⟨by omega,h3⟩,by omega,i+1,o,⟨by omega,ho,?_,by omega⟩,⟨by omega,rfl⟩,by omega⟩;intro y;rw[←List.map_take,htk,List.mem_append,←hm y,List.mem_singleton];constructor;·exact .inl
     ·rintro(h|rfl);·exact h
      ·exact hofm.1 hof
    ·have hof':FV (a.take i) x=false:=by simpa using hof
     have hxo:x∉o:=fun h=>hof (hofm.2 h);have hap:bA o++[[PV.int .u64 x]]=bA (o++[x]):=by rw[gX];rfl
     have w4:IntKind.i64.wrap ((o.length:Int)+1-1)=(o.length:Int):=by rw[wrap_i64 (by omega)];omega
     apply af;·simp(config := { maxSteps := 3000000 }) [hlt];exact⟨rfl,rfl⟩
     rw[bd];rw[aM];apply af;·simp(config := { maxSteps := 3000000 }) [hlt,r1,mA,hof',htl,h3];exact⟨⟨by omega,h3⟩,by omega,rfl,rfl⟩
     apply af;·simp(config := { maxSteps := 3000000 }) [hlt,r1,hap,aB];exact⟨⟨by omega,by omega⟩,rfl,rfl⟩
     apply af;·simp(config := { maxSteps := 3000000 }) [w4];exact⟨rfl,rfl⟩
     rw[aM];have w6:IntKind.i64.wrap (o.length:Int)=(o.length:Int):=wrap_i64 (by omega);refine aq (fun y:Nat×List Int=>y.1≤o.length∧y.2=o.take y.1++x::o.drop y.1∧∀z∈o.drop y.1,x<z) (fun y=>⟨[(0,.pv (.ro (aF a))),(3,.own 3),(4,.pv (.int .i64 (i:Int))),(5,.pv (.int .i64 (y.1:Int)))],[(3,.arr 22 (bA y.2))]⟩) (fun y=>y.1) [] (o.length,o++[x]) ⟨Nat.le_refl _,by simp,by simp⟩ ?_ ?_;·simp[w6]
     ·rintro⟨k,L⟩ ⟨hk,hL,hgt⟩;have hk:k≤o.length:=hk;have hL:L=o.take k++x::o.drop k:=hL;have hgt:∀z∈o.drop k,x<z:=hgt;have hLl:L.length=o.length+1:=by rw[hL];simp;omega
      have hout:(∀j (hj:j<o.length),k=j+1→o[j]<x)→(i+1≤a.length∧L.Pairwise (·<·)∧(∀y,y∈L↔y∈(a.take (i+1)).map Pn.v)∧L.length≤i+1):=by
       intro h;refine⟨by omega,by rw[hL];exact BU hk ho hgt h,?_,by omega⟩;intro y;rw[htk,List.mem_append,←hm y,hL,List.mem_append,List.mem_cons,List.mem_singleton];conv=>rhs;rw[←List.take_append_drop k o,List.mem_append]
       constructor
       ·rintro(h|h|h);·exact .inl (.inl h)
        ·exact .inr h
        ·exact .inl (.inr h)
       ·rintro((h|h)|h);·exact .inl h
        ·exact .inr (.inr h)
        ·exact .inr (.inl h)
      have r3:=ey (l:=L) (i:=k) (by omega);have e3:L[k]=x:=by subst hL;rw[List.getElem_append_right (by simp;omega)];simp[Nat.min_eq_left hk]
      rw[e3]at r3;cases k with|zero=>have w3:IntKind.i64.wrap (-1)=-1:=wrap_i64 (by omega);have r4:rowAt (bA L) (-1)=[.int .u64 x]:=r3;have r3:rowAt (bA L) 0=[.int .u64 x]:=r3;simp(config := { maxSteps := 3000000 }) [w3,r3,r4,w2];have h:=hout (fun j hj hj2=>absurd hj2 (by omega));exact⟨i+1,L,by rw[←List.map_take];exact h,⟨by omega,rfl⟩,by omega⟩|succ j=>
       have w3:IntKind.i64.wrap ((j:Int)+1-1)=(j:Int):=by rw[wrap_i64 (by omega)];omega
       have w5:IntKind.i64.wrap (j:Int)=(j:Int):=wrap_i64 (by omega);have r3:rowAt (bA L) ((j:Int)+1)=[.int .u64 x]:=by simpa using r3
       have hjo:j<o.length:=by omega
       have r4:=ey (l:=L) (i:=j) (by omega);have e4:L[j]=o[j]:=by subst hL;rw[List.getElem_append_left (by simp;omega)];simp
       rw[e4]at r4;have q2:(0:Int)≤(j:Int)+1:=by omega
       have q3:(j:Int)+1<(L.length:Int):=by omega
       have q4:(j:Int)<(L.length:Int):=by omega
       have q5:(0:Int)<(j:Int)+1:=by omega
       have q4':j<L.length:=by omega
       have r5:rowAt (bA (L.set j x)) ((j:Int)+1)=[.int .u64 x]:=by have h1:=ey (l:=L.set j x) (i:=j+1) (by rw[List.length_set];omega);rw[List.getElem_set_ne (by omega),e3]at h1;simpa using h1
       have e5:=Fi hjo hL;have hgt2:∀z∈o.drop j,x<o[j]→x<z:=by
        intro z hz h;rw[List.drop_eq_getElem_cons hjo,List.mem_cons]at hz;rcases hz with rfl|hz;·exact h
        ·exact hgt z hz
       by_cases hq:x<o[j];·simp(config := { maxSteps := 3000000 }) [w3,w5,r3,r4,q2,q3,q4,q5,hq,vA,r5];exact⟨q4',j,(L.set j x).set (j+1) o[j],⟨by omega,e5,fun z hz=>hgt2 z hz hq⟩,⟨rfl,rfl⟩,by omega⟩
       ·simp(config := { maxSteps := 3000000 }) [w3,w5,r3,r4,q2,q3,q4,q5,hq,w2];have h:=hout (fun j' hj' hj2=>by
         obtain rfl:j'=j:=by omega
         have:o[j']≠x:=fun h=>hxo (h▸List.getElem_mem hj');omega);exact⟨q4',i+1,L,by rw[←List.map_take];exact h,⟨by omega,rfl⟩,by omega⟩
   ·have hia:i=a.length:=by omega
    subst hia;have hv:=E4 ho (l:=a.map Pn.v) (by rw[List.take_length]at hm;exact hm);simp(config := { maxSteps := 3000000 }) [←hv]
 ·cases h
@[simp] noncomputable def GSp:List AV→Option (Prop×AV)|[.aQ [.agg [.fr e a]]]=>if e=94 then(dec rowP a).map fun l=>(l.length≤1000000,.bJ 0 [.aQ [],.agg [.fr 94 (aF (l.map fun _=>⟨77,77,0⟩))]]) else none|_=>none
end Go.Proofs.YtlmkcmfmfahcfaaGreat.Ab
namespace Go.Proofs.YtlmkcmfmfahcfaaGreat.Ab
open Go Go.RowKit Go.Sort R
@[simp] noncomputable def Wh:List AV→Option (Prop×AV)|[.pv (.int .u64 a)]=>some (True,.pv (.bool false))|_=>none
theorem UZ:aO Tryz.prog 165 Wh:=by
 intro ys φ r h hφ;unfold Wh at h;split at h;·cases h;refine aw ah (by kernel_rfl) (by conv=>lhs;reduce) (by simp) ?_;simp(config := { maxSteps := 3000000 })
 ·cases h
@[simp] noncomputable def JS:List AV→Option (Prop×AV)|[.pv (.int k a),.pv (.int m b)]=>some (k=.u64∧m=.u64,.pv (.bool (ltInt a b)))|_=>none
theorem nn:aO Tryz.prog 155 JS:=by
 intro ys φ r h hφ;unfold JS at h;split at h;·cases h;obtain⟨rfl,rfl⟩:=hφ;refine aw (ag UZ ah) (by kernel_rfl) (by conv=>lhs;reduce) (by simp) ?_;simp(config := { maxSteps := 3000000 }) [ltInt]
 ·cases h
def rA (d:Array Int):List (List PV):=bA d.toList
@[simp] theorem Dn (d:Array Int):(rA d).length=d.size:=by simp[rA]
def gA (d:Array Int) (i:Nat):Int:=d[i]!
theorem bz {d:Array Int}{i:Nat} (h:i<d.size):rowAt (rA d) (i:Int)=[.int .u64 (gA d i)]:=by have:=ey (l:=d.toList) (i:=i) (by simpa using h);unfold rA gA;rw[this,getElem!_pos d i h];rfl
@[simp] theorem rA_set (d:Array Int) (i:Nat) (x:Int):(rA d).set i [.int .u64 x]=rA (d.setIfInBounds i x):=by unfold rA bA;rw[Array.toList_setIfInBounds,List.map_set];rfl
theorem zq (l:List Int):bA l=rA l.toArray:=rfl
theorem size_swp (d:Array Int) (i j:Nat):(swp d i j).size=d.size:=by simp[swp]
noncomputable def DB (F:Array Int→Nat→Nat→Array Int):List AV→Option (Prop×AV)|[.aQ [.fr e a],.pv (.int .i64 p),.pv (.int .i64 q)]=>if e=22 then(dec dF a).map fun l=>(0≤p∧p≤q∧q≤(l.length:Int)∧l.length≤1000000,.bJ 0 [.aQ [],.fr 22 (rA (F l.toArray p.toNat q.toNat))]) else none|_=>none
theorem iA (d:Array Int):dec dF (rA d)=some d.toList:=mI _
@[simp] theorem Ginp_eq (F:Array Int→Nat→Nat→Array Int) (e:TypeId) (d:Array Int) (p q:Int):DB F [.aQ [.fr e (rA d)],.pv (.int .i64 p),.pv (.int .i64 q)]=if e=22 then some (0≤p∧p≤q∧q≤(d.size:Int)∧d.size≤1000000,.bJ 0 [.aQ [],.fr 22 (rA (F d p.toNat q.toNat))]) else none:=by show(if e=22 then(dec dF (rA d)).map _ else none)=_;rw[iA];simp
theorem sk {F:Array Int→Nat→Nat→Array Int}{ys:List AV}{φ:Prop}{r:AV} (h:DB F ys=some (φ,r)):∃(d:Array Int) (p q:Int),ys=[.aQ [.fr 22 (rA d)],.pv (.int .i64 p),.pv (.int .i64 q)]∧φ=(0≤p∧p≤q∧q≤(d.size:Int)∧d.size≤1000000)∧r=.bJ 0 [.aQ [],.fr 22 (rA (F d p.toNat q.toNat))]:=by
 unfold DB at h;split at h
 ·split at h;·rename_i e;subst e;obtain⟨l,hl,h⟩:=Option.map_eq_some_iff.1 h;cases h;cases cZ hl;exact⟨l.toArray,_,_,by rw[zq],by simp,rfl⟩
  ·cases h
 ·cases h
theorem mX (a:Nat):∀(j:Nat) (d:Array Int),(insInner ltInt a j d).size=d.size
 |0,d=>rfl|j+1,d=>by
  unfold insInner;split;·rw[mX a j,size_swp]
  ·rfl
theorem OZ:dR Tryz.prog 149 (DB (insertionSort ltInt)):=by
 intro ys φ r h hφ;obtain⟨d,p,q,rfl,rfl,rfl⟩:=sk h;obtain⟨h1,h2,h3,h4⟩:=hφ;obtain⟨a,rfl⟩:∃a:Nat,p=a:=⟨p.toNat,by omega⟩;obtain⟨b,rfl⟩:∃b:Nat,q=b:=⟨q.toNat,by omega⟩;rw[Int.toNat_natCast,Int.toNat_natCast];refine cu (ag nn ah) (by kernel_rfl) (by conv=>lhs;reduce) (by simp) rfl (by simp) ?_;have w0:IntKind.i64.wrap ((a:Int)+1)=(a:Int)+1:=wrap_i64 (by omega);generalize hW:insertionSort ltInt d a b=W;simp(config := { maxSteps := 3000000 }) [w0];refine aq (fun x:Nat×Array Int=>(a+1≤x.1∧x.1≤max (a+1) b)∧x.2.size=d.size∧insOuter ltInt a b x.1 x.2=W) (fun x=>⟨[(0,.own 999),(1,.pv (.int .i64 (a:Int))),(2,.pv (.int .i64 (b:Int))),(6,.pv (.int .i64 (x.1:Int)))],[(999,.arr 22 (rA x.2))]⟩) (fun x=>max (a+1) b-x.1) [] (a+1,d) ⟨⟨Nat.le_refl _,Nat.le_max_left _ _⟩,rfl,hW⟩ ?_ ?_;·simp
 ·rintro⟨i,D⟩ ⟨⟨hi1,hi2⟩,hD,hI⟩;have hi1:a+1≤i:=hi1;have hi2:i≤max (a+1) b:=hi2;have hD:D.size=d.size:=hD;have hI:insOuter ltInt a b i D=W:=hI;have w2:IntKind.i64.wrap ((i:Int)+1)=(i:Int)+1:=wrap_i64 (by omega);by_cases hlt:i<b
  ·unfold insOuter at hI;rw[if_pos hlt]at hI;obtain⟨T,hT⟩:∃T,T=insInner ltInt a i D:=⟨_,rfl⟩;rw[←hT]at hI;have hTs:T.size=d.size:=by rw[hT,mX,hD]
   apply af;·simp(config := { maxSteps := 3000000 }) [hlt];exact⟨rfl,rfl⟩
   rw[bd];rw[aM];apply af;·simp(config := { maxSteps := 3000000 });exact⟨rfl,rfl⟩
   rw[aM];refine aq (fun y:Nat×Array Int=>(a≤y.1∧y.1≤i)∧y.2.size=d.size∧insInner ltInt a y.1 y.2=T) (fun y=>⟨[(0,.own 999),(1,.pv (.int .i64 (a:Int))),(2,.pv (.int .i64 (b:Int))),(6,.pv (.int .i64 (i:Int))),(7,.pv (.int .i64 (y.1:Int)))],[(999,.arr 22 (rA y.2))]⟩) (fun y=>y.1) [] (i,D) ⟨⟨by omega,Nat.le_refl _⟩,hD,hT.symm⟩ ?_ ?_;·simp
   ·rintro⟨j,E⟩ ⟨⟨hj1,hj2⟩,hE,hJ⟩;have hj1:a≤j:=hj1;have hj2:j≤i:=hj2;have hE:E.size=d.size:=hE;have hJ:insInner ltInt a j E=T:=hJ;have q3:(j:Int)<(E.size:Int):=by omega
    have r1:=bz (d:=E) (i:=j) (by omega);cases j with|zero=>
     have ha0:a=0:=by omega
     subst ha0;have hJ:E=T:=hJ;subst hJ;have w3:IntKind.i64.wrap (-1)=-1:=wrap_i64 (by omega);have r2:rowAt (rA E) (-1)=[.int .u64 (gA E 0)]:=bz (d:=E) (i:=0) (by omega);have r1:rowAt (rA E) 0=[.int .u64 (gA E 0)]:=r1;simp(config := { maxSteps := 3000000 }) [w3,r1,r2,w2];exact⟨i+1,E,⟨by omega,hE,hI⟩,⟨by omega,rfl⟩,by omega⟩|succ k=>
     have w3:IntKind.i64.wrap ((k:Int)+1-1)=(k:Int):=by rw[wrap_i64 (by omega)];omega
     have w4:IntKind.i64.wrap (k:Int)=(k:Int):=wrap_i64 (by omega);have r1:rowAt (rA E) ((k:Int)+1)=[.int .u64 (gA E (k+1))]:=by simpa using r1
     have r2:=bz (d:=E) (i:=k) (by omega);have q2:(0:Int)≤(k:Int)+1:=by omega
     have q3:(k:Int)+1<(E.size:Int):=by omega
     have q4:(k:Int)<(E.size:Int):=by omega
     unfold insInner at hJ;by_cases hja:a<k+1
     ·have q1:(a:Int)<(k:Int)+1:=by omega
      cases hl:ltInt E[k+1]! E[k]! with|true=>have hl2:ltInt (gA E (k+1)) (gA E k)=true:=hl;rw[hl,if_pos (by simp;omega)]at hJ;have r3:=bz (d:=E.setIfInBounds (k+1) (gA E k)) (i:=k) (by rw[Array.size_setIfInBounds];omega);simp(config := { maxSteps := 3000000 }) [w3,w4,r1,r2,r3,q1,q2,q3,q4,hl2];exact⟨by omega,k,swp E (k+1) k,⟨by omega,by rw[size_swp,hE],hJ⟩,⟨rfl,rfl⟩,by omega⟩|false=>have hl2:ltInt (gA E (k+1)) (gA E k)=false:=hl;rw[hl,if_neg (by simp)]at hJ;subst hJ;simp(config := { maxSteps := 3000000 }) [w3,w4,r1,r2,q1,q2,q3,q4,hl2,w2];exact⟨by omega,i+1,E,⟨by omega,hE,hI⟩,⟨by omega,rfl⟩,by omega⟩
     ·have q1:¬(a:Int)<(k:Int)+1:=by omega
      rw[if_neg (by simp;omega)]at hJ;subst hJ;simp(config := { maxSteps := 3000000 }) [w3,w4,r1,r2,q1,q2,q3,q4,w2];exact⟨i+1,E,⟨by omega,hE,hI⟩,⟨by omega,rfl⟩,by omega⟩
  ·unfold insOuter at hI;rw[if_neg hlt]at hI;subst hI;simp(config := { maxSteps := 3000000 }) [hlt]
theorem lJ {d:Array Int}{i:Nat} (h:d.size≤i):rowAt (rA d) (i:Int)=[]:=by unfold rowAt;rw[Int.toNat_natCast,List.getD_eq_getElem?_getD,List.getElem?_eq_none (by rw[Dn];exact h)];rfl
theorem kG (f:Fr):f.st=⟨look f.vs,ab f.os⟩:=rfl
noncomputable def Mv:List AV→Option (Prop×AV)|[.aQ [.fr e a],.pv (.int .i64 lo),.pv (.int .i64 hi),.pv (.int .i64 fi)]=>if e=22 then(dec dF a).map fun l=>((0≤lo∧lo≤1000000)∧0≤hi∧0≤fi∧fi+hi≤(l.length:Int)∧l.length≤1000000,.bJ 0 [.aQ [],.fr 22 (rA (siftDown ltInt hi.toNat fi.toNat lo.toNat l.toArray))]) else none|_=>none
@[simp] theorem Gsft_eq (e:TypeId) (d:Array Int) (lo hi fi:Int):Mv [.aQ [.fr e (rA d)],.pv (.int .i64 lo),.pv (.int .i64 hi),.pv (.int .i64 fi)]=if e=22 then some ((0≤lo∧lo≤1000000)∧0≤hi∧0≤fi∧fi+hi≤(d.size:Int)∧d.size≤1000000,.bJ 0 [.aQ [],.fr 22 (rA (siftDown ltInt hi.toNat fi.toNat lo.toNat d))]) else none:=by show(if e=22 then(dec dF (rA d)).map _ else none)=_;rw[iA];simp
theorem TJ:dR Tryz.prog 160 Mv:=by
 intro ys φ r h hφ;unfold Mv at h;split at h
 ·rename_i e ra lo hi fi;split at h
  ·rename_i he;subst he;obtain⟨l,hl,h⟩:=Option.map_eq_some_iff.1 h;cases h;cases cZ hl;obtain⟨⟨h1,h2⟩,h3,h4,h5,h6⟩:=hφ;obtain⟨lo,rfl⟩:∃a:Nat,lo=a:=⟨lo.toNat,by omega⟩;obtain⟨hi,rfl⟩:∃a:Nat,hi=a:=⟨hi.toNat,by omega⟩;obtain⟨fi,rfl⟩:∃a:Nat,fi=a:=⟨fi.toNat,by omega⟩;rw[Int.toNat_natCast,Int.toNat_natCast,Int.toNat_natCast,zq];obtain⟨d,hd⟩:∃d,d=l.toArray:=⟨_,rfl⟩;have hds:d.size=l.length:=by rw[hd];simp
   rw[←hd];generalize hW:siftDown ltInt hi fi lo d=W;refine cu (ag nn ah) (by kernel_rfl) (by conv=>lhs;reduce) (by simp) rfl (by simp) ?_;simp(config := { maxSteps := 3000000 });refine aq (fun x:Nat×Array Int=>x.1≤1000000∧x.2.size=l.length∧siftDown ltInt hi fi x.1 x.2=W) (fun x=>⟨[(0,.own 999),(1,.pv (.int .i64 (lo:Int))),(2,.pv (.int .i64 (hi:Int))),(3,.pv (.int .i64 (fi:Int))),(8,.pv (.int .i64 (x.1:Int)))],[(999,.arr 22 (rA x.2))]⟩) (fun x=>hi-x.1) [] (lo,d) ⟨by show lo≤_;omega,hds,hW⟩ ?_ ?_;·simp
   ·rintro⟨i,D⟩ ⟨hi1,hD,hI⟩;have hi1:i≤1000000:=hi1;have hD:D.size=l.length:=hD;have hI:siftDown ltInt hi fi i D=W:=hI;have w1:IntKind.i64.wrap (2*(i:Int))=2*(i:Int):=wrap_i64 (by omega);have w2:IntKind.i64.wrap (2*(i:Int)+1)=2*(i:Int)+1:=wrap_i64 (by omega);have w3:IntKind.i64.wrap (2*(i:Int)+1+1)=2*(i:Int)+2:=by rw[wrap_i64 (by omega)];omega
    obtain⟨r0,e0⟩:∃r0,r0=fi+i:=⟨_,rfl⟩;obtain⟨c1,e1⟩:∃c1,c1=fi+(2*i+1):=⟨_,rfl⟩;obtain⟨c2,e2⟩:∃c2,c2=fi+(2*i+2):=⟨_,rfl⟩;have w4:IntKind.i64.wrap ((fi:Int)+(2*(i:Int)+1))=(c1:Int):=by rw[wrap_i64 (by omega)];omega
    have w5:IntKind.i64.wrap ((c1:Int)+1)=(c2:Int):=by rw[wrap_i64 (by omega)];omega
    have w6:IntKind.i64.wrap ((fi:Int)+(i:Int))=(r0:Int):=by rw[wrap_i64 (by omega)];omega
    have w7:IntKind.i64.wrap ((fi:Int)+(2*(i:Int)+2))=(c2:Int):=by rw[wrap_i64 (by omega)];omega
    unfold siftDown at hI;rw[←e0,←e1,←e2,show c1+1=c2 by omega]at hI;by_cases hc:2*i+1≥hi
    ·rw[dif_pos hc]at hI;subst hI;have hc2:(hi:Int)≤2*(i:Int)+1:=by omega
     simp(config := { maxSteps := 3000000 }) [w1,w2,hc2]
    ·rw[dif_neg hc]at hI;have hc2:¬(hi:Int)≤2*(i:Int)+1:=by omega
     have q1:r0<D.size:=by omega
     have r1:=bz q1;have q2:c1<D.size:=by omega
     have r2:=bz q2;rw[kG,aM];apply af;·simp(config := { maxSteps := 3000000 }) [w1,w2];exact⟨rfl,rfl⟩
     apply af;·simp(config := { maxSteps := 3000000 }) [hc2];exact⟨rfl,rfl⟩
     by_cases hg1:2*i+2<hi
     ·have g1:2*(i:Int)+2<(hi:Int):=by omega
      have q4:c2<D.size:=by omega
      have r4:=bz q4;cases hg2:ltInt D[c1]! D[c2]! with
      |true=>
       have hg3:ltInt (gA D c1) (gA D c2)=true:=hg2;rw[if_pos (by rw[hg2];simp;omega),dif_pos hg1]at hI;apply af;·simp(config := { maxSteps := 3000000 }) [w3,w4,w5,g1,q2,q4,r2,r4,hg3];exact⟨rfl,rfl⟩
       cases hb:ltInt D[r0]! D[c2]! with|false=>have hb2:ltInt (gA D r0) (gA D c2)=false:=hb;rw[hb,if_pos (by simp)]at hI;subst hI;simp(config := { maxSteps := 3000000 }) [w6,w7,q1,q4,r1,r4,hb2]|true=>
        have hb2:ltInt (gA D r0) (gA D c2)=true:=hb;rw[hb,if_neg (by simp)]at hI;have z1:=bz (d:=D.setIfInBounds r0 (gA D c2)) (i:=c2) (by rw[Array.size_setIfInBounds];omega);apply af;·simp(config := { maxSteps := 3000000 }) [w6,w7,q1,q4,r1,r4,hb2];exact⟨rfl,rfl⟩
        simp(config := { maxSteps := 3000000 }) [w6,w7,q1,q4,r1,r4,z1];exact⟨2*i+2,swp D r0 c2,⟨by omega,by rw[size_swp,hD],hI⟩,⟨by omega,rfl⟩,by omega⟩
      |false=>
       have hg3:ltInt (gA D c1) (gA D c2)=false:=hg2;rw[if_neg (by rw[hg2];simp)]at hI;apply af;·simp(config := { maxSteps := 3000000 }) [w3,w4,w5,g1,q2,q4,r2,r4,hg3];exact⟨rfl,rfl⟩
       cases hb:ltInt D[r0]! D[c1]! with|false=>have hb2:ltInt (gA D r0) (gA D c1)=false:=hb;rw[hb,if_pos (by simp)]at hI;subst hI;simp(config := { maxSteps := 3000000 }) [w6,w4,q1,q2,r1,r2,hb2]|true=>
        have hb2:ltInt (gA D r0) (gA D c1)=true:=hb;rw[hb,if_neg (by simp)]at hI;have z1:=bz (d:=D.setIfInBounds r0 (gA D c1)) (i:=c1) (by rw[Array.size_setIfInBounds];omega);apply af;·simp(config := { maxSteps := 3000000 }) [w6,w4,q1,q2,r1,r2,hb2];exact⟨rfl,rfl⟩
        simp(config := { maxSteps := 3000000 }) [w6,w4,q1,q2,r1,r2,z1];exact⟨2*i+1,swp D r0 c1,⟨by omega,by rw[size_swp,hD],hI⟩,⟨by omega,rfl⟩,by omega⟩
     ·have g1:¬2*(i:Int)+2<(hi:Int):=by omega
      rw[if_neg (by simp;omega)]at hI;rcases Nat.lt_or_ge c2 D.size with q4|q4
      ·have r4:=bz q4;apply af;·simp(config := { maxSteps := 3000000 }) [w3,w4,w5,g1,q2,q4,r2,r4];exact⟨rfl,rfl⟩
       cases hb:ltInt D[r0]! D[c1]! with|false=>have hb2:ltInt (gA D r0) (gA D c1)=false:=hb;rw[hb,if_pos (by simp)]at hI;subst hI;simp(config := { maxSteps := 3000000 }) [w6,w4,q1,q2,r1,r2,hb2]|true=>
        have hb2:ltInt (gA D r0) (gA D c1)=true:=hb;rw[hb,if_neg (by simp)]at hI;have z1:=bz (d:=D.setIfInBounds r0 (gA D c1)) (i:=c1) (by rw[Array.size_setIfInBounds];omega);apply af;·simp(config := { maxSteps := 3000000 }) [w6,w4,q1,q2,r1,r2,hb2];exact⟨rfl,rfl⟩
        simp(config := { maxSteps := 3000000 }) [w6,w4,q1,q2,r1,r2,z1];exact⟨2*i+1,swp D r0 c1,⟨by omega,by rw[size_swp,hD],hI⟩,⟨by omega,rfl⟩,by omega⟩
      ·have r4:=lJ q4;apply af;·simp(config := { maxSteps := 3000000 }) [w3,w4,w5,g1,q2,r2,r4];exact⟨rfl,rfl⟩
       cases hb:ltInt D[r0]! D[c1]! with|false=>have hb2:ltInt (gA D r0) (gA D c1)=false:=hb;rw[hb,if_pos (by simp)]at hI;subst hI;simp(config := { maxSteps := 3000000 }) [w6,w4,q1,q2,r1,r2,hb2]|true=>
        have hb2:ltInt (gA D r0) (gA D c1)=true:=hb;rw[hb,if_neg (by simp)]at hI;have z1:=bz (d:=D.setIfInBounds r0 (gA D c1)) (i:=c1) (by rw[Array.size_setIfInBounds];omega);apply af;·simp(config := { maxSteps := 3000000 }) [w6,w4,q1,q2,r1,r2,hb2];exact⟨rfl,rfl⟩
        simp(config := { maxSteps := 3000000 }) [w6,w4,q1,q2,r1,r2,z1];exact⟨2*i+1,swp D r0 c1,⟨by omega,by rw[size_swp,hD],hI⟩,⟨by omega,rfl⟩,by omega⟩
  ·cases h
 ·cases h
theorem ux (hi fi:Nat):∀(n root:Nat) (d:Array Int),hi-root≤n→(siftDown ltInt hi fi root d).size=d.size:=by intro n;induction n with|zero=>intro root d h;unfold siftDown;rw[dif_pos (by omega)]|succ n ih=>
 intro root d h;unfold siftDown;split;·rfl
 ·split
  ·split;·rfl
   ·split;·rw[ih _ _ (by omega),size_swp]
    ·rfl
  ·split;·rfl
   ·rw[ih _ _ (by omega),size_swp]
theorem sn (hi fi:Nat):∀(k:Nat) (d:Array Int),(heapBuild ltInt hi fi k d).size=d.size|0,d=>rfl|k+1,d=>by unfold heapBuild;rw[sn hi fi k,ux hi fi hi k d (by omega)]
theorem Me:dR Tryz.prog 150 (DB (heapSort ltInt)):=by
 intro ys φ r h hφ;obtain⟨d,p,q,rfl,rfl,rfl⟩:=sk h;obtain⟨h1,h2,h3,h4⟩:=hφ;obtain⟨a,rfl⟩:∃a:Nat,p=a:=⟨p.toNat,by omega⟩;obtain⟨b,rfl⟩:∃b:Nat,q=b:=⟨q.toNat,by omega⟩;rw[Int.toNat_natCast,Int.toNat_natCast];refine cu (bk (ks:=[2,0,0,0]) TJ (by kernel_rfl) ah) (by kernel_rfl) (by conv=>lhs;reduce) (by simp) rfl (by simp) ?_;obtain⟨m,hm⟩:∃m,m=b-a:=⟨_,rfl⟩;have w0:IntKind.i64.wrap ((b:Int)-(a:Int))=(m:Int):=by rw[wrap_i64 (by omega)];omega
 have w1:IntKind.i64.wrap ((m:Int)-1)=(m:Int)-1:=wrap_i64 (by omega);obtain⟨k0,hk0⟩:∃k0,k0=(m-1)/2+1:=⟨_,rfl⟩;have w2:((m:Int)-1).tdiv 2=(k0:Int)-1:=by
  rcases Nat.eq_zero_or_pos m with h0|h0
  ·have:k0=1:=by omega
   rw[h0,this];decide
  ·rw[Int.tdiv_eq_ediv_of_nonneg (by omega)];omega
 have w3:IntKind.i64.wrap ((k0:Int)-1)=(k0:Int)-1:=wrap_i64 (by omega);unfold heapSort;rw[←hm,←hk0];generalize hW:heapPop ltInt a m (heapBuild ltInt m a k0 d)=W;generalize hB:heapBuild ltInt m a k0 d=B at hW;apply af;·simp(config := { maxSteps := 3000000 });exact⟨rfl,rfl⟩
 apply af;·simp(config := { maxSteps := 3000000 });exact⟨rfl,rfl⟩
 apply af;·simp(config := { maxSteps := 3000000 }) [w0];exact⟨rfl,rfl⟩
 apply af
 ·simp(config := { maxSteps := 3000000 }) [w1,w2,w3];refine aq (fun x:Nat×Array Int=>x.1≤k0∧x.2.size=d.size∧heapBuild ltInt m a x.1 x.2=B) (fun x=>⟨[(0,.own 999),(6,.pv (.int .i64 (a:Int))),(7,.pv (.int .i64 0)),(8,.pv (.int .i64 (m:Int))),(9,.pv (.int .i64 ((x.1:Int)-1)))],[(999,.arr 22 (rA x.2))]⟩) (fun x=>x.1) [] (k0,d) ⟨Nat.le_refl _,rfl,hB⟩ ?_ ?_;·simp
  ·rintro⟨k,D⟩ ⟨hk,hD,hI⟩;have hk:k≤k0:=hk;have hD:D.size=d.size:=hD;have hI:heapBuild ltInt m a k D=B:=hI;cases k with|zero=>have hI:D=B:=hI;rw[hI];simp(config := { maxSteps := 3000000 });exact⟨rfl,rfl⟩|succ k=>
    have hI:heapBuild ltInt m a k (siftDown ltInt m a k D)=B:=hI;have hs:=ux m a m k D (by omega);have v1:(k:Int)+1-1=(k:Int):=by omega
    have v2:IntKind.i64.wrap ((k:Int)-1)=(k:Int)-1:=wrap_i64 (by omega);have v3:(k:Int)≤1000000:=by omega
    have v4:(a:Int)+(m:Int)≤(D.size:Int):=by omega
    have v5:D.size≤1000000:=by omega
    simp(config := { maxSteps := 3000000 }) [v1,v2,v3,v4,v5];exact⟨k,siftDown ltInt m a k D,⟨by omega,by rw[hs,hD],hI⟩,⟨rfl,rfl⟩,by omega⟩
 have hBs:B.size=d.size:=by rw[←hB,sn]
 apply af;·simp(config := { maxSteps := 3000000 }) [w1];exact⟨rfl,rfl⟩
 rw[aM];refine aq (fun x:Nat×Array Int=>x.1≤m∧x.2.size=d.size∧heapPop ltInt a x.1 x.2=W) (fun x=>⟨[(0,.own 999),(6,.pv (.int .i64 (a:Int))),(7,.pv (.int .i64 0)),(10,.pv (.int .i64 ((x.1:Int)-1)))],[(999,.arr 22 (rA x.2))]⟩) (fun x=>x.1) [] (m,B) ⟨Nat.le_refl _,hBs,hW⟩ ?_ ?_;·simp
 ·rintro⟨k,D⟩ ⟨hk,hD,hI⟩;have hk:k≤m:=hk;have hD:D.size=d.size:=hD;have hI:heapPop ltInt a k D=W:=hI;cases k with|zero=>have hI:D=W:=hI;rw[hI];simp(config := { maxSteps := 3000000 })|succ k=>
   have hI:heapPop ltInt a k (siftDown ltInt k a 0 (swp D a (a+k)))=W:=hI;have hs:=ux k a k 0 (swp D a (a+k)) (by omega);have v1:(k:Int)+1-1=(k:Int):=by omega
   have v2:IntKind.i64.wrap ((k:Int)-1)=(k:Int)-1:=wrap_i64 (by omega);obtain⟨c,hc⟩:∃c,c=a+k:=⟨_,rfl⟩;rw[←hc]at hI hs;have v3:IntKind.i64.wrap ((a:Int)+(k:Int))=(c:Int):=by rw[wrap_i64 (by omega)];omega
   have q1:a<D.size:=by omega
   have q2:c<D.size:=by omega
   have r1:=bz q1;have r2:=bz q2;have r3:=bz (d:=D.setIfInBounds a (gA D c)) (i:=c) (by rw[Array.size_setIfInBounds];omega);have v4:(a:Int)+(k:Int)≤(D.size:Int):=by omega
   have v5:D.size≤1000000:=by omega
   apply af;·simp(config := { maxSteps := 3000000 }) [v1];exact⟨rfl,rfl⟩
   rw[bd];rw[aM];apply af;·simp(config := { maxSteps := 3000000 }) [v1,v3,q1,q2,r1,r2,r3];exact⟨rfl,rfl⟩
   rw[show(D.setIfInBounds a (gA D c)).setIfInBounds c (gA D a)=swp D a c from rfl];have v6:(swp D a c).size=D.size:=size_swp _ _ _;simp(config := { maxSteps := 3000000 }) [v1,v2,v4,v5,v6];exact⟨k,siftDown ltInt k a 0 (swp D a c),⟨by omega,by rw[hs,size_swp,hD],hI⟩,⟨rfl,rfl⟩,by omega⟩
theorem Tk:dR Tryz.prog 153 (DB reverseRange):=by
 intro ys φ r h hφ;obtain⟨d,p,q,rfl,rfl,rfl⟩:=sk h;obtain⟨h1,h2,h3,h4⟩:=hφ;obtain⟨a,rfl⟩:∃a:Nat,p=a:=⟨p.toNat,by omega⟩;obtain⟨b,rfl⟩:∃b:Nat,q=b:=⟨q.toNat,by omega⟩;rw[Int.toNat_natCast,Int.toNat_natCast];refine cu ah (by kernel_rfl) (by conv=>lhs;reduce) (by simp) rfl (by simp) ?_;have w0:IntKind.i64.wrap ((b:Int)-1)=(b:Int)-1:=wrap_i64 (by omega);unfold reverseRange;generalize hW:reverseLoop a (b-1) d=W;simp(config := { maxSteps := 3000000 }) [w0];refine aq (fun x:(Nat×Nat)×Array Int=>(a≤x.1.1∧x.1.1≤b)∧x.1.2≤b∧x.2.size=d.size∧reverseLoop x.1.1 (x.1.2-1) x.2=W) (fun x=>⟨[(0,.own 999),(6,.pv (.int .i64 (x.1.1:Int))),(7,.pv (.int .i64 ((x.1.2:Int)-1)))],[(999,.arr 22 (rA x.2))]⟩) (fun x=>x.1.2) [] ((a,b),d) ⟨⟨Nat.le_refl _,by show a≤b;omega⟩,Nat.le_refl _,rfl,hW⟩ ?_ ?_;·simp
 ·rintro⟨⟨i,j⟩,D⟩ ⟨⟨hi1,hi2⟩,hj,hD,hI⟩;have hi1:a≤i:=hi1;have hi2:i≤b:=hi2;have hj:j≤b:=hj;have hD:D.size=d.size:=hD;have hI:reverseLoop i (j-1) D=W:=hI;unfold reverseLoop at hI;by_cases hlt:i<j-1
  ·rw[if_pos hlt]at hI;obtain⟨c,hc⟩:∃c,c=j-1:=⟨_,rfl⟩;rw[←hc]at hI;have e1:(j:Int)-1=(c:Int):=by omega
   have g1:i<c:=by omega
   have w1:IntKind.i64.wrap ((i:Int)+1)=(i:Int)+1:=wrap_i64 (by omega);have w2:IntKind.i64.wrap ((c:Int)-1)=(c:Int)-1:=wrap_i64 (by omega);have q1:i<D.size:=by omega
   have q2:c<D.size:=by omega
   have r1:=bz q1;have r2:=bz q2;have r3:=bz (d:=D.setIfInBounds i (gA D c)) (i:=c) (by rw[Array.size_setIfInBounds];omega);simp(config := { maxSteps := 3000000 }) [e1,g1,w1,w2,q1,q2,r1,r2,r3];exact⟨i+1,c,swp D i c,⟨by omega,by omega,by rw[size_swp,hD],hI⟩,⟨⟨by omega,rfl⟩,rfl⟩,by omega⟩
  ·rw[if_neg hlt]at hI;subst hI;have g1:¬(i:Int)<(j:Int)-1:=by omega
   simp(config := { maxSteps := 3000000 }) [g1]
theorem lj {rows:List (List PV)}{l:List Int} (h:dec dF rows=some l):∃d:Array Int,rows=rA d∧l=d.toList:=⟨l.toArray,by rw[cZ h,zq],by simp⟩
noncomputable def Go2:List AV→Option (Prop×AV)|[.pv (.ro a),.pv (.int .i64 p),.pv (.int .i64 q),.aQ [.bx [.pv (.int .i64 s)]]]=>(dec dF a).map fun l=>((0≤p∧p<(l.length:Int))∧(0≤q∧q<(l.length:Int))∧(0≤s∧s≤1000)∧l.length≤1000000,.bJ 0 [.aQ [.pv (.int .i64 ((order2 ltInt l.toArray p.toNat q.toNat s.toNat).1:Int)),.pv (.int .i64 ((order2 ltInt l.toArray p.toNat q.toNat s.toNat).2.1:Int))],.bx [.pv (.int .i64 ((order2 ltInt l.toArray p.toNat q.toNat s.toNat).2.2:Int))]])|_=>none
@[simp] theorem Go2_eq (d:Array Int) (p q s:Int):Go2 [.pv (.ro (rA d)),.pv (.int .i64 p),.pv (.int .i64 q),.aQ [.bx [.pv (.int .i64 s)]]]=some ((0≤p∧p<(d.size:Int))∧(0≤q∧q<(d.size:Int))∧(0≤s∧s≤1000)∧d.size≤1000000,.bJ 0 [.aQ [.pv (.int .i64 ((order2 ltInt d p.toNat q.toNat s.toNat).1:Int)),.pv (.int .i64 ((order2 ltInt d p.toNat q.toNat s.toNat).2.1:Int))],.bx [.pv (.int .i64 ((order2 ltInt d p.toNat q.toNat s.toNat).2.2:Int))]]):=by show(dec dF (rA d)).map _=_;rw[iA];simp
theorem W7:dR Tryz.prog 166 Go2:=by
 intro ys φ r h hφ;unfold Go2 at h;split at h
 ·rename_i ra p q s;obtain⟨l,hl,h⟩:=Option.map_eq_some_iff.1 h;cases h;obtain⟨d,rfl,rfl⟩:=lj hl;obtain⟨⟨h1,h2⟩,⟨h3,h4⟩,⟨h5,h6⟩,h7⟩:=hφ;obtain⟨a,rfl⟩:∃a:Nat,p=a:=⟨p.toNat,by omega⟩;obtain⟨b,rfl⟩:∃a:Nat,q=a:=⟨q.toNat,by omega⟩;obtain⟨m,rfl⟩:∃a:Nat,s=a:=⟨s.toNat,by omega⟩;rw[Array.length_toList]at h2 h4 h7;rw[Int.toNat_natCast,Int.toNat_natCast,Int.toNat_natCast,Array.toArray_toList];have q1:a<d.size:=by omega
  have q2:b<d.size:=by omega
  have r1:=bz q1;have r2:=bz q2;have w1:IntKind.i64.wrap ((m:Int)+1)=(m:Int)+1:=wrap_i64 (by omega);refine cu (ag nn ah) (by kernel_rfl) (by conv=>lhs;reduce) (by simp) rfl (by simp) ?_;cases hb:ltInt d[b]! d[a]! with
  |true=>
   have hb2:ltInt (gA d b) (gA d a)=true:=hb;have hx:order2 ltInt d a b m=(b,a,m+1):=by unfold order2;rw[hb,if_pos rfl]
   simp(config := { maxSteps := 3000000 }) [q1,q2,r1,r2,hb2,hx,w1]|false=>
   have hb2:ltInt (gA d b) (gA d a)=false:=hb;have hx:order2 ltInt d a b m=(a,b,m):=by unfold order2;rw[hb,if_neg (by simp)]
   simp(config := { maxSteps := 3000000 }) [q1,q2,r1,r2,hb2,hx,w1]
 ·cases h
theorem mr (d:Array Int) (a b s:Nat):(order2 ltInt d a b s).2.2≤s+1∧(((order2 ltInt d a b s).1=a∧(order2 ltInt d a b s).2.1=b)∨((order2 ltInt d a b s).1=b∧(order2 ltInt d a b s).2.1=a)):=by
 unfold order2;split;·exact⟨Nat.le_refl _,.inr ⟨rfl,rfl⟩⟩
 ·exact⟨Nat.le_add_right _ _,.inl ⟨rfl,rfl⟩⟩
noncomputable def MI:List AV→Option (Prop×AV)|[.pv (.ro a),.pv (.int .i64 p),.pv (.int .i64 q),.pv (.int .i64 u),.aQ [.bx [.pv (.int .i64 s)]]]=>(dec dF a).map fun l=>((0≤p∧p<(l.length:Int))∧(0≤q∧q<(l.length:Int))∧(0≤u∧u<(l.length:Int))∧(0≤s∧s≤900)∧l.length≤1000000,.bJ 0 [.pv (.int .i64 ((median ltInt l.toArray p.toNat q.toNat u.toNat s.toNat).1:Int)),.bx [.pv (.int .i64 ((median ltInt l.toArray p.toNat q.toNat u.toNat s.toNat).2:Int))]])|_=>none
@[simp] theorem Gmed_eq (d:Array Int) (p q u s:Int):MI [.pv (.ro (rA d)),.pv (.int .i64 p),.pv (.int .i64 q),.pv (.int .i64 u),.aQ [.bx [.pv (.int .i64 s)]]]=some ((0≤p∧p<(d.size:Int))∧(0≤q∧q<(d.size:Int))∧(0≤u∧u<(d.size:Int))∧(0≤s∧s≤900)∧d.size≤1000000,.bJ 0 [.pv (.int .i64 ((median ltInt d p.toNat q.toNat u.toNat s.toNat).1:Int)),.bx [.pv (.int .i64 ((median ltInt d p.toNat q.toNat u.toNat s.toNat).2:Int))]]):=by show(dec dF (rA d)).map _=_;rw[iA];simp
theorem Fj (d:Array Int) (a b c s:Nat):median ltInt d a b c s=((order2 ltInt d (order2 ltInt d a b s).1 (order2 ltInt d (order2 ltInt d a b s).2.1 c (order2 ltInt d a b s).2.2).1 (order2 ltInt d (order2 ltInt d a b s).2.1 c (order2 ltInt d a b s).2.2).2.2).2.1,(order2 ltInt d (order2 ltInt d a b s).1 (order2 ltInt d (order2 ltInt d a b s).2.1 c (order2 ltInt d a b s).2.2).1 (order2 ltInt d (order2 ltInt d a b s).2.1 c (order2 ltInt d a b s).2.2).2.2).2.2):=rfl
theorem I0 (d:Array Int) (a b c s n:Nat) (ha:a<n) (hb:b<n) (hc:c<n):(median ltInt d a b c s).1<n∧(median ltInt d a b c s).2≤s+3:=by rw[Fj];have h1:=mr d a b s;generalize order2 ltInt d a b s=r1 at*;have h2:=mr d r1.2.1 c r1.2.2;generalize order2 ltInt d r1.2.1 c r1.2.2=r2 at*;have h3:=mr d r1.1 r2.1 r2.2.2;show(order2 ltInt d r1.1 r2.1 r2.2.2).2.1<n∧(order2 ltInt d r1.1 r2.1 r2.2.2).2.2≤s+3;generalize order2 ltInt d r1.1 r2.1 r2.2.2=r3 at*;omega
theorem JP:dR Tryz.prog 164 MI:=by
 intro ys φ r h hφ;unfold MI at h;split at h
 ·rename_i ra p q u s;obtain⟨l,hl,h⟩:=Option.map_eq_some_iff.1 h;cases h;obtain⟨d,rfl,rfl⟩:=lj hl;obtain⟨⟨h1,h2⟩,⟨h3,h4⟩,⟨h8,h9⟩,⟨h5,h6⟩,h7⟩:=hφ;obtain⟨a,rfl⟩:∃a:Nat,p=a:=⟨p.toNat,by omega⟩;obtain⟨b,rfl⟩:∃a:Nat,q=a:=⟨q.toNat,by omega⟩;obtain⟨c,rfl⟩:∃a:Nat,u=a:=⟨u.toNat,by omega⟩;obtain⟨m,rfl⟩:∃a:Nat,s=a:=⟨s.toNat,by omega⟩;rw[Array.length_toList]at h2 h4 h7 h9;rw[Int.toNat_natCast,Int.toNat_natCast,Int.toNat_natCast,Int.toNat_natCast,Array.toArray_toList];refine cu (bk (ks:=[0,0,0,2]) W7 (by kernel_rfl) ah) (by kernel_rfl) (by conv=>lhs;reduce) (by simp) rfl (by simp) ?_;have e1:=mr d a b m;generalize hr1:order2 ltInt d a b m=r1 at*;have e2:=mr d r1.2.1 c r1.2.2;generalize hr2:order2 ltInt d r1.2.1 c r1.2.2=r2 at*;have e3:=mr d r1.1 r2.1 r2.2.2;have hx:median ltInt d a b c m=((order2 ltInt d r1.1 r2.1 r2.2.2).2.1,(order2 ltInt d r1.1 r2.1 r2.2.2).2.2):=by rw[Fj,hr1,hr2]
  generalize hr3:order2 ltInt d r1.1 r2.1 r2.2.2=r3 at*;rw[hx];have n1:a<d.size:=by omega
  have n2:b<d.size:=by omega
  have n3:c<d.size:=by omega
  have n4:r1.1<d.size:=by omega
  have n5:r1.2.1<d.size:=by omega
  have n6:r2.1<d.size:=by omega
  have n7:(m:Int)≤1000:=by omega
  have n8:(r1.2.2:Int)≤1000:=by omega
  have n9:(r2.2.2:Int)≤1000:=by omega
  apply af;·simp(config := { maxSteps := 3000000 });exact⟨rfl,rfl⟩
  apply af;·simp(config := { maxSteps := 3000000 }) [n1,n2,n7,h7,hr1];exact⟨rfl,rfl⟩
  apply af;·simp(config := { maxSteps := 3000000 }) [n3,n5,n8,h7,hr2];exact⟨rfl,rfl⟩
  apply af;·simp(config := { maxSteps := 3000000 }) [n4,n6,n9,h7,hr3];exact⟨rfl,rfl⟩
  simp(config := { maxSteps := 3000000 })
 ·cases h
noncomputable def OS:List AV→Option (Prop×AV)|[.pv (.ro a),.pv (.int .i64 p),.aQ [.bx [.pv (.int .i64 s)]]]=>(dec dF a).map fun l=>((1≤p∧p+1<(l.length:Int))∧(0≤s∧s≤900)∧l.length≤1000000,.bJ 0 [.pv (.int .i64 ((medianAdjacent ltInt l.toArray p.toNat s.toNat).1:Int)),.bx [.pv (.int .i64 ((medianAdjacent ltInt l.toArray p.toNat s.toNat).2:Int))]])|_=>none
@[simp] theorem Gadj_eq (d:Array Int) (p s:Int):OS [.pv (.ro (rA d)),.pv (.int .i64 p),.aQ [.bx [.pv (.int .i64 s)]]]=some ((1≤p∧p+1<(d.size:Int))∧(0≤s∧s≤900)∧d.size≤1000000,.bJ 0 [.pv (.int .i64 ((medianAdjacent ltInt d p.toNat s.toNat).1:Int)),.bx [.pv (.int .i64 ((medianAdjacent ltInt d p.toNat s.toNat).2:Int))]]):=by show(dec dF (rA d)).map _=_;rw[iA];simp
theorem Ul:dR Tryz.prog 163 OS:=by
 intro ys φ r h hφ;unfold OS at h;split at h
 ·rename_i ra p s;obtain⟨l,hl,h⟩:=Option.map_eq_some_iff.1 h;cases h;obtain⟨d,rfl,rfl⟩:=lj hl;obtain⟨⟨h1,h2⟩,⟨h5,h6⟩,h7⟩:=hφ;obtain⟨a,rfl⟩:∃a:Nat,p=a:=⟨p.toNat,by omega⟩;obtain⟨m,rfl⟩:∃a:Nat,s=a:=⟨s.toNat,by omega⟩;rw[Array.length_toList]at h2 h7;rw[Int.toNat_natCast,Int.toNat_natCast,Array.toArray_toList];have w1:IntKind.i64.wrap ((a:Int)-1)=((a-1:Nat):Int):=by rw[wrap_i64 (by omega)];omega
  have w2:IntKind.i64.wrap ((a:Int)+1)=((a+1:Nat):Int):=by rw[wrap_i64 (by omega)];omega
  unfold medianAdjacent;obtain⟨x,hx⟩:∃x,x=a-1:=⟨_,rfl⟩;obtain⟨y,hy⟩:∃y,y=a+1:=⟨_,rfl⟩;rw[←hx]at w1 ⊢;rw[←hy]at w2 ⊢;generalize hR:median ltInt d x a y m=R;have n1:x<d.size:=by omega
  have n2:a<d.size:=by omega
  have n3:y<d.size:=by omega
  have n4:(m:Int)≤900:=by omega
  refine cu (bk (ks:=[0,0,0,0,2]) JP (by kernel_rfl) ah) (by kernel_rfl) (by conv=>lhs;reduce) (by simp) rfl (by simp) ?_;simp(config := { maxSteps := 3000000 }) [w1,w2,n1,n2,n3,n4,h7,hR]
 ·cases h
def fD:Hint→Int|.unknown=>0|.increasing=>1|.decreasing=>2
theorem xP (d:Array Int) (a s n:Nat) (h1:1≤a) (h2:a+1<n):(medianAdjacent ltInt d a s).1<n∧(medianAdjacent ltInt d a s).2≤s+3:=I0 d _ _ _ s n (by omega) (by omega) h2
theorem EB {d:Array Int}{a b:Nat} (h:¬b-a≥8):choosePivot ltInt d a b=(a+(b-a)/4*2,.increasing):=by unfold choosePivot;simp only[if_neg h];rfl
theorem Ig {d:Array Int}{a b:Nat} (h:b-a≥8) (h2:¬b-a≥50):choosePivot ltInt d a b=((median ltInt d (a+(b-a)/4*1) (a+(b-a)/4*2) (a+(b-a)/4*3) 0).1,if(median ltInt d (a+(b-a)/4*1) (a+(b-a)/4*2) (a+(b-a)/4*3) 0).2=0 then .increasing else if(median ltInt d (a+(b-a)/4*1) (a+(b-a)/4*2) (a+(b-a)/4*3) 0).2=12 then .decreasing else .unknown):=by unfold choosePivot;simp only[if_pos h,if_neg h2]
theorem IC {d:Array Int}{a b:Nat} (h2:b-a≥50) {ri rj rk m:Nat×Nat} (e1:medianAdjacent ltInt d (a+(b-a)/4*1) 0=ri) (e2:medianAdjacent ltInt d (a+(b-a)/4*2) ri.2=rj) (e3:medianAdjacent ltInt d (a+(b-a)/4*3) rj.2=rk) (e4:median ltInt d ri.1 rj.1 rk.1 rk.2=m):choosePivot ltInt d a b=(m.1,if m.2=0 then .increasing else if m.2=12 then .decreasing else .unknown):=by unfold choosePivot;simp only[if_pos (show b-a≥8 by omega),if_pos h2,e1,e2,e3,e4]
noncomputable def Oy:List AV→Option (Prop×AV)|[.pv (.ro a),.pv (.int .i64 p),.pv (.int .i64 q)]=>(dec dF a).map fun l=>(0≤p∧p≤q∧q≤(l.length:Int)∧l.length≤1000000,.aQ [.pv (.int .i64 ((choosePivot ltInt l.toArray p.toNat q.toNat).1:Int)),.pv (.int .i64 (fD (choosePivot ltInt l.toArray p.toNat q.toNat).2))])|_=>none
@[simp] theorem Gchp_eq (d:Array Int) (p q:Int):Oy [.pv (.ro (rA d)),.pv (.int .i64 p),.pv (.int .i64 q)]=some (0≤p∧p≤q∧q≤(d.size:Int)∧d.size≤1000000,.aQ [.pv (.int .i64 ((choosePivot ltInt d p.toNat q.toNat).1:Int)),.pv (.int .i64 (fD (choosePivot ltInt d p.toNat q.toNat).2))]):=by show(dec dF (rA d)).map _=_;rw[iA];simp
theorem Uj:aO Tryz.prog 152 Oy:=by
 intro ys φ r h hφ;unfold Oy at h;split at h
 ·rename_i ra p q;obtain⟨l,hl,h⟩:=Option.map_eq_some_iff.1 h;cases h;obtain⟨d,rfl,rfl⟩:=lj hl;obtain⟨h1,h2,h3,h7⟩:=hφ;obtain⟨a,rfl⟩:∃a:Nat,p=a:=⟨p.toNat,by omega⟩;obtain⟨b,rfl⟩:∃a:Nat,q=a:=⟨q.toNat,by omega⟩;rw[Array.length_toList]at h3 h7;rw[Int.toNat_natCast,Int.toNat_natCast,Array.toArray_toList];obtain⟨n,hn⟩:∃n,n=b-a:=⟨_,rfl⟩;obtain⟨f,hf⟩:∃f,f=n/4:=⟨_,rfl⟩;obtain⟨i,hi⟩:∃i,i=a+f*1:=⟨_,rfl⟩;obtain⟨j,hj⟩:∃j,j=a+f*2:=⟨_,rfl⟩;obtain⟨k,hk⟩:∃k,k=a+f*3:=⟨_,rfl⟩;have w0:IntKind.i64.wrap ((b:Int)-(a:Int))=(n:Int):=by rw[wrap_i64 (by omega)];omega
  have w1:(n:Int).tdiv 4=(f:Int):=by rw[Int.tdiv_eq_ediv_of_nonneg (by omega)];omega
  have w2:IntKind.i64.wrap (f:Int)=(f:Int):=wrap_i64 (by omega);have w3:IntKind.i64.wrap ((f:Int)*2)=(f:Int)*2:=wrap_i64 (by omega);have w4:IntKind.i64.wrap ((f:Int)*3)=(f:Int)*3:=wrap_i64 (by omega);have w5:IntKind.i64.wrap ((a:Int)+(f:Int))=(i:Int):=by rw[wrap_i64 (by omega)];omega
  have w6:IntKind.i64.wrap ((a:Int)+(f:Int)*2)=(j:Int):=by rw[wrap_i64 (by omega)];omega
  have w7:IntKind.i64.wrap ((a:Int)+(f:Int)*3)=(k:Int):=by rw[wrap_i64 (by omega)];omega
  refine aw (bk (ks:=[0,0,2]) Ul (by kernel_rfl) (bk (ks:=[0,0,0,0,2]) JP (by kernel_rfl) ah)) (by kernel_rfl) (by conv=>lhs;reduce) (by simp) ?_;generalize hC:choosePivot ltInt d a b=C;apply af;·simp(config := { maxSteps := 3000000 });exact⟨rfl,rfl⟩
  apply af;·simp(config := { maxSteps := 3000000 }) [w0];exact⟨rfl,rfl⟩
  apply af;·simp(config := { maxSteps := 3000000 });exact⟨rfl,rfl⟩
  apply af;·simp(config := { maxSteps := 3000000 }) [w1,w2,w5];exact⟨rfl,rfl⟩
  apply af;·simp(config := { maxSteps := 3000000 }) [w1,w2,w3,w6];exact⟨rfl,rfl⟩
  apply af;·simp(config := { maxSteps := 3000000 }) [w1,w2,w4,w7];exact⟨rfl,rfl⟩
  by_cases g8:n≥8
  ·have c8:(8:Int)≤(n:Int):=by omega
   by_cases g50:n≥50
   ·have c50:(50:Int)≤(n:Int):=by omega
    obtain⟨ri,e1⟩:∃ri,medianAdjacent ltInt d i 0=ri:=⟨_,rfl⟩;obtain⟨rj,e2⟩:∃rj,medianAdjacent ltInt d j ri.2=rj:=⟨_,rfl⟩;obtain⟨rk,e3⟩:∃rk,medianAdjacent ltInt d k rj.2=rk:=⟨_,rfl⟩;obtain⟨m,e4⟩:∃m,median ltInt d ri.1 rj.1 rk.1 rk.2=m:=⟨_,rfl⟩;have m1:=xP d i 0 d.size (by omega) (by omega);have m2:=xP d j ri.2 d.size (by omega) (by omega);have m3:=xP d k rj.2 d.size (by omega) (by omega);rw[e1]at m1;rw[e2]at m2;rw[e3]at m3;have hx:=IC (d:=d) (a:=a) (b:=b) (by omega) (ri:=ri) (rj:=rj) (rk:=rk) (m:=m) (by rw[←hn,←hf,←hi,e1]) (by rw[←hn,←hf,←hj,e2]) (by rw[←hn,←hf,←hk,e3]) e4;rw[hC]at hx;have p1:(1:Int)≤(i:Int)∧(i:Int)+1<(d.size:Int):=by omega
    have p2:(1:Int)≤(j:Int)∧(j:Int)+1<(d.size:Int):=by omega
    have p3:(1:Int)≤(k:Int)∧(k:Int)+1<(d.size:Int):=by omega
    have s1:(ri.2:Int)≤900:=by omega
    have s2:(rj.2:Int)≤900:=by omega
    have s3:(rk.2:Int)≤900:=by omega
    have t1:ri.1<d.size:=m1.1;have t2:rj.1<d.size:=m2.1;have t3:rk.1<d.size:=m3.1;apply af
    ·apply af;·simp(config := { maxSteps := 3000000 }) [c8];exact⟨rfl,rfl⟩
     apply gN rfl;apply af
     ·apply af;·simp(config := { maxSteps := 3000000 }) [c50];exact⟨rfl,rfl⟩
      apply gN rfl;apply af;·simp(config := { maxSteps := 3000000 }) [p1,h7,e1];exact⟨rfl,rfl⟩
      apply af;·simp(config := { maxSteps := 3000000 }) [p2,s1,h7,e2];exact⟨rfl,rfl⟩
      simp(config := { maxSteps := 3000000 }) [p3,s2,h7,e3];exact⟨rfl,rfl⟩
     simp(config := { maxSteps := 3000000 }) [t1,t2,t3,s3,h7,e4];exact⟨rfl,rfl⟩
    by_cases z0:m.2=0
    ·rw[if_pos z0]at hx;subst hx;have y0:(m.2:Int)=0:=by omega
     simp(config := { maxSteps := 3000000 }) [y0,fD]
    ·rw[if_neg z0]at hx;have y0:¬(m.2:Int)=0:=by omega
     by_cases z1:m.2=12
     ·rw[if_pos z1]at hx;subst hx;have y1:(m.2:Int)=12:=by omega
      simp(config := { maxSteps := 3000000 }) [z0,y0,y1,fD]
     ·rw[if_neg z1]at hx;subst hx;have y1:¬(m.2:Int)=12:=by omega
      simp(config := { maxSteps := 3000000 }) [z0,z1,y0,y1,fD]
   ·have c50:¬(50:Int)≤(n:Int):=by omega
    have hx:=Ig (d:=d) (a:=a) (b:=b) (by omega) (by omega);rw[←hn,←hf,←hi,←hj,←hk,hC]at hx;obtain⟨m,e4⟩:∃m,median ltInt d i j k 0=m:=⟨_,rfl⟩;rw[e4]at hx;have t1:i<d.size:=by omega
    have t2:j<d.size:=by omega
    have t3:k<d.size:=by omega
    apply af
    ·apply af;·simp(config := { maxSteps := 3000000 }) [c8];exact⟨rfl,rfl⟩
     apply gN rfl;apply af;·simp(config := { maxSteps := 3000000 }) [c50];exact⟨rfl,rfl⟩
     simp(config := { maxSteps := 3000000 }) [t1,t2,t3,h7,e4];exact⟨rfl,rfl⟩
    by_cases z0:m.2=0
    ·rw[if_pos z0]at hx;subst hx;have y0:(m.2:Int)=0:=by omega
     simp(config := { maxSteps := 3000000 }) [y0,fD]
    ·rw[if_neg z0]at hx;have y0:¬(m.2:Int)=0:=by omega
     by_cases z1:m.2=12
     ·rw[if_pos z1]at hx;subst hx;have y1:(m.2:Int)=12:=by omega
      simp(config := { maxSteps := 3000000 }) [z0,y0,y1,fD]
     ·rw[if_neg z1]at hx;subst hx;have y1:¬(m.2:Int)=12:=by omega
      simp(config := { maxSteps := 3000000 }) [z0,z1,y0,y1,fD]
  ·have c8:¬(8:Int)≤(n:Int):=by omega
   have hx:=EB (d:=d) (a:=a) (b:=b) (by omega);rw[←hn,←hf,←hj,hC]at hx;subst hx;simp(config := { maxSteps := 3000000 }) [c8,fD]
 ·cases h
def G2:List UInt8:=0::1::(List.replicate 2 2++(List.replicate 4 3++(List.replicate 8 4++(List.replicate 16 5++(List.replicate 32 6++(List.replicate 64 7++List.replicate 128 8))))))
theorem Jo:∀n:Nat,n<256→1≤n→1<<<bitsLen n≤2*n:=by decide+kernel
@[simp] noncomputable def Ir:List AV→Option (Prop×AV)|[.pv (.int .u64 n)]=>some (0≤n∧n<256,.pv (.int .i64 (bitsLen n.toNat:Int)))|_=>none
theorem mn:∀n:Nat,n<256→G2[n]?=some (bitsLen n).toUInt8∧bitsLen n≤8:=by decide+kernel
theorem Iw:aO Tryz.prog 159 Ir:=by
 intro ys φ r h hφ;unfold Ir at h;split at h
 ·rename_i x;cases h;obtain⟨h1,h2⟩:=hφ;obtain⟨n,rfl⟩:∃n:Nat,x=n:=⟨x.toNat,by omega⟩;rw[Int.toNat_natCast];obtain⟨e1,e2⟩:=mn n (by omega);have w1:IntKind.u8.wrap (n:Int)=(n:Int):=by rw[wrap_u8];omega
  have c1:¬(4294967296:Int)≤(n:Int):=by omega
  have c2:¬(65536:Int)≤(n:Int):=by omega
  have c3:¬(256:Int)≤(n:Int):=by omega
  refine aw ah (by kernel_rfl) (by conv=>lhs;reduce) (by simp) ?_;apply af;·simp(config := { maxSteps := 3000000 });exact⟨rfl,rfl⟩
  apply af;·simp(config := { maxSteps := 3000000 }) [c1];exact⟨rfl,rfl⟩
  apply af;·simp(config := { maxSteps := 3000000 }) [c2];exact⟨rfl,rfl⟩
  apply af;·simp(config := { maxSteps := 3000000 }) [c3];exact⟨rfl,rfl⟩
  simp(config := { maxSteps := 3000000 }) [w1];refine⟨by omega,?_⟩;show IntKind.i64.wrap (IntKind.i64.wrap ((G2[n]?.getD 0).toNat:Int))=_;rw[e1];have e3:((bitsLen n).toUInt8.toNat:Int)=(bitsLen n:Int):=by rw[show(bitsLen n).toUInt8.toNat=bitsLen n%256 from rfl,Nat.mod_eq_of_lt (by omega)]
  show IntKind.i64.wrap (IntKind.i64.wrap ((bitsLen n).toUInt8.toNat:Int))=_;have e4:IntKind.i64.wrap (bitsLen n:Int)=(bitsLen n:Int):=wrap_i64 (by omega);rw[e3,e4,e4]
 ·cases h
theorem KW:aO Tryz.prog 148 Ir:=by
 intro ys φ r h hφ;unfold Ir at h;split at h;·rename_i x;cases h;refine aw (ag Iw ah) (by kernel_rfl) (by conv=>lhs;reduce) (by simp) ?_;simp(config := { maxSteps := 3000000 }) [hφ]
 ·cases h
theorem xS (a b:UInt64):lA .xor .u64 (a.toNat:Int) (b.toNat:Int)=.int .u64 ((a^^^b).toNat:Int):=by
 have h1:(BitVec.ofInt 64 (a.toNat:Int)).toNat=a.toNat:=by rw[BitVec.ofInt_natCast,BitVec.toNat_ofNat,Nat.mod_eq_of_lt a.toNat_lt]
 have h2:(BitVec.ofInt 64 (b.toNat:Int)).toNat=b.toNat:=by rw[BitVec.ofInt_natCast,BitVec.toNat_ofNat,Nat.mod_eq_of_lt b.toNat_lt]
 unfold lA;have h4:(BitVec.ofInt IntKind.u64.bits (a.toNat:Int)^^^BitVec.ofInt IntKind.u64.bits (b.toNat:Int)).toNat=(a^^^b).toNat:=by show(BitVec.ofInt 64 (a.toNat:Int)^^^BitVec.ofInt 64 (b.toNat:Int)).toNat=_;rw[BitVec.toNat_xor,h1,h2,UInt64.toNat_xor]
 simp only[h4];refine congrArg _ ?_;exact wrap_u64 (by have:=(a^^^b).toNat_lt;omega)
theorem I3 (a b:UInt64):lA .and .u64 (a.toNat:Int) (b.toNat:Int)=.int .u64 ((a.toNat&&&b.toNat:Nat):Int):=by
 have h1:(BitVec.ofInt 64 (a.toNat:Int)).toNat=a.toNat:=by rw[BitVec.ofInt_natCast,BitVec.toNat_ofNat,Nat.mod_eq_of_lt a.toNat_lt]
 have h2:(BitVec.ofInt 64 (b.toNat:Int)).toNat=b.toNat:=by rw[BitVec.ofInt_natCast,BitVec.toNat_ofNat,Nat.mod_eq_of_lt b.toNat_lt]
 unfold lA;have h4:(BitVec.ofInt IntKind.u64.bits (a.toNat:Int)&&&BitVec.ofInt IntKind.u64.bits (b.toNat:Int)).toNat=a.toNat&&&b.toNat:=by show(BitVec.ofInt 64 (a.toNat:Int)&&&BitVec.ofInt 64 (b.toNat:Int)).toNat=_;rw[BitVec.toNat_and,h1,h2]
 simp only[h4];refine congrArg _ ?_;exact wrap_u64 (by have:=(a&&&b).toNat_lt;rw[UInt64.toNat_and]at this;omega)
theorem xY (n:Nat):IntKind.u64.wrap (n:Int)=((n%2^64:Nat):Int):=by simp only[IntKind.wrap,IntKind.bits,IntKind.signed];simp
theorem Da (a:UInt64) (k:UInt64) (h:k.toNat<64):IntKind.u64.wrap ((a.toNat:Int)*2^k.toNat)=((a<<<k).toNat:Int):=by rw[show(a.toNat:Int)*2^k.toNat=((a.toNat*2^k.toNat:Nat):Int) by simp,xY,UInt64.toNat_shiftLeft,Nat.mod_eq_of_lt h,Nat.shiftLeft_eq]
theorem JB (a:UInt64) (k:UInt64) (h:k.toNat<64):(a.toNat:Int).fdiv (2^k.toNat)=((a>>>k).toNat:Int):=by rw[UInt64.toNat_shiftRight,Nat.mod_eq_of_lt h,Nat.shiftRight_eq_div_pow,show((2:Int)^k.toNat)=((2^k.toNat:Nat):Int) by simp];rw[Int.natCast_ediv];exact Int.fdiv_eq_ediv_of_nonneg _ (Int.natCast_nonneg _)
@[simp] noncomputable def YI:List AV→Option (Prop×AV)|[.aQ [.bx [.pv (.int .u64 n)]]]=>some (0≤n∧n<18446744073709551616,.bJ 0 [.pv (.int .u64 ((xorNext (UInt64.ofNat n.toNat)).toNat:Int)),.bx [.pv (.int .u64 ((xorNext (UInt64.ofNat n.toNat)).toNat:Int))]])|_=>none
theorem Tt:dR Tryz.prog 162 YI:=by
 intro ys φ r h hφ;unfold YI at h;split at h
 ·rename_i x;cases h;obtain⟨h1,h2⟩:=hφ;obtain⟨a,rfl⟩:∃a:UInt64,x=a.toNat:=⟨UInt64.ofNat x.toNat,by rw[UInt64.toNat_ofNat'];omega⟩;rw[Int.toNat_natCast,UInt64.ofNat_toNat];obtain⟨b1,hb1⟩:∃b1,b1=a<<<13:=⟨_,rfl⟩;obtain⟨c1,hc1⟩:∃c1,c1=a^^^b1:=⟨_,rfl⟩;obtain⟨b2,hb2⟩:∃b2,b2=c1>>>7:=⟨_,rfl⟩;obtain⟨c2,hc2⟩:∃c2,c2=c1^^^b2:=⟨_,rfl⟩;obtain⟨b3,hb3⟩:∃b3,b3=c2<<<17:=⟨_,rfl⟩;obtain⟨c3,hc3⟩:∃c3,c3=c2^^^b3:=⟨_,rfl⟩;have s1:IntKind.u64.wrap ((a.toNat:Int)*2^min 13 IntKind.u64.bits)=(b1.toNat:Int):=by rw[hb1];exact Da a 13 (by decide)
  have s2:(c1.toNat:Int).fdiv (2^min 7 IntKind.u64.bits)=(b2.toNat:Int):=by rw[hb2];exact JB c1 7 (by decide)
  have s3:IntKind.u64.wrap ((c2.toNat:Int)*2^min 17 IntKind.u64.bits)=(b3.toNat:Int):=by rw[hb3];exact Da c2 17 (by decide)
  have x1:=xS a b1;have x2:=xS c1 b2;have x3:=xS c2 b3;rw[←hc1]at x1;rw[←hc2]at x2;rw[←hc3]at x3;have hx:xorNext a=c3:=by rw[hc3,hb3,hc2,hb2,hc1,hb1];rfl
  rw[hx];refine cu ah (by kernel_rfl) (by conv=>lhs;reduce) (by simp) rfl (by simp) ?_;apply af;·simp(config := { maxSteps := 3000000 });exact⟨rfl,rfl⟩
  apply af;·simp(config := { maxSteps := 3000000 }) [s1,x1];exact⟨rfl,rfl⟩
  apply af;·simp(config := { maxSteps := 3000000 }) [s2,x2];exact⟨rfl,rfl⟩
  apply af;·simp(config := { maxSteps := 3000000 }) [s3,x3];exact⟨rfl,rfl⟩
  simp(config := { maxSteps := 3000000 })
 ·cases h
@[simp] noncomputable def Wy:List AV→Option (Prop×AV)|[.pv (.int .i64 n)]=>some (0≤n∧n<256,.pv (.int .u64 ((1<<<bitsLen n.toNat:Nat):Int)))|_=>none
theorem T5:aO Tryz.prog 161 Wy:=by
 intro ys φ r h hφ;unfold Wy at h;split at h
 ·rename_i x;cases h;obtain⟨h1,h2⟩:=hφ;obtain⟨n,rfl⟩:∃n:Nat,x=n:=⟨x.toNat,by omega⟩;rw[Int.toNat_natCast];have e2:=(mn n (by omega)).2;have w1:IntKind.u64.wrap (n:Int)=(n:Int):=wrap_u64 (by omega);have h3:n<256:=by omega
  obtain⟨m,hm⟩:∃m,m=bitsLen n:=⟨_,rfl⟩;rw[←hm]at e2 ⊢;have hp:1<<<m=2^m:=by rw[Nat.shiftLeft_eq,Nat.one_mul]
  have hle:2^m≤2^8:=Nat.pow_le_pow_right (by omega) e2;have w2:IntKind.u64.wrap (2^min m IntKind.u64.bits)=((1<<<m:Nat):Int):=by rw[show min m IntKind.u64.bits=m from Nat.min_eq_left (by show m≤64;omega),hp,show((2:Int)^m)=((2^m:Nat):Int) by simp];exact wrap_u64 ⟨Int.natCast_nonneg _,Int.le_trans (Int.ofNat_le.2 hle) (by decide)⟩
  generalize 1<<<m=M at*;refine aw (ag KW ah) (by kernel_rfl) (by conv=>lhs;reduce) (by simp) ?_;simp(config := { maxSteps := 3000000 }) [w1,h3,←hm,w2];exact h2
 ·cases h
theorem GV (a n m:Nat) (st:UInt64×Array Int) (idx:Nat):(breakStep a n m st idx).2.size=st.2.size:=by unfold breakStep;exact size_swp _ _ _
noncomputable def Cp (F:Array Int→Nat→Nat→Array Int):List AV→Option (Prop×AV)|[.aQ [.fr e a],.pv (.int .i64 p),.pv (.int .i64 q)]=>if e=22 then(dec dF a).map fun l=>(0≤p∧p≤q∧q≤(l.length:Int)∧l.length≤200,.bJ 0 [.aQ [],.fr 22 (rA (F l.toArray p.toNat q.toNat))]) else none|_=>none
@[simp] theorem Uf (F:Array Int→Nat→Nat→Array Int) (e:TypeId) (d:Array Int) (p q:Int):Cp F [.aQ [.fr e (rA d)],.pv (.int .i64 p),.pv (.int .i64 q)]=if e=22 then some (0≤p∧p≤q∧q≤(d.size:Int)∧d.size≤200,.bJ 0 [.aQ [],.fr 22 (rA (F d p.toNat q.toNat))]) else none:=by show(if e=22 then(dec dF (rA d)).map _ else none)=_;rw[iA];simp
theorem Ez {F:Array Int→Nat→Nat→Array Int}{ys:List AV}{φ:Prop}{r:AV} (h:Cp F ys=some (φ,r)):∃(d:Array Int) (p q:Int),ys=[.aQ [.fr 22 (rA d)],.pv (.int .i64 p),.pv (.int .i64 q)]∧φ=(0≤p∧p≤q∧q≤(d.size:Int)∧d.size≤200)∧r=.bJ 0 [.aQ [],.fr 22 (rA (F d p.toNat q.toNat))]:=by
 unfold Cp at h;split at h
 ·split at h;·rename_i e;subst e;obtain⟨l,hl,h⟩:=Option.map_eq_some_iff.1 h;cases h;cases cZ hl;exact⟨l.toArray,_,_,by rw[zq],by simp,rfl⟩
  ·cases h
 ·cases h
theorem Wo:dR Tryz.prog 151 (Cp breakPatterns):=by
 intro ys φ r h hφ;obtain⟨d,p,q,rfl,rfl,rfl⟩:=Ez h;obtain⟨h1,h2,h3,h4⟩:=hφ;obtain⟨a,rfl⟩:∃a:Nat,p=a:=⟨p.toNat,by omega⟩;obtain⟨b,rfl⟩:∃b:Nat,q=b:=⟨q.toNat,by omega⟩;rw[Int.toNat_natCast,Int.toNat_natCast];obtain⟨n,hn⟩:∃n,n=b-a:=⟨_,rfl⟩;have w0:IntKind.i64.wrap ((b:Int)-(a:Int))=(n:Int):=by rw[wrap_i64 (by omega)];omega
 refine cu (ag T5 (bk (ks:=[2]) Tt (by kernel_rfl) ah)) (by kernel_rfl) (by conv=>lhs;reduce) (by simp) rfl (by simp) ?_;generalize hW:breakPatterns d a b=W;unfold breakPatterns at hW;rw[←hn]at hW;apply af;·simp(config := { maxSteps := 3000000 }) [w0];exact⟨rfl,rfl⟩
 by_cases h8:n≥8
 ·have c8:(8:Int)≤(n:Int):=by omega
  simp only[if_pos h8]at hW;obtain⟨f,hf⟩:∃f,f=n/4:=⟨_,rfl⟩;obtain⟨ix,hix⟩:∃ix,ix=a+f*2-1:=⟨_,rfl⟩;obtain⟨M,hM⟩:∃M,M=1<<<bitsLen n:=⟨_,rfl⟩;rw[←hf,←hix,←hM]at hW;have h2b:=(mn n (by omega)).2;have hMp:1≤M∧M≤256:=by
   have hp:M=2^bitsLen n:=by rw[hM,Nat.shiftLeft_eq,Nat.one_mul]
   have hle:2^bitsLen n≤2^8:=Nat.pow_le_pow_right (by omega) h2b;have:0<2^bitsLen n:=Nat.pow_pos (by omega);omega
  have v1:(n:Int).tdiv 4=(f:Int):=by rw[Int.tdiv_eq_ediv_of_nonneg (by omega)];omega
  have v2:IntKind.i64.wrap (f:Int)=(f:Int):=wrap_i64 (by omega);have v3:IntKind.i64.wrap ((f:Int)*2)=(f:Int)*2:=wrap_i64 (by omega);obtain⟨y,hy⟩:∃y,y=a+f*2:=⟨_,rfl⟩;have v4:IntKind.i64.wrap ((a:Int)+(f:Int)*2)=(y:Int):=by rw[wrap_i64 (by omega)];omega
  have v5:IntKind.i64.wrap ((y:Int)-1)=(ix:Int):=by rw[wrap_i64 (by omega)];omega
  have v6:IntKind.i64.wrap ((y:Int)+1)=(y:Int)+1:=wrap_i64 (by omega);have v7:IntKind.u64.wrap (n:Int)=(n:Int):=wrap_u64 (by omega);have v8:(n:Int)<256:=by omega
  obtain⟨r0,hr0⟩:∃r0,r0=UInt64.ofNat n:=⟨_,rfl⟩;have hr1:(r0.toNat:Int)=(n:Int):=by rw[hr0,UInt64.toNat_ofNat',Nat.mod_eq_of_lt (by omega)]
  rw[←hr0]at hW;obtain⟨st,hst⟩:∃st:Nat→UInt64×Array Int,(st 0=(r0,d))∧∀t,st (t+1)=breakStep a n M (st t) (ix+t):=⟨Nat.rec (r0,d) fun t s=>breakStep a n M s (ix+t),rfl,fun _=>rfl⟩;have hW3:(st 3).2=W:=by rw[hst.2 2,hst.2 1,hst.2 0,hst.1];exact hW
  have hsz:∀t,(st t).2.size=d.size:=by intro t;induction t with|zero=>rw[hst.1]|succ t ih=>rw[hst.2,GV,ih]
  apply af;·simp(config := { maxSteps := 3000000 }) [c8];exact⟨rfl,rfl⟩
  apply gN rfl;apply af;·simp(config := { maxSteps := 3000000 }) [v7];exact⟨rfl,rfl⟩
  apply af;·simp(config := { maxSteps := 3000000 }) [v8,←hM];exact⟨rfl,rfl⟩
  apply af;·simp(config := { maxSteps := 3000000 }) [v1,v2,v3,v4,v5];exact⟨rfl,rfl⟩
  rw[aM];refine aq (fun t:Nat=>t≤3) (fun t=>⟨[(0,.own 999),(1,.pv (.int .i64 (a:Int))),(6,.pv (.int .i64 (n:Int))),(7,.ptr 7 0),(8,.pv (.int .u64 (M:Int))),(9,.pv (.int .i64 ((ix:Int)+(t:Int))))],[(999,.arr 22 (rA (st t).2)),(7,.box [.pv (.int .u64 ((st t).1.toNat:Int))])]⟩) (fun t=>3-t) [] 0 (by omega) ?_ ?_;·simp[hst.1,hr1]
  ·intro t ht;have hD:=hsz t;have hs:=hst.2 t;have hM2:M≤2*n:=by rw[hM];exact Jo n (by omega) (by omega)
   rcases hq:st t with⟨r,D⟩;rw[hq]at hD hs;have hD:D.size=d.size:=hD;rw[kG];dsimp only;by_cases ht3:t<3
   ·obtain⟨i,hi⟩:∃i,i=ix+t:=⟨_,rfl⟩;obtain⟨r',hr'⟩:∃r',r'=xorNext r:=⟨_,rfl⟩;obtain⟨o,ho⟩:∃o,o=r'.toNat&&&(M-1):=⟨_,rfl⟩;obtain⟨o2,ho2⟩:∃o2,o2=if o≥n then o-n else o:=⟨_,rfl⟩;have hs:st (t+1)=(r',swp D i (a+o2)):=by rw[hs,ho2,ho,hr',hi];rfl
    have ole:o≤M-1:=by rw[ho];exact Nat.and_le_right
    have o2lt:o2<n:=by rw[ho2];split<;>omega
    obtain⟨c,hc⟩:∃c,c=a+o2:=⟨_,rfl⟩;rw[←hc]at hs;have z1:(ix:Int)+(t:Int)=(i:Int):=by omega
    have z2:(i:Int)≤(y:Int)+1:=by omega
    have z3:(r.toNat:Int)<18446744073709551616:=by have:=r.toNat_lt;omega
    have z4:IntKind.u64.wrap ((M:Int)-1)=(M:Int)-1:=wrap_u64 (by omega);have z5:lA .and .u64 (r'.toNat:Int) ((M:Int)-1)=.int .u64 (o:Int):=by have:=I3 r' (UInt64.ofNat (M-1));rw[UInt64.toNat_ofNat',Nat.mod_eq_of_lt (by omega:M-1<2^64)]at this;rw[show(M:Int)-1=((M-1:Nat):Int) by omega,this,ho]
    have z6:IntKind.i64.wrap (o:Int)=(o:Int):=wrap_i64 (by omega);have z7:IntKind.i64.wrap ((i:Int)+1)=(i:Int)+1:=wrap_i64 (by omega);have z8:IntKind.i64.wrap ((a:Int)+(o2:Int))=(c:Int):=by rw[wrap_i64 (by omega)];omega
    have q1:i<D.size:=by omega
    have q2:c<D.size:=by omega
    have r1:=bz q1;have r2:=bz q2;have r3:=bz (d:=D.setIfInBounds i (gA D c)) (i:=c) (by rw[Array.size_setIfInBounds];omega);apply af;·simp(config := { maxSteps := 3000000 }) [v1,v2,v3,v4,v6,z1,z2];exact⟨rfl,rfl⟩
    rw[bd];rw[aM];apply af;·simp(config := { maxSteps := 3000000 }) [z3,←hr',z4,z5,z6,z1];exact⟨rfl,rfl⟩
    by_cases hon:o≥n
    ·rw[if_pos hon]at ho2;have k1:(n:Int)≤(o:Int):=by omega
     have k2:IntKind.i64.wrap ((o:Int)-(n:Int))=(o2:Int):=by rw[wrap_i64 (by omega)];omega
     apply af;·simp(config := { maxSteps := 3000000 }) [k1,k2];exact⟨rfl,rfl⟩
     simp(config := { maxSteps := 3000000 }) [z8,z7,q1,q2,r1,r2,r3];exact⟨t+1,by omega,⟨by omega,by rw[hs];rfl,by rw[hs]⟩,by omega⟩
    ·rw[if_neg hon]at ho2;subst ho2;have k1:¬(n:Int)≤(o2:Int):=by omega
     apply af;·simp(config := { maxSteps := 3000000 }) [k1];exact⟨rfl,rfl⟩
     simp(config := { maxSteps := 3000000 }) [z8,z7,q1,q2,r1,r2,r3];exact⟨t+1,by omega,⟨by omega,by rw[hs];rfl,by rw[hs]⟩,by omega⟩
   ·have:t=3:=by omega
    subst this;have z1:¬(ix:Int)+3≤(y:Int)+1:=by omega
    rw[hq]at hW3;have hW3:D=W:=hW3;subst hW3;simp(config := { maxSteps := 3000000 }) [v1,v2,v3,v4,v6,z1]
 ·have c8:¬(8:Int)≤(n:Int):=by omega
  simp only[if_neg h8]at hW;subst hW;simp(config := { maxSteps := 3000000 }) [c8]
noncomputable def NN:List AV→Option (Prop×AV)|[.aQ [.fr e a],.pv (.int .i64 p),.pv (.int .i64 q),.pv (.int .i64 v)]=>if e=22 then(dec dF a).map fun l=>((0≤p∧p≤v)∧v<q∧q≤(l.length:Int)∧l.length≤1000000,.bJ 0 [.pv (.int .i64 ((partitionEqual ltInt l.toArray p.toNat q.toNat v.toNat).1:Int)),.fr 22 (rA (partitionEqual ltInt l.toArray p.toNat q.toNat v.toNat).2)]) else none|_=>none
@[simp] theorem Gpeq_eq (e:TypeId) (d:Array Int) (p q v:Int):NN [.aQ [.fr e (rA d)],.pv (.int .i64 p),.pv (.int .i64 q),.pv (.int .i64 v)]=if e=22 then some ((0≤p∧p≤v)∧v<q∧q≤(d.size:Int)∧d.size≤1000000,.bJ 0 [.pv (.int .i64 ((partitionEqual ltInt d p.toNat q.toNat v.toNat).1:Int)),.fr 22 (rA (partitionEqual ltInt d p.toNat q.toNat v.toNat).2)]) else none:=by show(if e=22 then(dec dF (rA d)).map _ else none)=_;rw[iA];simp
theorem SX:dR Tryz.prog 156 NN:=by
 intro ys φ r h hφ;unfold NN at h;split at h
 ·rename_i e ra p q v;split at h
  ·rename_i he;subst he;obtain⟨l,hl,h⟩:=Option.map_eq_some_iff.1 h;cases h;obtain⟨d,rfl,rfl⟩:=lj hl;obtain⟨⟨h1,h2⟩,h3,h4,h5⟩:=hφ;rw[Array.length_toList]at h4 h5;obtain⟨a,rfl⟩:∃a:Nat,p=a:=⟨p.toNat,by omega⟩;obtain⟨b,rfl⟩:∃a:Nat,q=a:=⟨q.toNat,by omega⟩;obtain⟨c,rfl⟩:∃a:Nat,v=a:=⟨v.toNat,by omega⟩;rw[Int.toNat_natCast,Int.toNat_natCast,Int.toNat_natCast,Array.toArray_toList];refine cu (ag nn ah) (by kernel_rfl) (by conv=>lhs;reduce) (by simp) rfl (by simp) ?_;unfold partitionEqual;generalize hW:partEqLoop ltInt a (a+1) (b-1) (swp d a c)=W;have q1:a<d.size:=by omega
   have q2:c<d.size:=by omega
   have r1:=bz q1;have r2:=bz q2;have r3:=bz (d:=d.setIfInBounds a (gA d c)) (i:=c) (by rw[Array.size_setIfInBounds];omega);obtain⟨i0,hi0⟩:∃i0,i0=a+1:=⟨_,rfl⟩;obtain⟨j0,hj0⟩:∃j0,j0=b-1:=⟨_,rfl⟩;have w1:IntKind.i64.wrap ((a:Int)+1)=(i0:Int):=by rw[wrap_i64 (by omega)];omega
   have w2:IntKind.i64.wrap ((b:Int)-1)=(j0:Int):=by rw[wrap_i64 (by omega)];omega
   rw[←hi0,←hj0]at hW;apply af;·simp(config := { maxSteps := 3000000 });exact⟨rfl,rfl⟩
   apply af;·simp(config := { maxSteps := 3000000 }) [q1,q2,r1,r2,r3];exact⟨rfl,rfl⟩
   rw[show(d.setIfInBounds a (gA d c)).setIfInBounds c (gA d a)=swp d a c from rfl];apply af;·simp(config := { maxSteps := 3000000 }) [w1,w2];exact⟨rfl,rfl⟩
   rw[bd]
   ·rw[aM];refine aq (fun x:(Nat×Nat)×Array Int=>(a<x.1.1∧x.1.1≤x.1.2+1)∧x.1.2<b∧x.2.size=d.size∧partEqLoop ltInt a x.1.1 x.1.2 x.2=W) (fun x=>⟨[(0,.own 999),(1,.pv (.int .i64 (a:Int))),(9,.pv (.int .i64 (x.1.1:Int))),(10,.pv (.int .i64 (x.1.2:Int)))],[(999,.arr 22 (rA x.2))]⟩) (fun x=>x.1.2) [] ((i0,j0),swp d a c) ⟨⟨by show a<i0;omega,by show i0≤j0+1;omega⟩,by show j0<b;omega,size_swp _ _ _,hW⟩ ?_ ?_;·simp
    ·rintro⟨⟨i,j⟩,D⟩ ⟨⟨g1,g2⟩,g3,g4,g5⟩;have g1:a<i:=g1;have g2:i≤j+1:=g2;have g3:j<b:=g3;have g4:D.size=d.size:=g4;have g5:partEqLoop ltInt a i j D=W:=g5;have qa:a<D.size:=by omega
     have ra:=bz qa;obtain⟨pU,hpU⟩:∃pU:Int→Bool,pU=fun x=>!ltInt D[a]! x:=⟨_,rfl⟩;obtain⟨pD,hpD⟩:∃pD:Int→Bool,pD=fun x=>ltInt D[a]! x:=⟨_,rfl⟩;obtain⟨i2,hi2⟩:∃i2,i2=scanUp pU D j i:=⟨_,rfl⟩;obtain⟨j2,hj2⟩:∃j2,j2=scanDown pD D i2 j:=⟨_,rfl⟩;have u1:=scanUp_spec pU D j _ i rfl;rw[←hi2]at u1;have u2:=scanDown_spec pD D i2 j;rw[←hj2]at u2;have u3:i≤i2∧i2≤j+1:=⟨u1.1,u1.2.1 g2⟩;have u4:j2≤j∧i2≤j2+1:=⟨u2.1,u2.2.1 u3.2⟩;rw[kG];dsimp only;rw[aM];apply af
     ·rw[aM];refine aq (fun s:Nat=>i≤s∧s≤j+1∧scanUp pU D j s=i2) (fun s=>⟨[(0,.own 999),(1,.pv (.int .i64 (a:Int))),(9,.pv (.int .i64 (s:Int))),(10,.pv (.int .i64 (j:Int)))],[(999,.arr 22 (rA D))]⟩) (fun s=>j+1-s) [] i (by refine⟨?_,?_,?_⟩<;>first|omega|exact hi2.symm) ?_ ?_;·simp
      ·rintro s ⟨l1,l2,l3⟩;by_cases hc:s≤j
       ·have ws:IntKind.i64.wrap ((s:Int)+1)=((s+1:Nat):Int):=by rw[wrap_i64 (by omega)];omega
        have c1:(s:Int)≤(j:Int):=by omega
        have q1:s<D.size:=by omega
        have r1:=bz q1;cases hb:(!ltInt (gA D a) (gA D s)) with|true=>have e:=scanUp_go pU D j s hc (by rw[hpU];exact hb);rw[e]at l3;obtain⟨s',hs'⟩:∃s',s'=s+1:=⟨_,rfl⟩;rw[←hs']at ws l3;simp(config := { maxSteps := 3000000 }) [c1,q1,qa,r1,ra,hb,ws];exact⟨s',⟨by omega,by omega,l3⟩,rfl,by omega⟩|false=>have e:=scanUp_end pU D j s (.inr (by rw[hpU];exact hb));rw[e]at l3;subst l3;simp(config := { maxSteps := 3000000 }) [c1,q1,qa,r1,ra,hb];try exact⟨rfl,rfl⟩
       ·have c1:¬(s:Int)≤(j:Int):=by omega
        have e:=scanUp_end pU D j s (.inl hc);rw[e]at l3;subst l3;rcases Nat.lt_or_ge s D.size with q1|q1;·have r1:=bz q1;simp(config := { maxSteps := 3000000 }) [c1,q1,qa,r1,ra];try exact⟨rfl,rfl⟩
        ·have r1:=lJ q1;simp(config := { maxSteps := 3000000 }) [c1,qa,r1,ra];try exact⟨rfl,rfl⟩
     apply af
     ·rw[aM];refine aq (fun s:Nat=>i2≤s+1∧s≤j∧scanDown pD D i2 s=j2) (fun s=>⟨[(0,.own 999),(1,.pv (.int .i64 (a:Int))),(9,.pv (.int .i64 (i2:Int))),(10,.pv (.int .i64 (s:Int)))],[(999,.arr 22 (rA D))]⟩) (fun s=>s) [] j (by refine⟨?_,?_,?_⟩<;>first|omega|exact hj2.symm) ?_ ?_;·simp
      ·rintro s ⟨l1,l2,l3⟩;by_cases hc:i2≤s
       ·have ws:IntKind.i64.wrap ((s:Int)-1)=((s-1:Nat):Int):=by rw[wrap_i64 (by omega)];omega
        have c1:(i2:Int)≤(s:Int):=by omega
        have q1:s<D.size:=by omega
        have r1:=bz q1;cases hb:ltInt (gA D a) (gA D s) with|true=>have e:=scanDown_go pD D i2 s hc (by omega) (by rw[hpD];exact hb);rw[e]at l3;obtain⟨s',hs'⟩:∃s',s'=s-1:=⟨_,rfl⟩;rw[←hs']at ws l3;simp(config := { maxSteps := 3000000 }) [c1,q1,qa,r1,ra,hb,ws];exact⟨s',⟨by omega,by omega,l3⟩,rfl,by omega⟩|false=>have e:=scanDown_end pD D i2 s (.inr (by rw[hpD];exact hb));rw[e]at l3;subst l3;simp(config := { maxSteps := 3000000 }) [c1,q1,qa,r1,ra,hb];try exact⟨rfl,rfl⟩
       ·have c1:¬(i2:Int)≤(s:Int):=by omega
        have e:=scanDown_end pD D i2 s (.inl hc);rw[e]at l3;subst l3;rcases Nat.lt_or_ge s D.size with q1|q1;·have r1:=bz q1;simp(config := { maxSteps := 3000000 }) [c1,q1,qa,r1,ra];try exact⟨rfl,rfl⟩
        ·have r1:=lJ q1;simp(config := { maxSteps := 3000000 }) [c1,qa,r1,ra];try exact⟨rfl,rfl⟩
     by_cases hgt:i2>j2
     ·have k1:(j2:Int)<(i2:Int):=by omega
      have e:=partEq_break ltInt a i j D (by rw[hi2,hpU]) (by rw[hj2,hpD]) hgt;rw[e]at g5;have e1:(i2:Int)=(W.1:Int):=by rw[←g5]
      have e2:rA D=rA W.2:=by rw[←g5]
      simp(config := { maxSteps := 3000000 }) [k1];exact⟨e1,e2⟩
     ·have k1:¬(j2:Int)<(i2:Int):=by omega
      have e:=partEq_go ltInt a i j D (by rw[hi2,hpU]) (by rw[hj2,hpD]) hgt;rw[e]at g5;have lt2:=scans_lt ltInt a i j D (by omega) (i2:=i2) (j2:=j2) (by rw[hi2,hpU]) (by rw[hj2,hpD]) (by omega);have z1:i2<D.size:=by omega
      have z2:j2<D.size:=by omega
      have r1:=bz z1;have r2:=bz z2;have r3:=bz (d:=D.setIfInBounds i2 (gA D j2)) (i:=j2) (by rw[Array.size_setIfInBounds];omega);have v1:IntKind.i64.wrap ((i2:Int)+1)=(i2:Int)+1:=wrap_i64 (by omega);obtain⟨j3,hj3⟩:∃j3,j3=j2-1:=⟨_,rfl⟩;have v2:IntKind.i64.wrap ((j2:Int)-1)=(j3:Int):=by rw[wrap_i64 (by omega)];omega
      rw[←hj3]at g5;apply af;·simp(config := { maxSteps := 3000000 }) [k1];exact⟨rfl,rfl⟩
      apply af;·simp(config := { maxSteps := 3000000 }) [z1,z2,r1,r2,r3];exact⟨rfl,rfl⟩
      simp(config := { maxSteps := 3000000 }) [v1,v2];exact⟨i2+1,j3,swp D i2 j2,⟨⟨by omega,by omega⟩,by omega,by rw[size_swp,g4],g5⟩,⟨⟨by omega,rfl⟩,rfl⟩,by omega⟩
  ·cases h
 ·cases h
end Go.Proofs.YtlmkcmfmfahcfaaGreat.Ab
