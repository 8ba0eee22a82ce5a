/- Chapter 16: is a record right? (walked at the machine). -/
import Derived.Test.YtlmkcmfmfahcfaaGreatX13
import Derived.ProofKit
import Derived.Below
import Derived.ChangeSame
import Derived.Carry
import Derived.Deep.Slices
import Derived.Deep.Fields
import Derived.Test.YtlmkcmfmfahcfaaGreatRows
set_option linter.unusedVariables false
set_option linter.unusedSimpArgs false
set_option linter.unnecessarySimpa false
set_option maxHeartbeats 40000000
set_option maxRecDepth 100000
namespace Go.Proofs.YtlmkcmfmfahcfaaGreat.Ab
open Go Go.RowKit R
def eZ:List (Int×List Nat):=[(1,[0,1]),(2,[0,1]),(3,[0]),(4,[0,2,4,5]),(5,[2,1]),(6,[2]),(7,[]),(8,[3]),(9,[6]),(10,[6]),(11,[6,7])]
def gq (k:Int):List (Int×List Nat)→Option (List Nat)|[]=>none|x::l=>if k=x.1 then some x.2 else gq k l
def bp (r:Rc):Bool:=match gq r.k eZ with|none=>false|some ps=>!decide (65535<r.z)&&!decide (4294967295<r.m)&&!(oN ps ({r with p:=0,i:=0,s:=0},false)).2&&decide ((oN ps ({r with p:=0,i:=0,s:=0},false)).1=⟨r.k,0,0,0,0,0,0,0,0,0,[],[]⟩)
theorem Wb (k:Int):jC (.int .u8 k) jj=(gq k eZ).map fun l=>fq (l.map fun n:Nat=>(n:Int)):=by
 have:∀l:List (Int×List Nat),jC (.int .u8 k) (l.map fun x=>(PV.int .u8 x.1,fq (x.2.map fun n:Nat=>(n:Int))))=(gq k l).map fun l=>fq (l.map fun n:Nat=>(n:Int)):=by intro l;induction l with|nil=>rfl|cons x l ih=>rw[List.map_cons,CU,ih,gq];split<;>rfl
 exact this eZ
theorem iW {S:Nat→Prop}{w w':World}{v:Value} (h:cT S w v (.mv jj)) (k:Int) (hw:w'.heap=w.heap):∃u,(Instr.lookup 147 v (.int .u8 k) true).run Tryz.prog w'=.ok (.tuple #[u,.bool (gq k eZ).isSome]) w'∧cT S w u (((gq k eZ).map fun l=>fq (l.map fun n:Nat=>(n:Int))).getD .nil):=by cases h with|mv b us c es g1 g2 g3 g4 g5 g6=>
 have hm:gN Tryz.prog 147=some (5,145):=by kernel_rfl
 have hsrt:iL Tryz.prog 5=some 6:=by kernel_rfl
 have hz:zeroV Tryz.prog 145=some (.slice none 0 0):=by kernel_rfl
 have hmt:=eI hm;obtain⟨d,hdk,hkey⟩:=fv hsrt;have hp:cL (.int .u8 k)=6:=rfl;have hks:eA 6 jj:=by simp[jj,xA,cL,kJ]
 have hzr:(zeroValue 145).run Tryz.prog w'=.ok (.slice none 0 0) w':=by unfold zeroV at hz;obtain⟨i,hi,hz⟩:=Option.bind_eq_some_iff.1 hz;simp[zeroValue,typeInfo,hi,hz]
 have hh:w'.heap[b]?=some (.map us c):=by rw[hw];exact g2
 have hfind:=gf hkey hp (by decide) us.toList jj 0 hks g4 fun i e u h1 h2=>(g5 i e u h1 h2).1;have gk:=Wb k;rcases hfind with⟨h1,h2,_⟩|⟨j,e,u,h1,h2,h3,h4,h5,_⟩;·rw[h2]at gk;cases hf:gq k eZ with|some l=>rw[hf]at gk;cases gk|none=>refine⟨.slice none 0 0,?_,.nil⟩;show(Instr.lookup 147 (.map (some b)) (Ab.bK (.int .u8 k)) true).run Tryz.prog w'=_;simp[Instr.lookup,run_underlying hmt,MapKept.run_getObj_map hh,MapKept.run_checkKey hdk (hkey _ hp),MapKept.run_findKey hdk h1,hzr,Result.andThen]
 ·rw[h5]at gk;cases hf:gq k eZ with|none=>rw[hf]at gk;cases gk|some l=>
   rw[hf]at gk;refine⟨u.val,?_,?_⟩;·show(Instr.lookup 147 (.map (some b)) (Ab.bK (.int .u8 k)) true).run Tryz.prog w'=_;simp[Instr.lookup,run_underlying hmt,MapKept.run_getObj_map hh,MapKept.run_checkKey hdk (hkey _ hp),MapKept.run_findKey hdk h1,Result.andThen]
   ·simp only[Option.map_some,Option.some.injEq]at gk;rw[Option.map_some,Option.getD_some,←gk];exact g6 j e u h2 h3
theorem gU (w:World):Calls Tryz.prog 88 #[] w fun e w'=>∃v,e=.returned v∧cT (fun b=>w.heap.size≤b∧b<w'.heap.size) w' v (.mv jj)∧Below w.heap.size w w':=by
 have hc:=Eh [] True _ rfl trivial;have h:=hc w (fun _=>False) (fun _=>.nilIface) [] (fun b hb=>hb.elim) (fun t b ⟨o,ho⟩=>by simp[ab]at ho) ⟨fun t o ho=>by simp[ab]at ho,fun t t' b ⟨o,ho⟩=>by simp[ab]at ho⟩ rfl fun i v x hi=>by simp at hi
 refine h.mono ?_;rintro e w' ⟨v,β',rfl,hf,_,_,hv⟩;exact⟨v,rfl,hv.bj.mono fun b hb=>⟨⟨hb.1.elim False.elim id,hb.2.1⟩,rfl⟩,hf.os,hf.tape,hf.output,hf.size,fun k hk=>hf.block k hk fun⟨t,o,ho,_⟩=>by simp[ab]at ho⟩
theorem gn {W:World}{b:Nat}{r:Rc} (h:W.heap[b]?=some (.cells (recC r) 33 (0,0))):W.cell? ⟨b,0,none⟩=some (.int .u8 r.k)∧W.cell? ⟨b,1,none⟩=some (.int .u64 r.p)∧W.cell? ⟨b,2,none⟩=some (.int .u64 r.i)∧W.cell? ⟨b,3,none⟩=some (.int .u64 r.s)∧W.cell? ⟨b,4,none⟩=some (.int .u64 r.e)∧W.cell? ⟨b,5,none⟩=some (.int .u64 r.u)∧W.cell? ⟨b,6,none⟩=some (.int .u64 r.v)∧W.cell? ⟨b,7,none⟩=some (.int .u64 r.c)∧W.cell? ⟨b,8,none⟩=some (.int .u64 r.z)∧W.cell? ⟨b,9,none⟩=some (.int .u64 r.m)∧W.cell? ⟨b,10,none⟩=some (.string ⟨r.n.toArray⟩)∧W.cell? ⟨b,11,none⟩=some (.string ⟨r.t.toArray⟩):=by
 have g:∀i v,(recC r)[i]?=some v→W.cell? ⟨b,i,none⟩=some v:=fun i v hv=>by rw[Lib.cell_of_heap h];exact hv
 exact⟨g 0 _ rfl,g 1 _ rfl,g 2 _ rfl,g 3 _ rfl,g 4 _ rfl,g 5 _ rfl,g 6 _ rfl,g 7 _ rfl,g 8 _ rfl,g 9 _ rfl,g 10 _ rfl,g 11 _ rfl⟩
theorem xO {n:Nat}{W:World}{u:Value}{ps:List Nat} (h:cT (fun b=>n≤b∧b<W.heap.size) W u (fq (ps.map fun n:Nat=>(n:Int)))):∃A c,u=.slice A ps.length c∧ps.length≤c∧(0<ps.length→∃b o,A=some ⟨b,o,none⟩∧n≤b∧b<W.heap.size∧∀i (h:i<ps.length),W.cell? ⟨b,o+i,none⟩=some (.int .u8 ps[i])):=by
 obtain⟨A,c,hv,hc,hne⟩:=cT.ja h;simp only[List.length_map]at hv hc;refine⟨A,c,hv,hc,fun hp=>?_⟩;obtain⟨ad,sz,us,rfl,g1,g2,g3,g4,g5⟩:=hne (by intro e;have:=congrArg List.length e;simp only[List.length_map,List.length_nil]at this;omega);have hsz:sz=1:=by rw[←g2 [.int .u8 ((ps[0]:Nat):Int)] (by simp only[List.map_map,List.mem_map];exact⟨ps[0],List.getElem_mem hp,rfl⟩)];rfl
 subst hsz;have hcl:∀i (h:i<ps.length),W.cell? (ad.add i)=some (.int .u8 ps[i]):=by
  intro i hi;have hr:((ps.map fun n:Nat=>(n:Int)).map fun n=>[PV.int .u8 n])[i]?=some [.int .u8 ps[i]]:=by simp[hi]
  have h1:=g3 i 0 (by simpa using hi) (by omega);have h2:=(g5 i 0 _ _ hr rfl).aU;rw[h2]at h1;simpa using h1
 obtain⟨b,o,sp⟩:=ad;have hsp:sp=none:=by have hx:=hcl 0 hp;cases sp with|none=>rfl|some s=>exfalso;simp[Addr.add,World.cell?]at hx;try(split at hx<;>simp at hx)
 subst hsp;exact⟨b,o,rfl,g1.1,g1.2,fun i hi=>by have:=hcl i hi;rw[Addr.add_lit]at this;exact this⟩
theorem iI (W:World) (o1 o2:Obj):((W.alloc o1).alloc o2).heap.size=W.heap.size+2:=by show((W.heap.push _).push _).size=_;simp
theorem Ny (W:World) (o1 o2:Obj):((W.alloc o1).alloc o2).heap[W.heap.size+1]?=some o2:=by show((W.heap.push _).push _)[W.heap.size+1]?=_;rw[Array.getElem?_push,if_pos (by simp)]
theorem OY (W:World) (o1 o2:Obj):((W.alloc o1).alloc o2).heap[W.heap.size]?=some o1:=by show((W.heap.push _).push _)[W.heap.size]?=_;rw[Array.getElem?_push,if_neg (by simp),Array.getElem?_push,if_pos rfl]
theorem DO (W:World) (o1 o2:Obj) (k:Nat) (hk:k<W.heap.size):((W.alloc o1).alloc o2).heap[k]?=W.heap[k]?:=by show((W.heap.push _).push _)[k]?=_;rw[Array.getElem?_push,if_neg (by simp;omega),Array.getElem?_push,if_neg (by omega)]
theorem Fh {k:Int}{ps:List Nat} (h:gq k eZ=some ps):ps.length≤8∧∀q∈ps,q<8:=by
 simp only[eZ,gq]at h;repeat' split at h
 all_goals first|cases h;decide|cases h
theorem xC (r:Rc) (w:World):Calls Tryz.prog 34 #[.agg (recC r)] w fun e w'=>e=.returned (.bool (bp r))∧Below w.heap.size w w':=by
 go_enter Tryz.func34,Tryz.ntmps34;have hrec:recC r=#[.int .u8 r.k,.int .u64 r.p,.int .u64 r.i,.int .u64 r.s,.int .u64 r.e,.int .u64 r.u,.int .u64 r.v,.int .u64 r.c,.int .u64 r.z,.int .u64 r.m,.string ⟨r.n.toArray⟩,.string ⟨r.t.toArray⟩]:=rfl;go_wp2;have h0:(w.alloc (Obj.cells (recC r) 33)).heap[w.heap.size]?=some (.cells (recC r) 33 (0,0)):=by show(w.heap.push _)[w.heap.size]?=_;simp
 have hb0:Below w.heap.size w (w.alloc (Obj.cells (recC r) 33)):=(Below.refl _ w).alloc (Nat.le_refl _) _;rw[hrec]at h0 hb0;revert h0 hb0;generalize w.alloc (Obj.cells #[.int .u8 r.k,.int .u64 r.p,.int .u64 r.i,.int .u64 r.s,.int .u64 r.e,.int .u64 r.u,.int .u64 r.v,.int .u64 r.c,.int .u64 r.z,.int .u64 r.m,.string ⟨r.n.toArray⟩,.string ⟨r.t.toArray⟩] 33)=W0;intro h0 hb0;rw[←hrec]at h0;have c1:=(gn h0).1;clear hrec;generalize hbb:w.heap.size=b at h0 hb0 c1 ⊢;have bel:∀W1:World,Below W0.heap.size W0 W1→Below b w W1:=fun W1 hb=>⟨hb.os.trans hb0.os,hb.tape.trans hb0.tape,hb.output.trans hb0.output,Nat.le_trans hb0.size hb.size,fun k hk=>(hb.block k (Nat.lt_of_lt_of_le (hbb▸hk) hb0.size)).trans (hb0.block k hk)⟩;cases hf:gq r.k eZ with
 |none=>
  have hR:bp r=false:=by simp[bp,hf]
  go_region_with(go_at_call 88;refine(gU _).mono ?_;rintro e W1 ⟨v,rfl,hv,hb⟩;obtain⟨u,hl,hu⟩:=iW hv r.k (w':=W1) rfl;replace hb:Below W0.heap.size W0 W1:=⟨hb.os,hb.tape,hb.output,hb.size,hb.block⟩;have h1:W1.heap[b]?=some (.cells (recC r) 33 (0,0)):=(hb.block b (Array.getElem?_eq_some_iff.1 h0).1).trans h0;have c2:=(gn h1).1;rw[hf]at hl);all_goals go_wp2;go_ret;exact⟨by rw[hR];rfl,hbb▸bel _ hb⟩|some ps=>
  obtain⟨hl8,hq8⟩:=Fh hf;by_cases hz:65535<r.z
  ·have hR:bp r=false:=by simp[bp,hf,hz]
   go_region_with(go_at_call 88;refine(gU _).mono ?_;rintro e W1 ⟨v,rfl,hv,hb⟩;obtain⟨u,hl,hu⟩:=iW hv r.k (w':=W1) rfl;replace hb:Below W0.heap.size W0 W1:=⟨hb.os,hb.tape,hb.output,hb.size,hb.block⟩;have h1:W1.heap[b]?=some (.cells (recC r) 33 (0,0)):=(hb.block b (Array.getElem?_eq_some_iff.1 h0).1).trans h0;have hlt:=(Array.getElem?_eq_some_iff.1 h1).1;obtain⟨c2,d1,d2,d3,d4,d5,d6,d7,c3,c4,d8,d9⟩:=gn h1;rw[hf]at hl);all_goals go_wp2;go_ret;exact⟨by rw[hR];rfl,hbb▸bel _ hb⟩
  by_cases hm:4294967295<r.m
  ·have hR:bp r=false:=by simp[bp,hf,hm]
   go_region_with(go_at_call 88;refine(gU _).mono ?_;rintro e W1 ⟨v,rfl,hv,hb⟩;obtain⟨u,hl,hu⟩:=iW hv r.k (w':=W1) rfl;replace hb:Below W0.heap.size W0 W1:=⟨hb.os,hb.tape,hb.output,hb.size,hb.block⟩;have h1:W1.heap[b]?=some (.cells (recC r) 33 (0,0)):=(hb.block b (Array.getElem?_eq_some_iff.1 h0).1).trans h0;have hlt:=(Array.getElem?_eq_some_iff.1 h1).1;obtain⟨c2,d1,d2,d3,d4,d5,d6,d7,c3,c4,d8,d9⟩:=gn h1;rw[hf]at hl);all_goals go_wp2;go_ret;exact⟨by rw[hR];rfl,hbb▸bel _ hb⟩
  have hR:bp r=(!(oN ps ({r with p:=0,i:=0,s:=0},false)).2&&decide ((oN ps ({r with p:=0,i:=0,s:=0},false)).1=⟨r.k,0,0,0,0,0,0,0,0,0,[],[]⟩)):=by unfold bp;rw[hf];dsimp only;rw[decide_eq_false hz,decide_eq_false hm];rfl
  go_region_with(go_at_call 88;refine(gU _).mono ?_;rintro e W1 ⟨v,rfl,hv,hb⟩;obtain⟨u,hl,hu⟩:=iW hv r.k (w':=W1) rfl;replace hb:Below W0.heap.size W0 W1:=⟨hb.os,hb.tape,hb.output,hb.size,hb.block⟩;have h1:W1.heap[b]?=some (.cells (recC r) 33 (0,0)):=(hb.block b (Array.getElem?_eq_some_iff.1 h0).1).trans h0;have hlt:=(Array.getElem?_eq_some_iff.1 h1).1;obtain⟨c2,d1,d2,d3,d4,d5,d6,d7,c3,c4,d8,d9⟩:=gn h1;rw[hf]at hl);all_goals
   rw[hf]at hu;obtain⟨A,c,rfl,hc,hA⟩:=xO hu;have t2:=DO W1 (Obj.cells #[.bool false] 151) (Obj.cells (recC r) 33);go_wp2_with(go_at_call 89;refine(Kh r false ps hq8 hl8 _ (W1.heap.size+1) W1.heap.size (by omega) ?hlr ?hlt A c hc ?hA ?h1 ?h2).mono ?_);case hlr=>rw[iI];omega
   case hlt=>rw[iI];omega
   case hA=>
    intro hp;obtain⟨bb,o,rfl,e1,e2,e3⟩:=hA hp;refine⟨bb,o,rfl,by omega,by omega,?_,fun i hi=>?_⟩;·rw[iI];omega
    ·rw[←e3 i hi];unfold World.cell?;rw[←t2 bb e2];rfl
   case h1=>exact Ny _ _ _
   case h2=>exact OY _ _ _
   rintro e W2 ⟨rfl,hV⟩;have s1:W2.heap[b]?=some (.cells (recC r) 33 (0,0)):=by rw[hV.block b (by rw[iI];omega) (by omega) (by omega)];exact(t2 b hlt).trans h1
   have s2:W2.cell? ⟨W1.heap.size,0,none⟩=some (.bool (oN ps ({r with p:=0,i:=0,s:=0},false)).2):=by rw[Lib.cell_of_heap hV.ht];rfl
   have B1:=bel _ hb;have bel2:Below b w W2:=⟨hV.os.trans B1.os,hV.tape.trans B1.tape,hV.output.trans B1.output,by have:=hV.size;rw[iI]at this;omega,fun k hk=>(hV.block k (by rw[iI];omega) (by omega) (by omega)).trans ((t2 k (by omega)).trans (B1.block k hk))⟩;have hr2:=hV.hr;clear hV t2 d1 d2 d3 d4 d5 d6 d7 d8 d9 hA c2 c3 c4 c1 hv hl hu h1;revert hR s2 hr2;generalize oN ps ({r with p:=0,i:=0,s:=0},false)=x;obtain⟨⟨xk,xp,xi,xs,xe,xu,xv,xc,xz,xm,xn,xt⟩,bx⟩:=x;intro hR s2 hr2;have c1:=(gn s1).1;obtain⟨d0,d1,d2,d3,d4,d5,d6,d7,d8,d9,d10,d11⟩:=gn hr2;cases bx with|true=>go_wp2;go_ret;exact⟨by rw[hR];rfl,hbb▸bel2⟩|false=>
    go_wp2;all_goals go_ret
    all_goals refine⟨?_,hbb▸bel2⟩
    all_goals rw[hR]
    all_goals simp[*]
theorem Dx {P:Program}{f:FuncId}{args:List AV}{p:PV}{u:Value} (h:∀(w:World) (S:Nat→Prop) (vals:List Value),vals.length=args.length→(∀(i:Nat) (x:Value) (y:AV),vals[i]?=some x→args[i]?=some y→RV P S w (fun _=>.nilIface) (fun _=>False) x y)→Calls P f vals.toArray w fun e w'=>e=.returned u∧Below w.heap.size w w') (hu:∀S w,cT S w u p):Cz P f [] args [] (.pv p):=by
 intro w S0 β vals hS0 hlt hheap hvl hvr;have hno:∀t,b6 (ab []) (fun t=>dB (cellAt (.pv p) t)) t=none:=by
  intro t;show dB (cellAt (.pv p) t)=none;simp only[cellAt,bP];split;·split<;>rfl
  ·rfl
 refine(h w (aR S0 w.heap.size β (ab []) w) vals hvl fun i x y hx hy=>?_).mono ?_;·exact(hvr i x y hx hy).mono (fun b hb=>⟨hb,rfl⟩) (fun t ⟨o,ho⟩=>by simp[ab]at ho)
 ·rintro e w' ⟨rfl,hb⟩;refine⟨_,fun _=>.nilIface,rfl,⟨hb.os,hb.tape,hb.output,hb.size,fun k hk _=>hb.block k hk⟩,⟨fun t o ho=>?_,fun t t' b ⟨o,ho⟩=>?_⟩,fun t b ⟨o,ho⟩=>?_,.pv _ _ (hu _ _)⟩;·rw[hno]at ho;cases ho
  ·rw[hno]at ho;cases ho
  ·rw[hno]at ho;cases ho
def aW (r:Rc):List AV:=[.pv (.int .u8 r.k),.pv (.int .u64 r.p),.pv (.int .u64 r.i),.pv (.int .u64 r.s),.pv (.int .u64 r.e),.pv (.int .u64 r.u),.pv (.int .u64 r.v),.pv (.int .u64 r.c),.pv (.int .u64 r.z),.pv (.int .u64 r.m),.pv (.str r.n),.pv (.str r.t)]
@[simp] def BS:List AV→Option (Prop×AV)|[.agg [.pv (.int .u8 k),.pv (.int .u64 p),.pv (.int .u64 i),.pv (.int .u64 s),.pv (.int .u64 e),.pv (.int .u64 u),.pv (.int .u64 v),.pv (.int .u64 c),.pv (.int .u64 z),.pv (.int .u64 m),.pv (.str n),.pv (.str t)]]=>some (True,.pv (.bool (bp ⟨k,p,i,s,e,u,v,c,z,m,n,t⟩)))|_=>none
theorem E0:bn Tryz.prog 34 BS:=by
 intro ys φ r h hφ;unfold BS at h;split at h;·rename_i k p i s e u v c z m n t;cases h;refine Dx (u:=.bool (bp ⟨k,p,i,s,e,u,v,c,z,m,n,t⟩)) (fun w S vals hvl hvr=>?_) fun S w=>.bool _;match vals,hvl with|[v0],_=>obtain⟨us,rfl,hl,hus⟩:=(hvr 0 v0 _ rfl rfl).cK;match us,hl with|[a0,a1,a2,a3,a4,a5,a6,a7,a8,a9,a10,a11],_=>cases(hus 0 _ a0 rfl rfl).aU;cases(hus 1 _ a1 rfl rfl).aU;cases(hus 2 _ a2 rfl rfl).aU;cases(hus 3 _ a3 rfl rfl).aU;cases(hus 4 _ a4 rfl rfl).aU;cases(hus 5 _ a5 rfl rfl).aU;cases(hus 6 _ a6 rfl rfl).aU;cases(hus 7 _ a7 rfl rfl).aU;cases(hus 8 _ a8 rfl rfl).aU;cases(hus 9 _ a9 rfl rfl).aU;cases(hus 10 _ a10 rfl rfl).eG;cases(hus 11 _ a11 rfl rfl).eG;exact xC ⟨k,p,i,s,e,u,v,c,z,m,n,t⟩ w
 ·cases h
noncomputable def wN (a:Ap):Option (Ap×Bool):=if a.r.k=1 then some (j7 a) else if a.r.k=2 then some (lq a) else if a.r.k=3 then some (gE a) else if a.r.k=4 then some (iS a) else if a.r.k=5 then some (yb a) else if a.r.k=6 then some (lN a) else if a.r.k=7 then some (qv a) else if a.r.k=8 then some (gG a) else none
def bf (a:Ap):List AV:=[.pv (.int .u64 a.l.e),.pv (.int .u64 a.l.p),.pv (.int .u64 a.l.i),.pv (.int .u64 a.l.u),.pv (.bool a.l.h),.fr 94 (aD a.ps),.fr 73 (aC a.vs),.pv (.bool a.sl)]
noncomputable def aX (a:Ap):Ap×Int:=match wN a with|none=>(a,220)|some x=>if bp a.r=true∧x.2=true then(x.1,0) else(a,220)
def rV (a:Ap):Prop:=cY a.l.e∧a.ps.length<50∧a.vs.length≤100000∧(∀e∈a.ps,gM e)∧(∀v∈a.vs,gZ v)∧cY a.r.c∧cY a.s∧gZ (en a)
noncomputable def Hv:List AV→Option (Prop×AV)|[.agg [.pv (.int .u64 e),.pv (.int .u64 p),.pv (.int .u64 i),.pv (.int .u64 u),.pv (.bool h),.pv (.ro a),.pv (.ro b),.pv (.bool sl)],.agg [.pv (.int .u8 k),.pv (.int .u64 rp),.pv (.int .u64 ri),.pv (.int .u64 rs),.pv (.int .u64 re),.pv (.int .u64 ru),.pv (.int .u64 rv),.pv (.int .u64 rc),.pv (.int .u64 rz),.pv (.int .u64 rm),.pv (.str rn),.pv (.str rt)],.pv (.int .u64 n),.pv (.int .u64 s)]=>(dec rowP a).bind fun ps=>(dec cF b).map fun vs=>(rV ⟨⟨e,p,i,u,h⟩,ps,vs,sl,⟨k,rp,ri,rs,re,ru,rv,rc,rz,rm,rn,rt⟩,n,s⟩,.aK [.agg (bf (aX ⟨⟨e,p,i,u,h⟩,ps,vs,sl,⟨k,rp,ri,rs,re,ru,rv,rc,rz,rm,rn,rt⟩,n,s⟩).1),.pv (.int .i64 (aX ⟨⟨e,p,i,u,h⟩,ps,vs,sl,⟨k,rp,ri,rs,re,ru,rv,rc,rz,rm,rn,rt⟩,n,s⟩).2)])|_=>none
theorem GW:bn Tryz.prog 12 Hv:=by
 intro ys φ r h hφ;unfold Hv at h;split at h
 ·rename_i e p i u h' ra rb sl k rp ri rs re ru rv rc rz rm rn rt n s;obtain⟨ps,hp,h⟩:=Option.bind_eq_some_iff.1 h;obtain⟨vs,hv,h⟩:=Option.map_eq_some_iff.1 h;cases h;cases aL hp;cases aI hv;obtain⟨h1,h2,h3,h4,h5,h6,h7,h8⟩:=hφ;have h2:ps.length<50:=h2;have h3:vs.length≤100000:=h3;have h9:ps.length≤100000:=by omega
  refine aB (ai ON (ai II (ai E0 (aZ (ks:=[2]) Bo (by kernel_rfl) (aZ (ks:=[2]) B4 (by kernel_rfl) (aZ (ks:=[2]) yr (by kernel_rfl) (aZ (ks:=[2]) At (by kernel_rfl) (aZ (ks:=[2]) JF (by kernel_rfl) (aZ (ks:=[2]) Cv (by kernel_rfl) (aZ (ks:=[2]) DX (by kernel_rfl) (aZ (ks:=[2]) yu (by kernel_rfl) aj))))))))))) (by kernel_rfl) fn12 (by simp) ?_;unfold body12;apply af;·simp(config := { maxSteps := 3000000 });exact⟨rfl,rfl⟩
  apply af;·simp(config := { maxSteps := 3000000 }) [h9,h3];exact⟨rfl,rfl⟩
  have hE:cY e:=h1;have hP:(∀e∈ps,gM e)=True:=eq_true h4;have hV:(∀v∈vs,gZ v)=True:=eq_true h5;have hC:cY rc:=h6;have hS:cY s:=h7;have hP6:ps.length≤1000000:=by omega
  have hV6:vs.length≤1000000:=by omega
  clear hp hv;have hk:k=1∨k=2∨k=3∨k=4∨k=5∨k=6∨k=7∨k=8∨((k≠1∧k≠2∧k≠3∧k≠4)∧k≠5∧k≠6∧k≠7∧k≠8):=by omega
  rcases hk with rfl|rfl|rfl|rfl|rfl|rfl|rfl|rfl|⟨⟨k1,k2,k3,k4⟩,k5,k6,k7,k8⟩
  ·have hA:aX ⟨⟨e,p,i,u,h'⟩,ps,vs,sl,⟨1,rp,ri,rs,re,ru,rv,rc,rz,rm,rn,rt⟩,n,s⟩=if bp ⟨1,rp,ri,rs,re,ru,rv,rc,rz,rm,rn,rt⟩=true∧(j7 ⟨⟨e,p,i,u,h'⟩,ps,vs,sl,⟨1,rp,ri,rs,re,ru,rv,rc,rz,rm,rn,rt⟩,n,s⟩).2=true then((j7 ⟨⟨e,p,i,u,h'⟩,ps,vs,sl,⟨1,rp,ri,rs,re,ru,rv,rc,rz,rm,rn,rt⟩,n,s⟩).1,0) else(⟨⟨e,p,i,u,h'⟩,ps,vs,sl,⟨1,rp,ri,rs,re,ru,rv,rc,rz,rm,rn,rt⟩,n,s⟩,220):=rfl;rw[hA];apply af;·simp(config := { maxSteps := 3000000 }) [jr,uD];exact⟨rfl,rfl,rfl⟩
   generalize hx:j7 ⟨⟨e,p,i,u,h'⟩,ps,vs,sl,⟨1,rp,ri,rs,re,ru,rv,rc,rz,rm,rn,rt⟩,n,s⟩=x;obtain⟨⟨⟨e',p',i',u',h''⟩,ps',vs',sl',⟨k',rp',ri',rs',re',ru',rv',rc',rz',rm',rn',rt'⟩,n',s'⟩,b⟩:=x;rw[bA];cases hR:bp ⟨1,rp,ri,rs,re,ru,rv,rc,rz,rm,rn,rt⟩ with
   |false=>
    apply af;·simp(config := { maxSteps := 3000000 }) [hR];exact⟨rfl,rfl⟩
    simp(config := { maxSteps := 3000000 }) [hR,h9,h3,bf]|true=>
    apply af;·simp(config := { maxSteps := 3000000 }) [hR,hx,lA,hE];exact⟨by kernel_rfl,rfl,rfl⟩
    cases b with|false=>simp(config := { maxSteps := 3000000 }) [hR,h9,h3,bf]|true=>simp(config := { maxSteps := 3000000 }) [hR,bf]
  ·have hA:aX ⟨⟨e,p,i,u,h'⟩,ps,vs,sl,⟨2,rp,ri,rs,re,ru,rv,rc,rz,rm,rn,rt⟩,n,s⟩=if bp ⟨2,rp,ri,rs,re,ru,rv,rc,rz,rm,rn,rt⟩=true∧(lq ⟨⟨e,p,i,u,h'⟩,ps,vs,sl,⟨2,rp,ri,rs,re,ru,rv,rc,rz,rm,rn,rt⟩,n,s⟩).2=true then((lq ⟨⟨e,p,i,u,h'⟩,ps,vs,sl,⟨2,rp,ri,rs,re,ru,rv,rc,rz,rm,rn,rt⟩,n,s⟩).1,0) else(⟨⟨e,p,i,u,h'⟩,ps,vs,sl,⟨2,rp,ri,rs,re,ru,rv,rc,rz,rm,rn,rt⟩,n,s⟩,220):=rfl;rw[hA];apply af;·simp(config := { maxSteps := 3000000 }) [jr,uD];exact⟨rfl,rfl,rfl⟩
   generalize hx:lq ⟨⟨e,p,i,u,h'⟩,ps,vs,sl,⟨2,rp,ri,rs,re,ru,rv,rc,rz,rm,rn,rt⟩,n,s⟩=x;obtain⟨⟨⟨e',p',i',u',h''⟩,ps',vs',sl',⟨k',rp',ri',rs',re',ru',rv',rc',rz',rm',rn',rt'⟩,n',s'⟩,b⟩:=x;rw[bA];cases hR:bp ⟨2,rp,ri,rs,re,ru,rv,rc,rz,rm,rn,rt⟩ with
   |false=>
    apply af;·simp(config := { maxSteps := 3000000 }) [hR];exact⟨rfl,rfl⟩
    simp(config := { maxSteps := 3000000 }) [hR,h9,h3,bf]|true=>
    apply af;·simp(config := { maxSteps := 3000000 }) [hR,hx,lA];exact⟨by kernel_rfl,rfl,rfl⟩
    cases b with|false=>simp(config := { maxSteps := 3000000 }) [hR,h9,h3,bf]|true=>simp(config := { maxSteps := 3000000 }) [hR,bf]
  ·have hA:aX ⟨⟨e,p,i,u,h'⟩,ps,vs,sl,⟨3,rp,ri,rs,re,ru,rv,rc,rz,rm,rn,rt⟩,n,s⟩=if bp ⟨3,rp,ri,rs,re,ru,rv,rc,rz,rm,rn,rt⟩=true∧(gE ⟨⟨e,p,i,u,h'⟩,ps,vs,sl,⟨3,rp,ri,rs,re,ru,rv,rc,rz,rm,rn,rt⟩,n,s⟩).2=true then((gE ⟨⟨e,p,i,u,h'⟩,ps,vs,sl,⟨3,rp,ri,rs,re,ru,rv,rc,rz,rm,rn,rt⟩,n,s⟩).1,0) else(⟨⟨e,p,i,u,h'⟩,ps,vs,sl,⟨3,rp,ri,rs,re,ru,rv,rc,rz,rm,rn,rt⟩,n,s⟩,220):=rfl;rw[hA];apply af;·simp(config := { maxSteps := 3000000 }) [jr,uD];exact⟨rfl,rfl,rfl⟩
   generalize hx:gE ⟨⟨e,p,i,u,h'⟩,ps,vs,sl,⟨3,rp,ri,rs,re,ru,rv,rc,rz,rm,rn,rt⟩,n,s⟩=x;obtain⟨⟨⟨e',p',i',u',h''⟩,ps',vs',sl',⟨k',rp',ri',rs',re',ru',rv',rc',rz',rm',rn',rt'⟩,n',s'⟩,b⟩:=x;rw[bA];cases hR:bp ⟨3,rp,ri,rs,re,ru,rv,rc,rz,rm,rn,rt⟩ with
   |false=>
    apply af;·simp(config := { maxSteps := 3000000 }) [hR];exact⟨rfl,rfl⟩
    simp(config := { maxSteps := 3000000 }) [hR,h9,h3,bf]|true=>
    apply af;·simp(config := { maxSteps := 3000000 }) [hR,hx,lA];exact⟨by kernel_rfl,rfl,rfl⟩
    cases b with|false=>simp(config := { maxSteps := 3000000 }) [hR,h9,h3,bf]|true=>simp(config := { maxSteps := 3000000 }) [hR,bf]
  ·have hA:aX ⟨⟨e,p,i,u,h'⟩,ps,vs,sl,⟨4,rp,ri,rs,re,ru,rv,rc,rz,rm,rn,rt⟩,n,s⟩=if bp ⟨4,rp,ri,rs,re,ru,rv,rc,rz,rm,rn,rt⟩=true∧(iS ⟨⟨e,p,i,u,h'⟩,ps,vs,sl,⟨4,rp,ri,rs,re,ru,rv,rc,rz,rm,rn,rt⟩,n,s⟩).2=true then((iS ⟨⟨e,p,i,u,h'⟩,ps,vs,sl,⟨4,rp,ri,rs,re,ru,rv,rc,rz,rm,rn,rt⟩,n,s⟩).1,0) else(⟨⟨e,p,i,u,h'⟩,ps,vs,sl,⟨4,rp,ri,rs,re,ru,rv,rc,rz,rm,rn,rt⟩,n,s⟩,220):=rfl;rw[hA];have hN:gZ (en ⟨⟨e,p,i,u,h'⟩,ps,vs,sl,⟨4,rp,ri,rs,re,ru,rv,rc,rz,rm,rn,rt⟩,n,s⟩):=h8;apply af;·simp(config := { maxSteps := 3000000 }) [jr,uD];exact⟨rfl,rfl,rfl⟩
   generalize hx:iS ⟨⟨e,p,i,u,h'⟩,ps,vs,sl,⟨4,rp,ri,rs,re,ru,rv,rc,rz,rm,rn,rt⟩,n,s⟩=x;obtain⟨⟨⟨e',p',i',u',h''⟩,ps',vs',sl',⟨k',rp',ri',rs',re',ru',rv',rc',rz',rm',rn',rt'⟩,n',s'⟩,b⟩:=x;rw[bA];cases hR:bp ⟨4,rp,ri,rs,re,ru,rv,rc,rz,rm,rn,rt⟩ with
   |false=>
    apply af;·simp(config := { maxSteps := 3000000 }) [hR];exact⟨rfl,rfl⟩
    simp(config := { maxSteps := 3000000 }) [hR,h9,h3,bf]|true=>
    apply af;·simp(config := { maxSteps := 3000000 }) [hR,hx,lA,h3,hV,hN];exact⟨by kernel_rfl,rfl,rfl⟩
    cases b with|false=>simp(config := { maxSteps := 3000000 }) [hR,h9,h3,bf]|true=>simp(config := { maxSteps := 3000000 }) [hR,bf]
  ·have hA:aX ⟨⟨e,p,i,u,h'⟩,ps,vs,sl,⟨5,rp,ri,rs,re,ru,rv,rc,rz,rm,rn,rt⟩,n,s⟩=if bp ⟨5,rp,ri,rs,re,ru,rv,rc,rz,rm,rn,rt⟩=true∧(yb ⟨⟨e,p,i,u,h'⟩,ps,vs,sl,⟨5,rp,ri,rs,re,ru,rv,rc,rz,rm,rn,rt⟩,n,s⟩).2=true then((yb ⟨⟨e,p,i,u,h'⟩,ps,vs,sl,⟨5,rp,ri,rs,re,ru,rv,rc,rz,rm,rn,rt⟩,n,s⟩).1,0) else(⟨⟨e,p,i,u,h'⟩,ps,vs,sl,⟨5,rp,ri,rs,re,ru,rv,rc,rz,rm,rn,rt⟩,n,s⟩,220):=rfl;rw[hA];apply af;·simp(config := { maxSteps := 3000000 }) [jr,uD];exact⟨rfl,rfl,rfl⟩
   generalize hx:yb ⟨⟨e,p,i,u,h'⟩,ps,vs,sl,⟨5,rp,ri,rs,re,ru,rv,rc,rz,rm,rn,rt⟩,n,s⟩=x;obtain⟨⟨⟨e',p',i',u',h''⟩,ps',vs',sl',⟨k',rp',ri',rs',re',ru',rv',rc',rz',rm',rn',rt'⟩,n',s'⟩,b⟩:=x;rw[bA];cases hR:bp ⟨5,rp,ri,rs,re,ru,rv,rc,rz,rm,rn,rt⟩ with
   |false=>
    apply af;·simp(config := { maxSteps := 3000000 }) [hR];exact⟨rfl,rfl⟩
    simp(config := { maxSteps := 3000000 }) [hR,h9,h3,bf]|true=>
    apply af;·simp(config := { maxSteps := 3000000 }) [hR,hx,lA,hP6,hV6];exact⟨by kernel_rfl,rfl,rfl⟩
    cases b with|false=>simp(config := { maxSteps := 3000000 }) [hR,h9,h3,bf]|true=>simp(config := { maxSteps := 3000000 }) [hR,bf]
  ·have hA:aX ⟨⟨e,p,i,u,h'⟩,ps,vs,sl,⟨6,rp,ri,rs,re,ru,rv,rc,rz,rm,rn,rt⟩,n,s⟩=if bp ⟨6,rp,ri,rs,re,ru,rv,rc,rz,rm,rn,rt⟩=true∧(lN ⟨⟨e,p,i,u,h'⟩,ps,vs,sl,⟨6,rp,ri,rs,re,ru,rv,rc,rz,rm,rn,rt⟩,n,s⟩).2=true then((lN ⟨⟨e,p,i,u,h'⟩,ps,vs,sl,⟨6,rp,ri,rs,re,ru,rv,rc,rz,rm,rn,rt⟩,n,s⟩).1,0) else(⟨⟨e,p,i,u,h'⟩,ps,vs,sl,⟨6,rp,ri,rs,re,ru,rv,rc,rz,rm,rn,rt⟩,n,s⟩,220):=rfl;rw[hA];apply af;·simp(config := { maxSteps := 3000000 }) [jr,uD];exact⟨rfl,rfl,rfl⟩
   generalize hx:lN ⟨⟨e,p,i,u,h'⟩,ps,vs,sl,⟨6,rp,ri,rs,re,ru,rv,rc,rz,rm,rn,rt⟩,n,s⟩=x;obtain⟨⟨⟨e',p',i',u',h''⟩,ps',vs',sl',⟨k',rp',ri',rs',re',ru',rv',rc',rz',rm',rn',rt'⟩,n',s'⟩,b⟩:=x;rw[bA];cases hR:bp ⟨6,rp,ri,rs,re,ru,rv,rc,rz,rm,rn,rt⟩ with
   |false=>
    apply af;·simp(config := { maxSteps := 3000000 }) [hR];exact⟨rfl,rfl⟩
    simp(config := { maxSteps := 3000000 }) [hR,h9,h3,bf]|true=>
    apply af;·simp(config := { maxSteps := 3000000 }) [hR,hx,lA,h9];exact⟨by kernel_rfl,rfl,rfl⟩
    cases b with|false=>simp(config := { maxSteps := 3000000 }) [hR,h9,h3,bf]|true=>simp(config := { maxSteps := 3000000 }) [hR,bf]
  ·have hA:aX ⟨⟨e,p,i,u,h'⟩,ps,vs,sl,⟨7,rp,ri,rs,re,ru,rv,rc,rz,rm,rn,rt⟩,n,s⟩=if bp ⟨7,rp,ri,rs,re,ru,rv,rc,rz,rm,rn,rt⟩=true∧(qv ⟨⟨e,p,i,u,h'⟩,ps,vs,sl,⟨7,rp,ri,rs,re,ru,rv,rc,rz,rm,rn,rt⟩,n,s⟩).2=true then((qv ⟨⟨e,p,i,u,h'⟩,ps,vs,sl,⟨7,rp,ri,rs,re,ru,rv,rc,rz,rm,rn,rt⟩,n,s⟩).1,0) else(⟨⟨e,p,i,u,h'⟩,ps,vs,sl,⟨7,rp,ri,rs,re,ru,rv,rc,rz,rm,rn,rt⟩,n,s⟩,220):=rfl;rw[hA];apply af;·simp(config := { maxSteps := 3000000 }) [jr,uD];exact⟨rfl,rfl,rfl⟩
   generalize hx:qv ⟨⟨e,p,i,u,h'⟩,ps,vs,sl,⟨7,rp,ri,rs,re,ru,rv,rc,rz,rm,rn,rt⟩,n,s⟩=x;obtain⟨⟨⟨e',p',i',u',h''⟩,ps',vs',sl',⟨k',rp',ri',rs',re',ru',rv',rc',rz',rm',rn',rt'⟩,n',s'⟩,b⟩:=x;rw[bA];cases hR:bp ⟨7,rp,ri,rs,re,ru,rv,rc,rz,rm,rn,rt⟩ with
   |false=>
    apply af;·simp(config := { maxSteps := 3000000 }) [hR];exact⟨rfl,rfl⟩
    simp(config := { maxSteps := 3000000 }) [hR,h9,h3,bf]|true=>
    apply af;·simp(config := { maxSteps := 3000000 }) [hR,hx,lA];exact⟨by kernel_rfl,rfl,rfl⟩
    cases b with|false=>simp(config := { maxSteps := 3000000 }) [hR,h9,h3,bf]|true=>simp(config := { maxSteps := 3000000 }) [hR,bf]
  ·have hA:aX ⟨⟨e,p,i,u,h'⟩,ps,vs,sl,⟨8,rp,ri,rs,re,ru,rv,rc,rz,rm,rn,rt⟩,n,s⟩=if bp ⟨8,rp,ri,rs,re,ru,rv,rc,rz,rm,rn,rt⟩=true∧(gG ⟨⟨e,p,i,u,h'⟩,ps,vs,sl,⟨8,rp,ri,rs,re,ru,rv,rc,rz,rm,rn,rt⟩,n,s⟩).2=true then((gG ⟨⟨e,p,i,u,h'⟩,ps,vs,sl,⟨8,rp,ri,rs,re,ru,rv,rc,rz,rm,rn,rt⟩,n,s⟩).1,0) else(⟨⟨e,p,i,u,h'⟩,ps,vs,sl,⟨8,rp,ri,rs,re,ru,rv,rc,rz,rm,rn,rt⟩,n,s⟩,220):=rfl;rw[hA];apply af;·simp(config := { maxSteps := 3000000 }) [jr,uD];exact⟨rfl,rfl,rfl⟩
   generalize hx:gG ⟨⟨e,p,i,u,h'⟩,ps,vs,sl,⟨8,rp,ri,rs,re,ru,rv,rc,rz,rm,rn,rt⟩,n,s⟩=x;obtain⟨⟨⟨e',p',i',u',h''⟩,ps',vs',sl',⟨k',rp',ri',rs',re',ru',rv',rc',rz',rm',rn',rt'⟩,n',s'⟩,b⟩:=x;rw[bA];cases hR:bp ⟨8,rp,ri,rs,re,ru,rv,rc,rz,rm,rn,rt⟩ with
   |false=>
    apply af;·simp(config := { maxSteps := 3000000 }) [hR];exact⟨rfl,rfl⟩
    simp(config := { maxSteps := 3000000 }) [hR,h9,h3,bf]|true=>
    apply af;·simp(config := { maxSteps := 3000000 }) [hR,hx,lA,h2,hP,hC,hS,h3,hV];exact⟨by kernel_rfl,rfl,rfl⟩
    cases b with|false=>simp(config := { maxSteps := 3000000 }) [hR,h9,h3,bf]|true=>simp(config := { maxSteps := 3000000 }) [hR,bf]
  ·have hA:aX ⟨⟨e,p,i,u,h'⟩,ps,vs,sl,⟨k,rp,ri,rs,re,ru,rv,rc,rz,rm,rn,rt⟩,n,s⟩=(⟨⟨e,p,i,u,h'⟩,ps,vs,sl,⟨k,rp,ri,rs,re,ru,rv,rc,rz,rm,rn,rt⟩,n,s⟩,220):=by simp only[aX,wN,k1,k2,k3,k4,k5,k6,k7,k8,if_false]
   rw[hA];apply af;·simp(config := { maxSteps := 3000000 }) [jr,uD,k1,k2,k3,k4,k5,k6,k7,k8];exact⟨rfl,rfl,rfl⟩
   have hnf:oL Value.nilFunc=PV.val Value.nilFunc:=rfl;simp(config := { maxSteps := 3000000 }) [h9,h3,bf,hnf]
 ·cases h
@[simp] theorem Vp (e p i u:Int) (h:Bool) (a b:List (List PV)) (sl:Bool) (k rp ri rs re ru rv rc rz rm:Int) (rn rt:List UInt8) (n s:Int):Hv [.agg [.pv (.int .u64 e),.pv (.int .u64 p),.pv (.int .u64 i),.pv (.int .u64 u),.pv (.bool h),.pv (.ro a),.pv (.ro b),.pv (.bool sl)],.agg [.pv (.int .u8 k),.pv (.int .u64 rp),.pv (.int .u64 ri),.pv (.int .u64 rs),.pv (.int .u64 re),.pv (.int .u64 ru),.pv (.int .u64 rv),.pv (.int .u64 rc),.pv (.int .u64 rz),.pv (.int .u64 rm),.pv (.str rn),.pv (.str rt)],.pv (.int .u64 n),.pv (.int .u64 s)]=(dec rowP a).bind fun ps=>(dec cF b).map fun vs=>(rV ⟨⟨e,p,i,u,h⟩,ps,vs,sl,⟨k,rp,ri,rs,re,ru,rv,rc,rz,rm,rn,rt⟩,n,s⟩,.aK [.agg (bf (aX ⟨⟨e,p,i,u,h⟩,ps,vs,sl,⟨k,rp,ri,rs,re,ru,rv,rc,rz,rm,rn,rt⟩,n,s⟩).1),.pv (.int .i64 (aX ⟨⟨e,p,i,u,h⟩,ps,vs,sl,⟨k,rp,ri,rs,re,ru,rv,rc,rz,rm,rn,rt⟩,n,s⟩).2)]):=rfl
def p3:Pn:=⟨3,2,5⟩
def x2:Vn:=⟨2,0,7,1,0,0,0,[],false,false⟩
def x4:Vn:=⟨4,2,7,1,0,0,0,[],false,false⟩
def W6:Vn:=⟨2,0,7,1,0,0,0,[],false,true⟩
theorem kA:aX ⟨⟨0,0,0,0,false⟩,[],[],false,⟨1,7,1,0,1,9,0,0,0,0,[],[]⟩,1,0⟩=(⟨⟨1,7,1,9,true⟩,[],[],false,⟨1,7,1,0,1,9,0,0,0,0,[],[]⟩,1,0⟩,0):=by kernel_rfl
theorem oA:rV ⟨⟨0,0,0,0,false⟩,[],[],false,⟨1,7,1,0,1,9,0,0,0,0,[],[]⟩,1,0⟩:=by simp[rV,cY,gM,gZ,en,p3,x2,x4]
theorem kB:aX ⟨⟨1,7,1,9,true⟩,[],[],false,⟨4,7,1,0,1,0,0,0,0,0,[],[]⟩,2,0⟩=(⟨⟨1,7,1,9,true⟩,[],[x2],false,⟨4,7,1,0,1,0,0,0,0,0,[],[]⟩,2,0⟩,0):=by kernel_rfl
theorem oB:rV ⟨⟨1,7,1,9,true⟩,[],[],false,⟨4,7,1,0,1,0,0,0,0,0,[],[]⟩,2,0⟩:=by simp[rV,cY,gM,gZ,en,p3,x2,x4]
theorem kC:aX ⟨⟨1,7,1,9,true⟩,[],[x2],false,⟨5,0,0,0,0,5,2,0,0,0,[],[]⟩,3,0⟩=(⟨⟨1,7,1,9,true⟩,[p3],[x2],false,⟨5,0,0,0,0,5,2,0,0,0,[],[]⟩,3,0⟩,0):=by kernel_rfl
theorem oC:rV ⟨⟨1,7,1,9,true⟩,[],[x2],false,⟨5,0,0,0,0,5,2,0,0,0,[],[]⟩,3,0⟩:=by simp[rV,cY,gM,gZ,en,p3,x2,x4]
theorem kX:aX ⟨⟨1,7,1,9,true⟩,[p3],[x2],false,⟨4,7,1,0,1,0,2,0,0,0,[],[]⟩,4,0⟩=(⟨⟨1,7,1,9,true⟩,[p3],[x2,x4],false,⟨4,7,1,0,1,0,2,0,0,0,[],[]⟩,4,0⟩,0):=by kernel_rfl
theorem oX:rV ⟨⟨1,7,1,9,true⟩,[p3],[x2],false,⟨4,7,1,0,1,0,2,0,0,0,[],[]⟩,4,0⟩:=by simp[rV,cY,gM,gZ,en,p3,x2,x4]
theorem kY:aX ⟨⟨1,7,1,9,true⟩,[p3],[x2,x4],false,⟨8,0,0,0,0,0,0,3,0,0,[],[]⟩,5,0⟩=(⟨⟨1,7,1,9,true⟩,[p3],[x2,x4],false,⟨8,0,0,0,0,0,0,3,0,0,[],[]⟩,5,0⟩,0):=by kernel_rfl
theorem oY:rV ⟨⟨1,7,1,9,true⟩,[p3],[x2,x4],false,⟨8,0,0,0,0,0,0,3,0,0,[],[]⟩,5,0⟩:=by simp[rV,cY,gM,gZ,en,p3,x2,x4]
theorem kZ:aX ⟨⟨1,7,1,9,true⟩,[p3],[x2,x4],false,⟨8,0,0,0,0,0,0,6,0,0,[],[]⟩,5,0⟩=(⟨⟨1,7,1,9,true⟩,[],[W6,x4],false,⟨8,0,0,0,0,0,0,6,0,0,[],[]⟩,5,0⟩,0):=by kernel_rfl
theorem oZ:rV ⟨⟨1,7,1,9,true⟩,[p3],[x2,x4],false,⟨8,0,0,0,0,0,0,6,0,0,[],[]⟩,5,0⟩:=by simp[rV,cY,gM,gZ,en,p3,x2,x4]
theorem kK:aX ⟨⟨0,0,0,0,false⟩,[],[],false,⟨4,7,1,0,0,0,0,0,0,0,[],[]⟩,1,0⟩=(⟨⟨0,0,0,0,false⟩,[],[],false,⟨4,7,1,0,0,0,0,0,0,0,[],[]⟩,1,0⟩,220):=by kernel_rfl
theorem oK:rV ⟨⟨0,0,0,0,false⟩,[],[],false,⟨4,7,1,0,0,0,0,0,0,0,[],[]⟩,1,0⟩:=by simp[rV,cY,gM,gZ,en,p3,x2,x4]
theorem kM:aX ⟨⟨0,0,0,0,false⟩,[],[],false,⟨1,0,0,0,2,0,0,0,0,0,[],[]⟩,1,0⟩=(⟨⟨0,0,0,0,false⟩,[],[],false,⟨1,0,0,0,2,0,0,0,0,0,[],[]⟩,1,0⟩,220):=by kernel_rfl
theorem oM:rV ⟨⟨0,0,0,0,false⟩,[],[],false,⟨1,0,0,0,2,0,0,0,0,0,[],[]⟩,1,0⟩:=by simp[rV,cY,gM,gZ,en,p3,x2,x4]
theorem sY:aY [x2,x4]=[x2,x4]:=rfl
theorem sZ:aY [W6,x4]=[x4]:=rfl
theorem fN:bq []:=fun _ h=>by cases h
theorem rX:rowAt (aC [x2]) 0=[.int .u64 2,.int .u64 0,.int .u64 7,.int .u64 1,.int .u64 0,.int .u64 0,.int .u64 0,.str [],.bool false,.bool false]:=rfl
theorem rZ:rowAt (aC [W6,x4]) 0=[.int .u64 2,.int .u64 0,.int .u64 7,.int .u64 1,.int .u64 0,.int .u64 0,.int .u64 0,.str [],.bool false,.bool true]:=rfl
noncomputable def IY:List AV→Option (Prop×AV)|[]=>some (True,.pv (.bool true))|_=>none
@[simp] theorem Vl:IY []=some (True,.pv (.bool true)):=rfl
theorem SJ:bn Tryz.prog 8 IY:=by
 intro ys φ r h hφ;unfold IY at h;split at h
 ·cases h;refine aB (ai GW (ai CK (ai tF aj))) (by kernel_rfl) fn8 (by simp) ?_;unfold body8;apply af;·simp(config := { maxSteps := 3000000 });exact⟨rfl,rfl⟩
  apply af;·simp(config := { maxSteps := 3000000 });exact⟨rfl,rfl⟩
  apply af;·simp(config := { maxSteps := 3000000 }) [kA,oA,bf,fN,aE,ax];exact⟨rfl,rfl⟩
  apply af;·simp(config := { maxSteps := 3000000 }) [kB,oB,bf,fN,aE,ax];exact⟨rfl,rfl⟩
  apply af;·simp(config := { maxSteps := 3000000 }) [kC,oC,bf,fN,aE,ax];exact⟨rfl,rfl⟩
  apply af;·simp(config := { maxSteps := 3000000 }) [kX,oX,bf,fN,aE,ax];exact⟨rfl,rfl⟩
  apply af;·simp(config := { maxSteps := 3000000 }) [kY,oY,bf,fN,aE,ax];exact⟨rfl,rfl⟩
  apply af;·simp(config := { maxSteps := 3000000 }) [kZ,oZ,bf,fN,aE,ax];exact⟨rfl,rfl⟩
  apply af;·simp(config := { maxSteps := 3000000 }) [kK,oK,bf,fN,aE,ax];exact⟨rfl,rfl⟩
  apply af;·simp(config := { maxSteps := 3000000 }) [kM,oM,bf,fN,aE,ax];exact⟨rfl,rfl⟩
  apply af;·simp(config := { maxSteps := 3000000 });exact⟨rfl,rfl⟩
  apply af
  ·refine(show ct _ _ _ _ _ from ?_);apply fa 10 rfl rfl;·simp(config := { maxSteps := 3000000 }) [dc,sY,sZ,rX,rZ,ax];exact⟨rfl,rfl⟩
   apply fa 8 rfl rfl;·simp(config := { maxSteps := 3000000 }) [dc,sY,sZ,rX,rZ,ax];exact⟨rfl,rfl⟩
   apply fa 8 rfl rfl;·simp(config := { maxSteps := 3000000 }) [dc,sY,sZ,rX,rZ,ax];exact⟨rfl,rfl⟩
   apply fa 7 rfl rfl;·simp(config := { maxSteps := 3000000 }) [dc,sY,sZ,rX,rZ,ax];exact⟨rfl,rfl⟩
   apply fa 7 rfl rfl;·simp(config := { maxSteps := 3000000 }) [dc,sY,sZ,rX,rZ,ax];exact⟨rfl,rfl⟩
   apply fa 6 rfl rfl;·simp(config := { maxSteps := 3000000 }) [dc,sY,sZ,rX,rZ,ax];exact⟨rfl,rfl⟩
   simp(config := { maxSteps := 3000000 }) [rZ];exact⟨rfl,rfl⟩
  simp(config := { maxSteps := 3000000 })
 ·cases h
@[simp] def ic (ys:List AV) (K:Rc→Option (Prop×AV)):Option (Prop×AV):=match ys with|[.pv (.int .u8 k),.pv (.int .u64 p),.pv (.int .u64 i),.pv (.int .u64 s),.pv (.int .u64 e),.pv (.int .u64 u),.pv (.int .u64 v),.pv (.int .u64 c),.pv (.int .u64 z),.pv (.int .u64 m),.pv (.str n),.pv (.str t)]=>K ⟨k,p,i,s,e,u,v,c,z,m,n,t⟩|_=>none
theorem dC {ys:List AV}{K:Rc→Option (Prop×AV)}{x:Prop×AV} (h:ic ys K=some x):∃r,ys=aW r∧K r=some x:=by
 unfold ic at h;split at h;·exact⟨_,rfl,h⟩
 ·cases h
theorem Qx {a b:Rc}:a=b↔a.k=b.k∧a.p=b.p∧a.i=b.i∧a.s=b.s∧a.e=b.e∧a.u=b.u∧a.v=b.v∧a.c=b.c∧a.z=b.z∧a.m=b.m∧a.n=b.n∧a.t=b.t:=by cases a;cases b;simp
@[simp] def Gb:List AV→Option (Prop×AV)|[.agg ys]=>ic ys fun r=>some (True,.agg (aW r))|_=>none
theorem Hf:bn Tryz.prog 11 Gb:=by
 intro ys φ r h hφ;unfold Gb at h;split at h;·obtain⟨r,rfl,h1⟩:=dC h;cases h1;refine aB aj (by kernel_rfl) fn11 (by simp) ?_;unfold body11;simp(config := { maxSteps := 3000000 }) [aW]
 ·cases h
def CR (r:Rc) (c:Int):Int:=if c=101 then r.e else if c=117 then r.u else if c=118 then r.v else if c=115 then r.z else if c=99 then r.m else r.c
def rN (r:Rc) (c:Int):List UInt8:=if c=110 then r.n else r.t
def vG (x:Rc) (c n:Int) (s:List UInt8):Rc:=if c=101 then{x with e:=n} else if c=117 then{x with u:=n} else if c=118 then{x with v:=n} else if c=115 then{x with z:=n} else if c=99 then{x with m:=n} else if c=107 then{x with c:=n} else if c=110 then{x with n:=s} else{x with t:=s}
def AM (c:Int):Bool:=decide (c=110)||decide (c=116)
def yj:List (List UInt8):=[[],[101,117],[101,117],[101],[101,118,115,99],[118,117],[118],[],[107],[110],[110],[110,116]]
def kb (k:Int):List UInt8:=if 11<k then[] else(yj[k.toNat]?).getD []
@[simp] def FT:List AV→Option (Prop×AV)|[.agg ys,.pv (.int .u8 c)]=>ic ys fun r=>some (True,.pv (.int .u64 (CR r c)))|_=>none
theorem HA:bn Tryz.prog 64 FT:=by
 intro ys φ r h hφ;unfold FT at h;split at h
 ·rename_i ys c;obtain⟨r,rfl,h1⟩:=dC h;cases h1;refine aB aj (by kernel_rfl) fn64 (by simp) ?_;unfold body64 CR;by_cases h1:c=101;·simp(config := { maxSteps := 3000000 }) [aW,h1]
  by_cases h2:c=117;·simp(config := { maxSteps := 3000000 }) [aW,h2]
  by_cases h3:c=118;·simp(config := { maxSteps := 3000000 }) [aW,h3]
  by_cases h4:c=115;·simp(config := { maxSteps := 3000000 }) [aW,h4]
  by_cases h5:c=99;·simp(config := { maxSteps := 3000000 }) [aW,h5]
  simp(config := { maxSteps := 3000000 }) [aW,h1,h2,h3,h4,h5]
 ·cases h
@[simp] def Ge:List AV→Option (Prop×AV)|[.agg ys,.pv (.int .u8 c)]=>ic ys fun r=>some (True,.pv (.str (rN r c)))|_=>none
theorem J3:bn Tryz.prog 65 Ge:=by
 intro ys φ r h hφ;unfold Ge at h;split at h;·rename_i ys c;obtain⟨r,rfl,h1⟩:=dC h;cases h1;refine aB aj (by kernel_rfl) fn65 (by simp) ?_;unfold body65 rN;by_cases h1:c=110<;>simp(config := { maxSteps := 3000000 }) [aW,h1]
 ·cases h
@[simp] def CJ:List AV→Option (Prop×AV)|[.agg ys,.pv (.int .u8 c),.pv (.int .u64 n),.pv (.str s)]=>ic ys fun r=>some (True,.agg (aW (vG r c n s)))|_=>none
theorem E2:bn Tryz.prog 63 CJ:=by
 intro ys φ r h hφ;unfold CJ at h;split at h
 ·rename_i ys c n s;obtain⟨r,rfl,h1⟩:=dC h;cases h1;refine aB aj (by kernel_rfl) fn63 (by simp) ?_;unfold body63 vG;by_cases h1:c=101;·simp(config := { maxSteps := 3000000 }) [aW,h1]
  by_cases h2:c=117;·simp(config := { maxSteps := 3000000 }) [aW,h2]
  by_cases h3:c=118;·simp(config := { maxSteps := 3000000 }) [aW,h3]
  by_cases h4:c=115;·simp(config := { maxSteps := 3000000 }) [aW,h4]
  by_cases h5:c=99;·simp(config := { maxSteps := 3000000 }) [aW,h5]
  by_cases h6:c=107;·simp(config := { maxSteps := 3000000 }) [aW,h6]
  by_cases h7:c=110;·simp(config := { maxSteps := 3000000 }) [aW,h7]
  simp(config := { maxSteps := 3000000 }) [aW,h1,h2,h3,h4,h5,h6,h7]
 ·cases h
@[simp] def Tg:List AV→Option (Prop×AV)|[.pv (.int .u8 c)]=>some (True,.pv (.bool (AM c)))|_=>none
theorem SQ:bn Tryz.prog 66 Tg:=by
 intro ys φ r h hφ;unfold Tg at h;split at h;·cases h;refine aB aj (by kernel_rfl) fn66 (by simp) ?_;unfold body66;simp(config := { maxSteps := 3000000 }) [AM]
 ·cases h
@[simp] def zp:List AV→Option (Prop×AV)|[.pv (.int .u8 k)]=>some (0≤k,.pv (.str (kb k)))|_=>none
theorem Cs:bn Tryz.prog 62 zp:=by
 intro ys φ r h hφ;unfold zp at h;split at h
 ·rename_i k;cases h;have hk0:0≤k:=hφ;refine aB aj (by kernel_rfl) fn62 (by simp) ?_;unfold body62;by_cases h1:11<k;·simp(config := { maxSteps := 3000000 }) [kb,h1]
  have hk:k=0∨k=1∨k=2∨k=3∨k=4∨k=5∨k=6∨k=7∨k=8∨k=9∨k=10∨k=11:=by omega
  rcases hk with rfl|rfl|rfl|rfl|rfl|rfl|rfl|rfl|rfl|rfl|rfl|rfl<;>simp(config := { maxSteps := 3000000 }) [kb,yj,rowAt]
 ·cases h
def DN (r x:Rc) (c:UInt8):Rc:=vG x (c.toNat:Int) (CR r (c.toNat:Int)) (rN r (c.toNat:Int))
def FA (r:Rc) (c:UInt8):Bool:=AM (c.toNat:Int)&&(decide ((rN r (c.toNat:Int)).length<1)||decide (64<(rN r (c.toNat:Int)).length))
def Gj (r:Rc):Rc:=⟨r.k,r.p,r.i,r.s,0,0,0,0,0,0,[],[]⟩
theorem m4 {r:Rc} (h:r.k<1∨11<r.k):bp r=false:=by
 have:gq r.k eZ=none:=by unfold eZ;simp only[gq];repeat rw[if_neg (by omega)]
 unfold bp;rw[this]
theorem su {r:Rc} (h:65535<r.z∨4294967295<r.m):bp r=false:=by
 unfold bp;split;·rfl
 ·rcases h with h|h<;>simp[h]
theorem Hp {r:Rc} (h1:1≤r.k) (h2:r.k≤11) (h3:¬65535<r.z) (h4:¬4294967295<r.m):bp r=(!(kb r.k).any (FA r)&&decide ((kb r.k).foldl (DN r) (Gj r)=r)):=by
 obtain⟨k,p,i,s,e,u,v,c,z,m,n,t⟩:=r;have h1:1≤k:=h1;have h2:k≤11:=h2;have h3:¬65535<z:=h3;have h4:¬4294967295<m:=h4;have hk:k=1∨k=2∨k=3∨k=4∨k=5∨k=6∨k=7∨k=8∨k=9∨k=10∨k=11:=by omega
 have e1:∀l:List UInt8,decide (l.length<1)=decide (l=[]):=fun l=>decide_eq_decide.2 (by cases l<;>simp);rcases hk with rfl|rfl|rfl|rfl|rfl|rfl|rfl|rfl|rfl|rfl|rfl<;>simp[bp,gq,eZ,oN,rP,Qc,kb,yj,FA,AM,rN,DN,vG,CR,Gj,h3,h4,e1,Qx,eq_comm,and_comm,and_left_comm,and_assoc];simp only[Bool.and_assoc]
@[simp] def zr:List AV→Option (Prop×AV)|[.agg ys]=>ic ys fun r=>some (True,.pv (.bool (bp r)))|_=>none
theorem CN:bn Tryz.prog 29 zr:=by
 intro ys φ r h hφ;unfold zr at h;split at h
 ·obtain⟨r,rfl,h1⟩:=dC h;cases h1;refine aB (ai Cs (ai HA (ai J3 (ai E2 (ai SQ aj))))) (by kernel_rfl) fn29 (by simp) ?_;unfold body29;apply af;·simp(config := { maxSteps := 3000000 }) [aW];exact⟨rfl,rfl⟩
  by_cases h1:r.k<1;·have hb:=m4 (Or.inl h1);simp(config := { maxSteps := 3000000 }) [h1,hb]
  by_cases h2:11<r.k;·have hb:=m4 (Or.inr h2);simp(config := { maxSteps := 3000000 }) [h1,h2,hb]
  by_cases h3:65535<r.z;·have hb:=su (Or.inl h3);simp(config := { maxSteps := 3000000 }) [h1,h2,h3,hb]
  by_cases h4:4294967295<r.m;·have hb:=su (Or.inr h4);simp(config := { maxSteps := 3000000 }) [h1,h2,h3,h4,hb]
  have hr6:=Hp (r:=r) (by omega) (by omega) h3 h4;have hk0:0≤r.k:=by omega
  have hl10:(kb r.k).length≤4:=by
   have hk:r.k=1∨r.k=2∨r.k=3∨r.k=4∨r.k=5∨r.k=6∨r.k=7∨r.k=8∨r.k=9∨r.k=10∨r.k=11:=by omega
   rcases hk with hk|hk|hk|hk|hk|hk|hk|hk|hk|hk|hk<;>rw[hk]<;>decide
  apply af;·simp(config := { maxSteps := 3000000 }) [h1,h2,h3,h4];exact⟨rfl,rfl⟩
  apply af;·simp(config := { maxSteps := 3000000 }) [hk0];exact⟨rfl,rfl⟩
  apply af;·simp(config := { maxSteps := 3000000 });exact⟨rfl,rfl⟩
  generalize hl:kb r.k=l at*;obtain⟨k,rp,ri,rs,re,ru,rv,rc,rz,rm,rn,rt⟩:=r;rw[bA];apply af;·simp(config := { maxSteps := 3000000 });exact⟨rfl,rfl⟩
  rw[aP];refine ay (fun j:Nat=>j≤l.length∧(l.take j).any (FA ⟨k,rp,ri,rs,re,ru,rv,rc,rz,rm,rn,rt⟩)=false) (fun j=>⟨[(1,.ptr 1 0),(2,.pv (.bool false)),(3,.pv (.str l)),(4,.ptr 4 0),(5,.pv (.int .i64 (j:Int)))],[(1,.box [.pv (.int .u8 k),.pv (.int .u64 rp),.pv (.int .u64 ri),.pv (.int .u64 rs),.pv (.int .u64 re),.pv (.int .u64 ru),.pv (.int .u64 rv),.pv (.int .u64 rc),.pv (.int .u64 rz),.pv (.int .u64 rm),.pv (.str rn),.pv (.str rt)]),(4,.box (aW ((l.take j).foldl (DN ⟨k,rp,ri,rs,re,ru,rv,rc,rz,rm,rn,rt⟩) (Gj ⟨k,rp,ri,rs,re,ru,rv,rc,rz,rm,rn,rt⟩))))]⟩) (fun j=>l.length-j) [] 0 ⟨by simp,rfl⟩ ?_ ?_;·simp[aW,Gj]
  ·rintro j ⟨hj,ht⟩;have w2:IntKind.i64.wrap ((j:Int)+1)=(j:Int)+1:=wrap_i64 (by omega);rw[lX];dsimp only;by_cases hlt:j<l.length
   ·have hg:l.getD j 0=l[j]:=by simp[hlt]
    have hF:(l.take (j+1)).foldl (DN ⟨k,rp,ri,rs,re,ru,rv,rc,rz,rm,rn,rt⟩) (Gj ⟨k,rp,ri,rs,re,ru,rv,rc,rz,rm,rn,rt⟩)=DN ⟨k,rp,ri,rs,re,ru,rv,rc,rz,rm,rn,rt⟩ ((l.take j).foldl (DN ⟨k,rp,ri,rs,re,ru,rv,rc,rz,rm,rn,rt⟩) (Gj ⟨k,rp,ri,rs,re,ru,rv,rc,rz,rm,rn,rt⟩)) l[j]:=by rw[List.take_succ_eq_append_getElem hlt,List.foldl_append];rfl
    have hA:(l.take (j+1)).any (FA ⟨k,rp,ri,rs,re,ru,rv,rc,rz,rm,rn,rt⟩)=FA ⟨k,rp,ri,rs,re,ru,rv,rc,rz,rm,rn,rt⟩ l[j]:=by rw[List.take_succ_eq_append_getElem hlt,List.any_append,ht];simp
    have hB:FA ⟨k,rp,ri,rs,re,ru,rv,rc,rz,rm,rn,rt⟩ l[j]=true→bp ⟨k,rp,ri,rs,re,ru,rv,rc,rz,rm,rn,rt⟩=false:=by intro hb;have:l.any (FA ⟨k,rp,ri,rs,re,ru,rv,rc,rz,rm,rn,rt⟩)=true:=List.any_eq_true.2 ⟨_,List.getElem_mem hlt,hb⟩;rw[hr6,this];rfl
    generalize(l.take j).foldl (DN ⟨k,rp,ri,rs,re,ru,rv,rc,rz,rm,rn,rt⟩) (Gj ⟨k,rp,ri,rs,re,ru,rv,rc,rz,rm,rn,rt⟩)=x at*;obtain⟨xk,xp,xi,xs,xe,xu,xv,xc,xz,xm,xn,xt⟩:=x;apply af;·simp(config := { maxSteps := 3000000 }) [hlt];exact⟨rfl,rfl⟩
    rw[bA,aP];apply af;·simp(config := { maxSteps := 3000000 }) [hlt,hg,aW];exact⟨rfl,rfl⟩
    rw[bA];generalize hX:DN ⟨k,rp,ri,rs,re,ru,rv,rc,rz,rm,rn,rt⟩ ⟨xk,xp,xi,xs,xe,xu,xv,xc,xz,xm,xn,xt⟩ l[j]=X at*;have hX':vG ⟨xk,xp,xi,xs,xe,xu,xv,xc,xz,xm,xn,xt⟩ (l[j].toNat:Int) (CR ⟨k,rp,ri,rs,re,ru,rv,rc,rz,rm,rn,rt⟩ (l[j].toNat:Int)) (rN ⟨k,rp,ri,rs,re,ru,rv,rc,rz,rm,rn,rt⟩ (l[j].toNat:Int))=X:=hX;have hD:FA ⟨k,rp,ri,rs,re,ru,rv,rc,rz,rm,rn,rt⟩ l[j]=(AM (l[j].toNat:Int)&&(decide ((rN ⟨k,rp,ri,rs,re,ru,rv,rc,rz,rm,rn,rt⟩ (l[j].toNat:Int)).length<1)||decide (64<(rN ⟨k,rp,ri,rs,re,ru,rv,rc,rz,rm,rn,rt⟩ (l[j].toNat:Int)).length))):=rfl;generalize hT:rN ⟨k,rp,ri,rs,re,ru,rv,rc,rz,rm,rn,rt⟩ (l[j].toNat:Int)=T at*;cases hI:AM (l[j].toNat:Int) with|false=>rw[hD,hI]at hA;simp(config := { maxSteps := 3000000 }) [aW,hlt,hI,hT,hX',w2];exact⟨j+1,⟨by omega,by simpa using hA⟩,⟨by omega,by simp[hF]⟩,by omega⟩|true=>
     rw[hD,hI]at hA hB;by_cases h5:T.length<1
     ·have hf:=hB (by simp[h5]);have h5':(T.length:Int)<1:=by omega
      simp(config := { maxSteps := 3000000 }) [aW,hlt,hI,hT,hX',w2,h5',hf]
     by_cases h6:64<T.length
     ·have hf:=hB (by simp[h6]);have h5':¬(T.length:Int)<1:=by omega
      have h6':(64:Int)<T.length:=by omega
      simp(config := { maxSteps := 3000000 }) [aW,hlt,hI,hT,hX',w2,h5',h6',hf]
     ·have h5':¬(T.length:Int)<1:=by omega
      have h6':¬(64:Int)<T.length:=by omega
      simp(config := { maxSteps := 3000000 }) [aW,hlt,hI,hT,hX',w2,h5',h6'];have hA2:(decide (T.length<1)||decide (64<T.length))=false:=by rw[decide_eq_false (by omega),decide_eq_false (by omega)];rfl
      rw[hA2]at hA;exact⟨j+1,⟨by omega,by simpa using hA⟩,⟨by omega,by simp[hF]⟩,by omega⟩
   ·rw[List.take_of_length_le (by omega)]at ht;rw[List.take_of_length_le (by omega)];rw[ht]at hr6;generalize l.foldl (DN ⟨k,rp,ri,rs,re,ru,rv,rc,rz,rm,rn,rt⟩) (Gj ⟨k,rp,ri,rs,re,ru,rv,rc,rz,rm,rn,rt⟩)=x at*;obtain⟨xk,xp,xi,xs,xe,xu,xv,xc,xz,xm,xn,xt⟩:=x;simp(config := { maxSteps := 3000000 }) [hlt,aW,hr6]
 ·cases h
@[simp] def Fw:List AV→Option (Prop×AV)|[]=>some (True,.pv (.int .u64 18446744073709551615))|_=>none
theorem JI:bn Tryz.prog 104 Fw:=by
 intro ys φ r h hφ;unfold Fw at h;split at h;·cases h;refine aB aj (by kernel_rfl) fn104 (by simp) ?_;unfold body104;simp(config := { maxSteps := 3000000 })
 ·cases h
theorem EX:bn Tryz.prog 68 yK:=by
 intro ys φ r h hφ;unfold yK at h;split at h;·rename_i e p i u h' q j f;cases h;refine aB aj (by kernel_rfl) fn68 (by simp) ?_;unfold body68;cases h' with|false=>simp(config := { maxSteps := 3000000 }) [dc]|true=>
  by_cases h1:p=q
  ·by_cases h2:i=j;·by_cases h3:e=f<;>simp(config := { maxSteps := 3000000 }) [dc,h1,h2,h3]
   ·simp(config := { maxSteps := 3000000 }) [dc,h1,h2]
  ·simp(config := { maxSteps := 3000000 }) [dc,h1]
 ·cases h
theorem Bs:bn Tryz.prog 67 tN:=by
 intro ys φ r h hφ;unfold tN at h;split at h
 ·rename_i e p i u h' q j v;cases h;obtain⟨o1,o2⟩:=hφ;refine aB (ai JI aj) (by kernel_rfl) fn67 (by simp) ?_;unfold body67;by_cases h1:e=18446744073709551615;·simp(config := { maxSteps := 3000000 }) [dS,ld,cS,h1]
  ·have w1:IntKind.u64.wrap (e+1)=e+1:=wrap_u64 (by omega);simp(config := { maxSteps := 3000000 }) [dS,ld,cS,h1,w1]
 ·cases h
theorem B8:bn Tryz.prog 69 ud:=by
 intro ys φ r h hφ;unfold ud at h;split at h
 ·rename_i e p i u h' v;cases h;refine aB aj (by kernel_rfl) fn69 (by simp) ?_;unfold body69;by_cases h1:v<u
  ·have h2:max u v=u:=by omega
   simp(config := { maxSteps := 3000000 }) [lO,cS,h1,h2]
  ·have h2:max u v=v:=by omega
   simp(config := { maxSteps := 3000000 }) [lO,cS,h1,h2]
 ·cases h
theorem Hb:bn Tryz.prog 70 Ej:=by
 intro ys φ r h hφ;unfold Ej at h;split at h;·cases h;refine aB aj (by kernel_rfl) fn70 (by simp) ?_;unfold body70;simp(config := { maxSteps := 3000000 }) [iu,cS]
 ·cases h
def iz (a:Ap):Dc×Bool:=if a.r.k=1 then(⟨(dS a.l a.r.p a.r.i a.r.u).1,a.ps,a.vs,a.sl⟩,decide ((dS a.l a.r.p a.r.i a.r.u).2=0)&&decide ((dS a.l a.r.p a.r.i a.r.u).1.e=a.r.e)) else if a.r.k=7 then(⟨a.l,a.ps,a.vs,true⟩,a.l.h&&decide (a.l.p=a.r.p)&&decide (a.l.i=a.r.i)) else if dc a.l a.r.p a.r.i a.r.e=false then(⟨a.l,a.ps,a.vs,a.sl⟩,false) else if a.r.k=2 then(⟨lO a.l a.r.u,a.ps,a.vs,a.sl⟩,true) else if a.r.k=3 then(⟨iu a.l,a.ps,a.vs,a.sl⟩,true) else(⟨a.l,a.ps,(cM a.vs (en a)).1,a.sl⟩,decide ((cM a.vs (en a)).2=0))
@[simp] noncomputable def Fm:List AV→Option (Prop×AV)|[.agg ys,.agg zs,.pv (.int .u64 n)]=>gW ys fun d=>ic zs fun r=>some (cY d.l.e∧d.vs.length≤100000∧(∀v∈d.vs,gZ v)∧gZ (en ⟨d.l,d.ps,d.vs,d.sl,r,n,0⟩),.aK [.agg (cellsD (iz ⟨d.l,d.ps,d.vs,d.sl,r,n,0⟩).1),.pv (.bool (iz ⟨d.l,d.ps,d.vs,d.sl,r,n,0⟩).2)])|_=>none
theorem IX:bn Tryz.prog 30 Fm:=by
 intro ys φ r h hφ;unfold Fm at h;split at h
 ·rename_i ys zs n;obtain⟨d,rfl,h1⟩:=eo h;obtain⟨r,rfl,h2⟩:=dC h1;clear h h1;cases h2;obtain⟨⟨e,p,i,u,h'⟩,ps,vs,sl⟩:=d;obtain⟨k,rp,ri,rs,re,ru,rv,rc,rz,rm,rn,rt⟩:=r;obtain⟨o1,l1,o2,o3⟩:=hφ;have o1:cY e:=o1;have l1:vs.length≤100000:=l1;have o2:(∀v∈vs,gZ v)=True:=eq_true o2;have o3:gZ ⟨n,rv,rp,ri,rs,rz,rm,[],false,false⟩:=o3;refine aB (ai Bs (ai EX (ai B8 (ai Hb (ai Dv aj))))) (by kernel_rfl) fn30 (by simp) ?_;unfold body30 iz;apply af;·simp(config := { maxSteps := 3000000 }) [cellsD,aW];exact⟨rfl,rfl⟩
  apply af;·simp(config := { maxSteps := 3000000 });exact⟨rfl,rfl⟩
  by_cases k1:k=1;·subst k1;simp(config := { maxSteps := 3000000 }) [o1,cS,cellsD,aE,ax]
  by_cases k7:k=7;·subst k7;simp(config := { maxSteps := 3000000 }) [cS,cellsD,aE,ax]
  apply af;·simp(config := { maxSteps := 3000000 }) [k1,k7];exact⟨rfl,rfl⟩
  cases ho:dc ⟨e,p,i,u,h'⟩ rp ri re with|false=>simp(config := { maxSteps := 3000000 }) [k1,k7,ho,cellsD,aE,ax]|true=>
   apply af;·simp(config := { maxSteps := 3000000 }) [ho];exact⟨rfl,rfl⟩
   by_cases k2:k=2;·subst k2;simp(config := { maxSteps := 3000000 }) [ho,cS,cellsD,aE,ax]
   by_cases k3:k=3;·subst k3;simp(config := { maxSteps := 3000000 }) [ho,cS,cellsD,aE,ax]
   simp(config := { maxSteps := 3000000 }) [k1,k2,k3,k7,ho,l1,o2,o3,en,cellsD,aE,ax];exact decide_eq_decide.2 Iff.rfl
 ·cases h
noncomputable def fD (a:Ap):Dc×Bool:=if a.r.k=5 then(⟨a.l,(nv a.ps ⟨a.n,a.r.v,a.r.u⟩).1,a.vs,a.sl⟩,(fy a.vs a.r.v).isSome&&decide ((nv a.ps ⟨a.n,a.r.v,a.r.u⟩).2=0)) else if a.r.k=6 then(⟨a.l,(nu a.ps a.r.v).1,a.vs,a.sl⟩,decide ((nu a.ps a.r.v).2=0)) else if a.r.k=8 then(⟨a.l,cU a.ps a.r.c a.s,dL a.vs (lj ((cU a.ps a.r.c a.s).map Pn.v)),a.sl⟩,true) else(⟨a.l,a.ps,a.vs,a.sl⟩,false)
@[simp] noncomputable def Br:List AV→Option (Prop×AV)|[.agg ys,.agg zs,.pv (.int .u64 n),.pv (.int .u64 s)]=>gW ys fun d=>ic zs fun r=>some (d.ps.length<50∧d.vs.length≤100000∧(∀e∈d.ps,gM e)∧(∀v∈d.vs,gZ v)∧cY r.c∧cY s,.aK [.agg (cellsD (fD ⟨d.l,d.ps,d.vs,d.sl,r,n,s⟩).1),.pv (.bool (fD ⟨d.l,d.ps,d.vs,d.sl,r,n,s⟩).2)])|_=>none
theorem D0:bn Tryz.prog 31 Br:=by
 intro ys φ r h hφ;unfold Br at h;split at h
 ·rename_i ys zs n s;obtain⟨d,rfl,h1⟩:=eo h;obtain⟨r,rfl,h2⟩:=dC h1;clear h h1;cases h2;obtain⟨⟨e,p,i,u,h'⟩,ps,vs,sl⟩:=d;obtain⟨k,rp,ri,rs,re,ru,rv,rc,rz,rm,rn,rt⟩:=r;obtain⟨l1,l2,o1,o2,o3,o4⟩:=hφ;have l1:ps.length<50:=l1;have l2:vs.length≤100000:=l2;have l3:ps.length≤1000000:=by omega
  have l4:vs.length≤1000000:=by omega
  have l5:ps.length≤100000:=by omega
  have o3:cY rc:=o3;have l6:(cU ps rc s).length<50:=by have:=List.length_filter_le (fun e=>!dY rc s e) ps;unfold cU;omega
  have l7:(lj ((cU ps rc s).map Pn.v)).length≤1000000:=by have:=tB ((cU ps rc s).map Pn.v);rw[List.length_map]at this;omega
  have l8:(cU ps rc s).length≤1000000:=by omega
  have hU:∀l:List Int,bU l=gg l:=fun _=>rfl;have fU:∀l:List Int,bq (gg l):=pQ;have o5:∀e∈ps,cY e.u:=fun e he=>(o1 e he).2.2;have o6:(∀e∈ps,cY e.u)=True:=eq_true o5;have o7:(∀v∈vs,gZ v)=True:=eq_true o2;refine aB (ai Gh (ai Jm (ai HM (ai Es (ai Wk (ai Ag aj)))))) (by kernel_rfl) fn31 (by simp) ?_;unfold body31 fD;apply af;·simp(config := { maxSteps := 3000000 }) [cellsD,aW];exact⟨rfl,rfl⟩
  apply af;·simp(config := { maxSteps := 3000000 });exact⟨rfl,rfl⟩
  by_cases k5:k=5;·subst k5;simp(config := { maxSteps := 3000000 }) [l3,l4,bD,cellsD,aE,ax]
  by_cases k6:k=6;·subst k6;simp(config := { maxSteps := 3000000 }) [l5,cellsD,aE,ax]
  by_cases k8:k=8;·subst k8;simp(config := { maxSteps := 3000000 }) [l1,l2,l3,l6,l7,l8,o3,o4,o6,o7,hU,fU,cellsD,aE,ax]
  simp(config := { maxSteps := 3000000 }) [k5,k6,k8,cellsD,aE,ax]
 ·cases h
theorem yV {r:Rc} (h:bp r=true):1≤r.k∧r.k≤11:=by
 by_cases h1:r.k<1∨11<r.k;·rw[m4 h1]at h;cases h
 ·omega
def qT (a:Ap):Dc:=⟨a.l,a.ps,a.vs,a.sl⟩
theorem E5 {a:Ap} (h:bp a.r=false):aX a=(a,220):=by
 unfold aX;split;·rfl
 ·rw[h,if_neg (by simp)]
theorem B9 {a:Ap} (h:bp a.r=true) (hk:a.r.k≤4∨a.r.k=7):(qT (aX a).1,(aX a).2)=if(iz a).2=true∧a.sl=false then((iz a).1,0) else(qT a,220):=by
 obtain⟨h1,h2⟩:=yV h;have hk:a.r.k=1∨a.r.k=2∨a.r.k=3∨a.r.k=4∨a.r.k=7:=by omega
 rcases hk with hk|hk|hk|hk|hk;·cases hs:a.sl<;>cases hq:decide ((dS a.l a.r.p a.r.i a.r.u).2=0)<;>cases hq2:decide ((dS a.l a.r.p a.r.i a.r.u).1.e=a.r.e)<;>simp[aX,wN,iz,hk,h,j7,hs,hq,hq2,qT]
 ·cases hs:a.sl<;>cases ho:dc a.l a.r.p a.r.i a.r.e<;>simp[aX,wN,iz,hk,h,lq,hs,ho,qT]
 ·cases hs:a.sl<;>cases ho:dc a.l a.r.p a.r.i a.r.e<;>simp[aX,wN,iz,hk,h,gE,hs,ho,qT]
 ·cases hs:a.sl<;>cases ho:dc a.l a.r.p a.r.i a.r.e<;>cases hq:decide ((cM a.vs (en a)).2=0)<;>simp[aX,wN,iz,hk,h,iS,hs,ho,hq,qT]
 ·cases hs:a.sl<;>cases hq:(a.l.h&&decide (a.l.p=a.r.p)&&decide (a.l.i=a.r.i))<;>simp[aX,wN,iz,hk,h,qv,hs,hq,qT]
theorem Ar {a:Ap} (h:bp a.r=true) (hk:¬(a.r.k≤4∨a.r.k=7)):(qT (aX a).1,(aX a).2)=if(fD a).2=true then((fD a).1,0) else(qT a,220):=by
 obtain⟨h1,h2⟩:=yV h;have hk:a.r.k=5∨a.r.k=6∨a.r.k=8∨a.r.k=9∨a.r.k=10∨a.r.k=11:=by omega
 rcases hk with hk|hk|hk|hk|hk|hk;·cases hq:((fy a.vs a.r.v).isSome&&decide ((nv a.ps ⟨a.n,a.r.v,a.r.u⟩).2=0))<;>simp[aX,wN,fD,hk,h,yb,hq,qT]
 ·cases hq:decide ((nu a.ps a.r.v).2=0)<;>simp[aX,wN,fD,hk,h,lN,hq,qT]
 ·simp[aX,wN,fD,hk,h,gG,qT]
 ·simp[aX,wN,fD,hk,h,qT]
 ·simp[aX,wN,fD,hk,h,qT]
 ·simp[aX,wN,fD,hk,h,qT]
@[simp] noncomputable def NS:List AV→Option (Prop×AV)|[.agg ys]=>gW ys fun d=>some (d.ps.length≤100000∧d.vs.length≤100000,.bB 0 [.agg (cellsD d)])|_=>none
theorem P2:df Tryz.prog 9 NS:=by
 intro ys φ r h hφ;unfold NS at h;split at h;·obtain⟨d,rfl,h2⟩:=eo h;clear h;cases h2;obtain⟨h1,h2⟩:=hφ;refine b5 (ai Pe (ai Og aj)) (by kernel_rfl) fn9 (by simp[cellsD]) rfl (by simp[cellsD]) ?_;unfold body9;simp(config := { maxSteps := 3000000 }) [cellsD,h1,h2]
 ·cases h
@[simp] noncomputable def F1:List AV→Option (Prop×AV)|[.agg ys,.agg zs,.pv (.int .u64 n),.pv (.int .u64 s)]=>gW ys fun d=>ic zs fun r=>some (rV ⟨d.l,d.ps,d.vs,d.sl,r,n,s⟩∧0≤r.k,.aK [.agg (cellsD (qT (aX ⟨d.l,d.ps,d.vs,d.sl,r,n,s⟩).1)),.pv (.int .i64 (aX ⟨d.l,d.ps,d.vs,d.sl,r,n,s⟩).2)])|_=>none
theorem HK:bn Tryz.prog 10 F1:=by
 intro ys φ r h hφ;unfold F1 at h;split at h
 ·rename_i ys zs n s;obtain⟨d,rfl,h1⟩:=eo h;obtain⟨r,rfl,h2⟩:=dC h1;clear h h1;cases h2;obtain⟨⟨o1,o2,o3,o4,o5,o6,o7,o8⟩,hk⟩:=hφ;obtain⟨⟨e,p,i,u,h'⟩,ps,vs,sl⟩:=d;obtain⟨k,rp,ri,rs,re,ru,rv,rc,rz,rm,rn,rt⟩:=r;have o1:cY e:=o1;have o2:ps.length<50:=o2;have o3:vs.length≤100000:=o3;have o4:(∀e∈ps,gM e)=True:=eq_true o4;have o5:(∀v∈vs,gZ v)=True:=eq_true o5;have o6:cY rc:=o6;have o7:cY s:=o7;have o8:gZ (en ⟨⟨e,p,i,u,h'⟩,ps,vs,sl,⟨k,rp,ri,rs,re,ru,rv,rc,rz,rm,rn,rt⟩,n,0⟩):=o8;refine aB (ai CN (ai IX (ai D0 aj))) (by kernel_rfl) fn10 (by simp) ?_;unfold body10;apply af;·simp(config := { maxSteps := 3000000 }) [cellsD,aW];exact⟨rfl,rfl⟩
  cases hR:bp ⟨k,rp,ri,rs,re,ru,rv,rc,rz,rm,rn,rt⟩ with|false=>
   have hb:aX ⟨⟨e,p,i,u,h'⟩,ps,vs,sl,⟨k,rp,ri,rs,re,ru,rv,rc,rz,rm,rn,rt⟩,n,s⟩=_:=E5 hR;rw[hb];rw[bA];apply af;·simp(config := { maxSteps := 3000000 }) [hR];exact⟨rfl,rfl⟩
   apply ie rfl;simp(config := { maxSteps := 3000000 }) [qT,cellsD,aE,ax]|true=>
   apply af;·simp(config := { maxSteps := 3000000 }) [hR];exact⟨rfl,rfl⟩
   apply af;·simp(config := { maxSteps := 3000000 });exact⟨rfl,rfl⟩
   by_cases hk1:k≤4∨k=7
   ·have ha:=B9 (a:=⟨⟨e,p,i,u,h'⟩,ps,vs,sl,⟨k,rp,ri,rs,re,ru,rv,rc,rz,rm,rn,rt⟩,n,s⟩) hR hk1;have hh:iz ⟨⟨e,p,i,u,h'⟩,ps,vs,sl,⟨k,rp,ri,rs,re,ru,rv,rc,rz,rm,rn,rt⟩,n,s⟩=iz ⟨⟨e,p,i,u,h'⟩,ps,vs,sl,⟨k,rp,ri,rs,re,ru,rv,rc,rz,rm,rn,rt⟩,n,0⟩:=rfl;rw[hh]at ha;generalize aX ⟨⟨e,p,i,u,h'⟩,ps,vs,sl,⟨k,rp,ri,rs,re,ru,rv,rc,rz,rm,rn,rt⟩,n,s⟩=q at*;generalize hx:iz ⟨⟨e,p,i,u,h'⟩,ps,vs,sl,⟨k,rp,ri,rs,re,ru,rv,rc,rz,rm,rn,rt⟩,n,0⟩=x at*;obtain⟨⟨⟨xe,xp,xi,xu,xh⟩,xps,xvs,xsl⟩,b⟩:=x;rw[bA,bA];apply qz
    ·by_cases h4:k≤4;·simp(config := { maxSteps := 3000000 }) [h4];exact⟨rfl,rfl⟩
     ·have h7:k=7:=by omega
      simp(config := { maxSteps := 3000000 }) [h4,h7]
    apply ie rfl;apply af;·simp(config := { maxSteps := 3000000 }) [o1,o3,o5,o8,hx,cellsD,aE,ax];exact⟨rfl,rfl⟩
    cases b with|false=>rw[if_neg (by simp)]at ha;obtain⟨ha1,ha2⟩:=Prod.mk.inj ha;rw[ha1,ha2];simp(config := { maxSteps := 3000000 }) [qT,cellsD,aE,ax]|true=>cases sl with|true=>rw[if_neg (by simp)]at ha;obtain⟨ha1,ha2⟩:=Prod.mk.inj ha;rw[ha1,ha2];simp(config := { maxSteps := 3000000 }) [qT,cellsD,aE,ax]|false=>rw[if_pos ⟨rfl,rfl⟩]at ha;obtain⟨ha1,ha2⟩:=Prod.mk.inj ha;rw[ha1,ha2];simp(config := { maxSteps := 3000000 }) [qT,cellsD,aE,ax]
   ·have ha:=Ar (a:=⟨⟨e,p,i,u,h'⟩,ps,vs,sl,⟨k,rp,ri,rs,re,ru,rv,rc,rz,rm,rn,rt⟩,n,s⟩) hR hk1;generalize aX ⟨⟨e,p,i,u,h'⟩,ps,vs,sl,⟨k,rp,ri,rs,re,ru,rv,rc,rz,rm,rn,rt⟩,n,s⟩=q at*;generalize hx:fD ⟨⟨e,p,i,u,h'⟩,ps,vs,sl,⟨k,rp,ri,rs,re,ru,rv,rc,rz,rm,rn,rt⟩,n,s⟩=x at*;obtain⟨⟨⟨xe,xp,xi,xu,xh⟩,xps,xvs,xsl⟩,b⟩:=x;have h4:¬k≤4:=fun h=>hk1 (Or.inl h);have h7:¬k=7:=fun h=>hk1 (Or.inr h);rw[bA,bA];apply qz;·simp(config := { maxSteps := 3000000 }) [h4,h7];exact⟨rfl,rfl⟩
    apply tR rfl;apply qz;·simp(config := { maxSteps := 3000000 }) [o2,o3,o4,o5,o6,o7,hx,cellsD,aE,ax];exact⟨rfl,rfl⟩
    cases b with|false=>rw[if_neg (by simp)]at ha;obtain⟨ha1,ha2⟩:=Prod.mk.inj ha;rw[ha1,ha2];simp(config := { maxSteps := 3000000 }) [qT,cellsD,aE,ax]|true=>rw[if_pos rfl]at ha;obtain⟨ha1,ha2⟩:=Prod.mk.inj ha;rw[ha1,ha2];simp(config := { maxSteps := 3000000 }) [qT,cellsD,aE,ax]
 ·cases h
def wP (v:Vn):Bool:=decide (v=wL v.n v.t)
def CG (l:List Vn):Bool:=l.all wP
def Oc (l:List Vn):Int:=if CG l=true then-1 else(l.findIdx (fun v=>!wP v):Int)
@[simp] def YO:List AV→Option (Prop×AV)|[.agg [.pv (.int .u64 n),.pv (.int .u64 b),.pv (.int .u64 p),.pv (.int .u64 i),.pv (.int .u64 s),.pv (.int .u64 z),.pv (.int .u64 m),.pv (.str t),.pv (.bool inl),.pv (.bool dT)]]=>some (True,.pv (.bool (!wP ⟨n,b,p,i,s,z,m,t,inl,dT⟩)))|_=>none
@[simp] noncomputable def YS:List AV→Option (Prop×AV)|[.pv (.ro a),.bB f []]=>if f=90 then(dec cF a).map fun l=>(l.length≤1000000000,.pv (.int .i64 (Oc l))) else none|_=>none
@[simp] noncomputable def YP:List AV→Option (Prop×AV)|[.pv (.ro a),.bB f []]=>if f=90 then(dec cF a).map fun l=>(l.length≤1000000000,.pv (.bool (!CG l))) else none|_=>none
def QV (v:Vn):List UInt8:=me v.n++Gy v.t
def HR (l:List Vn):List UInt8:=l.flatMap QV
def QN (l:List Vn):List UInt8:=me l.length++HR l
def GR (l:List Vn):List UInt8×Int:=if bE l=true∧CG l=true then(QN l,0) else([],2)
@[simp] noncomputable def X7:List AV→Option (Prop×AV)|[.pv (.ro a)]=>(dec cF a).map fun l=>(l.length≤1000∧(∀v∈l,gZ v∧v.t.length≤1000000),.aK [.fr 5 (bytesRow (GR l).1),.pv (.int .i64 (GR l).2)])|_=>none
def lE (b:List UInt8) (q:Int):Vn×Int×Int:=if(b8 b q).2.2≠0 then(v0,0,(b8 b q).2.2) else if(qx b (b8 b q).2.1).2.2≠0 then(v0,0,(qx b (b8 b q).2.1).2.2) else(wL (b8 b q).1 (qx b (b8 b q).2.1).1,(qx b (b8 b q).2.1).2.1,0)
def pS (b:List UInt8):Nat→Int→Int→List Vn×Int×Int|0,_,q=>([],q,0)|f+1,n,q=>if n≤0 then([],q,0) else if(lE b q).2.2≠0 then([],0,(lE b q).2.2) else if(pS b f (n-1) (lE b q).2.1).2.2≠0 then([],0,(pS b f (n-1) (lE b q).2.1).2.2) else((lE b q).1::(pS b f (n-1) (lE b q).2.1).1,(pS b f (n-1) (lE b q).2.1).2.1,0)
def XJ (b:List UInt8) (R:List Vn×Int×Int):List Vn×Int:=if R.2.2≠0 then([],R.2.2) else if R.2.1=b.length∧bE R.1=true then(R.1,0) else([],2)
def BW (b:List UInt8):List Vn×Int:=if(b8 b 0).2.2≠0 then([],(b8 b 0).2.2) else XJ b (pS b (b.length+1) (b8 b 0).1 (b8 b 0).2.1)
@[simp] noncomputable def Yo (e:TypeId):List AV→Option (Prop×AV)|[.pv (.ro b)]=>(dec lf b).map fun l=>(l.length≤100000000,.aK [.fr e (aC (BW l).1),.pv (.int .i64 (BW l).2)])|_=>none
inductive Ch (l:List Vn):Vn→List Vn→Prop|base (v:Vn):bH v=0→Ch l v [v]|step (v w:Vn) (p:List Vn):w∈l→w.n=bH v→bH v≠0→Ch l w p→Ch l v (p++[v])
theorem Ch.mono {l m:List Vn} (hs:∀v∈l,v∈m) {v:Vn}{p:List Vn} (h:Ch l v p):Ch m v p:=by induction h with|base v h=>exact .base v h|step v w p hw hn hb _ ih=>exact .step v w p (hs w hw) hn hb ih
theorem Ch.map {f:Vn→Vn} (hn:∀v,(f v).n=v.n) (hb:∀v,bH (f v)=bH v) {l:List Vn}{v:Vn}{p:List Vn} (h:Ch l v p):Ch (l.map f) (f v) (p.map f):=by induction h with|base v h=>exact .base _ ((hb v).trans h)|step v w p hw h1 h2 _ ih=>rw[List.map_append];exact .step _ (f w) _ (List.mem_map.2 ⟨w,hw,rfl⟩) (by rw[hn,hb,h1]) (by rw[hb];exact h2) ih
theorem Bg (l:List Vn) (v:Vn):(cM l v).1.length≤l.length+1:=by
 unfold cM;split;·simp
 ·split<;>simp
theorem ve (l:List Vn) (bS:List Int):(dL l bS).length≤l.length:=by
 unfold dL;split;·simp
 ·have:=List.length_filter_le (fun v=>iy (kO l bS) v.n) (kO l bS);rw[rq]at this;exact this
theorem HV {a:Ap}{x:Ap×Bool} (h:wN a=some x):x.1.ps.length≤a.ps.length+1∧x.1.vs.length≤a.vs.length+1:=by
 have p1:∀e,(nv a.ps e).1.length≤a.ps.length+1:=by intro e;unfold nv;split<;>simp
 have p2:∀n,(nu a.ps n).1.length≤a.ps.length+1:=by
  intro n;unfold nu;have:=qn n a.ps;split;·show(jy n a.ps).length≤_;omega
  ·simp
 have p3:∀c s,(cU a.ps c s).length≤a.ps.length+1:=by intro c s;have:=List.length_filter_le (fun e=>!dY c s e) a.ps;unfold cU;omega
 have v1:=fun v=>Bg a.vs v;have v2:=fun k=>ve a.vs k;unfold wN at h;repeat' split at h
 all_goals first|cases h;exact⟨Nat.le_succ _,Nat.le_succ _⟩|cases h;exact⟨Nat.le_succ _,v1 _⟩|cases h;exact⟨p1 _,Nat.le_succ _⟩|cases h;exact⟨p2 _,Nat.le_succ _⟩|cases h;exact⟨p3 _ _,Nat.le_succ_of_le (v2 _)⟩|cases h
theorem DS (a:Ap):(aX a).1.ps.length≤a.ps.length+1∧(aX a).1.vs.length≤a.vs.length+1:=by
 unfold aX;split;·exact⟨Nat.le_succ _,Nat.le_succ _⟩
 ·rename_i x hx;split;·exact HV hx
  ·exact⟨Nat.le_succ _,Nat.le_succ _⟩
theorem Co (d:Dc) (r:Rc) (n s:Int) (hd:d.vs.length≤maxLen) (hV:∀v∈d.vs,gZ v) (hP:∀e∈d.ps,gM e) (he:cY d.l.e) (hc:cY r.c) (hv:cY r.v) (hk:0≤r.k) (hn:cY n) (hs:cY s):Cz Tryz.prog 3 [] [.agg (cellsD d),.agg (aW r),.pv (.int .u64 n),.pv (.int .u64 s)] [] (.pv (.bool true)):=by
 refine aB (ai H0 (ai IJ (ai SJ (ai XB (aZ (ks:=[0]) P2 (by kernel_rfl) (ai Hf (ai HK (ai GW (ai PO (aZ (ks:=[1]) SV (by kernel_rfl) aj)))))))))) (by kernel_rfl) fn3 (by simp) ?_;unfold body3;obtain⟨⟨de,dp,di,du,dh⟩,dps,dvs,dsl⟩:=d;obtain⟨k,rp,ri,rs,re,ru,rv,rc,rz,rm,rn,rt⟩:=r;have hd:dvs.length≤maxLen:=hd;apply af;·simp(config := { maxSteps := 3000000 }) [cellsD,aW];exact⟨rfl,rfl⟩
 cases hf:xV ⟨⟨de,dp,di,du,dh⟩,dps,dvs,dsl⟩ with|false=>simp(config := { maxSteps := 3000000 }) [hf,hd]|true=>cases hg:wZ rn rt with|false=>simp(config := { maxSteps := 3000000 }) [hf,hd,hg]|true=>
  have p1:dps.length≤20∧dvs.length≤20:=by simp only[xV,Bool.and_eq_true,decide_eq_true_eq]at hf;exact⟨hf.1.2,hf.2⟩
  obtain⟨p1,p2⟩:=p1;have p3:dps.length≤100000:=by omega
  have p4:dvs.length≤100000:=by omega
  have p5:dps.length≤1000000000:=by omega
  have p6:dvs.length≤1000000000:=by omega
  have hok:rV ⟨⟨de,dp,di,du,dh⟩,dps,dvs,dsl,⟨k,rp,ri,rs,re,ru,rv,rc,rz,rm,rn,rt⟩,n,s⟩:=⟨he,by show dps.length<50;omega,p4,hP,hV,hc,hs,hn.1,hn.2,hv.1,hv.2⟩;have hk:0≤k:=hk;apply af;·simp(config := { maxSteps := 3000000 }) [hf,hd,hg];exact⟨rfl,rfl⟩
  apply af;·simp(config := { maxSteps := 3000000 }) [p3,p4,cellsD,aE,ax];exact⟨rfl,rfl⟩
  have hl:(aX ⟨⟨de,dp,di,du,dh⟩,dps,dvs,dsl,⟨k,rp,ri,rs,re,ru,rv,rc,rz,rm,rn,rt⟩,n,s⟩).1.ps.length≤100000∧(aX ⟨⟨de,dp,di,du,dh⟩,dps,dvs,dsl,⟨k,rp,ri,rs,re,ru,rv,rc,rz,rm,rn,rt⟩,n,s⟩).1.vs.length≤100000:=by have:=DS ⟨⟨de,dp,di,du,dh⟩,dps,dvs,dsl,⟨k,rp,ri,rs,re,ru,rv,rc,rz,rm,rn,rt⟩,n,s⟩;simp only at this;omega
  generalize hA:aX ⟨⟨de,dp,di,du,dh⟩,dps,dvs,dsl,⟨k,rp,ri,rs,re,ru,rv,rc,rz,rm,rn,rt⟩,n,s⟩=q at*;obtain⟨⟨⟨xe,xp,xi,xu,xh⟩,xps,xvs,xsl,ar,an,asl⟩,e⟩:=q;obtain⟨x1,x2⟩:=hl;have x1:xps.length≤100000:=x1;have x2:xvs.length≤100000:=x2;have x3:xps.length≤1000000000:=by omega
  have x4:xvs.length≤1000000000:=by omega
  have x5:xps.length≤1000000:=by omega
  have x6:xvs.length≤1000000:=by omega
  have r3:∀r∈aD xps,r.length=3:=c9 xps;have r4:=fV xvs;have r3':(∀r∈aD xps,r.length=3)=True:=eq_true r3;have r4':(∀r∈aC xvs,r.length=10)=True:=eq_true r4;apply af;·simp(config := { maxSteps := 3000000 }) [hok,hk,hA,qT,cellsD,aW,aE,ax];exact⟨rfl,rfl⟩
  rw[bA];apply af;·simp(config := { maxSteps := 3000000 });exact⟨rfl,rfl⟩
  rw[aP];refine ay (fun i:Nat=>i≤2) (fun i=>⟨[(2,.pv (.int .u64 n)),(3,.pv (.int .u64 s)),(4,.ptr 4 0),(5,.ptr 5 0),(8,.pv (.bool false)),(9,.ptr 9 0),(10,.ptr 10 0),(11,.pv (.int .i64 e)),(12,.pv (.int .i64 (i:Int)))],[(4,.box (cellsD ⟨⟨de,dp,di,du,dh⟩,dps,dvs,dsl⟩)),(5,.box (aW ⟨k,rp,ri,rs,re,ru,rv,rc,rz,rm,rn,rt⟩)),(9,.box (cellsD ⟨⟨de,dp,di,du,dh⟩,dps,dvs,dsl⟩)),(10,.box (cellsD ⟨⟨xe,xp,xi,xu,xh⟩,xps,xvs,xsl⟩))]⟩) (fun i=>2-i) [] 0 (by simp) ?_ ?_;·simp[cellsD,aW]
  ·intro j hj;have w2:IntKind.i64.wrap ((j:Int)+1)=(j:Int)+1:=wrap_i64 (by omega);rw[lX];dsimp only;by_cases hlt:(j:Int)<2
   ·apply af;·simp(config := { maxSteps := 3000000 }) [hlt];exact⟨rfl,rfl⟩
    rw[bA,aP];apply af;·simp(config := { maxSteps := 3000000 }) [hok,hA,bf,cellsD,aW,aE,ax];exact⟨rfl,rfl⟩
    apply af
    ·apply af;·simp(config := { maxSteps := 3000000 }) [x1,x2,x3,x4,aE,ax];exact⟨rfl,rfl⟩
     apply tR rfl;simp(config := { maxSteps := 3000000 });exact⟨rfl,rfl⟩
    apply af;·simp(config := { maxSteps := 3000000 }) [x5,x6,r3',r4',aE,ax];exact⟨rfl,rfl⟩
    apply af;·simp(config := { maxSteps := 3000000 }) [p3,p4,p5,p6,aE,ax];exact⟨rfl,rfl⟩
    apply tR rfl;simp(config := { maxSteps := 3000000 }) [w2,cellsD,aW];exact⟨j+1,by omega,by omega,by omega⟩
   ·simp(config := { maxSteps := 3000000 }) [hlt]
end Go.Proofs.YtlmkcmfmfahcfaaGreat.Ab
namespace Go.Proofs.YtlmkcmfmfahcfaaGreat.Ab
open Go Go.RowKit Go.WideShapes Go.ChangeShapes
def gP (P:Program):Nat→TypeId→List PV→Prop|0,_,_=>False|n+1,t,row=>match P.underlying t with|some .bool=>∃b,row=[.bool b]|some (.int k)=>∃m,row=[.int k m]∧(Lit.int k m).wf=true|some .string=>∃l,row=[.str l]∧l.length≤maxLen|some (.slice e)=>∃rows,row=[.ro rows]∧rows.length≤maxLen∧∀r∈rows,gP P n e r|some (.struct fs)=>row.length=P.cellsOf t∧∀f∈fs.toList,gP P n f.type ((row.drop f.offset).take (P.cellsOf f.type))|_=>False
def nL (P:Program) (T:Nat):Nat→List Field→Bool|o,[]=>o==T|o,f::fs=>f.offset==o&&nL P T (o+P.cellsOf f.type) fs
def ew (P:Program):Nat→TypeId→Bool|0,_=>false|n+1,t=>match P.underlying t with|some .bool|some (.int _)|some .string=>true|some (.slice e)=>decide (0<P.cellsOf e)&&ew P n e|some (.struct fs)=>nL P (P.cellsOf t) 0 fs.toList&&fs.toList.all fun f=>ew P n f.type|_=>false
section
variable{H:Type}{enc:TypeId×Value→H}{P:Program}{w:World}{base:Nat}{spare:Nat→Bool}{held:Bool}
def lT (w:World) (cs:List Value) (row:List PV):Prop:=∀(i:Nat) (v:Value) (p:PV),cs[i]?=some v→row[i]?=some p→v.oneCell'=true∧cT (fun b=>b<w.heap.size) w v p
theorem vx {T:Nat}:∀{fs:List Field}{o:Nat},nL P T o fs=true→o≤T|[],o,h=>by simp only[nL,beq_iff_eq]at h;omega|f::fs,o,h=>by simp only[nL,Bool.and_eq_true,beq_iff_eq]at h;have:=vx h.2;omega
theorem oy {n T:Nat}{cs:List Value} (hT:cs.length=T):∀(fs:List Field) (o:Nat),nL P T o fs=true→(∀f∈fs,∃r:List PV,r.length=((cs.drop f.offset).take (P.cellsOf f.type)).length∧gP P n f.type r∧lT w ((cs.drop f.offset).take (P.cellsOf f.type)) r)→∃row:List PV,row.length=T-o∧(∀f∈fs,o≤f.offset∧gP P n f.type ((row.drop (f.offset-o)).take (P.cellsOf f.type)))∧lT w (cs.drop o) row
 |[],o,h,_=>by simp only[nL,beq_iff_eq]at h;exact⟨[],by simp;omega,fun f hf=>by simp at hf,fun i v p _ hp=>by simp at hp⟩|f::fs,o,h,hf=>by
  simp only[nL,Bool.and_eq_true,beq_iff_eq]at h;obtain⟨h1,h2⟩:=h;have hle:=vx h2;obtain⟨r,hr1,hr2,hr3⟩:=hf f (by simp);obtain⟨row,g1,g2,g3⟩:=oy hT fs _ h2 fun f' hf'=>hf f' (by simp[hf']);have hrl:r.length=P.cellsOf f.type:=by rw[hr1,h1];simp;omega
  refine⟨r++row,by simp[hrl,g1];omega,fun f' hf'=>?_,fun i v p hv hp=>?_⟩
  ·rcases List.mem_cons.1 hf' with rfl|hf';·refine⟨by omega,?_⟩;rw[h1,Nat.sub_self,List.drop_zero,←hrl,List.take_left'];exact hr2;rfl
   ·obtain⟨k1,k2⟩:=g2 f' hf';refine⟨by omega,?_⟩;rw[show f'.offset-o=r.length+(f'.offset-(o+P.cellsOf f.type)) from by omega,List.drop_append,List.drop_eq_nil_of_le (by omega),List.nil_append,Nat.add_sub_cancel_left];exact k2
  ·by_cases hi:i<r.length;·rw[List.getElem?_append_left hi]at hp;refine hr3 i v p ?_ hp;rw[h1,List.getElem?_take,if_pos (by omega)];exact hv
   ·rw[List.getElem?_append_right (by omega)]at hp;refine g3 (i-r.length) v p ?_ hp;rw[List.getElem?_drop]at hv ⊢;rw[←hv];congr 1;omega
theorem Bf:∀(n:Nat) (fuel:Nat) (t:TypeId) (cs:List Value) (x:DataW H×List MemPlace),ew P n t=true→DataW.trod enc P w base spare held fuel t cs=some x→∃row:List PV,row.length=cs.length∧gP P n t row∧lT w cs row:=by intro n;induction n with|zero=>intro fuel t cs x hp;simp[ew]at hp|succ n ih=>
 intro fuel t cs x hp h;have hone:∀(v:Value) (p:PV),cs=[v]→v.oneCell'=true→cT (fun b=>b<w.heap.size) w v p→lT w cs [p]:=by rintro v p rfl h1 h2 i v' p' hv hp;cases i with|zero=>simp at hv hp;subst hv hp;exact⟨h1,h2⟩|succ i=>simp at hp
 unfold ew at hp;split at hp;·rename_i hu;cases fuel with|zero=>simp[DataW.trod]at h|succ fuel=>
  simp only[DataW.trod,hu]at h;split at h;all_goals(try(simp_all;done))
  rename_i b hb;exact⟨[.bool b],rfl,by unfold gP;rw[hu];exact⟨b,rfl⟩,hone _ _ rfl rfl (.bool b)⟩
 ·rename_i k hu;cases fuel with|zero=>simp[DataW.trod]at h|succ fuel=>
   simp only[DataW.trod,hu]at h;split at h;all_goals(try(simp_all;done))
   rename_i _ k3 k2 m hk;simp only[Option.some.injEq,TypeDesc.int.injEq]at hk;subst hk;split at h;·rename_i hw;obtain⟨rfl,hw⟩:=hw;exact⟨[.int k2 m],rfl,by unfold gP;rw[hu];exact⟨m,rfl,hw⟩,hone _ _ rfl rfl (.int k2 m)⟩
   ·cases h
 ·rename_i hu;cases fuel with|zero=>simp[DataW.trod]at h|succ fuel=>
   simp only[DataW.trod,hu]at h;split at h;all_goals(try(simp_all;done))
   rename_i s hcs;split at h;·rename_i hs;refine⟨[.str s.data.toList],rfl,by unfold gP;rw[hu];exact⟨_,rfl,by rw[Array.length_toList];exact hs⟩,hone _ _ rfl rfl ?_⟩;have:cT (fun b=>b<w.heap.size) w (.string ⟨s.data.toList.toArray⟩) (.str s.data.toList):=.str _;rwa[Array.toArray_toList]at this
   ·cases h
 ·rename_i e hu;simp only[Bool.and_eq_true,decide_eq_true_eq]at hp;obtain⟨hC,hp⟩:=hp;rcases Go.Deep.open_slice hu h with⟨rfl,_⟩|⟨a,len,cap,m,n',D,Pl,rfl,hb,hl,hm,hmm,_,hi⟩;·exact⟨[.ro []],rfl,by unfold gP;rw[hu];exact⟨[],rfl,by simp,fun r hr=>by simp at hr⟩,hone _ _ rfl rfl (.uC none 0)⟩
  ·have hlm:len≤m:=by rw[hmm];split<;>omega
   have hrow:∀i,i<len→∃(cs':List Value) (row:List PV),w.cells? base (a.add (i*P.cellsOf e)) (P.cellsOf e)=some cs'∧row.length=cs'.length∧gP P n e row∧lT w cs' row:=fun i hil=>by obtain⟨cs',hc,ht⟩:=hi i (by omega);obtain⟨row,h1,h2,h3⟩:=ih n' e cs' _ hp ht;exact⟨cs',row,hc,h1,h2,h3⟩
   have hrow':∀i:Nat,∃(cs':List Value) (row:List PV),i<len→w.cells? base (a.add (i*P.cellsOf e)) (P.cellsOf e)=some cs'∧row.length=cs'.length∧gP P n e row∧lT w cs' row:=fun i=>by
    by_cases hil:i<len;·obtain⟨cs',row,h1⟩:=hrow i hil;exact⟨cs',row,fun _=>h1⟩
    ·exact⟨[],[],fun h=>absurd h hil⟩
   let F:Nat→List Value:=fun i=>(hrow' i).choose;let R:Nat→List PV:=fun i=>(hrow' i).choose_spec.choose;have hFR:∀i,i<len→w.cells? base (a.add (i*P.cellsOf e)) (P.cellsOf e)=some (F i)∧(R i).length=(F i).length∧gP P n e (R i)∧lT w (F i) (R i):=fun i hil=>(hrow' i).choose_spec.choose_spec hil;have hRl:∀i,i<len→(R i).length=P.cellsOf e∧∀j,j<P.cellsOf e→w.cell? ((a.add (i*P.cellsOf e)).add j)=(F i)[j]?:=fun i hil=>by obtain⟨h1,h2,_⟩:=hFR i hil;obtain⟨_,h4,h5⟩:=World.cells?_some h1;exact⟨by rw[h2,h4],h5⟩
   have hll:((List.range len).map R).length=len:=by simp
   have hget:∀(i:Nat) (r:List PV),((List.range len).map R)[i]?=some r→i<len∧r=R i:=fun i r hr=>by
    rw[List.getElem?_map,Option.map_eq_some_iff]at hr;obtain⟨k,hk,rfl⟩:=hr;have hil:i<len:=by have:=(List.getElem?_eq_some_iff.1 hk).1;simpa using this
    rw[List.getElem?_range hil]at hk;injection hk with hk;exact⟨hil,by rw[hk]⟩
   refine⟨[.ro ((List.range len).map R)],rfl,?_,hone _ _ rfl rfl ?_⟩;·unfold gP;rw[hu];refine⟨_,rfl,by rw[hll];omega,fun r hr=>?_⟩;obtain⟨i,hi1,rfl⟩:=List.mem_map.1 hr;exact(hFR i (by simpa using hi1)).2.2.1
   ·by_cases hz:len=0;·subst hz;exact .uC _ _
    ·have hS:a.block<w.heap.size:=by
      have h0:=(hRl 0 (by omega)).2 0 hC;obtain⟨h1,h2,h3,_⟩:=hFR 0 (by omega);have hlen:(F 0).length=P.cellsOf e:=(World.cells?_some h1).2.1;rw[List.getElem?_eq_getElem (by omega)]at h0;rw[eF]at h0;rcases Nat.lt_or_ge a.block w.heap.size with h'|h';·exact h'
      ·exfalso;have hbk:=dk a (0*P.cellsOf e+0);unfold World.cell? at h0;rw[hbk,Array.getElem?_eq_none h']at h0;simp at h0
     have key:=cT.ro (S:=fun b=>b<w.heap.size) (w:=w) a cap ((List.range len).map R) (P.cellsOf e) (fun i j=>(F i).getD j undef) hS (by rw[hll];exact hl) (fun r hr=>by obtain⟨i,hi1,rfl⟩:=List.mem_map.1 hr;exact(hRl i (by simpa using hi1)).1) (fun i j hi1 hj=>by rw[hll]at hi1;have h5:=(hRl i hi1).2 j hj;rw[eF]at h5;rw[h5];obtain⟨h1,h2,h3,_⟩:=hFR i hi1;have hlen:(F i).length=P.cellsOf e:=(World.cells?_some h1).2.1;rw[List.getD_eq_getElem?_getD,List.getElem?_eq_getElem (by omega)];rfl) (fun i j r p hr hp=>by
      obtain⟨hil,rfl⟩:=hget i r hr;obtain⟨h1,h2,h3,h4⟩:=hFR i hil;have hj:j<(F i).length:=by rw[←h2];exact(List.getElem?_eq_some_iff.1 hp).1
      have hv:(F i)[j]?=some (F i)[j]:=List.getElem?_eq_getElem hj;rw[List.getD_eq_getElem?_getD,hv];exact(h4 j _ p hv hp).1) (fun i j r p hr hp=>by
      obtain⟨hil,rfl⟩:=hget i r hr;obtain⟨h1,h2,h3,h4⟩:=hFR i hil;have hj:j<(F i).length:=by rw[←h2];exact(List.getElem?_eq_some_iff.1 hp).1
      have hv:(F i)[j]?=some (F i)[j]:=List.getElem?_eq_getElem hj;rw[List.getD_eq_getElem?_getD,hv];exact(h4 j _ p hv hp).2);rw[hll]at key;exact key
 ·rename_i fs hu;simp only[Bool.and_eq_true,List.all_eq_true]at hp;obtain⟨ht,hall⟩:=hp;obtain⟨ys,n',hn',hy,hlen,hyl,hf⟩:=DataW.trod_struct hu h;obtain⟨row,g1,g2,g3⟩:=oy (w:=w) (P:=P) (n:=n) hlen fs.toList 0 ht fun f hfm=>by
   obtain⟨j,hj⟩:=List.getElem?_of_mem hfm;have hj':fs[j]?=some f:=by simpa using hj
   have h1:=hf j f hj';have hjl:j<ys.length:=by rw[hyl];exact(Array.getElem?_eq_some_iff.1 hj').1
   rw[List.getElem?_eq_getElem hjl]at h1;exact ih n' f.type _ _ (hall f hfm) h1
  refine⟨row,by rw[g1];omega,?_,by simpa using g3⟩;unfold gP;rw[hu];exact⟨by rw[g1];omega,fun f hfm=>by simpa using(g2 f hfm).2⟩
 ·cases hp
end
def mK (P:Program) (t:TypeId):Bool:=match P.underlying t with|some (.struct _)=>true|_=>false
def Al (P:Program) (t:TypeId) (row:List PV):AV:=if mK P t=true then .agg (row.map .pv) else match row with|[p]=>.pv p|_=>.aq
def mo (P:Program):List TypeId→List (List PV)→List AV|t::ts,r::rs=>Al P t r::mo P ts rs|_,_=>[]
section
variable{H:Type}{enc:TypeId×Value→H}{P:Program}{w:World}
theorem Em {n base b0:Nat}{spare:Nat→Bool}{held:Bool}{r:Reach}{t:TypeId}{v:Value}{d:DataW H}{ps:List MemPlace} (hp:ew P n t=true) (hv:Value.okWide P w r b0 t v) (h:DataW.Trod enc P w base spare held t v d ps) (β:Nat→Value) (D:Nat→Prop):∃row,gP P n t row∧RV P (fun b=>b<w.heap.size) w β D v (Al P t row):=by
 obtain⟨fuel,h⟩:=h;obtain⟨row,h1,h2,h3⟩:=Bf n fuel t _ _ hp h;refine⟨row,h2,?_⟩;have hone:v.cells=#[v]→mK P t=false→RV P (fun b=>b<w.heap.size) w β D v (Al P t row):=by intro hc hs;rw[hc]at h1 h3;match row,h1 with|[p],_=>simp only[Al,hs];exact .pv _ _ (h3 0 v p rfl rfl).2
 cases n with|zero=>simp[ew]at hp|succ n=>
  unfold ew at hp;split at hp;·rename_i hu;obtain⟨b,rfl⟩:=okWide_bool hu hv;exact hone rfl (by simp[mK,hu])
  ·rename_i k hu;obtain⟨m,rfl⟩:=okWide_int hu hv;exact hone rfl (by simp[mK,hu])
  ·rename_i hu;obtain⟨s,rfl⟩:=okWide_string hu hv;exact hone rfl (by simp[mK,hu])
  ·rename_i e hu;obtain⟨a,len,cap,rfl⟩:=okWide_slice hu hv;exact hone rfl (by simp[mK,hu])
  ·rename_i fs hu;obtain⟨cs,rfl,hsz⟩:=okWide_struct hu hv;have hs:mK P t=true:=by simp[mK,hu]
   simp only[Al,hs,if_true];have hcs:(Value.agg cs).cells.toList=cs.toList:=rfl;rw[hcs]at h1 h3;have:=RV.agg (P:=P) (S:=fun b=>b<w.heap.size) (w:=w) (β:=β) (D:=D) (row.map .pv) cs.toList (by simp[h1]) (fun i c u hc hu=>by rw[List.getElem?_map,Option.map_eq_some_iff]at hc;obtain⟨p,hp,rfl⟩:=hc;exact .pv _ _ (h3 i u p hu hp).2);rwa[Array.toArray_toList]at this
  ·cases hp
theorem nt {n base b0:Nat}{spare:Nat→Bool}{held:Bool}{r:Reach} (β:Nat→Value) (D:Nat→Prop):∀(ts:List TypeId) (vs:List Value) (ds:List (DataW H)) (ps:List MemPlace),DataW.TrodAll enc P w base spare held ts vs ds ps→(∀t∈ts,ew P n t=true)→(∀(j:Nat) (t:TypeId) (v:Value),ts[j]?=some t→vs[j]?=some v→Value.okWide P w r b0 t v)→∃rows:List (List PV),rows.length=ts.length∧vs.length=ts.length∧ds.length=ts.length∧(∀(j:Nat) (t:TypeId) (r:List PV),ts[j]?=some t→rows[j]?=some r→gP P n t r)∧(mo P ts rows).length=ts.length∧∀(i:Nat) (v:Value) (y:AV),vs[i]?=some v→(mo P ts rows)[i]?=some y→RV P (fun b=>b<w.heap.size) w β D v y
 |[],[],[],ps,h,_,_=>⟨[],rfl,rfl,rfl,fun j t r h=>by simp at h,rfl,fun i v y h=>by simp at h⟩|t::ts,v::vs,d::ds,ps,h,hp,hv=>by
  obtain⟨p,q,h1,h2,rfl⟩:=h;obtain⟨rows,g1,g2,g3,g4,g5,g6⟩:=nt β D ts vs ds q h2 (fun t ht=>hp t (by simp[ht])) (fun j t v h1 h2=>hv (j+1) t v (by simpa using h1) (by simpa using h2));obtain⟨row,k1,k2⟩:=Em (hp t (by simp)) (hv 0 t v rfl rfl) h1 β D;refine⟨row::rows,by simp[g1],by simp[g2],by simp[g3],fun j t' r ht hr=>?_,by simp[mo,g5],fun i v' y hv' hy=>?_⟩;·cases j with|zero=>simp at ht hr;subst ht hr;exact k1|succ j=>exact g4 j t' r (by simpa using ht) (by simpa using hr)
  ·cases i with|zero=>simp[mo]at hv' hy;subst hv' hy;exact k2|succ i=>exact g6 i v' y (by simpa using hv') (by simpa[mo]using hy)
 |[],[],_::_,_,h,_,_=>h.elim|[],_::_,_,_,h,_,_=>h.elim|_::_,[],_,_,h,_,_=>h.elim|_::_,_::_,[],_,h,_,_=>h.elim
def xL (P:Program) (n:Nat) (f:FuncId) (ts:List TypeId):Prop:=∀rows:List (List PV),rows.length=ts.length→(∀(j:Nat) (t:TypeId) (r:List PV),ts[j]?=some t→rows[j]?=some r→gP P n t r)→Cz P f [] (mo P ts rows) [] (.pv (.bool true))
theorem Aq {n b0:Nat}{r:Reach}{f:FuncId}{ts:List TypeId}{vs:List Value}{ds:List (DataW H)}{ps:List MemPlace} (hcon:xL P n f ts) (hA:DataW.TrodAll enc P w 0 (fun _=>true) true ts vs ds ps) (hp:∀t∈ts,ew P n t=true) (hv:∀(j:Nat) (t:TypeId) (v:Value),ts[j]?=some t→vs[j]?=some v→Value.okWide P w r b0 t v):Calls P f vs.toArray w fun e w'=>e=.returned (.bool true)∧Below w.heap.size w w':=by
 obtain⟨rows,g1,g2,g3,g4,g5,g6⟩:=nt (fun _=>.nilIface) (fun _=>False) ts vs ds ps hA hp hv;have hS:∀b,aR (fun b=>b<w.heap.size) w.heap.size (fun _=>.nilIface) (ab []) w b↔b<w.heap.size:=by
  intro b;constructor;·exact fun h=>h.2.1
  ·exact fun h=>⟨.inl h,h,fun⟨t,o,ho,_⟩=>by cases ho⟩
 have hD:aA (ab [])=fun _=>False:=by
  funext t;apply propext;constructor;·rintro⟨o,ho⟩;cases ho
  ·exact False.elim
 refine(hcon rows g1 g4 w (fun b=>b<w.heap.size) (fun _=>.nilIface) vs (fun b h=>h) (fun t b ⟨o,ho⟩=>by cases ho) ⟨(fun t o ho=>by cases ho),(fun t t' b ⟨o,ho⟩=>by cases ho)⟩ (by rw[g2,g5]) (fun i v y h1 h2=>?_)).mono ?_;·rw[hD];exact(g6 i v y h1 h2).mono (fun b hb=>⟨(hS b).2 hb,rfl⟩) (fun t ht=>ht.elim)
 ·rintro e w' ⟨v,β',rfl,hf,_,_,hr⟩;have hvb:v=.bool true:=by have hr:RV P _ w' β' _ v (.pv (.bool true)):=hr;exact hr.ez
  subst hvb;exact⟨rfl,hf.os,hf.tape,hf.output,hf.size,fun k hk=>hf.block k hk fun⟨t,o,ho,_⟩=>by cases ho⟩
theorem kS (hl:laidOutB P=true) {W W':World} (hb:Below W.heap.size W W'):∀(ts:List TypeId) (vs:List Value) (ds:List (DataW H)) (ps:List MemPlace),DataW.TrodAll enc P W 0 (fun _=>true) true ts vs ds ps→(∀t∈ts,P.readableRec t=true∧t<P.types.size)→(∀x∈ps,x.block<W.heap.size)→∀sp:Nat→Bool,(∀x∈ps,sp x.block=true)→DataW.TrodAll enc P W' 0 sp true ts vs ds ps|[],[],[],ps,h,_,_,_,_=>h|t::ts,v::vs,d::ds,ps,h,hr,hlt,sp,hsp=>by obtain⟨p,q,h1,h2,rfl⟩:=h;obtain⟨hr1,hr2⟩:=hr t (by simp);exact⟨p,q,WideElems.Trod_stays hl hr1 hr2 h1 (fun x hx=>hb.same (hlt x (by simp[hx]))) (fun x hx=>hsp x (by simp[hx])),kS hl hb ts vs ds q h2 (fun t ht=>hr t (by simp[ht])) (fun x hx=>hlt x (by simp[hx])) sp (fun x hx=>hsp x (by simp[hx])),rfl⟩|[],[],_::_,_,h,_,_,_,_=>h.elim|[],_::_,_,_,h,_,_,_,_=>h.elim|_::_,[],_,_,h,_,_,_,_=>h.elim|_::_,_::_,[],_,h,_,_,_,_=>h.elim
theorem rU {f:Func}{s:ChangeSpec}{apart fresh handsOn again:Bool}{W W':World}{args:Array Value}{v:Value}{ds gs:List (DataW H)}{before pa pv:List MemPlace} (hW:DataW.Whole enc P f.params.toList s.vars apart W args.toList ds gs before) (hres:∀(b:Nat) (sp:Nat→Bool) (hd:Bool),DataW.TrodAll enc P W' b sp hd f.resultTypes.toList (v.resultList f.resultTypes.size) (s.fn H (ds++gs)).results []) (hargs:∀sp:Nat→Bool,(∀p∈before,sp p.block=true)→DataW.TrodAll enc P W' 0 sp true f.params.toList args.toList (s.fn H (ds++gs)).args pa) (hvars:∀sp:Nat→Bool,(∀p∈before,sp p.block=true)→DataW.TrodVars enc P W' sp s.vars (s.fn H (ds++gs)).vars pv) (hps:before=pa++pv) (hb:Below W.heap.size W W') (hok:∀(j:Nat) (t:TypeId) (r:Value),f.resultTypes[j]?=some t→(v.resultList f.resultTypes.size)[j]?=some r→Value.okWide P W' .any 0 t r):s.post enc P f apart fresh handsOn again W args v W':=by
 have hlt:∀p∈before,p.block<W.heap.size:=fun p hp=>hW.lt p hp;have hold:∀p∈before,(fun b=>decide (b<W.heap.size)) p.block=true:=fun p hp=>by simpa using hlt p hp
 refine⟨ds,gs,before,[],pa,pv,hW,hres _ _ _,hargs _ hold,hvars _ hold,World.keptBut_mono (fun p hp=>⟨hp,?_⟩) (hb.frame (·∈before)),fun _=>?_⟩;·rw[hps,List.mem_append]at hp;exact Or.inr hp
 ·obtain⟨_,_,_,_,_,hz,hn⟩:=hW;refine⟨hok,_,_,([]++pa)++pv,⟨[]++pa,pv,trodAll_append (hargs _ (fun _ _=>rfl)) (hres _ _ _),hvars _ (fun _ _=>rfl),rfl,?_,?_⟩,?_⟩
  ·intro b off hp;have hin:MemPlace.cell b off∈before:=by rw[hps];simpa using hp
   rw[hb.frozen (hlt _ hin)];exact hz b off hin
  ·intro ha;have:=hn ha;rw[hps]at this;simpa using this
  ·intro p hp _;rw[hps];simpa using hp
theorem BH {n:Nat}{f:FuncId}{fn:Func}{s:ChangeSpec}{apart fresh handsOn again:Bool}{W:World}{base:Nat}{args:Array Value}{ds gs:List (DataW H)}{before:List MemPlace}{tb:TypeId} (hl:laidOutB P=true) (hcon:xL P n f fn.params.toList) (hpl:∀t∈fn.params.toList,ew P n t=true∧P.readableRec t=true∧t<P.types.size) (hrt:fn.resultTypes=#[tb]) (htb:P.underlying tb=some .bool) (hsv:s.vars=[]) (hspec:∀ds:List (DataW H),ds.length=fn.params.toList.length→s.fn H (ds++[])={results:=[.lit (.bool true)],args:=ds}) (hval:∀(j:Nat) t v,fn.params[j]?=some t→args[j]?=some v→Value.okWide P W .any base t v) (hW:DataW.Whole enc P fn.params.toList s.vars apart W args.toList ds gs before):Calls P f args W fun e W'=>∃v,e=.returned v∧s.post enc P fn apart fresh handsOn again W args v W':=by
 have hW':=hW;obtain⟨p,q,hA,hV,hpq,hfz,hnd⟩:=hW';rw[hsv]at hV;obtain⟨rfl,rfl⟩:gs=[]∧q=[]:=by cases gs with|nil=>exact⟨rfl,hV⟩|cons g gs=>exact hV.elim
 have hval':∀(j:Nat) (t:TypeId) (v:Value),fn.params.toList[j]?=some t→args.toList[j]?=some v→Value.okWide P W .any base t v:=fun j t v h1 h2=>hval j t v (by simpa using h1) (by simpa using h2);obtain⟨rows,_,_,hdl,_⟩:=nt (fun _=>.nilIface) (fun _=>False) _ _ _ _ hA (fun t ht=>(hpl t ht).1) hval';have hsp:=hspec ds hdl;have hc:=Aq hcon hA (fun t ht=>(hpl t ht).1) hval';have hargs:args.toList.toArray=args:=by simp
 rw[hargs]at hc;refine hc.mono ?_;rintro e W' ⟨rfl,hb⟩;refine⟨_,rfl,rU (pa:=p) (pv:=[]) hW ?_ ?_ ?_ hpq hb ?_⟩;·intro b sp hd;rw[hsp,hrt];exact trodAll_mk1 ⟨1,by simp[DataW.trod,Value.cells,htb]⟩
 ·intro sp hs;rw[hsp];exact kS hl hb _ _ _ _ hA (fun t ht=>(hpl t ht).2) (fun x hx=>hW.lt x (by rw[hpq];simpa using hx)) sp (fun x hx=>hs x (by rw[hpq];simpa using hx))
 ·intro sp hs;rw[hsp,hsv];exact rfl
 ·exact ok_one hrt rfl (okWide_bool_mk htb true)
end
end Go.Proofs.YtlmkcmfmfahcfaaGreat.Ab
namespace Go.Proofs.YtlmkcmfmfahcfaaGreat.Ab
open Go Go.RowKit R
theorem Tryz.own:ownKnob Tryz.prog.godebug=none:=by kernel_rfl
theorem Tryz.laidOut:laidOutB Tryz.prog=true:=by kernel_rfl
theorem ua {n:Nat}{row:List PV} (h:gP Tryz.prog (n+1) 9 row):∃l,row=[.str l]:=by unfold gP at h;rw[Tryz.underlying9]at h;obtain⟨l,h,_⟩:=h;exact⟨l,h⟩
theorem bW {n:Nat}{row:List PV} (h:gP Tryz.prog (n+1) 22 row):∃m,row=[.int .u64 m]∧cY m:=by
 unfold gP at h;rw[Tryz.underlying22]at h;obtain⟨m,rfl,hw⟩:=h;refine⟨m,rfl,?_⟩;have:IntKind.u64.min≤m∧m≤IntKind.u64.max:=by simpa[Lit.wf]using hw
 simp[IntKind.min,IntKind.max,IntKind.signed,IntKind.bits]at this;unfold cY;omega
theorem HX {n:Nat}{row:List PV} (h:gP Tryz.prog (n+1) 5 row):∃m,row=[.int .u8 m]∧0≤m:=by
 unfold gP at h;rw[Tryz.underlying5]at h;obtain⟨m,rfl,hw⟩:=h;refine⟨m,rfl,?_⟩;have:IntKind.u8.min≤m∧m≤IntKind.u8.max:=by simpa[Lit.wf]using hw
 simp[IntKind.min,IntKind.max,IntKind.signed,IntKind.bits]at this;omega
theorem mI {n:Nat}{row:List PV} (h:gP Tryz.prog (n+1) 4 row):∃b,row=[.bool b]:=by unfold gP at h;rw[Tryz.underlying4]at h;exact h
theorem DE {n:Nat}{row:List PV} (h:gP Tryz.prog (n+2) 71 row):∃z m,row=[.int .u64 z,.int .u64 m]:=by
 unfold gP at h;rw[Tryz.underlying71]at h;have c0:Tryz.prog.cellsOf 71=2:=by kernel_rfl
 have c1:Tryz.prog.cellsOf 22=1:=by kernel_rfl
 simp only[c0,List.mem_cons,List.not_mem_nil,or_false,forall_eq_or_imp,forall_eq,c1]at h;obtain⟨hl,h1,h2⟩:=h;match row,hl with|[a,b],_=>obtain⟨z,hz,_⟩:=bW h1;obtain⟨m,hm,_⟩:=bW h2;simp at hz hm;subst hz hm;exact⟨z,m,rfl⟩
theorem EU {n:Nat}{row:List PV} (h:gP Tryz.prog (n+2) 94 row):∃e,row=rowP e∧gM e:=by
 unfold gP at h;rw[Tryz.underlying94]at h;have c0:Tryz.prog.cellsOf 94=3:=by kernel_rfl
 have c1:Tryz.prog.cellsOf 22=1:=by kernel_rfl
 simp only[c0,List.mem_cons,List.not_mem_nil,or_false,forall_eq_or_imp,forall_eq,c1]at h;obtain⟨hl,h1,h2,h3⟩:=h;match row,hl with|[a,b,c],_=>obtain⟨k,hk,o1⟩:=bW h1;obtain⟨n,hn,o2⟩:=bW h2;obtain⟨t,ht,o3⟩:=bW h3;simp at hk hn ht;subst hk hn ht;exact⟨⟨k,n,t⟩,rfl,o1,o2,o3⟩
theorem ta {n:Nat}:∀{rows:List (List PV)},(∀r∈rows,gP Tryz.prog (n+2) 94 r)→∃l,rows=aD l∧∀e∈l,gM e
 |[],_=>⟨[],rfl,fun e he=>by cases he⟩|r::rows,h=>by
  obtain⟨c,rfl,hc⟩:=EU (h r (by simp));obtain⟨l,rfl,hl⟩:=ta (rows:=rows) fun r hr=>h r (by simp[hr]);refine⟨c::l,rfl,fun e he=>?_⟩;rcases List.mem_cons.1 he with rfl|he;·exact hc
  ·exact hl e he
theorem Ed {n:Nat}{row:List PV} (h:gP Tryz.prog (n+3) 25 row):∃l,row=[.ro (aD l)]∧∀e∈l,gM e:=by unfold gP at h;rw[Tryz.underlying25]at h;obtain⟨rows,rfl,_,h⟩:=h;obtain⟨l,rfl,hl⟩:=ta h;exact⟨l,rfl,hl⟩
theorem C1 {n:Nat}{row:List PV} (h:gP Tryz.prog (n+4) 27 row):∃l,row=[.ro (aD l)]∧∀e∈l,gM e:=by
 unfold gP at h;rw[Tryz.underlying27]at h;have c0:Tryz.prog.cellsOf 27=1:=by kernel_rfl
 have c1:Tryz.prog.cellsOf 25=1:=by kernel_rfl
 simp only[c0,List.mem_cons,List.not_mem_nil,or_false,forall_eq,c1]at h;obtain⟨hl,h1⟩:=h;match row,hl with|[a],_=>exact Ed h1
theorem I8 {n:Nat}{row:List PV} (h:gP Tryz.prog (n+3) 73 row):∃v,row=cF v∧gZ v:=by
 unfold gP at h;rw[Tryz.underlying73]at h;have c0:Tryz.prog.cellsOf 73=10:=by kernel_rfl
 have c1:Tryz.prog.cellsOf 22=1:=by kernel_rfl
 have c2:Tryz.prog.cellsOf 9=1:=by kernel_rfl
 have c3:Tryz.prog.cellsOf 4=1:=by kernel_rfl
 have c4:Tryz.prog.cellsOf 71=2:=by kernel_rfl
 simp only[c0,List.mem_cons,List.not_mem_nil,or_false,forall_eq_or_imp,forall_eq,c1,c2,c3,c4]at h;obtain⟨hl,h1,h2,h3,h4,h5,h6,h7,h8,h9⟩:=h;match row,hl with|[a1,a2,a3,a4,a5,a6,a7,a8,a9,a10],_=>obtain⟨x1,e1,o1⟩:=bW h1;obtain⟨x2,e2,o2⟩:=bW h2;obtain⟨x3,e3,o3⟩:=bW h3;obtain⟨x4,e4,o4⟩:=bW h4;obtain⟨x5,e5,o5⟩:=bW h5;obtain⟨x6,x7,e6⟩:=DE h6;obtain⟨x8,e8⟩:=ua h7;obtain⟨x9,e9⟩:=mI h8;obtain⟨x10,e10⟩:=mI h9;simp at e1 e2 e3 e4 e5 e6 e8 e9 e10;obtain⟨e6,e7⟩:=e6;subst e1 e2 e3 e4 e5 e6 e7 e8 e9 e10;exact⟨⟨x1,x2,x3,x4,x5,x6,x7,x8,x9,x10⟩,rfl,o1.1,o1.2,o2.1,o2.2⟩
theorem wB {n:Nat}:∀{rows:List (List PV)},(∀r∈rows,gP Tryz.prog (n+3) 73 r)→∃l,rows=aC l∧∀e∈l,gZ e
 |[],_=>⟨[],rfl,fun e he=>by cases he⟩|r::rows,h=>by
  obtain⟨c,rfl,hc⟩:=I8 (h r (by simp));obtain⟨l,rfl,hl⟩:=wB (rows:=rows) fun r hr=>h r (by simp[hr]);refine⟨c::l,rfl,fun e he=>?_⟩;rcases List.mem_cons.1 he with rfl|he;·exact hc
  ·exact hl e he
theorem Dg {n:Nat}{row:List PV} (h:gP Tryz.prog (n+4) 29 row):∃l,row=[.ro (aC l)]∧l.length≤maxLen∧∀e∈l,gZ e:=by unfold gP at h;rw[Tryz.underlying29]at h;obtain⟨rows,rfl,hm,h⟩:=h;obtain⟨l,rfl,hl⟩:=wB h;exact⟨l,rfl,by simpa using hm,hl⟩
theorem A7 {n:Nat}{row:List PV} (h:gP Tryz.prog (n+2) 24 row):∃l:Ls,row=[.int .u64 l.e,.int .u64 l.p,.int .u64 l.i,.int .u64 l.u,.bool l.h]∧cY l.e:=by
 unfold gP at h;rw[Tryz.underlying24]at h;have c0:Tryz.prog.cellsOf 24=5:=by kernel_rfl
 have c1:Tryz.prog.cellsOf 22=1:=by kernel_rfl
 have c2:Tryz.prog.cellsOf 4=1:=by kernel_rfl
 simp only[c0,List.mem_cons,List.not_mem_nil,or_false,forall_eq_or_imp,forall_eq,c1,c2]at h;obtain⟨hl,h1,h2,h3,h4,h5⟩:=h;match row,hl with|[a,b,c,d,e],_=>obtain⟨x1,e1,o1⟩:=bW h1;obtain⟨x2,e2,o2⟩:=bW h2;obtain⟨x3,e3,o3⟩:=bW h3;obtain⟨x4,e4,o4⟩:=bW h4;obtain⟨x5,e5⟩:=mI h5;simp at e1 e2 e3 e4 e5;subst e1 e2 e3 e4 e5;exact⟨⟨x1,x2,x3,x4,x5⟩,rfl,o1⟩
def Hr (d:Dc):List PV:=[.int .u64 d.l.e,.int .u64 d.l.p,.int .u64 d.l.i,.int .u64 d.l.u,.bool d.l.h,.ro (aD d.ps),.ro (aC d.vs),.bool d.sl]
def Xg (d:Dc):Prop:=d.vs.length≤maxLen∧(∀v∈d.vs,gZ v)∧(∀e∈d.ps,gM e)∧cY d.l.e
theorem E8 {n:Nat}{row:List PV} (h:gP Tryz.prog (n+5) 31 row):∃d,row=Hr d∧Xg d:=by
 unfold gP at h;rw[Tryz.underlying31]at h;have c0:Tryz.prog.cellsOf 31=8:=by kernel_rfl
 have c1:Tryz.prog.cellsOf 24=5:=by kernel_rfl
 have c2:Tryz.prog.cellsOf 27=1:=by kernel_rfl
 have c3:Tryz.prog.cellsOf 29=1:=by kernel_rfl
 have c4:Tryz.prog.cellsOf 4=1:=by kernel_rfl
 simp only[c0,List.mem_cons,List.not_mem_nil,or_false,forall_eq_or_imp,forall_eq,c1,c2,c3,c4]at h;obtain⟨hl,h1,h2,h3,h4⟩:=h;match row,hl with|[a1,a2,a3,a4,a5,b,c,d],_=>obtain⟨x1,e1,o1⟩:=A7 h1;obtain⟨x2,e2,o2⟩:=C1 h2;obtain⟨x3,e3,o3,o4⟩:=Dg h3;obtain⟨x4,e4⟩:=mI h4;simp at e1 e2 e3 e4;obtain⟨e5,e6,e7,e8,e9⟩:=e1;subst e2 e3 e4 e5 e6 e7 e8 e9;exact⟨⟨x1,x2,x3,x4⟩,rfl,o3,o4,o2,o1⟩
theorem Iy:mK Tryz.prog 31=true:=by unfold mK;rw[Tryz.underlying31]
theorem Jo:ew Tryz.prog 5 31=true:=by kernel_rfl
theorem JX:Tryz.prog.readableRec 31=true:=by kernel_rfl
def FZ (d x:Dc) (k p i s v n:Int):Prop:=(∀w∈aY x.vs,fy d.vs w.n=some w∨(k=4∧w.n=n∧w.p=p∧w.i=i∧w.s=s∧w.b=v))∧(fy x.vs n).isSome=decide (k=4)
@[simp] noncomputable def Yt:List AV→Option (Prop×AV)|[.agg xs,.agg ys,.agg [.pv (.int .u8 k),.pv (.int .u64 rp),.pv (.int .u64 ri),.pv (.int .u64 rs),.pv (.int .u64 re),.pv (.int .u64 ru),.pv (.int .u64 rv),.pv (.int .u64 rc),.pv (.int .u64 rz),.pv (.int .u64 rm),.pv (.str rn),.pv (.str rt)],.pv (.int .u64 n)]=>gW xs fun d=>gW ys fun x=>some (d.vs.length≤100000∧x.vs.length≤100000∧FZ d x k rp ri rs rv n,.pv (.bool true))|_=>none
structure FI (j:Nat) (d:Dc):Prop where
 r:bE d.vs=true
 n:∀v∈d.vs,v.n≤j
 o:∀v∈d.vs,gZ v
 lv:d.vs.length≤j
 lp:d.ps.length≤j
 p:∀e∈d.ps,gM e
 e:cY d.l.e
def N3 (r:Rc):Prop:=cY r.p∧cY r.i∧cY r.s∧cY r.e∧cY r.u∧cY r.v∧cY r.c∧cY r.z∧cY r.m
def W8 (d:Dc) (r:Rc) (n s:Int):Ap:=⟨d.l,d.ps,d.vs,d.sl,r,n,s⟩
theorem FI.zero:FI 0 ⟨⟨0,0,0,0,false⟩,[],[],false⟩:=⟨rfl,by simp,by simp,by simp,by simp,by simp,by simp[cY]⟩
theorem FI.mono {j:Nat}{d:Dc} (h:FI j d):FI (j+1) d:=⟨h.r,fun v hv=>by have:=h.n v hv;omega,h.o,by have:=h.lv;omega,by have:=h.lp;omega,h.p,h.e⟩
theorem FI.ok {j:Nat}{d:Dc} (h:FI j d) {r:Rc} (hr:N3 r) {s:Int} (hs:cY s) (hj:j≤24):rV (W8 d r ((j:Int)+1) s):=by obtain⟨h1,h2,h3,h4,h5,h6,h7,h8,h9⟩:=hr;have:=h.lv;have:=h.lp;unfold cY at h6;exact⟨h.e,by show d.ps.length<50;omega,by show d.vs.length≤100000;omega,h.p,h.o,h7,hs,by show 0≤(j:Int)+1;omega,by show(j:Int)+1≤_;omega,h6.1,h6.2⟩
structure FS (d x:Dc) (r:Rc) (n:Int):Prop where
 h1:r.k=2∨r.k=3∨r.k=4→dc d.l r.p r.i r.e=true
 h2:r.k=7→d.l.h=true∧d.l.p=r.p∧d.l.i=r.i
 h3:d.l.e≤x.l.e
 h4:r.k=1∨r.k=2∨r.k=3∨r.k=4∨r.k=7→d.sl=false
 h7:r.k=5∨r.k=6∨r.k=8→x.sl=d.sl∧x.l=d.l
 h5:r.k=1→x.l=⟨d.l.e+1,r.p,r.i,r.u,true⟩∧d.l.e≠ld
 h6:FZ d x r.k r.p r.i r.s r.v n
def CP (r:Rc):List PV:=[.int .u8 r.k,.int .u64 r.p,.int .u64 r.i,.int .u64 r.s,.int .u64 r.e,.int .u64 r.u,.int .u64 r.v,.int .u64 r.c,.int .u64 r.z,.int .u64 r.m,.str r.n,.str r.t]
theorem En {n:Nat}{row:List PV} (h:gP Tryz.prog (n+2) 33 row):∃r,row=CP r∧N3 r∧0≤r.k:=by
 unfold gP at h;rw[Tryz.underlying33]at h;have c0:Tryz.prog.cellsOf 33=12:=by kernel_rfl
 have c1:Tryz.prog.cellsOf 22=1:=by kernel_rfl
 have c2:Tryz.prog.cellsOf 5=1:=by kernel_rfl
 have c3:Tryz.prog.cellsOf 9=1:=by kernel_rfl
 simp only[c0,List.mem_cons,List.not_mem_nil,or_false,forall_eq_or_imp,forall_eq,c1,c2,c3]at h;obtain⟨hl,h0,h1,h2,h3,h4,h5,h6,h7,h8,h9,h10,h11⟩:=h;match row,hl with|[a0,a1,a2,a3,a4,a5,a6,a7,a8,a9,a10,a11],_=>obtain⟨x0,e0,o0⟩:=HX h0;obtain⟨x1,e1,o1⟩:=bW h1;obtain⟨x2,e2,o2⟩:=bW h2;obtain⟨x3,e3,o3⟩:=bW h3;obtain⟨x4,e4,o4⟩:=bW h4;obtain⟨x5,e5,o5⟩:=bW h5;obtain⟨x6,e6,o6⟩:=bW h6;obtain⟨x7,e7,o7⟩:=bW h7;obtain⟨x8,e8,o8⟩:=bW h8;obtain⟨x9,e9,o9⟩:=bW h9;obtain⟨x10,e10⟩:=ua h10;obtain⟨x11,e11⟩:=ua h11;simp at e0 e1 e2 e3 e4 e5 e6 e7 e8 e9 e10 e11;subst e0 e1 e2 e3 e4 e5 e6 e7 e8 e9 e10 e11;exact⟨⟨x0,x1,x2,x3,x4,x5,x6,x7,x8,x9,x10,x11⟩,rfl,⟨o1,o2,o3,o4,o5,o6,o7,o8,o9⟩,o0⟩
theorem H2:mK Tryz.prog 33=true:=by unfold mK;rw[Tryz.underlying33]
theorem ID:ew Tryz.prog 5 33=true:=by kernel_rfl
theorem Iq:Tryz.prog.readableRec 33=true:=by kernel_rfl
theorem Kc:mK Tryz.prog 22=false:=by unfold mK;rw[Tryz.underlying22]
theorem CD:ew Tryz.prog 5 22=true:=by kernel_rfl
theorem CX:Tryz.prog.readableRec 22=true:=by kernel_rfl
end Go.Proofs.YtlmkcmfmfahcfaaGreat.Ab
