/- Chapter 16: is a record right? (walked at the machine). -/
import Derived.Test.YtlicclncicbajaaGreatX11
import Derived.Sort.Defs
import Derived.Sort.WalkC
set_option linter.unusedVariables false
set_option linter.unusedSimpArgs false
set_option linter.unnecessarySimpa false
set_option maxHeartbeats 40000000
set_option maxRecDepth 100000
set_option linter.defProp false
namespace Go.Proofs.YtlicclncicbajaaGreat.Ab
open Go Go.RowKit
def q102:=@Array.size_setIfInBounds
def q146:=@Int.tdiv_eq_ediv_of_nonneg
def q184:=@List.getElem_append_right
def q187:=@List.getElem_append_left
def q200:=@BitVec.ofInt_natCast
def q206:=@BitVec.toNat_ofNat
def q227:=@List.pairwise_cons
def q246:=@Below.refl
def q255:=@UInt64.toNat_ofNat'
def q261:=@Int.natCast_nonneg
def q280:=@BitVec.toNat_xor
def q281:=@Nat.shiftLeft_eq
end Go.Proofs.YtlicclncicbajaaGreat.Ab
namespace Go.Proofs.YtlicclncicbajaaGreat.Ab
open Go Go.RowKit R
variable {ys:List AV}{φ:Prop}{r:AV}{k i:Nat}{W:World}{F:Array Int→Nat→Nat→Array Int}
def gp:List (Int×List Nat):=[(1,[0,1]),(2,[0,1]),(3,[0]),(4,[0,2,4,5]),(5,[2,1]),(6,[2]),(7,[]),(8,[3]),(9,[6]),(10,[6]),(11,[6,7])]
def jr (k:Int):List (Int×List Nat)→Option (List Nat)|[]=>none|x::l=>if k=x.1 then some x.2 else jr k l
def bn (r:Rc):Bool:=match jr r.k gp with|none=>false|some ps=>!decide (65535<r.z)&&!decide (4294967295<r.m)&&!(sH ps ({r with p:=0,i:=0,s:=0},false)).2&&decide ((sH ps ({r with p:=0,i:=0,s:=0},false)).1=⟨r.k,0,0,0,0,0,0,0,0,0,[],[]⟩)
theorem getK (k:Int):lK (.int .u8 k) lh=(jr k gp).map fun l=>gI (l.map fun n:Nat=>(n:Int)):=by
 have:∀l:List (Int×List Nat),lK (.int .u8 k) (l.map fun x=>(PV.int .u8 x.1,gI (x.2.map fun n:Nat=>(n:Int))))=(jr k l).map fun l=>gI (l.map fun n:Nat=>(n:Int)):=by intro l;induction l with|nil=>rfl|cons x l ih=>rw[q71,ID,ih,jr];split<;>rfl
 exact this gp
theorem lj {S:Nat→Prop}{w w':World}{v:Value} (h:dt S w v (.mv lh)) (k:Int) (hw:w'.heap=w.heap):∃u,(Instr.lookup 185 v (.int .u8 k) true).run Tryz.prog w'=.ok (.tuple #[u,.bool (jr k gp).isSome]) w'∧dt S w u (((jr k gp).map fun l=>gI (l.map fun n:Nat=>(n:Int))).getD .nil):=by cases h with|mv b us c es g1 g2 g3 g4 g5 g6=>
 have hm:jy Tryz.prog 185=some (5,183):=by kernel_rfl
 have hsrt:ko Tryz.prog 5=some 6:=by kernel_rfl
 have hz:zeroV Tryz.prog 183=some (.slice none 0 0):=by kernel_rfl
 have hmt:=fP hm;obtain⟨d,hdk,hkey⟩:=gG hsrt;have hp:dB (.int .u8 k)=6:=rfl;have hks:fI 6 lh:=by simp[lh,BM,dB,ni]
 have hzr:(zeroValue 183).run Tryz.prog w'=.ok (.slice none 0 0) w':=by unfold zeroV at hz;obtain⟨i,hi,hz⟩:=q63.1 hz;simp[zeroValue,typeInfo,hi,hz]
 have hh:w'.heap[b]?=some (.map us c):=by rw[hw];exact g2
 have hfind:=iH hkey hp (by decide) us.toList lh 0 hks g4 fun i e u h1 h2=>(g5 i e u h1 h2).1;have gk:=getK k;rcases hfind with⟨h1,h2,_⟩|⟨j,e,u,h1,h2,h3,h4,h5,_⟩;·rw[h2]at gk;cases hf:jr k gp with|some l=>rw[hf]at gk;cases gk|none=>refine⟨.slice none 0 0,?_,.nil⟩;show(Instr.lookup 185 (.map (some b)) (Ab.b8 (.int .u8 k)) true).run Tryz.prog w'=_;simp[Instr.lookup,run_underlying hmt,q99 hh,q109 hdk (hkey _ hp),q111 hdk h1,hzr,Result.andThen]
 ·rw[h5]at gk;cases hf:jr k gp with|none=>rw[hf]at gk;cases gk|some l=>
   rw[hf]at gk;refine⟨u.val,?_,?_⟩;·show(Instr.lookup 185 (.map (some b)) (Ab.b8 (.int .u8 k)) true).run Tryz.prog w'=_;simp[Instr.lookup,run_underlying hmt,q99 hh,q109 hdk (hkey _ hp),q111 hdk h1,Result.andThen]
   ·simp only[q116,qr]at gk;rw[q116,q98,←gk];exact g6 j e u h2 h3
theorem jK (w:World):Calls Tryz.prog 95 #[] w fun e w'=>∃v,e=.returned v∧dt (fun b=>w.heap.size≤b∧b<w'.heap.size) w' v (.mv lh)∧Below w.heap.size w w':=by
 have hc:=K6 [] True _ rfl trivial;have h:=hc w (fun _=>False) (fun _=>.nilIface) [] (fun b hb=>hb.elim) (fun t b ⟨o,ho⟩=>by simp[ab]at ho) ⟨fun t o ho=>by simp[ab]at ho,fun t t' b ⟨o,ho⟩=>by simp[ab]at ho⟩ rfl fun i v x hi=>by simp at hi
 refine h.mono ?_;rintro e w' ⟨v,β',rfl,hf,_,_,hv⟩;exact⟨v,rfl,hv.bq.mono fun b hb=>⟨⟨hb.1.elim False.elim id,hb.2.1⟩,rfl⟩,hf.os,hf.tape,hf.output,hf.size,fun k hk=>hf.block k hk fun⟨t,o,ho,_⟩=>by simp[ab]at ho⟩
theorem jf {b:Nat}{r:Rc} (h:W.heap[b]?=some (.cells (recC r) 38 (0,0))):W.cell? ⟨b,0,none⟩=some (.int .u8 r.k)∧W.cell? ⟨b,1,none⟩=some (.int .u64 r.p)∧W.cell? ⟨b,2,none⟩=some (.int .u64 r.i)∧W.cell? ⟨b,3,none⟩=some (.int .u64 r.s)∧W.cell? ⟨b,4,none⟩=some (.int .u64 r.e)∧W.cell? ⟨b,5,none⟩=some (.int .u64 r.u)∧W.cell? ⟨b,6,none⟩=some (.int .u64 r.v)∧W.cell? ⟨b,7,none⟩=some (.int .u64 r.c)∧W.cell? ⟨b,8,none⟩=some (.int .u64 r.z)∧W.cell? ⟨b,9,none⟩=some (.int .u64 r.m)∧W.cell? ⟨b,10,none⟩=some (.string ⟨r.n.toArray⟩)∧W.cell? ⟨b,11,none⟩=some (.string ⟨r.t.toArray⟩):=by
 have g:∀i v,(recC r)[i]?=some v→W.cell? ⟨b,i,none⟩=some v:=fun i v hv=>by rw[q143 h];exact hv
 exact⟨g 0 _ rfl,g 1 _ rfl,g 2 _ rfl,g 3 _ rfl,g 4 _ rfl,g 5 _ rfl,g 6 _ rfl,g 7 _ rfl,g 8 _ rfl,g 9 _ rfl,g 10 _ rfl,g 11 _ rfl⟩
theorem BN {n:Nat}{u:Value}{ps:List Nat} (h:dt (fun b=>n≤b∧b<W.heap.size) W u (gI (ps.map fun n:Nat=>(n:Int)))):∃A c,u=.slice A ps.length c∧ps.length≤c∧(0<ps.length→∃b o,A=some ⟨b,o,none⟩∧n≤b∧b<W.heap.size∧∀i (h:i<ps.length),W.cell? ⟨b,o+i,none⟩=some (.int .u8 ps[i])):=by
 obtain⟨A,c,hv,hc,hne⟩:=dt.gq h;simp only[List.length_map]at hv hc;refine⟨A,c,hv,hc,fun hp=>?_⟩;obtain⟨ad,sz,us,rfl,g1,g2,g3,g4,g5⟩:=hne (by intro e;have:=congrArg List.length e;simp only[List.length_map,q87]at this;omega);have hsz:sz=1:=by rw[←g2 [.int .u8 ((ps[0]:Nat):Int)] (by simp only[List.map_map,q84];exact⟨ps[0],q82 hp,rfl⟩)];rfl
 subst hsz;have hcl:∀i (h:i<ps.length),W.cell? (ad.add i)=some (.int .u8 ps[i]):=by
  intro i hi;have hr:((ps.map fun n:Nat=>(n:Int)).map fun n=>[PV.int .u8 n])[i]?=some [.int .u8 ps[i]]:=by simp[hi]
  have h1:=g3 i 0 (by simpa using hi) (by omega);have h2:=(g5 i 0 _ _ hr rfl).aN;rw[h2]at h1;simpa using h1
 obtain⟨b,o,sp⟩:=ad;have hsp:sp=none:=by have hx:=hcl 0 hp;cases sp with|none=>rfl|some s=>exfalso;simp[Addr.add,World.cell?]at hx;try(split at hx<;>simp at hx)
 subst hsp;exact⟨b,o,rfl,g1.1,g1.2,fun i hi=>by have:=hcl i hi;rw[q100]at this;exact this⟩
theorem j5 (W:World) (o1 o2:Obj):((W.alloc o1).alloc o2).heap.size=W.heap.size+2:=by show((W.heap.push _).push _).size=_;simp
theorem two_1 (W:World) (o1 o2:Obj):((W.alloc o1).alloc o2).heap[W.heap.size+1]?=some o2:=by show((W.heap.push _).push _)[W.heap.size+1]?=_;rw[q193,if_pos (by simp)]
theorem two_0 (W:World) (o1 o2:Obj):((W.alloc o1).alloc o2).heap[W.heap.size]?=some o1:=by show((W.heap.push _).push _)[W.heap.size]?=_;rw[q193,if_neg (by simp),q193,if_pos rfl]
theorem KS (W:World) (o1 o2:Obj) (k:Nat) (hk:k<W.heap.size):((W.alloc o1).alloc o2).heap[k]?=W.heap[k]?:=by show((W.heap.push _).push _)[k]?=_;rw[q193,if_neg (by simp;omega),q193,if_neg (by omega)]
theorem JH {k:Int}{ps:List Nat} (h:jr k gp=some ps):ps.length≤8∧∀q∈ps,q<8:=by
 simp only[gp,jr]at h;repeat' split at h
 all_goals first|cases h;decide|cases h
theorem CX (r:Rc) (w:World):Calls Tryz.prog 61 #[.agg (recC r)] w fun e w'=>e=.returned (.bool (bn r))∧Below w.heap.size w w':=by
 go_enter Tryz.func61,Tryz.ntmps61;have hrec:recC r=#[.int .u8 r.k,.int .u64 r.p,.int .u64 r.i,.int .u64 r.s,.int .u64 r.e,.int .u64 r.u,.int .u64 r.v,.int .u64 r.c,.int .u64 r.z,.int .u64 r.m,.string ⟨r.n.toArray⟩,.string ⟨r.t.toArray⟩]:=rfl;go_wp2;have h0:(w.alloc (Obj.cells (recC r) 38)).heap[w.heap.size]?=some (.cells (recC r) 38 (0,0)):=by show(w.heap.push _)[w.heap.size]?=_;simp
 have hb0:Below w.heap.size w (w.alloc (Obj.cells (recC r) 38)):=(q246 _ w).alloc (q93 _) _;rw[hrec]at h0 hb0;revert h0 hb0;generalize w.alloc (Obj.cells #[.int .u8 r.k,.int .u64 r.p,.int .u64 r.i,.int .u64 r.s,.int .u64 r.e,.int .u64 r.u,.int .u64 r.v,.int .u64 r.c,.int .u64 r.z,.int .u64 r.m,.string ⟨r.n.toArray⟩,.string ⟨r.t.toArray⟩] 38)=W0;intro h0 hb0;rw[←hrec]at h0;have c1:=(jf h0).1;clear hrec;generalize hbb:w.heap.size=b at h0 hb0 c1 ⊢;have bel:∀W1:World,Below W0.heap.size W0 W1→Below b w W1:=fun W1 hb=>⟨hb.os.trans hb0.os,hb.tape.trans hb0.tape,hb.output.trans hb0.output,q113 hb0.size hb.size,fun k hk=>(hb.block k (q95 (hbb▸hk) hb0.size)).trans (hb0.block k hk)⟩;cases hf:jr r.k gp with
 |none=>
  have hR:bn r=false:=by simp[bn,hf]
  go_region_with(go_at_call 95;refine(jK _).mono ?_;rintro e W1 ⟨v,rfl,hv,hb⟩;obtain⟨u,hl,hu⟩:=lj hv r.k (w':=W1) rfl;replace hb:Below W0.heap.size W0 W1:=⟨hb.os,hb.tape,hb.output,hb.size,hb.block⟩;have h1:W1.heap[b]?=some (.cells (recC r) 38 (0,0)):=(hb.block b (q66.1 h0).1).trans h0;have c2:=(jf h1).1;rw[hf]at hl);all_goals go_wp2;go_ret;exact⟨by rw[hR];rfl,hbb▸bel _ hb⟩|some ps=>
  obtain⟨hl8,hq8⟩:=JH hf;by_cases hz:65535<r.z
  ·have hR:bn r=false:=by simp[bn,hf,hz]
   go_region_with(go_at_call 95;refine(jK _).mono ?_;rintro e W1 ⟨v,rfl,hv,hb⟩;obtain⟨u,hl,hu⟩:=lj hv r.k (w':=W1) rfl;replace hb:Below W0.heap.size W0 W1:=⟨hb.os,hb.tape,hb.output,hb.size,hb.block⟩;have h1:W1.heap[b]?=some (.cells (recC r) 38 (0,0)):=(hb.block b (q66.1 h0).1).trans h0;have hlt:=(q66.1 h1).1;obtain⟨c2,d1,d2,d3,d4,d5,d6,d7,c3,c4,d8,d9⟩:=jf h1;rw[hf]at hl);all_goals go_wp2;go_ret;exact⟨by rw[hR];rfl,hbb▸bel _ hb⟩
  by_cases hm:4294967295<r.m
  ·have hR:bn r=false:=by simp[bn,hf,hm]
   go_region_with(go_at_call 95;refine(jK _).mono ?_;rintro e W1 ⟨v,rfl,hv,hb⟩;obtain⟨u,hl,hu⟩:=lj hv r.k (w':=W1) rfl;replace hb:Below W0.heap.size W0 W1:=⟨hb.os,hb.tape,hb.output,hb.size,hb.block⟩;have h1:W1.heap[b]?=some (.cells (recC r) 38 (0,0)):=(hb.block b (q66.1 h0).1).trans h0;have hlt:=(q66.1 h1).1;obtain⟨c2,d1,d2,d3,d4,d5,d6,d7,c3,c4,d8,d9⟩:=jf h1;rw[hf]at hl);all_goals go_wp2;go_ret;exact⟨by rw[hR];rfl,hbb▸bel _ hb⟩
  have hR:bn r=(!(sH ps ({r with p:=0,i:=0,s:=0},false)).2&&decide ((sH ps ({r with p:=0,i:=0,s:=0},false)).1=⟨r.k,0,0,0,0,0,0,0,0,0,[],[]⟩)):=by unfold bn;rw[hf];dsimp only;rw[decide_eq_false hz,decide_eq_false hm];rfl
  go_region_with(go_at_call 95;refine(jK _).mono ?_;rintro e W1 ⟨v,rfl,hv,hb⟩;obtain⟨u,hl,hu⟩:=lj hv r.k (w':=W1) rfl;replace hb:Below W0.heap.size W0 W1:=⟨hb.os,hb.tape,hb.output,hb.size,hb.block⟩;have h1:W1.heap[b]?=some (.cells (recC r) 38 (0,0)):=(hb.block b (q66.1 h0).1).trans h0;have hlt:=(q66.1 h1).1;obtain⟨c2,d1,d2,d3,d4,d5,d6,d7,c3,c4,d8,d9⟩:=jf h1;rw[hf]at hl);all_goals
   rw[hf]at hu;obtain⟨A,c,rfl,hc,hA⟩:=BN hu;have t2:=KS W1 (Obj.cells #[.bool false] 189) (Obj.cells (recC r) 38);go_wp2_with(go_at_call 96;refine(Oq r false ps hq8 hl8 _ (W1.heap.size+1) W1.heap.size (by omega) ?hlr ?hlt A c hc ?hA ?h1 ?h2).mono ?_);case hlr=>rw[j5];omega
   case hlt=>rw[j5];omega
   case hA=>
    intro hp;obtain⟨bb,o,rfl,e1,e2,e3⟩:=hA hp;refine⟨bb,o,rfl,by omega,by omega,?_,fun i hi=>?_⟩;·rw[j5];omega
    ·rw[←e3 i hi];unfold World.cell?;rw[←t2 bb e2];rfl
   case h1=>exact two_1 _ _ _
   case h2=>exact two_0 _ _ _
   rintro e W2 ⟨rfl,hV⟩;have s1:W2.heap[b]?=some (.cells (recC r) 38 (0,0)):=by rw[hV.block b (by rw[j5];omega) (by omega) (by omega)];exact(t2 b hlt).trans h1
   have s2:W2.cell? ⟨W1.heap.size,0,none⟩=some (.bool (sH ps ({r with p:=0,i:=0,s:=0},false)).2):=by rw[q143 hV.ht];rfl
   have B1:=bel _ hb;have bel2:Below b w W2:=⟨hV.os.trans B1.os,hV.tape.trans B1.tape,hV.output.trans B1.output,by have:=hV.size;rw[j5]at this;omega,fun k hk=>(hV.block k (by rw[j5];omega) (by omega) (by omega)).trans ((t2 k (by omega)).trans (B1.block k hk))⟩;have hr2:=hV.hr;clear hV t2 d1 d2 d3 d4 d5 d6 d7 d8 d9 hA c2 c3 c4 c1 hv hl hu h1;revert hR s2 hr2;generalize sH ps ({r with p:=0,i:=0,s:=0},false)=x;obtain⟨⟨xk,xp,xi,xs,xe,xu,xv,xc,xz,xm,xn,xt⟩,bx⟩:=x;intro hR s2 hr2;have c1:=(jf s1).1;obtain⟨d0,d1,d2,d3,d4,d5,d6,d7,d8,d9,d10,d11⟩:=jf hr2;cases bx with|true=>go_wp2;go_ret;exact⟨by rw[hR];rfl,hbb▸bel2⟩|false=>
    go_wp2;all_goals go_ret
    all_goals refine⟨?_,hbb▸bel2⟩
    all_goals rw[hR]
    all_goals simp[*]
theorem LA {P:Program}{f:FuncId}{args:List AV}{p:PV}{u:Value} (h:∀(w:World) (S:Nat→Prop) (vals:List Value),vals.length=args.length→(∀(i:Nat) (x:Value) (y:AV),vals[i]?=some x→args[i]?=some y→RV P S w (fun _=>.nilIface) (fun _=>False) x y)→Calls P f vals.toArray w fun e w'=>e=.returned u∧Below w.heap.size w w') (hu:∀S w,dt S w u p):sO P f [] args [] (.pv p):=by
 intro w S0 β vals hS0 hlt hheap hvl hvr;have hno:∀t,bC (ab []) (fun t=>dC (cellAt (.pv p) t)) t=none:=by
  intro t;show dC (cellAt (.pv p) t)=none;simp only[cellAt,bM];split;·split<;>rfl
  ·rfl
 refine(h w (aZ S0 w.heap.size β (ab []) w) vals hvl fun i x y hx hy=>?_).mono ?_;·exact(hvr i x y hx hy).mono (fun b hb=>⟨hb,rfl⟩) (fun t ⟨o,ho⟩=>by simp[ab]at ho)
 ·rintro e w' ⟨rfl,hb⟩;refine⟨_,fun _=>.nilIface,rfl,⟨hb.os,hb.tape,hb.output,hb.size,fun k hk _=>hb.block k hk⟩,⟨fun t o ho=>?_,fun t t' b ⟨o,ho⟩=>?_⟩,fun t b ⟨o,ho⟩=>?_,.pv _ _ (hu _ _)⟩;·rw[hno]at ho;cases ho
  ·rw[hno]at ho;cases ho
  ·rw[hno]at ho;cases ho
def aP (r:Rc):List AV:=[.pv (.int .u8 r.k),.pv (.int .u64 r.p),.pv (.int .u64 r.i),.pv (.int .u64 r.s),.pv (.int .u64 r.e),.pv (.int .u64 r.u),.pv (.int .u64 r.v),.pv (.int .u64 r.c),.pv (.int .u64 r.z),.pv (.int .u64 r.m),.pv (.str r.n),.pv (.str r.t)]
@[simp] def Gt:List AV→Option (Prop×AV)|[.agg [.pv (.int .u8 k),.pv (.int .u64 p),.pv (.int .u64 i),.pv (.int .u64 s),.pv (.int .u64 e),.pv (.int .u64 u),.pv (.int .u64 v),.pv (.int .u64 c),.pv (.int .u64 z),.pv (.int .u64 m),.pv (.str n),.pv (.str t)]]=>some (True,.pv (.bool (bn ⟨k,p,i,s,e,u,v,c,z,m,n,t⟩)))|_=>none
theorem Dn:aJ Tryz.prog 61 Gt:=by
 intro ys φ r h hφ;unfold Gt at h;split at h;·rename_i k p i s e u v c z m n t;cases h;refine LA (u:=.bool (bn ⟨k,p,i,s,e,u,v,c,z,m,n,t⟩)) (fun w S vals hvl hvr=>?_) fun S w=>.bool _;match vals,hvl with|[v0],_=>obtain⟨us,rfl,hl,hus⟩:=(hvr 0 v0 _ rfl rfl).da;match us,hl with|[a0,a1,a2,a3,a4,a5,a6,a7,a8,a9,a10,a11],_=>cases(hus 0 _ a0 rfl rfl).aN;cases(hus 1 _ a1 rfl rfl).aN;cases(hus 2 _ a2 rfl rfl).aN;cases(hus 3 _ a3 rfl rfl).aN;cases(hus 4 _ a4 rfl rfl).aN;cases(hus 5 _ a5 rfl rfl).aN;cases(hus 6 _ a6 rfl rfl).aN;cases(hus 7 _ a7 rfl rfl).aN;cases(hus 8 _ a8 rfl rfl).aN;cases(hus 9 _ a9 rfl rfl).aN;cases(hus 10 _ a10 rfl rfl).eS;cases(hus 11 _ a11 rfl rfl).eS;exact CX ⟨k,p,i,s,e,u,v,c,z,m,n,t⟩ w
 ·cases h
@[simp] def fo (ys:List AV) (K:Rc→Option (Prop×AV)):Option (Prop×AV):=match ys with|[.pv (.int .u8 k),.pv (.int .u64 p),.pv (.int .u64 i),.pv (.int .u64 s),.pv (.int .u64 e),.pv (.int .u64 u),.pv (.int .u64 v),.pv (.int .u64 c),.pv (.int .u64 z),.pv (.int .u64 m),.pv (.str n),.pv (.str t)]=>K ⟨k,p,i,s,e,u,v,c,z,m,n,t⟩|_=>none
theorem cL {K:Rc→Option (Prop×AV)}{x:Prop×AV} (h:fo ys K=some x):∃r,ys=aP r∧K r=some x:=by
 unfold fo at h;split at h;·exact⟨_,rfl,h⟩
 ·cases h
theorem ZH {a b:Rc}:a=b↔a.k=b.k∧a.p=b.p∧a.i=b.i∧a.s=b.s∧a.e=b.e∧a.u=b.u∧a.v=b.v∧a.c=b.c∧a.z=b.z∧a.m=b.m∧a.n=b.n∧a.t=b.t:=by cases a;cases b;simp
@[simp] def L4:List AV→Option (Prop×AV)|[.agg ys]=>fo ys fun r=>some (True,.agg (aP r))|_=>none
theorem Ow:aJ Tryz.prog 10 L4:=by
 intro ys φ r h hφ;unfold L4 at h;split at h;·obtain⟨r,rfl,h1⟩:=cL h;cases h1;refine ak ah (by kernel_rfl) (by conv=>lhs;reduce) (by simp) ?_;simp(config := { maxSteps := 3000000 }) [aP]
 ·cases h
def HO (r:Rc) (c:Int):Int:=if c=101 then r.e else if c=117 then r.u else if c=118 then r.v else if c=115 then r.z else if c=99 then r.m else r.c
def vK (r:Rc) (c:Int):List UInt8:=if c=110 then r.n else r.t
def Aj (x:Rc) (c n:Int) (s:List UInt8):Rc:=if c=101 then{x with e:=n} else if c=117 then{x with u:=n} else if c=118 then{x with v:=n} else if c=115 then{x with z:=n} else if c=99 then{x with m:=n} else if c=107 then{x with c:=n} else if c=110 then{x with n:=s} else{x with t:=s}
def Em (c:Int):Bool:=decide (c=110)||decide (c=116)
def CN:List (List UInt8):=[[],[101,117],[101,117],[101],[101,118,115,99],[118,117],[118],[],[107],[110],[110],[110,116]]
def ml (k:Int):List UInt8:=if 11<k then[] else(CN[k.toNat]?).getD []
@[simp] def Nt:List AV→Option (Prop×AV)|[.agg ys,.pv (.int .u8 c)]=>fo ys fun r=>some (True,.pv (.int .u64 (HO r c)))|_=>none
theorem Q0:aJ Tryz.prog 48 Nt:=by
 intro ys φ r h hφ;unfold Nt at h;split at h
 ·rename_i ys c;obtain⟨r,rfl,h1⟩:=cL h;cases h1;refine ak ah (by kernel_rfl) (by conv=>lhs;reduce) (by simp) ?_;unfold HO;by_cases h1:c=101;·simp(config := { maxSteps := 3000000 }) [aP,h1]
  by_cases h2:c=117;·simp(config := { maxSteps := 3000000 }) [aP,h2]
  by_cases h3:c=118;·simp(config := { maxSteps := 3000000 }) [aP,h3]
  by_cases h4:c=115;·simp(config := { maxSteps := 3000000 }) [aP,h4]
  by_cases h5:c=99;·simp(config := { maxSteps := 3000000 }) [aP,h5]
  simp(config := { maxSteps := 3000000 }) [aP,h1,h2,h3,h4,h5]
 ·cases h
@[simp] def NK:List AV→Option (Prop×AV)|[.agg ys,.pv (.int .u8 c)]=>fo ys fun r=>some (True,.pv (.str (vK r c)))|_=>none
theorem Qp:aJ Tryz.prog 49 NK:=by
 intro ys φ r h hφ;unfold NK at h;split at h;·rename_i ys c;obtain⟨r,rfl,h1⟩:=cL h;cases h1;refine ak ah (by kernel_rfl) (by conv=>lhs;reduce) (by simp) ?_;unfold vK;by_cases h1:c=110<;>simp(config := { maxSteps := 3000000 }) [aP,h1]
 ·cases h
@[simp] def GK:List AV→Option (Prop×AV)|[.agg ys,.pv (.int .u8 c),.pv (.int .u64 n),.pv (.str s)]=>fo ys fun r=>some (True,.agg (aP (Aj r c n s)))|_=>none
theorem LK:aJ Tryz.prog 47 GK:=by
 intro ys φ r h hφ;unfold GK at h;split at h
 ·rename_i ys c n s;obtain⟨r,rfl,h1⟩:=cL h;cases h1;refine ak ah (by kernel_rfl) (by conv=>lhs;reduce) (by simp) ?_;unfold Aj;by_cases h1:c=101;·simp(config := { maxSteps := 3000000 }) [aP,h1]
  by_cases h2:c=117;·simp(config := { maxSteps := 3000000 }) [aP,h2]
  by_cases h3:c=118;·simp(config := { maxSteps := 3000000 }) [aP,h3]
  by_cases h4:c=115;·simp(config := { maxSteps := 3000000 }) [aP,h4]
  by_cases h5:c=99;·simp(config := { maxSteps := 3000000 }) [aP,h5]
  by_cases h6:c=107;·simp(config := { maxSteps := 3000000 }) [aP,h6]
  by_cases h7:c=110;·simp(config := { maxSteps := 3000000 }) [aP,h7]
  simp(config := { maxSteps := 3000000 }) [aP,h1,h2,h3,h4,h5,h6,h7]
 ·cases h
@[simp] def Xv:List AV→Option (Prop×AV)|[.pv (.int .u8 c)]=>some (True,.pv (.bool (Em c)))|_=>none
theorem WH:aJ Tryz.prog 50 Xv:=by
 intro ys φ r h hφ;unfold Xv at h;split at h;·cases h;refine ak ah (by kernel_rfl) (by conv=>lhs;reduce) (by simp) ?_;simp(config := { maxSteps := 3000000 }) [Em]
 ·cases h
@[simp] def Dx:List AV→Option (Prop×AV)|[.pv (.int .u8 k)]=>some (0≤k,.pv (.str (ml k)))|_=>none
theorem GH:aJ Tryz.prog 46 Dx:=by
 intro ys φ r h hφ;unfold Dx at h;split at h
 ·rename_i k;cases h;have hk0:0≤k:=hφ;refine ak ah (by kernel_rfl) (by conv=>lhs;reduce) (by simp) ?_;by_cases h1:11<k;·simp(config := { maxSteps := 3000000 }) [ml,h1]
  have hk:k=0∨k=1∨k=2∨k=3∨k=4∨k=5∨k=6∨k=7∨k=8∨k=9∨k=10∨k=11:=by omega
  rcases hk with rfl|rfl|rfl|rfl|rfl|rfl|rfl|rfl|rfl|rfl|rfl|rfl<;>simp(config := { maxSteps := 3000000 }) [ml,CN,rowAt]
 ·cases h
def Li (r x:Rc) (c:UInt8):Rc:=Aj x (c.toNat:Int) (HO r (c.toNat:Int)) (vK r (c.toNat:Int))
def M1 (r:Rc) (c:UInt8):Bool:=Em (c.toNat:Int)&&(decide ((vK r (c.toNat:Int)).length<1)||decide (64<(vK r (c.toNat:Int)).length))
def M9 (r:Rc):Rc:=⟨r.k,r.p,r.i,r.s,0,0,0,0,0,0,[],[]⟩
theorem ql {r:Rc} (h:r.k<1∨11<r.k):bn r=false:=by
 have:jr r.k gp=none:=by unfold gp;simp only[jr];repeat rw[if_neg (by omega)]
 unfold bn;rw[this]
theorem wq {r:Rc} (h:65535<r.z∨4294967295<r.m):bn r=false:=by
 unfold bn;split;·rfl
 ·rcases h with h|h<;>simp[h]
theorem P6 {r:Rc} (h1:1≤r.k) (h2:r.k≤11) (h3:¬65535<r.z) (h4:¬4294967295<r.m):bn r=(!(ml r.k).any (M1 r)&&decide ((ml r.k).foldl (Li r) (M9 r)=r)):=by
 obtain⟨k,p,i,s,e,u,v,c,z,m,n,t⟩:=r;have h1:1≤k:=h1;have h2:k≤11:=h2;have h3:¬65535<z:=h3;have h4:¬4294967295<m:=h4;have hk:k=1∨k=2∨k=3∨k=4∨k=5∨k=6∨k=7∨k=8∨k=9∨k=10∨k=11:=by omega
 have e1:∀l:List UInt8,decide (l.length<1)=decide (l=[]):=fun l=>decide_eq_decide.2 (by cases l<;>simp);rcases hk with rfl|rfl|rfl|rfl|rfl|rfl|rfl|rfl|rfl|rfl|rfl<;>simp[bn,jr,gp,sH,vJ,badR,ml,CN,M1,Em,vK,Li,Aj,HO,M9,h3,h4,e1,ZH,eq_comm,and_comm,and_left_comm,and_assoc];simp only[Bool.and_assoc]
@[simp] def DX:List AV→Option (Prop×AV)|[.agg ys]=>fo ys fun r=>some (True,.pv (.bool (bn r)))|_=>none
theorem Bl:aJ Tryz.prog 25 DX:=by
 intro ys φ r h hφ;unfold DX at h;split at h
 ·obtain⟨r,rfl,h1⟩:=cL h;cases h1;refine ak (ag GH (ag Q0 (ag Qp (ag LK (ag WH ah))))) (by kernel_rfl) (by conv=>lhs;reduce) (by simp) ?_;apply af;·simp(config := { maxSteps := 3000000 }) [aP];exact⟨rfl,rfl⟩
  by_cases h1:r.k<1;·have hb:=ql (Or.inl h1);simp(config := { maxSteps := 3000000 }) [h1,hb]
  by_cases h2:11<r.k;·have hb:=ql (Or.inr h2);simp(config := { maxSteps := 3000000 }) [h1,h2,hb]
  by_cases h3:65535<r.z;·have hb:=wq (Or.inl h3);simp(config := { maxSteps := 3000000 }) [h1,h2,h3,hb]
  by_cases h4:4294967295<r.m;·have hb:=wq (Or.inr h4);simp(config := { maxSteps := 3000000 }) [h1,h2,h3,h4,hb]
  have hr6:=P6 (r:=r) (by omega) (by omega) h3 h4;have hk0:0≤r.k:=by omega
  have hl10:(ml r.k).length≤4:=by
   have hk:r.k=1∨r.k=2∨r.k=3∨r.k=4∨r.k=5∨r.k=6∨r.k=7∨r.k=8∨r.k=9∨r.k=10∨r.k=11:=by omega
   rcases hk with hk|hk|hk|hk|hk|hk|hk|hk|hk|hk|hk<;>rw[hk]<;>decide
  apply af;·simp(config := { maxSteps := 3000000 }) [h1,h2,h3,h4];exact⟨rfl,rfl⟩
  apply af;·simp(config := { maxSteps := 3000000 }) [hk0];exact⟨rfl,rfl⟩
  apply af;·simp(config := { maxSteps := 3000000 });exact⟨rfl,rfl⟩
  generalize hl:ml r.k=l at*;obtain⟨k,rp,ri,rs,re,ru,rv,rc,rz,rm,rn,rt⟩:=r;rw[aL];apply af;·simp(config := { maxSteps := 3000000 });exact⟨rfl,rfl⟩
  rw[aW];refine aj (fun j:Nat=>j≤l.length∧(l.take j).any (M1 ⟨k,rp,ri,rs,re,ru,rv,rc,rz,rm,rn,rt⟩)=false) (fun j=>⟨[(1,.ptr 1 0),(2,.pv (.bool false)),(3,.pv (.str l)),(4,.ptr 4 0),(5,.pv (.int .i64 (j:Int)))],[(1,.box [.pv (.int .u8 k),.pv (.int .u64 rp),.pv (.int .u64 ri),.pv (.int .u64 rs),.pv (.int .u64 re),.pv (.int .u64 ru),.pv (.int .u64 rv),.pv (.int .u64 rc),.pv (.int .u64 rz),.pv (.int .u64 rm),.pv (.str rn),.pv (.str rt)]),(4,.box (aP ((l.take j).foldl (Li ⟨k,rp,ri,rs,re,ru,rv,rc,rz,rm,rn,rt⟩) (M9 ⟨k,rp,ri,rs,re,ru,rv,rc,rz,rm,rn,rt⟩))))]⟩) (fun j=>l.length-j) [] 0 ⟨by simp,rfl⟩ ?_ ?_;·simp[aP,M9]
  ·rintro j ⟨hj,ht⟩;have w2:IntKind.i64.wrap ((j:Int)+1)=(j:Int)+1:=wrap_i64 (by omega);rw[jt];dsimp only;by_cases hlt:j<l.length
   ·have hg:l.getD j 0=l[j]:=by simp[hlt]
    have hF:(l.take (j+1)).foldl (Li ⟨k,rp,ri,rs,re,ru,rv,rc,rz,rm,rn,rt⟩) (M9 ⟨k,rp,ri,rs,re,ru,rv,rc,rz,rm,rn,rt⟩)=Li ⟨k,rp,ri,rs,re,ru,rv,rc,rz,rm,rn,rt⟩ ((l.take j).foldl (Li ⟨k,rp,ri,rs,re,ru,rv,rc,rz,rm,rn,rt⟩) (M9 ⟨k,rp,ri,rs,re,ru,rv,rc,rz,rm,rn,rt⟩)) l[j]:=by rw[q62 hlt,List.foldl_append];rfl
    have hA:(l.take (j+1)).any (M1 ⟨k,rp,ri,rs,re,ru,rv,rc,rz,rm,rn,rt⟩)=M1 ⟨k,rp,ri,rs,re,ru,rv,rc,rz,rm,rn,rt⟩ l[j]:=by rw[q62 hlt,q225,ht];simp
    have hB:M1 ⟨k,rp,ri,rs,re,ru,rv,rc,rz,rm,rn,rt⟩ l[j]=true→bn ⟨k,rp,ri,rs,re,ru,rv,rc,rz,rm,rn,rt⟩=false:=by intro hb;have:l.any (M1 ⟨k,rp,ri,rs,re,ru,rv,rc,rz,rm,rn,rt⟩)=true:=q112.2 ⟨_,q82 hlt,hb⟩;rw[hr6,this];rfl
    generalize(l.take j).foldl (Li ⟨k,rp,ri,rs,re,ru,rv,rc,rz,rm,rn,rt⟩) (M9 ⟨k,rp,ri,rs,re,ru,rv,rc,rz,rm,rn,rt⟩)=x at*;obtain⟨xk,xp,xi,xs,xe,xu,xv,xc,xz,xm,xn,xt⟩:=x;apply af;·simp(config := { maxSteps := 3000000 }) [hlt];exact⟨rfl,rfl⟩
    rw[aL,aW];apply af;·simp(config := { maxSteps := 3000000 }) [hlt,hg,aP];exact⟨rfl,rfl⟩
    rw[aL];generalize hX:Li ⟨k,rp,ri,rs,re,ru,rv,rc,rz,rm,rn,rt⟩ ⟨xk,xp,xi,xs,xe,xu,xv,xc,xz,xm,xn,xt⟩ l[j]=X at*;have hX':Aj ⟨xk,xp,xi,xs,xe,xu,xv,xc,xz,xm,xn,xt⟩ (l[j].toNat:Int) (HO ⟨k,rp,ri,rs,re,ru,rv,rc,rz,rm,rn,rt⟩ (l[j].toNat:Int)) (vK ⟨k,rp,ri,rs,re,ru,rv,rc,rz,rm,rn,rt⟩ (l[j].toNat:Int))=X:=hX;have hD:M1 ⟨k,rp,ri,rs,re,ru,rv,rc,rz,rm,rn,rt⟩ l[j]=(Em (l[j].toNat:Int)&&(decide ((vK ⟨k,rp,ri,rs,re,ru,rv,rc,rz,rm,rn,rt⟩ (l[j].toNat:Int)).length<1)||decide (64<(vK ⟨k,rp,ri,rs,re,ru,rv,rc,rz,rm,rn,rt⟩ (l[j].toNat:Int)).length))):=rfl;generalize hT:vK ⟨k,rp,ri,rs,re,ru,rv,rc,rz,rm,rn,rt⟩ (l[j].toNat:Int)=T at*;cases hI:Em (l[j].toNat:Int) with|false=>rw[hD,hI]at hA;simp(config := { maxSteps := 3000000 }) [aP,hlt,hI,hT,hX',w2];exact⟨j+1,⟨by omega,by simpa using hA⟩,⟨by omega,by simp[hF]⟩,by omega⟩|true=>
     rw[hD,hI]at hA hB;by_cases h5:T.length<1
     ·have hf:=hB (by simp[h5]);have h5':(T.length:Int)<1:=by omega
      simp(config := { maxSteps := 3000000 }) [aP,hlt,hI,hT,hX',w2,h5',hf]
     by_cases h6:64<T.length
     ·have hf:=hB (by simp[h6]);have h5':¬(T.length:Int)<1:=by omega
      have h6':(64:Int)<T.length:=by omega
      simp(config := { maxSteps := 3000000 }) [aP,hlt,hI,hT,hX',w2,h5',h6',hf]
     ·have h5':¬(T.length:Int)<1:=by omega
      have h6':¬(64:Int)<T.length:=by omega
      simp(config := { maxSteps := 3000000 }) [aP,hlt,hI,hT,hX',w2,h5',h6'];have hA2:(decide (T.length<1)||decide (64<T.length))=false:=by rw[decide_eq_false (by omega),decide_eq_false (by omega)];rfl
      rw[hA2]at hA;exact⟨j+1,⟨by omega,by simpa using hA⟩,⟨by omega,by simp[hF]⟩,by omega⟩
   ·rw[List.take_of_length_le (by omega)]at ht;rw[List.take_of_length_le (by omega)];rw[ht]at hr6;generalize l.foldl (Li ⟨k,rp,ri,rs,re,ru,rv,rc,rz,rm,rn,rt⟩) (M9 ⟨k,rp,ri,rs,re,ru,rv,rc,rz,rm,rn,rt⟩)=x at*;obtain⟨xk,xp,xi,xs,xe,xu,xv,xc,xz,xm,xn,xt⟩:=x;simp(config := { maxSteps := 3000000 }) [hlt,aP,hr6]
 ·cases h
def zi (f:Nat):PV:=.val (.func (.func f) #[] #[])
def lA:List (PV×PV):=[(.int .u8 1,zi 142),(.int .u8 2,zi 143),(.int .u8 3,zi 144),(.int .u8 4,zi 145),(.int .u8 5,zi 146),(.int .u8 6,zi 147),(.int .u8 7,zi 148),(.int .u8 8,zi 149)]
def Hc:List AV→Option (Prop×AV)|[]=>some (True,.pv (.mv lA))|_=>none
@[simp] theorem Yd:Hc []=some (True,.pv (.mv lA)):=rfl
theorem PT:aJ Tryz.prog 104 Hc:=by
 intro ys φ r h hφ;unfold Hc at h;split at h;·cases h;refine ak ah (by kernel_rfl) (by conv=>lhs;reduce) (by simp) ?_;simp(config := { maxSteps := 3000000 }) [lA,zi]
 ·cases h
def zC (acc:List Int) (x:Int):List Int:=if acc.getLast?=some x then acc else acc++[x]
def ll (l:List Int):List Int:=l.foldl zC []
theorem E3 (l:List Int) (x:Int):ll (l++[x])=zC (ll l) x:=by simp[ll,List.foldl_append]
theorem HG (acc:List Int) (x:Int):(zC acc x).getLast?=some x:=by
 unfold zC;split;·assumption
 ·simp
theorem kv {l:List Int} (h:i<l.length):ll (l.take (i+1))=zC (ll (l.take i)) l[i]:=by rw[q62 h,E3]
theorem vU {l:List Int} (h:i<l.length):(ll (l.take (i+1))).getLast?=some l[i]:=by rw[kv h,HG]
theorem Jp (acc:List Int) (x:Int):(zC acc x).length≤acc.length+1:=by unfold zC;split<;>simp
theorem vd (l:List Int):∀i,(ll (l.take i)).length≤i
 |0=>by simp[ll]|i+1=>by
  by_cases h:i<l.length;·rw[kv h];have:=Jp (ll (l.take i)) l[i];have:=vd l i;omega
  ·rw[List.take_of_length_le (by omega)];have:=vd l i;rw[List.take_of_length_le (by omega)]at this;omega
theorem De (acc:List Int) (x y:Int):y∈zC acc x↔y∈acc∨y=x:=by
 unfold zC;split
 ·rename_i h;constructor;·exact .inl
  ·rintro(h1|rfl);·exact h1
   ·exact List.mem_of_getLast? h
 ·simp
theorem CJ (acc:List Int) (x:Int) (h:acc.Pairwise (·<·)) (hx:∀y∈acc,y≤x):(zC acc x).Pairwise (·<·):=by
 unfold zC;split;·exact h
 ·rename_i hl;rw[q199];refine⟨h,by simp,?_⟩;intro a ha b hb;simp at hb;subst hb;have h1:=hx a ha;rcases Int.lt_or_eq_of_le h1 with h2|rfl;·exact h2
  ·exfalso;apply hl;obtain⟨l1,l2,rfl⟩:=List.append_of_mem ha;cases l2 with|nil=>simp|cons c l2=>have:=(q199.1 h).2.1;have h3:=(q227.1 this).1 c (by simp);have h4:=hx c (by simp);omega
theorem rL:∀(l acc:List Int),l.Pairwise (·≤·)→acc.Pairwise (·<·)→(∀y∈acc,∀x∈l,y≤x)→(l.foldl zC acc).Pairwise (·<·)
 |[],acc,_,h,_=>h|x::l,acc,h1,h2,h3=>by
  rw[q227]at h1;refine rL l _ h1.2 (CJ acc x h2 fun y hy=>h3 y hy x (by simp)) ?_;intro y hy z hz;rcases(De acc x y).1 hy with h|rfl;·exact h3 y h z (by simp[hz])
  ·exact h1.1 z hz
theorem Ar (y:Int):∀(l acc:List Int),y∈l.foldl zC acc↔y∈acc∨y∈l|[],acc=>by simp|x::l,acc=>by rw[q285,Ar y l,De,q76,or_assoc]
theorem um:∀(a b:List Int),a.Pairwise (·<·)→b.Pairwise (·<·)→(∀y,y∈a↔y∈b)→a=b
 |[],[],_,_,_=>rfl|[],y::b,_,_,h=>by have:=(h y).2 (by simp);simp at this|x::a,[],_,_,h=>by have:=(h x).1 (by simp);simp at this|x::a,y::b,ha,hb,h=>by
  rw[q227]at ha hb;have hxy:x=y:=by
   have h1:=(h x).1 (by simp);have h2:=(h y).2 (by simp);rw[q76]at h1 h2;rcases h1 with h1|h1;·exact h1
   ·rcases h2 with h2|h2;·exact h2.symm
    ·have:=ha.1 y h2;have:=hb.1 x h1;omega
  subst hxy;rw[um a b ha.2 hb.2 fun z=>?_];have hz:=h z;rw[q76,q76]at hz;constructor
  ·intro h1;rcases hz.1 (.inr h1) with rfl|h2;·have:=ha.1 z h1;omega
   ·exact h2
  ·intro h1;rcases hz.2 (.inr h1) with rfl|h2;·have:=hb.1 z h1;omega
   ·exact h2
def vj (l:List Int):List Int:=l.mergeSort fun x y=>decide (x≤y)
def nG (l:List Int):List Int:=ll (vj l)
theorem Ae (l:List Int):(vj l).Pairwise (·≤·):=by have:=List.pairwise_mergeSort (le:=fun x y:Int=>decide (x≤y)) (fun a b c h1 h2=>by simp at h1 h2 ⊢;omega) (fun a b=>by simp;omega) l;exact this.imp (by simp)
theorem GD {l a:List Int} (h:a.Pairwise (·<·)) (hm:∀y,y∈a↔y∈l):a=nG l:=by
 apply um _ _ h;·exact rL _ _ (Ae l) .nil (by simp)
 ·intro y;unfold nG ll;rw[Ar,hm y];simp[vj]
theorem wF (l:List Int):(nG l).length≤l.length:=by have:=vd (vj l) (vj l).length;rw[List.take_of_length_le (q93 _)]at this;unfold nG;simpa[vj]using this
theorem wT (l:List Int) (i:Nat) (x:Int):(cm l).set i [.int .u64 x]=cm (l.set i x):=by unfold cm;rw[q217];rfl
theorem xE (l:List Int):∀r∈cm l,r.length=1:=by intro r hr;simp only[cm,q84]at hr;obtain⟨c,_,rfl⟩:=hr;rfl
@[simp] noncomputable def GCmp:List AV→Option (Prop×AV)|[.fr e a]=>if e=22 then(dec dX a).map fun l=>(l.length≤1000000,.fr 22 (cm (ll l))) else none|_=>none
theorem aas:nM Tryz.prog 198 GCmp:=by
 intro ys φ r h hφ;unfold GCmp at h;split at h
 ·rename_i e ra;split at h
  ·rename_i he;subst he;obtain⟨a,ha,h⟩:=q0.1 h;cases h;cases dM ha;have hl6:a.length≤1000000:=hφ;refine na ah (by kernel_rfl) (by conv=>lhs;reduce) (by simp) (by simp[cY,mn,iL]) (by simp) ?_;by_cases h2:a.length<2
   ·have h2':(a.length:Int)<2:=by omega
    have hc:ll a=a:=by match a,h2 with|[],_=>rfl|[x],_=>rfl
    simp(config := { maxSteps := 3000000 }) [h2,h2',hc]
   ·have h2':¬(a.length:Int)<2:=by omega
    have w1:IntKind.i64.wrap 1=1:=wrap_i64 (by omega);apply af;·simp(config := { maxSteps := 3000000 });exact⟨rfl,rfl⟩
    apply af;·simp(config := { maxSteps := 3000000 }) [h2,h2'];exact⟨rfl,rfl⟩
    rw[aL];simp(config := { maxSteps := 3000000 });refine aj (fun i:Nat=>1≤i∧i≤a.length∧ll (a.take i)=a.take i) (fun i=>⟨[(0,.own 998),(3,.pv (.int .i64 i))],[(998,.arr 22 (cm a))]⟩) (fun i=>a.length-i) [] 1 ⟨by omega,by omega,by cases a with|nil=>rfl|cons x a=>rfl⟩ ?_ ?_;·simp[w1]
    ·rintro i ⟨hi1,hi2,hi3⟩;have w2:IntKind.i64.wrap ((i:Int)+1)=(i:Int)+1:=wrap_i64 (by omega);by_cases hlt:i<a.length
     ·obtain⟨p,rfl⟩:∃p,i=p+1:=⟨i-1,by omega⟩;have hpl:p<a.length:=by omega
      have w3:IntKind.i64.wrap (p:Int)=(p:Int):=wrap_i64 (by omega);have r1:rowAt (cm a) ((p:Int)+1)=[.int .u64 a[p+1]]:=by have:=fh hlt;simpa using this
      have r2:=fh hpl;have q1:(0:Int)≤(p:Int)+1:=by omega
      have q2:(p:Int)+1<a.length:=by omega
      have q3:(p:Int)<a.length:=by omega
      have hla:=vU hpl;by_cases hq:a[p+1]=a[p]
      ·apply af;·simp(config := { maxSteps := 3000000 }) [hlt,q2];exact⟨rfl,rfl⟩
       rw[aL];rw[aW];apply af;·simp(config := { maxSteps := 3000000 }) [w3,r1,r2,q1,q2,q3,hq];exact⟨hpl,rfl,rfl⟩
       apply bJ rfl;apply af;·simp(config := { maxSteps := 3000000 }) [q1,q2];exact⟨⟨by omega,xE a⟩,rfl,rfl⟩
       rw[aL];apply af;·simp(config := { maxSteps := 3000000 });exact⟨rfl,rfl⟩
       rw[aW];obtain⟨i,hi⟩:∃i,i=p+1:=⟨_,rfl⟩;have hst:ll (a.take (i+1))=a.take i:=by subst hi;rw[kv hlt,zC,if_pos (by rw[hla,hq]),hi3]
       refine aj (fun x:Nat×Nat×List Int=>1≤x.2.1∧x.1<i+x.2.1∧i+x.2.1≤a.length∧x.2.2.length=a.length∧x.2.2.take x.1=ll (a.take (i+x.2.1))∧x.2.2.drop (i+x.2.1-1)=a.drop (i+x.2.1-1)) (fun x=>⟨[(0,.own 998),(3,.pv (.int .i64 x.1)),(4,.sub 998 22 i a.length),(5,.pv (.int .i64 x.2.1))],[(998,.arr 22 (cm x.2.2))]⟩) (fun x=>a.length-x.2.1) [] (i,1,a) ?_ ?_ ?_;·exact⟨q93 _,by show i<i+1;omega,by show i+1≤a.length;omega,rfl,hst.symm,rfl⟩
       ·simp;omega
       ·rintro⟨k,j,b⟩ ⟨h1,h3,h4,h5,h6,h7⟩;dsimp only at h1 h3 h4 h5 h6 h7;obtain⟨m,hm⟩:∃m,m=i+j-1:=⟨_,rfl⟩;rw[←hm]at h7;have hm1:i+j=m+1:=by omega
        rw[hm1]at h6;have u2:IntKind.i64.wrap ((j:Int)+1)=(j:Int)+1:=wrap_i64 (by omega);have u3:IntKind.i64.wrap ((k:Int)+1)=(k:Int)+1:=wrap_i64 (by omega);have u4:IntKind.i64.wrap ((j:Int)-1)=(j:Int)-1:=wrap_i64 (by omega);have u5:(i:Int)+((j:Int)-1)=(m:Int):=by omega
        obtain⟨n,hn⟩:∃n,n=m+1:=⟨_,rfl⟩;have u6:(i:Int)+(j:Int)=(n:Int):=by omega
        rw[←hn]at h6;by_cases hjl:(j:Int)<(a.length:Int)-(i:Int)
        ·have hna:n<a.length:=by omega
         have hma:m<a.length:=by omega
         have hnb:n<b.length:=by omega
         have hmb:m<b.length:=by omega
         have hkb:k<b.length:=by omega
         have e1:=q88 hmb;have e2:=q88 hma;have e3:b[m]=a[m]∧b.drop n=a.drop n:=by rw[h7,e2]at e1;injection e1 with e1 e4;exact⟨e1.symm,by rw[hn];exact e4.symm⟩
         have e4:b[n]=a[n]:=by have e5:=q88 hnb;have e6:=q88 hna;rw[e3.2,e6]at e5;injection e5 with e5 _;exact e5.symm
         have r3:=fh hnb;have r4:=fh hmb;have r5:=fh hkb;rw[e4]at r3;rw[e3.1]at r4;have hla:(ll (a.take n)).getLast?=some a[m]:=by rw[hn];exact vU hma
         have hstep:=kv hna;have hin:i+(j+1)=n+1:=by omega
         have j1:(0:Int)≤(j:Int)-1:=by omega
         have j2:(j:Int)-1<(a.length:Int)-(i:Int):=by omega
         have j3:(k:Int)<(b.length:Int):=by omega
         by_cases hq2:a[n]=a[m];·rw[zC,if_pos (by rw[hla,hq2])]at hstep;simp(config := { maxSteps := 3000000 }) [hjl,u2,u3,u4,u5,u6,r3,r4,j1,j2,j3,hq2];exact⟨hnb,by omega,hmb,k,j+1,b,⟨by omega,by omega,by omega,h5,by rw[hin,hstep,h6],by rw[hin];exact e3.2⟩,⟨⟨rfl,by omega⟩,rfl⟩,by omega⟩
         ·rw[zC,if_neg (by rw[hla];simp;exact fun h=>hq2 h.symm)]at hstep;simp(config := { maxSteps := 3000000 }) [hjl,u2,u3,u4,u5,u6,r3,r4,j1,j2,j3,hq2,wT,r5];refine⟨hnb,by omega,hmb,hnb,hkb,k+1,j+1,b.set k a[n],⟨by omega,by omega,by omega,by rw[q186];exact h5,?_,?_⟩,⟨⟨by omega,by omega⟩,rfl⟩,by omega⟩;·rw[hin,hstep,←h6,q62 (by simp;omega)];simp[q254]
          ·rw[hin,q159,q253 (by omega)];exact e3.2
        ·have hma:m+1=a.length:=by omega
         have h6:b.take k=ll a:=by rw[h6,hn,hma,q104]
         have h3r:=xE b;simp(config := { maxSteps := 3000000 }) [hjl];refine⟨⟨by omega,h3r⟩,⟨by omega,?_⟩,?_⟩
         ·rintro x (hx|⟨_,rfl⟩|hx);·exact h3r x (q107 hx)
          ·rfl
          ·exact h3r x (q123 hx)
         ·rw[q122 (by simp;omega),q145,Nat.min_self,←h6];simp[cm,q124]
      ·have hst:ll (a.take (p+1+1))=a.take (p+1+1):=by rw[kv hlt,zC,if_neg (by rw[hla];simp;exact fun h=>hq h.symm),hi3,←q62 hlt]
       simp(config := { maxSteps := 3000000 }) [w2,w3,r1,r2,q1,q2,q3,hq];exact⟨hpl,p+2,⟨by omega,by omega,hst⟩,by rw[wrap_i64 (by omega)];omega,by omega⟩
     ·have hia:i=a.length:=by omega
      subst hia;rw[q104]at hi3;simp(config := { maxSteps := 3000000 }) [hi3]
  ·cases h
 ·cases h
@[simp] noncomputable def Gnums:List AV→Option (Prop×AV)|[.pv (.ro a),.pv (.ro b)]=>(dec dX a).bind fun la=>(dec dX b).map fun lb=>(la.length≤1000000000,.pv (.bool (decide (la=lb))))|_=>none
theorem Iq {o L:List Int}{x:Int} (hk:k<o.length) (hL:L=o.take (k+1)++x::o.drop (k+1)):(L.set k x).set (k+1) o[k]=o.take k++x::o.drop k:=by
 subst hL;have h1:o.take (k+1)=o.take k++[o[k]]:=q62 hk;have h2:o.drop k=o[k]::o.drop (k+1):=q88 hk;have h3:(o.take k).length=k:=by rw[q67];omega
 generalize o[k]=y at*;generalize o.drop (k+1)=B at*;rw[h1,h2];generalize o.take k=A at*;subst h3;simp[List.set_append]
theorem Cd {o:List Int}{x:Int} (hkl:k≤o.length) (ho:o.Pairwise (·<·)) (h:∀y∈o.drop k,x<y) (hk:∀j (hj:j<o.length),k=j+1→o[j]<x):(o.take k++x::o.drop k).Pairwise (·<·):=by
 have hto:∀y∈o.take k,y<x:=by intro y hy;rw[q91]at hy;obtain⟨i,hi,rfl⟩:=hy;cases k with|zero=>omega|succ j=>
  have h1:=hk j (by omega) rfl;by_cases hij:i=j;·subst hij;exact h1
  ·have:=(q275.1 ho) i j (by omega) (by omega) (by omega);omega
 have hsp:=ho;rw[←q156 k o,q199]at hsp;rw[q199,q227];refine⟨hsp.1,⟨h,hsp.2.1⟩,?_⟩;intro a ha b hb;rw[q76]at hb;rcases hb with rfl|hb;·exact hto a ha
 ·exact hsp.2.2 a ha b hb
@[simp] noncomputable def GrV:List AV→Option (Prop×AV)|[.pv (.ro a)]=>(dec rowP a).map fun l=>(l.length≤1000000,.fr 22 (cm (nG (l.map Pn.v))))|_=>none
theorem c_rV:aJ Tryz.prog 94 GrV:=by
 intro ys φ r h hφ;unfold GrV at h;split at h
 ·rename_i ra;obtain⟨a,ha,h⟩:=q0.1 h;cases h;cases az ha;have hl6:a.length≤1000000:=hφ;refine ak (ag c_rOf ah) (by kernel_rfl) (by conv=>lhs;reduce) (by simp) ?_;simp(config := { maxSteps := 3000000 });refine aj (fun x:Nat×List Int=>x.1≤a.length∧x.2.Pairwise (·<·)∧(∀y,y∈x.2↔y∈(a.take x.1).map Pn.v)∧x.2.length≤x.1) (fun x=>⟨[(0,.pv (.ro (au a))),(3,.own 3),(4,.pv (.int .i64 (x.1:Int)))],[(3,.arr 22 (cm x.2))]⟩) (fun x=>a.length-x.1) [] (0,[]) ⟨by simp,.nil,by simp,by simp⟩ ?_ ?_;·simp
  ·rintro⟨i,o⟩ ⟨hi,ho,hm,hol⟩;have hi:i≤a.length:=hi;have ho:o.Pairwise (·<·):=ho;have hm:∀y,y∈o↔y∈(a.take i).map Pn.v:=hm;have hol:o.length≤i:=hol;have w2:IntKind.i64.wrap ((i:Int)+1)=(i:Int)+1:=wrap_i64 (by omega);by_cases hlt:i<a.length
   ·have r1:=bo hlt;have htk:(a.take (i+1)).map Pn.v=(a.take i).map Pn.v++[a[i].v]:=by rw[q62 hlt,q148];rfl
    have hofm:G8 (a.take i) a[i].v=true↔a[i].v∈o:=by rw[hm];unfold G8;simp only[q112,decide_eq_true_eq,q84]
    obtain⟨x,hx⟩:∃x,x=a[i].v:=⟨_,rfl⟩;rw[←hx]at r1 htk hofm;have htl:(a.take i).length≤1000000000:=by rw[q67];omega
    have h3:=bH a;by_cases hof:G8 (a.take i) x=true
    ·simp(config := { maxSteps := 3000000 }) [w2,hlt,r1,nb,hof,htl,h3];refine⟨⟨by omega,h3⟩,by omega,i+1,o,⟨by omega,ho,?_,by omega⟩,⟨by omega,rfl⟩,by omega⟩;intro y;rw[←q124,htk,q80,←hm y,q75];constructor;·exact .inl
     ·rintro(h|rfl);·exact h
      ·exact hofm.1 hof
    ·have hof':G8 (a.take i) x=false:=by simpa using hof
     have hxo:x∉o:=fun h=>hof (hofm.2 h);have hap:cm o++[[PV.int .u64 x]]=cm (o++[x]):=by rw[pW];rfl
     have w4:IntKind.i64.wrap ((o.length:Int)+1-1)=(o.length:Int):=by rw[wrap_i64 (by omega)];omega
     apply af;·simp(config := { maxSteps := 3000000 }) [hlt];exact⟨rfl,rfl⟩
     rw[aL];rw[aW];apply af;·simp(config := { maxSteps := 3000000 }) [hlt,r1,nb,hof',htl,h3];exact⟨⟨by omega,h3⟩,by omega,rfl,rfl⟩
     apply af;·simp(config := { maxSteps := 3000000 }) [hlt,r1,hap,ax];exact⟨⟨by omega,by omega⟩,rfl,rfl⟩
     apply af;·simp(config := { maxSteps := 3000000 }) [w4];exact⟨rfl,rfl⟩
     rw[aW];have w6:IntKind.i64.wrap (o.length:Int)=(o.length:Int):=wrap_i64 (by omega);refine aj (fun y:Nat×List Int=>y.1≤o.length∧y.2=o.take y.1++x::o.drop y.1∧∀z∈o.drop y.1,x<z) (fun y=>⟨[(0,.pv (.ro (au a))),(3,.own 3),(4,.pv (.int .i64 (i:Int))),(5,.pv (.int .i64 (y.1:Int)))],[(3,.arr 22 (cm y.2))]⟩) (fun y=>y.1) [] (o.length,o++[x]) ⟨q93 _,by simp,by simp⟩ ?_ ?_;·simp[w6]
     ·rintro⟨k,L⟩ ⟨hk,hL,hgt⟩;have hk:k≤o.length:=hk;have hL:L=o.take k++x::o.drop k:=hL;have hgt:∀z∈o.drop k,x<z:=hgt;have hLl:L.length=o.length+1:=by rw[hL];simp;omega
      have hout:(∀j (hj:j<o.length),k=j+1→o[j]<x)→(i+1≤a.length∧L.Pairwise (·<·)∧(∀y,y∈L↔y∈(a.take (i+1)).map Pn.v)∧L.length≤i+1):=by
       intro h;refine⟨by omega,by rw[hL];exact Cd hk ho hgt h,?_,by omega⟩;intro y;rw[htk,q80,←hm y,hL,q80,q76,q75];conv=>rhs;rw[←q156 k o,q80]
       constructor
       ·rintro(h|h|h);·exact .inl (.inl h)
        ·exact .inr h
        ·exact .inl (.inr h)
       ·rintro((h|h)|h);·exact .inl h
        ·exact .inr (.inr h)
        ·exact .inr (.inl h)
      have r3:=fh (l:=L) (i:=k) (by omega);have e3:L[k]=x:=by subst hL;rw[q184 (by simp;omega)];simp[q120 hk]
      rw[e3]at r3;cases k with|zero=>have w3:IntKind.i64.wrap (-1)=-1:=wrap_i64 (by omega);have r4:rowAt (cm L) (-1)=[.int .u64 x]:=r3;have r3:rowAt (cm L) 0=[.int .u64 x]:=r3;simp(config := { maxSteps := 3000000 }) [w3,r3,r4,w2];have h:=hout (fun j hj hj2=>absurd hj2 (by omega));exact⟨i+1,L,by rw[←q124];exact h,⟨by omega,rfl⟩,by omega⟩|succ j=>
       have w3:IntKind.i64.wrap ((j:Int)+1-1)=(j:Int):=by rw[wrap_i64 (by omega)];omega
       have w5:IntKind.i64.wrap (j:Int)=(j:Int):=wrap_i64 (by omega);have r3:rowAt (cm L) ((j:Int)+1)=[.int .u64 x]:=by simpa using r3
       have hjo:j<o.length:=by omega
       have r4:=fh (l:=L) (i:=j) (by omega);have e4:L[j]=o[j]:=by subst hL;rw[q187 (by simp;omega)];simp
       rw[e4]at r4;have q2:(0:Int)≤(j:Int)+1:=by omega
       have q3:(j:Int)+1<(L.length:Int):=by omega
       have q4:(j:Int)<(L.length:Int):=by omega
       have q5:(0:Int)<(j:Int)+1:=by omega
       have q4':j<L.length:=by omega
       have r5:rowAt (cm (L.set j x)) ((j:Int)+1)=[.int .u64 x]:=by have h1:=fh (l:=L.set j x) (i:=j+1) (by rw[q186];omega);rw[List.getElem_set_ne (by omega),e3]at h1;simpa using h1
       have e5:=Iq hjo hL;have hgt2:∀z∈o.drop j,x<o[j]→x<z:=by
        intro z hz h;rw[q88 hjo,q76]at hz;rcases hz with rfl|hz;·exact h
        ·exact hgt z hz
       by_cases hq:x<o[j];·simp(config := { maxSteps := 3000000 }) [w3,w5,r3,r4,q2,q3,q4,q5,hq,wT,r5];exact⟨q4',j,(L.set j x).set (j+1) o[j],⟨by omega,e5,fun z hz=>hgt2 z hz hq⟩,⟨rfl,rfl⟩,by omega⟩
       ·simp(config := { maxSteps := 3000000 }) [w3,w5,r3,r4,q2,q3,q4,q5,hq,w2];have h:=hout (fun j' hj' hj2=>by
         obtain rfl:j'=j:=by omega
         have:o[j']≠x:=fun h=>hxo (h▸q82 hj');omega);exact⟨q4',i+1,L,by rw[←q124];exact h,⟨by omega,rfl⟩,by omega⟩
   ·have hia:i=a.length:=by omega
    subst hia;have hv:=GD ho (l:=a.map Pn.v) (by rw[q104]at hm;exact hm);simp(config := { maxSteps := 3000000 }) [←hv]
 ·cases h
@[simp] noncomputable def GSp:List AV→Option (Prop×AV)|[.aO [.agg [.fr e a]]]=>if e=134 then(dec rowP a).map fun l=>(l.length≤1000000,.bE 0 [.aO [],.agg [.fr 134 (au (l.map fun _=>⟨77,77,0⟩))]]) else none|_=>none
end Go.Proofs.YtlicclncicbajaaGreat.Ab
namespace Go.Proofs.YtlicclncicbajaaGreat.Ab
open Go Go.RowKit Go.Sort R
variable {ys:List AV}{φ:Prop}{r:AV}{k i:Nat}{W:World}{F:Array Int→Nat→Nat→Array Int}
@[simp] noncomputable def We:List AV→Option (Prop×AV)|[.pv (.int .u64 a)]=>some (True,.pv (.bool false))|_=>none
theorem c_nan:aJ Tryz.prog 156 We:=by
 intro ys φ r h hφ;unfold We at h;split at h;·cases h;refine ak ah (by kernel_rfl) (by conv=>lhs;reduce) (by simp) ?_;simp(config := { maxSteps := 3000000 })
 ·cases h
@[simp] noncomputable def My:List AV→Option (Prop×AV)|[.pv (.int k a),.pv (.int m b)]=>some (k=.u64∧m=.u64,.pv (.bool (ltInt a b)))|_=>none
theorem oc:aJ Tryz.prog 214 My:=by
 intro ys φ r h hφ;unfold My at h;split at h;·cases h;obtain⟨rfl,rfl⟩:=hφ;refine ak (ag c_nan ah) (by kernel_rfl) (by conv=>lhs;reduce) (by simp) ?_;simp(config := { maxSteps := 3000000 }) [ltInt]
 ·cases h
def rA (d:Array Int):List (List PV):=cm d.toList
@[simp] theorem E2 (d:Array Int):(rA d).length=d.size:=by simp[rA]
def gA (d:Array Int) (i:Nat):Int:=d[i]!
theorem bB {d:Array Int} (h:i<d.size):rowAt (rA d) (i:Int)=[.int .u64 (gA d i)]:=by have:=fh (l:=d.toList) (i:=i) (by simpa using h);unfold rA gA;rw[this,getElem!_pos d i h];rfl
@[simp] theorem rA_set (d:Array Int) (i:Nat) (x:Int):(rA d).set i [.int .u64 x]=rA (d.setIfInBounds i x):=by unfold rA cm;rw[Array.toList_setIfInBounds,q217];rfl
theorem Am (l:List Int):cm l=rA l.toArray:=rfl
theorem size_swp (d:Array Int) (i j:Nat):(swp d i j).size=d.size:=by simp[swp]
noncomputable def E5 (F:Array Int→Nat→Nat→Array Int):List AV→Option (Prop×AV)|[.aO [.fr e a],.pv (.int .i64 p),.pv (.int .i64 q)]=>if e=22 then(dec dX a).map fun l=>(0≤p∧p≤q∧q≤(l.length:Int)∧l.length≤1000000,.bE 0 [.aO [],.fr 22 (rA (F l.toArray p.toNat q.toNat))]) else none|_=>none
theorem jg (d:Array Int):dec dX (rA d)=some d.toList:=mX _
@[simp] theorem Ginp_eq (F:Array Int→Nat→Nat→Array Int) (e:TypeId) (d:Array Int) (p q:Int):E5 F [.aO [.fr e (rA d)],.pv (.int .i64 p),.pv (.int .i64 q)]=if e=22 then some (0≤p∧p≤q∧q≤(d.size:Int)∧d.size≤1000000,.bE 0 [.aO [],.fr 22 (rA (F d p.toNat q.toNat))]) else none:=by show(if e=22 then(dec dX (rA d)).map _ else none)=_;rw[jg];simp
theorem ue  (h:E5 F ys=some (φ,r)):∃(d:Array Int) (p q:Int),ys=[.aO [.fr 22 (rA d)],.pv (.int .i64 p),.pv (.int .i64 q)]∧φ=(0≤p∧p≤q∧q≤(d.size:Int)∧d.size≤1000000)∧r=.bE 0 [.aO [],.fr 22 (rA (F d p.toNat q.toNat))]:=by
 unfold E5 at h;split at h
 ·split at h;·rename_i e;subst e;obtain⟨l,hl,h⟩:=q0.1 h;cases h;cases dM hl;exact⟨l.toArray,_,_,by rw[Am],by simp,rfl⟩
  ·cases h
 ·cases h
theorem nN (a:Nat):∀(j:Nat) (d:Array Int),(insInner ltInt a j d).size=d.size
 |0,d=>rfl|j+1,d=>by
  unfold insInner;split;·rw[nN a j,size_swp]
  ·rfl
theorem QQ:dI Tryz.prog 208 (E5 (insertionSort ltInt)):=by
 intro ys φ r h hφ;obtain⟨d,p,q,rfl,rfl,rfl⟩:=ue h;obtain⟨h1,h2,h3,h4⟩:=hφ;obtain⟨a,rfl⟩:∃a:Nat,p=a:=⟨p.toNat,by omega⟩;obtain⟨b,rfl⟩:∃b:Nat,q=b:=⟨q.toNat,by omega⟩;rw[q68,q68];refine cf (ag oc ah) (by kernel_rfl) (by conv=>lhs;reduce) (by simp) rfl (by simp) ?_;have w0:IntKind.i64.wrap ((a:Int)+1)=(a:Int)+1:=wrap_i64 (by omega);generalize hW:insertionSort ltInt d a b=W;simp(config := { maxSteps := 3000000 }) [w0];refine aj (fun x:Nat×Array Int=>(a+1≤x.1∧x.1≤max (a+1) b)∧x.2.size=d.size∧insOuter ltInt a b x.1 x.2=W) (fun x=>⟨[(0,.own 999),(1,.pv (.int .i64 (a:Int))),(2,.pv (.int .i64 (b:Int))),(6,.pv (.int .i64 (x.1:Int)))],[(999,.arr 22 (rA x.2))]⟩) (fun x=>max (a+1) b-x.1) [] (a+1,d) ⟨⟨q93 _,Nat.le_max_left _ _⟩,rfl,hW⟩ ?_ ?_;·simp
 ·rintro⟨i,D⟩ ⟨⟨hi1,hi2⟩,hD,hI⟩;have hi1:a+1≤i:=hi1;have hi2:i≤max (a+1) b:=hi2;have hD:D.size=d.size:=hD;have hI:insOuter ltInt a b i D=W:=hI;have w2:IntKind.i64.wrap ((i:Int)+1)=(i:Int)+1:=wrap_i64 (by omega);by_cases hlt:i<b
  ·unfold insOuter at hI;rw[if_pos hlt]at hI;obtain⟨T,hT⟩:∃T,T=insInner ltInt a i D:=⟨_,rfl⟩;rw[←hT]at hI;have hTs:T.size=d.size:=by rw[hT,nN,hD]
   apply af;·simp(config := { maxSteps := 3000000 }) [hlt];exact⟨rfl,rfl⟩
   rw[aL];rw[aW];apply af;·simp(config := { maxSteps := 3000000 });exact⟨rfl,rfl⟩
   rw[aW];refine aj (fun y:Nat×Array Int=>(a≤y.1∧y.1≤i)∧y.2.size=d.size∧insInner ltInt a y.1 y.2=T) (fun y=>⟨[(0,.own 999),(1,.pv (.int .i64 (a:Int))),(2,.pv (.int .i64 (b:Int))),(6,.pv (.int .i64 (i:Int))),(7,.pv (.int .i64 (y.1:Int)))],[(999,.arr 22 (rA y.2))]⟩) (fun y=>y.1) [] (i,D) ⟨⟨by omega,q93 _⟩,hD,hT.symm⟩ ?_ ?_;·simp
   ·rintro⟨j,E⟩ ⟨⟨hj1,hj2⟩,hE,hJ⟩;have hj1:a≤j:=hj1;have hj2:j≤i:=hj2;have hE:E.size=d.size:=hE;have hJ:insInner ltInt a j E=T:=hJ;have q3:(j:Int)<(E.size:Int):=by omega
    have r1:=bB (d:=E) (i:=j) (by omega);cases j with|zero=>
     have ha0:a=0:=by omega
     subst ha0;have hJ:E=T:=hJ;subst hJ;have w3:IntKind.i64.wrap (-1)=-1:=wrap_i64 (by omega);have r2:rowAt (rA E) (-1)=[.int .u64 (gA E 0)]:=bB (d:=E) (i:=0) (by omega);have r1:rowAt (rA E) 0=[.int .u64 (gA E 0)]:=r1;simp(config := { maxSteps := 3000000 }) [w3,r1,r2,w2];exact⟨i+1,E,⟨by omega,hE,hI⟩,⟨by omega,rfl⟩,by omega⟩|succ k=>
     have w3:IntKind.i64.wrap ((k:Int)+1-1)=(k:Int):=by rw[wrap_i64 (by omega)];omega
     have w4:IntKind.i64.wrap (k:Int)=(k:Int):=wrap_i64 (by omega);have r1:rowAt (rA E) ((k:Int)+1)=[.int .u64 (gA E (k+1))]:=by simpa using r1
     have r2:=bB (d:=E) (i:=k) (by omega);have q2:(0:Int)≤(k:Int)+1:=by omega
     have q3:(k:Int)+1<(E.size:Int):=by omega
     have q4:(k:Int)<(E.size:Int):=by omega
     unfold insInner at hJ;by_cases hja:a<k+1
     ·have q1:(a:Int)<(k:Int)+1:=by omega
      cases hl:ltInt E[k+1]! E[k]! with|true=>have hl2:ltInt (gA E (k+1)) (gA E k)=true:=hl;rw[hl,if_pos (by simp;omega)]at hJ;have r3:=bB (d:=E.setIfInBounds (k+1) (gA E k)) (i:=k) (by rw[q102];omega);simp(config := { maxSteps := 3000000 }) [w3,w4,r1,r2,r3,q1,q2,q3,q4,hl2];exact⟨by omega,k,swp E (k+1) k,⟨by omega,by rw[size_swp,hE],hJ⟩,⟨rfl,rfl⟩,by omega⟩|false=>have hl2:ltInt (gA E (k+1)) (gA E k)=false:=hl;rw[hl,if_neg (by simp)]at hJ;subst hJ;simp(config := { maxSteps := 3000000 }) [w3,w4,r1,r2,q1,q2,q3,q4,hl2,w2];exact⟨by omega,i+1,E,⟨by omega,hE,hI⟩,⟨by omega,rfl⟩,by omega⟩
     ·have q1:¬(a:Int)<(k:Int)+1:=by omega
      rw[if_neg (by simp;omega)]at hJ;subst hJ;simp(config := { maxSteps := 3000000 }) [w3,w4,r1,r2,q1,q2,q3,q4,w2];exact⟨i+1,E,⟨by omega,hE,hI⟩,⟨by omega,rfl⟩,by omega⟩
  ·unfold insOuter at hI;rw[if_neg hlt]at hI;subst hI;simp(config := { maxSteps := 3000000 }) [hlt]
theorem mw {d:Array Int} (h:d.size≤i):rowAt (rA d) (i:Int)=[]:=by unfold rowAt;rw[q68,q78,q132 (by rw[E2];exact h)];rfl
theorem jt (f:Fr):f.st=⟨look f.vs,ab f.os⟩:=rfl
noncomputable def Ou:List AV→Option (Prop×AV)|[.aO [.fr e a],.pv (.int .i64 lo),.pv (.int .i64 hi),.pv (.int .i64 fi)]=>if e=22 then(dec dX a).map fun l=>((0≤lo∧lo≤1000000)∧0≤hi∧0≤fi∧fi+hi≤(l.length:Int)∧l.length≤1000000,.bE 0 [.aO [],.fr 22 (rA (siftDown ltInt hi.toNat fi.toNat lo.toNat l.toArray))]) else none|_=>none
@[simp] theorem Gsft_eq (e:TypeId) (d:Array Int) (lo hi fi:Int):Ou [.aO [.fr e (rA d)],.pv (.int .i64 lo),.pv (.int .i64 hi),.pv (.int .i64 fi)]=if e=22 then some ((0≤lo∧lo≤1000000)∧0≤hi∧0≤fi∧fi+hi≤(d.size:Int)∧d.size≤1000000,.bE 0 [.aO [],.fr 22 (rA (siftDown ltInt hi.toNat fi.toNat lo.toNat d))]) else none:=by show(if e=22 then(dec dX (rA d)).map _ else none)=_;rw[jg];simp
theorem WT:dI Tryz.prog 219 Ou:=by
 intro ys φ r h hφ;unfold Ou at h;split at h
 ·rename_i e ra lo hi fi;split at h
  ·rename_i he;subst he;obtain⟨l,hl,h⟩:=q0.1 h;cases h;cases dM hl;obtain⟨⟨h1,h2⟩,h3,h4,h5,h6⟩:=hφ;obtain⟨lo,rfl⟩:∃a:Nat,lo=a:=⟨lo.toNat,by omega⟩;obtain⟨hi,rfl⟩:∃a:Nat,hi=a:=⟨hi.toNat,by omega⟩;obtain⟨fi,rfl⟩:∃a:Nat,fi=a:=⟨fi.toNat,by omega⟩;rw[q68,q68,q68,Am];obtain⟨d,hd⟩:∃d,d=l.toArray:=⟨_,rfl⟩;have hds:d.size=l.length:=by rw[hd];simp
   rw[←hd];generalize hW:siftDown ltInt hi fi lo d=W;refine cf (ag oc ah) (by kernel_rfl) (by conv=>lhs;reduce) (by simp) rfl (by simp) ?_;simp(config := { maxSteps := 3000000 });refine aj (fun x:Nat×Array Int=>x.1≤1000000∧x.2.size=l.length∧siftDown ltInt hi fi x.1 x.2=W) (fun x=>⟨[(0,.own 999),(1,.pv (.int .i64 (lo:Int))),(2,.pv (.int .i64 (hi:Int))),(3,.pv (.int .i64 (fi:Int))),(8,.pv (.int .i64 (x.1:Int)))],[(999,.arr 22 (rA x.2))]⟩) (fun x=>hi-x.1) [] (lo,d) ⟨by show lo≤_;omega,hds,hW⟩ ?_ ?_;·simp
   ·rintro⟨i,D⟩ ⟨hi1,hD,hI⟩;have hi1:i≤1000000:=hi1;have hD:D.size=l.length:=hD;have hI:siftDown ltInt hi fi i D=W:=hI;have w1:IntKind.i64.wrap (2*(i:Int))=2*(i:Int):=wrap_i64 (by omega);have w2:IntKind.i64.wrap (2*(i:Int)+1)=2*(i:Int)+1:=wrap_i64 (by omega);have w3:IntKind.i64.wrap (2*(i:Int)+1+1)=2*(i:Int)+2:=by rw[wrap_i64 (by omega)];omega
    obtain⟨r0,e0⟩:∃r0,r0=fi+i:=⟨_,rfl⟩;obtain⟨c1,e1⟩:∃c1,c1=fi+(2*i+1):=⟨_,rfl⟩;obtain⟨c2,e2⟩:∃c2,c2=fi+(2*i+2):=⟨_,rfl⟩;have w4:IntKind.i64.wrap ((fi:Int)+(2*(i:Int)+1))=(c1:Int):=by rw[wrap_i64 (by omega)];omega
    have w5:IntKind.i64.wrap ((c1:Int)+1)=(c2:Int):=by rw[wrap_i64 (by omega)];omega
    have w6:IntKind.i64.wrap ((fi:Int)+(i:Int))=(r0:Int):=by rw[wrap_i64 (by omega)];omega
    have w7:IntKind.i64.wrap ((fi:Int)+(2*(i:Int)+2))=(c2:Int):=by rw[wrap_i64 (by omega)];omega
    unfold siftDown at hI;rw[←e0,←e1,←e2,show c1+1=c2 by omega]at hI;by_cases hc:2*i+1≥hi
    ·rw[dif_pos hc]at hI;subst hI;have hc2:(hi:Int)≤2*(i:Int)+1:=by omega
     simp(config := { maxSteps := 3000000 }) [w1,w2,hc2]
    ·rw[dif_neg hc]at hI;have hc2:¬(hi:Int)≤2*(i:Int)+1:=by omega
     have q1:r0<D.size:=by omega
     have r1:=bB q1;have q2:c1<D.size:=by omega
     have r2:=bB q2;rw[jt,aW];apply af;·simp(config := { maxSteps := 3000000 }) [w1,w2];exact⟨rfl,rfl⟩
     apply af;·simp(config := { maxSteps := 3000000 }) [hc2];exact⟨rfl,rfl⟩
     by_cases hg1:2*i+2<hi
     ·have g1:2*(i:Int)+2<(hi:Int):=by omega
      have q4:c2<D.size:=by omega
      have r4:=bB q4;cases hg2:ltInt D[c1]! D[c2]! with
      |true=>
       have hg3:ltInt (gA D c1) (gA D c2)=true:=hg2;rw[if_pos (by rw[hg2];simp;omega),dif_pos hg1]at hI;apply af;·simp(config := { maxSteps := 3000000 }) [w3,w4,w5,g1,q2,q4,r2,r4,hg3];exact⟨rfl,rfl⟩
       cases hb:ltInt D[r0]! D[c2]! with|false=>have hb2:ltInt (gA D r0) (gA D c2)=false:=hb;rw[hb,if_pos (by simp)]at hI;subst hI;simp(config := { maxSteps := 3000000 }) [w6,w7,q1,q4,r1,r4,hb2]|true=>
        have hb2:ltInt (gA D r0) (gA D c2)=true:=hb;rw[hb,if_neg (by simp)]at hI;have z1:=bB (d:=D.setIfInBounds r0 (gA D c2)) (i:=c2) (by rw[q102];omega);apply af;·simp(config := { maxSteps := 3000000 }) [w6,w7,q1,q4,r1,r4,hb2];exact⟨rfl,rfl⟩
        simp(config := { maxSteps := 3000000 }) [w6,w7,q1,q4,r1,r4,z1];exact⟨2*i+2,swp D r0 c2,⟨by omega,by rw[size_swp,hD],hI⟩,⟨by omega,rfl⟩,by omega⟩
      |false=>
       have hg3:ltInt (gA D c1) (gA D c2)=false:=hg2;rw[if_neg (by rw[hg2];simp)]at hI;apply af;·simp(config := { maxSteps := 3000000 }) [w3,w4,w5,g1,q2,q4,r2,r4,hg3];exact⟨rfl,rfl⟩
       cases hb:ltInt D[r0]! D[c1]! with|false=>have hb2:ltInt (gA D r0) (gA D c1)=false:=hb;rw[hb,if_pos (by simp)]at hI;subst hI;simp(config := { maxSteps := 3000000 }) [w6,w4,q1,q2,r1,r2,hb2]|true=>
        have hb2:ltInt (gA D r0) (gA D c1)=true:=hb;rw[hb,if_neg (by simp)]at hI;have z1:=bB (d:=D.setIfInBounds r0 (gA D c1)) (i:=c1) (by rw[q102];omega);apply af;·simp(config := { maxSteps := 3000000 }) [w6,w4,q1,q2,r1,r2,hb2];exact⟨rfl,rfl⟩
        simp(config := { maxSteps := 3000000 }) [w6,w4,q1,q2,r1,r2,z1];exact⟨2*i+1,swp D r0 c1,⟨by omega,by rw[size_swp,hD],hI⟩,⟨by omega,rfl⟩,by omega⟩
     ·have g1:¬2*(i:Int)+2<(hi:Int):=by omega
      rw[if_neg (by simp;omega)]at hI;rcases q137 c2 D.size with q4|q4
      ·have r4:=bB q4;apply af;·simp(config := { maxSteps := 3000000 }) [w3,w4,w5,g1,q2,q4,r2,r4];exact⟨rfl,rfl⟩
       cases hb:ltInt D[r0]! D[c1]! with|false=>have hb2:ltInt (gA D r0) (gA D c1)=false:=hb;rw[hb,if_pos (by simp)]at hI;subst hI;simp(config := { maxSteps := 3000000 }) [w6,w4,q1,q2,r1,r2,hb2]|true=>
        have hb2:ltInt (gA D r0) (gA D c1)=true:=hb;rw[hb,if_neg (by simp)]at hI;have z1:=bB (d:=D.setIfInBounds r0 (gA D c1)) (i:=c1) (by rw[q102];omega);apply af;·simp(config := { maxSteps := 3000000 }) [w6,w4,q1,q2,r1,r2,hb2];exact⟨rfl,rfl⟩
        simp(config := { maxSteps := 3000000 }) [w6,w4,q1,q2,r1,r2,z1];exact⟨2*i+1,swp D r0 c1,⟨by omega,by rw[size_swp,hD],hI⟩,⟨by omega,rfl⟩,by omega⟩
      ·have r4:=mw q4;apply af;·simp(config := { maxSteps := 3000000 }) [w3,w4,w5,g1,q2,r2,r4];exact⟨rfl,rfl⟩
       cases hb:ltInt D[r0]! D[c1]! with|false=>have hb2:ltInt (gA D r0) (gA D c1)=false:=hb;rw[hb,if_pos (by simp)]at hI;subst hI;simp(config := { maxSteps := 3000000 }) [w6,w4,q1,q2,r1,r2,hb2]|true=>
        have hb2:ltInt (gA D r0) (gA D c1)=true:=hb;rw[hb,if_neg (by simp)]at hI;have z1:=bB (d:=D.setIfInBounds r0 (gA D c1)) (i:=c1) (by rw[q102];omega);apply af;·simp(config := { maxSteps := 3000000 }) [w6,w4,q1,q2,r1,r2,hb2];exact⟨rfl,rfl⟩
        simp(config := { maxSteps := 3000000 }) [w6,w4,q1,q2,r1,r2,z1];exact⟨2*i+1,swp D r0 c1,⟨by omega,by rw[size_swp,hD],hI⟩,⟨by omega,rfl⟩,by omega⟩
  ·cases h
 ·cases h
theorem tv (hi fi:Nat):∀(n root:Nat) (d:Array Int),hi-root≤n→(siftDown ltInt hi fi root d).size=d.size:=by intro n;induction n with|zero=>intro root d h;unfold siftDown;rw[dif_pos (by omega)]|succ n ih=>
 intro root d h;unfold siftDown;split;·rfl
 ·split
  ·split;·rfl
   ·split;·rw[ih _ _ (by omega),size_swp]
    ·rfl
  ·split;·rfl
   ·rw[ih _ _ (by omega),size_swp]
theorem tC (hi fi:Nat):∀(k:Nat) (d:Array Int),(heapBuild ltInt hi fi k d).size=d.size|0,d=>rfl|k+1,d=>by unfold heapBuild;rw[tC hi fi k,tv hi fi hi k d (by omega)]
theorem RM:dI Tryz.prog 209 (E5 (heapSort ltInt)):=by
 intro ys φ r h hφ;obtain⟨d,p,q,rfl,rfl,rfl⟩:=ue h;obtain⟨h1,h2,h3,h4⟩:=hφ;obtain⟨a,rfl⟩:∃a:Nat,p=a:=⟨p.toNat,by omega⟩;obtain⟨b,rfl⟩:∃b:Nat,q=b:=⟨q.toNat,by omega⟩;rw[q68,q68];refine cf (bg (ks:=[2,0,0,0]) WT (by kernel_rfl) ah) (by kernel_rfl) (by conv=>lhs;reduce) (by simp) rfl (by simp) ?_;obtain⟨m,hm⟩:∃m,m=b-a:=⟨_,rfl⟩;have w0:IntKind.i64.wrap ((b:Int)-(a:Int))=(m:Int):=by rw[wrap_i64 (by omega)];omega
 have w1:IntKind.i64.wrap ((m:Int)-1)=(m:Int)-1:=wrap_i64 (by omega);obtain⟨k0,hk0⟩:∃k0,k0=(m-1)/2+1:=⟨_,rfl⟩;have w2:((m:Int)-1).tdiv 2=(k0:Int)-1:=by
  rcases q169 m with h0|h0
  ·have:k0=1:=by omega
   rw[h0,this];decide
  ·rw[q146 (by omega)];omega
 have w3:IntKind.i64.wrap ((k0:Int)-1)=(k0:Int)-1:=wrap_i64 (by omega);unfold heapSort;rw[←hm,←hk0];generalize hW:heapPop ltInt a m (heapBuild ltInt m a k0 d)=W;generalize hB:heapBuild ltInt m a k0 d=B at hW;apply af;·simp(config := { maxSteps := 3000000 });exact⟨rfl,rfl⟩
 apply af;·simp(config := { maxSteps := 3000000 });exact⟨rfl,rfl⟩
 apply af;·simp(config := { maxSteps := 3000000 }) [w0];exact⟨rfl,rfl⟩
 apply af
 ·simp(config := { maxSteps := 3000000 }) [w1,w2,w3];refine aj (fun x:Nat×Array Int=>x.1≤k0∧x.2.size=d.size∧heapBuild ltInt m a x.1 x.2=B) (fun x=>⟨[(0,.own 999),(6,.pv (.int .i64 (a:Int))),(7,.pv (.int .i64 0)),(8,.pv (.int .i64 (m:Int))),(9,.pv (.int .i64 ((x.1:Int)-1)))],[(999,.arr 22 (rA x.2))]⟩) (fun x=>x.1) [] (k0,d) ⟨q93 _,rfl,hB⟩ ?_ ?_;·simp
  ·rintro⟨k,D⟩ ⟨hk,hD,hI⟩;have hk:k≤k0:=hk;have hD:D.size=d.size:=hD;have hI:heapBuild ltInt m a k D=B:=hI;cases k with|zero=>have hI:D=B:=hI;rw[hI];simp(config := { maxSteps := 3000000 });exact⟨rfl,rfl⟩|succ k=>
    have hI:heapBuild ltInt m a k (siftDown ltInt m a k D)=B:=hI;have hs:=tv m a m k D (by omega);have v1:(k:Int)+1-1=(k:Int):=by omega
    have v2:IntKind.i64.wrap ((k:Int)-1)=(k:Int)-1:=wrap_i64 (by omega);have v3:(k:Int)≤1000000:=by omega
    have v4:(a:Int)+(m:Int)≤(D.size:Int):=by omega
    have v5:D.size≤1000000:=by omega
    simp(config := { maxSteps := 3000000 }) [v1,v2,v3,v4,v5];exact⟨k,siftDown ltInt m a k D,⟨by omega,by rw[hs,hD],hI⟩,⟨rfl,rfl⟩,by omega⟩
 have hBs:B.size=d.size:=by rw[←hB,tC]
 apply af;·simp(config := { maxSteps := 3000000 }) [w1];exact⟨rfl,rfl⟩
 rw[aW];refine aj (fun x:Nat×Array Int=>x.1≤m∧x.2.size=d.size∧heapPop ltInt a x.1 x.2=W) (fun x=>⟨[(0,.own 999),(6,.pv (.int .i64 (a:Int))),(7,.pv (.int .i64 0)),(10,.pv (.int .i64 ((x.1:Int)-1)))],[(999,.arr 22 (rA x.2))]⟩) (fun x=>x.1) [] (m,B) ⟨q93 _,hBs,hW⟩ ?_ ?_;·simp
 ·rintro⟨k,D⟩ ⟨hk,hD,hI⟩;have hk:k≤m:=hk;have hD:D.size=d.size:=hD;have hI:heapPop ltInt a k D=W:=hI;cases k with|zero=>have hI:D=W:=hI;rw[hI];simp(config := { maxSteps := 3000000 })|succ k=>
   have hI:heapPop ltInt a k (siftDown ltInt k a 0 (swp D a (a+k)))=W:=hI;have hs:=tv k a k 0 (swp D a (a+k)) (by omega);have v1:(k:Int)+1-1=(k:Int):=by omega
   have v2:IntKind.i64.wrap ((k:Int)-1)=(k:Int)-1:=wrap_i64 (by omega);obtain⟨c,hc⟩:∃c,c=a+k:=⟨_,rfl⟩;rw[←hc]at hI hs;have v3:IntKind.i64.wrap ((a:Int)+(k:Int))=(c:Int):=by rw[wrap_i64 (by omega)];omega
   have q1:a<D.size:=by omega
   have q2:c<D.size:=by omega
   have r1:=bB q1;have r2:=bB q2;have r3:=bB (d:=D.setIfInBounds a (gA D c)) (i:=c) (by rw[q102];omega);have v4:(a:Int)+(k:Int)≤(D.size:Int):=by omega
   have v5:D.size≤1000000:=by omega
   apply af;·simp(config := { maxSteps := 3000000 }) [v1];exact⟨rfl,rfl⟩
   rw[aL];rw[aW];apply af;·simp(config := { maxSteps := 3000000 }) [v1,v3,q1,q2,r1,r2,r3];exact⟨rfl,rfl⟩
   rw[show(D.setIfInBounds a (gA D c)).setIfInBounds c (gA D a)=swp D a c from rfl];have v6:(swp D a c).size=D.size:=size_swp _ _ _;simp(config := { maxSteps := 3000000 }) [v1,v2,v4,v5,v6];exact⟨k,siftDown ltInt k a 0 (swp D a c),⟨by omega,by rw[hs,size_swp,hD],hI⟩,⟨rfl,rfl⟩,by omega⟩
theorem XN:dI Tryz.prog 212 (E5 reverseRange):=by
 intro ys φ r h hφ;obtain⟨d,p,q,rfl,rfl,rfl⟩:=ue h;obtain⟨h1,h2,h3,h4⟩:=hφ;obtain⟨a,rfl⟩:∃a:Nat,p=a:=⟨p.toNat,by omega⟩;obtain⟨b,rfl⟩:∃b:Nat,q=b:=⟨q.toNat,by omega⟩;rw[q68,q68];refine cf ah (by kernel_rfl) (by conv=>lhs;reduce) (by simp) rfl (by simp) ?_;have w0:IntKind.i64.wrap ((b:Int)-1)=(b:Int)-1:=wrap_i64 (by omega);unfold reverseRange;generalize hW:reverseLoop a (b-1) d=W;simp(config := { maxSteps := 3000000 }) [w0];refine aj (fun x:(Nat×Nat)×Array Int=>(a≤x.1.1∧x.1.1≤b)∧x.1.2≤b∧x.2.size=d.size∧reverseLoop x.1.1 (x.1.2-1) x.2=W) (fun x=>⟨[(0,.own 999),(6,.pv (.int .i64 (x.1.1:Int))),(7,.pv (.int .i64 ((x.1.2:Int)-1)))],[(999,.arr 22 (rA x.2))]⟩) (fun x=>x.1.2) [] ((a,b),d) ⟨⟨q93 _,by show a≤b;omega⟩,q93 _,rfl,hW⟩ ?_ ?_;·simp
 ·rintro⟨⟨i,j⟩,D⟩ ⟨⟨hi1,hi2⟩,hj,hD,hI⟩;have hi1:a≤i:=hi1;have hi2:i≤b:=hi2;have hj:j≤b:=hj;have hD:D.size=d.size:=hD;have hI:reverseLoop i (j-1) D=W:=hI;unfold reverseLoop at hI;by_cases hlt:i<j-1
  ·rw[if_pos hlt]at hI;obtain⟨c,hc⟩:∃c,c=j-1:=⟨_,rfl⟩;rw[←hc]at hI;have e1:(j:Int)-1=(c:Int):=by omega
   have g1:i<c:=by omega
   have w1:IntKind.i64.wrap ((i:Int)+1)=(i:Int)+1:=wrap_i64 (by omega);have w2:IntKind.i64.wrap ((c:Int)-1)=(c:Int)-1:=wrap_i64 (by omega);have q1:i<D.size:=by omega
   have q2:c<D.size:=by omega
   have r1:=bB q1;have r2:=bB q2;have r3:=bB (d:=D.setIfInBounds i (gA D c)) (i:=c) (by rw[q102];omega);simp(config := { maxSteps := 3000000 }) [e1,g1,w1,w2,q1,q2,r1,r2,r3];exact⟨i+1,c,swp D i c,⟨by omega,by omega,by rw[size_swp,hD],hI⟩,⟨⟨by omega,rfl⟩,rfl⟩,by omega⟩
  ·rw[if_neg hlt]at hI;subst hI;have g1:¬(i:Int)<(j:Int)-1:=by omega
   simp(config := { maxSteps := 3000000 }) [g1]
theorem lT {rows:List (List PV)}{l:List Int} (h:dec dX rows=some l):∃d:Array Int,rows=rA d∧l=d.toList:=⟨l.toArray,by rw[dM h,Am],by simp⟩
noncomputable def Go2:List AV→Option (Prop×AV)|[.pv (.ro a),.pv (.int .i64 p),.pv (.int .i64 q),.aO [.bx [.pv (.int .i64 s)]]]=>(dec dX a).map fun l=>((0≤p∧p<(l.length:Int))∧(0≤q∧q<(l.length:Int))∧(0≤s∧s≤1000)∧l.length≤1000000,.bE 0 [.aO [.pv (.int .i64 ((order2 ltInt l.toArray p.toNat q.toNat s.toNat).1:Int)),.pv (.int .i64 ((order2 ltInt l.toArray p.toNat q.toNat s.toNat).2.1:Int))],.bx [.pv (.int .i64 ((order2 ltInt l.toArray p.toNat q.toNat s.toNat).2.2:Int))]])|_=>none
@[simp] theorem Go2_eq (d:Array Int) (p q s:Int):Go2 [.pv (.ro (rA d)),.pv (.int .i64 p),.pv (.int .i64 q),.aO [.bx [.pv (.int .i64 s)]]]=some ((0≤p∧p<(d.size:Int))∧(0≤q∧q<(d.size:Int))∧(0≤s∧s≤1000)∧d.size≤1000000,.bE 0 [.aO [.pv (.int .i64 ((order2 ltInt d p.toNat q.toNat s.toNat).1:Int)),.pv (.int .i64 ((order2 ltInt d p.toNat q.toNat s.toNat).2.1:Int))],.bx [.pv (.int .i64 ((order2 ltInt d p.toNat q.toNat s.toNat).2.2:Int))]]):=by show(dec dX (rA d)).map _=_;rw[jg];simp
theorem Wf:dI Tryz.prog 224 Go2:=by
 intro ys φ r h hφ;unfold Go2 at h;split at h
 ·rename_i ra p q s;obtain⟨l,hl,h⟩:=q0.1 h;cases h;obtain⟨d,rfl,rfl⟩:=lT hl;obtain⟨⟨h1,h2⟩,⟨h3,h4⟩,⟨h5,h6⟩,h7⟩:=hφ;obtain⟨a,rfl⟩:∃a:Nat,p=a:=⟨p.toNat,by omega⟩;obtain⟨b,rfl⟩:∃a:Nat,q=a:=⟨q.toNat,by omega⟩;obtain⟨m,rfl⟩:∃a:Nat,s=a:=⟨s.toNat,by omega⟩;rw[q83]at h2 h4 h7;rw[q68,q68,q68,q135];have q1:a<d.size:=by omega
  have q2:b<d.size:=by omega
  have r1:=bB q1;have r2:=bB q2;have w1:IntKind.i64.wrap ((m:Int)+1)=(m:Int)+1:=wrap_i64 (by omega);refine cf (ag oc ah) (by kernel_rfl) (by conv=>lhs;reduce) (by simp) rfl (by simp) ?_;cases hb:ltInt d[b]! d[a]! with
  |true=>
   have hb2:ltInt (gA d b) (gA d a)=true:=hb;have hx:order2 ltInt d a b m=(b,a,m+1):=by unfold order2;rw[hb,if_pos rfl]
   simp(config := { maxSteps := 3000000 }) [q1,q2,r1,r2,hb2,hx,w1]|false=>
   have hb2:ltInt (gA d b) (gA d a)=false:=hb;have hx:order2 ltInt d a b m=(a,b,m):=by unfold order2;rw[hb,if_neg (by simp)]
   simp(config := { maxSteps := 3000000 }) [q1,q2,r1,r2,hb2,hx,w1]
 ·cases h
theorem mQ (d:Array Int) (a b s:Nat):(order2 ltInt d a b s).2.2≤s+1∧(((order2 ltInt d a b s).1=a∧(order2 ltInt d a b s).2.1=b)∨((order2 ltInt d a b s).1=b∧(order2 ltInt d a b s).2.1=a)):=by
 unfold order2;split;·exact⟨q93 _,.inr ⟨rfl,rfl⟩⟩
 ·exact⟨Nat.le_add_right _ _,.inl ⟨rfl,rfl⟩⟩
noncomputable def Qb:List AV→Option (Prop×AV)|[.pv (.ro a),.pv (.int .i64 p),.pv (.int .i64 q),.pv (.int .i64 u),.aO [.bx [.pv (.int .i64 s)]]]=>(dec dX a).map fun l=>((0≤p∧p<(l.length:Int))∧(0≤q∧q<(l.length:Int))∧(0≤u∧u<(l.length:Int))∧(0≤s∧s≤900)∧l.length≤1000000,.bE 0 [.pv (.int .i64 ((median ltInt l.toArray p.toNat q.toNat u.toNat s.toNat).1:Int)),.bx [.pv (.int .i64 ((median ltInt l.toArray p.toNat q.toNat u.toNat s.toNat).2:Int))]])|_=>none
@[simp] theorem Gmed_eq (d:Array Int) (p q u s:Int):Qb [.pv (.ro (rA d)),.pv (.int .i64 p),.pv (.int .i64 q),.pv (.int .i64 u),.aO [.bx [.pv (.int .i64 s)]]]=some ((0≤p∧p<(d.size:Int))∧(0≤q∧q<(d.size:Int))∧(0≤u∧u<(d.size:Int))∧(0≤s∧s≤900)∧d.size≤1000000,.bE 0 [.pv (.int .i64 ((median ltInt d p.toNat q.toNat u.toNat s.toNat).1:Int)),.bx [.pv (.int .i64 ((median ltInt d p.toNat q.toNat u.toNat s.toNat).2:Int))]]):=by show(dec dX (rA d)).map _=_;rw[jg];simp
theorem IE (d:Array Int) (a b c s:Nat):median ltInt d a b c s=((order2 ltInt d (order2 ltInt d a b s).1 (order2 ltInt d (order2 ltInt d a b s).2.1 c (order2 ltInt d a b s).2.2).1 (order2 ltInt d (order2 ltInt d a b s).2.1 c (order2 ltInt d a b s).2.2).2.2).2.1,(order2 ltInt d (order2 ltInt d a b s).1 (order2 ltInt d (order2 ltInt d a b s).2.1 c (order2 ltInt d a b s).2.2).1 (order2 ltInt d (order2 ltInt d a b s).2.1 c (order2 ltInt d a b s).2.2).2.2).2.2):=rfl
theorem J9 (d:Array Int) (a b c s n:Nat) (ha:a<n) (hb:b<n) (hc:c<n):(median ltInt d a b c s).1<n∧(median ltInt d a b c s).2≤s+3:=by rw[IE];have h1:=mQ d a b s;generalize order2 ltInt d a b s=r1 at*;have h2:=mQ d r1.2.1 c r1.2.2;generalize order2 ltInt d r1.2.1 c r1.2.2=r2 at*;have h3:=mQ d r1.1 r2.1 r2.2.2;show(order2 ltInt d r1.1 r2.1 r2.2.2).2.1<n∧(order2 ltInt d r1.1 r2.1 r2.2.2).2.2≤s+3;generalize order2 ltInt d r1.1 r2.1 r2.2.2=r3 at*;omega
theorem Ob:dI Tryz.prog 223 Qb:=by
 intro ys φ r h hφ;unfold Qb at h;split at h
 ·rename_i ra p q u s;obtain⟨l,hl,h⟩:=q0.1 h;cases h;obtain⟨d,rfl,rfl⟩:=lT hl;obtain⟨⟨h1,h2⟩,⟨h3,h4⟩,⟨h8,h9⟩,⟨h5,h6⟩,h7⟩:=hφ;obtain⟨a,rfl⟩:∃a:Nat,p=a:=⟨p.toNat,by omega⟩;obtain⟨b,rfl⟩:∃a:Nat,q=a:=⟨q.toNat,by omega⟩;obtain⟨c,rfl⟩:∃a:Nat,u=a:=⟨u.toNat,by omega⟩;obtain⟨m,rfl⟩:∃a:Nat,s=a:=⟨s.toNat,by omega⟩;rw[q83]at h2 h4 h7 h9;rw[q68,q68,q68,q68,q135];refine cf (bg (ks:=[0,0,0,2]) Wf (by kernel_rfl) ah) (by kernel_rfl) (by conv=>lhs;reduce) (by simp) rfl (by simp) ?_;have e1:=mQ d a b m;generalize hr1:order2 ltInt d a b m=r1 at*;have e2:=mQ d r1.2.1 c r1.2.2;generalize hr2:order2 ltInt d r1.2.1 c r1.2.2=r2 at*;have e3:=mQ d r1.1 r2.1 r2.2.2;have hx:median ltInt d a b c m=((order2 ltInt d r1.1 r2.1 r2.2.2).2.1,(order2 ltInt d r1.1 r2.1 r2.2.2).2.2):=by rw[IE,hr1,hr2]
  generalize hr3:order2 ltInt d r1.1 r2.1 r2.2.2=r3 at*;rw[hx];have n1:a<d.size:=by omega
  have n2:b<d.size:=by omega
  have n3:c<d.size:=by omega
  have n4:r1.1<d.size:=by omega
  have n5:r1.2.1<d.size:=by omega
  have n6:r2.1<d.size:=by omega
  have n7:(m:Int)≤1000:=by omega
  have n8:(r1.2.2:Int)≤1000:=by omega
  have n9:(r2.2.2:Int)≤1000:=by omega
  apply af;·simp(config := { maxSteps := 3000000 });exact⟨rfl,rfl⟩
  apply af;·simp(config := { maxSteps := 3000000 }) [n1,n2,n7,h7,hr1];exact⟨rfl,rfl⟩
  apply af;·simp(config := { maxSteps := 3000000 }) [n3,n5,n8,h7,hr2];exact⟨rfl,rfl⟩
  apply af;·simp(config := { maxSteps := 3000000 }) [n4,n6,n9,h7,hr3];exact⟨rfl,rfl⟩
  simp(config := { maxSteps := 3000000 })
 ·cases h
noncomputable def Pk:List AV→Option (Prop×AV)|[.pv (.ro a),.pv (.int .i64 p),.aO [.bx [.pv (.int .i64 s)]]]=>(dec dX a).map fun l=>((1≤p∧p+1<(l.length:Int))∧(0≤s∧s≤900)∧l.length≤1000000,.bE 0 [.pv (.int .i64 ((medianAdjacent ltInt l.toArray p.toNat s.toNat).1:Int)),.bx [.pv (.int .i64 ((medianAdjacent ltInt l.toArray p.toNat s.toNat).2:Int))]])|_=>none
@[simp] theorem Gadj_eq (d:Array Int) (p s:Int):Pk [.pv (.ro (rA d)),.pv (.int .i64 p),.aO [.bx [.pv (.int .i64 s)]]]=some ((1≤p∧p+1<(d.size:Int))∧(0≤s∧s≤900)∧d.size≤1000000,.bE 0 [.pv (.int .i64 ((medianAdjacent ltInt d p.toNat s.toNat).1:Int)),.bx [.pv (.int .i64 ((medianAdjacent ltInt d p.toNat s.toNat).2:Int))]]):=by show(dec dX (rA d)).map _=_;rw[jg];simp
theorem XM:dI Tryz.prog 222 Pk:=by
 intro ys φ r h hφ;unfold Pk at h;split at h
 ·rename_i ra p s;obtain⟨l,hl,h⟩:=q0.1 h;cases h;obtain⟨d,rfl,rfl⟩:=lT hl;obtain⟨⟨h1,h2⟩,⟨h5,h6⟩,h7⟩:=hφ;obtain⟨a,rfl⟩:∃a:Nat,p=a:=⟨p.toNat,by omega⟩;obtain⟨m,rfl⟩:∃a:Nat,s=a:=⟨s.toNat,by omega⟩;rw[q83]at h2 h7;rw[q68,q68,q135];have w1:IntKind.i64.wrap ((a:Int)-1)=((a-1:Nat):Int):=by rw[wrap_i64 (by omega)];omega
  have w2:IntKind.i64.wrap ((a:Int)+1)=((a+1:Nat):Int):=by rw[wrap_i64 (by omega)];omega
  unfold medianAdjacent;obtain⟨x,hx⟩:∃x,x=a-1:=⟨_,rfl⟩;obtain⟨y,hy⟩:∃y,y=a+1:=⟨_,rfl⟩;rw[←hx]at w1 ⊢;rw[←hy]at w2 ⊢;generalize hR:median ltInt d x a y m=R;have n1:x<d.size:=by omega
  have n2:a<d.size:=by omega
  have n3:y<d.size:=by omega
  have n4:(m:Int)≤900:=by omega
  refine cf (bg (ks:=[0,0,0,0,2]) Ob (by kernel_rfl) ah) (by kernel_rfl) (by conv=>lhs;reduce) (by simp) rfl (by simp) ?_;simp(config := { maxSteps := 3000000 }) [w1,w2,n1,n2,n3,n4,h7,hR]
 ·cases h
def fL:Hint→Int|.unknown=>0|.increasing=>1|.decreasing=>2
theorem yw (d:Array Int) (a s n:Nat) (h1:1≤a) (h2:a+1<n):(medianAdjacent ltInt d a s).1<n∧(medianAdjacent ltInt d a s).2≤s+3:=J9 d _ _ _ s n (by omega) (by omega) h2
theorem EC {d:Array Int}{a b:Nat} (h:¬b-a≥8):choosePivot ltInt d a b=(a+(b-a)/4*2,.increasing):=by unfold choosePivot;simp only[if_neg h];rfl
theorem JZ {d:Array Int}{a b:Nat} (h:b-a≥8) (h2:¬b-a≥50):choosePivot ltInt d a b=((median ltInt d (a+(b-a)/4*1) (a+(b-a)/4*2) (a+(b-a)/4*3) 0).1,if(median ltInt d (a+(b-a)/4*1) (a+(b-a)/4*2) (a+(b-a)/4*3) 0).2=0 then .increasing else if(median ltInt d (a+(b-a)/4*1) (a+(b-a)/4*2) (a+(b-a)/4*3) 0).2=12 then .decreasing else .unknown):=by unfold choosePivot;simp only[if_pos h,if_neg h2]
theorem J6 {d:Array Int}{a b:Nat} (h2:b-a≥50) {ri rj rk m:Nat×Nat} (e1:medianAdjacent ltInt d (a+(b-a)/4*1) 0=ri) (e2:medianAdjacent ltInt d (a+(b-a)/4*2) ri.2=rj) (e3:medianAdjacent ltInt d (a+(b-a)/4*3) rj.2=rk) (e4:median ltInt d ri.1 rj.1 rk.1 rk.2=m):choosePivot ltInt d a b=(m.1,if m.2=0 then .increasing else if m.2=12 then .decreasing else .unknown):=by unfold choosePivot;simp only[if_pos (show b-a≥8 by omega),if_pos h2,e1,e2,e3,e4]
noncomputable def Ot:List AV→Option (Prop×AV)|[.pv (.ro a),.pv (.int .i64 p),.pv (.int .i64 q)]=>(dec dX a).map fun l=>(0≤p∧p≤q∧q≤(l.length:Int)∧l.length≤1000000,.aO [.pv (.int .i64 ((choosePivot ltInt l.toArray p.toNat q.toNat).1:Int)),.pv (.int .i64 (fL (choosePivot ltInt l.toArray p.toNat q.toNat).2))])|_=>none
@[simp] theorem Gchp_eq (d:Array Int) (p q:Int):Ot [.pv (.ro (rA d)),.pv (.int .i64 p),.pv (.int .i64 q)]=some (0≤p∧p≤q∧q≤(d.size:Int)∧d.size≤1000000,.aO [.pv (.int .i64 ((choosePivot ltInt d p.toNat q.toNat).1:Int)),.pv (.int .i64 (fL (choosePivot ltInt d p.toNat q.toNat).2))]):=by show(dec dX (rA d)).map _=_;rw[jg];simp
theorem Wa:aJ Tryz.prog 211 Ot:=by
 intro ys φ r h hφ;unfold Ot at h;split at h
 ·rename_i ra p q;obtain⟨l,hl,h⟩:=q0.1 h;cases h;obtain⟨d,rfl,rfl⟩:=lT hl;obtain⟨h1,h2,h3,h7⟩:=hφ;obtain⟨a,rfl⟩:∃a:Nat,p=a:=⟨p.toNat,by omega⟩;obtain⟨b,rfl⟩:∃a:Nat,q=a:=⟨q.toNat,by omega⟩;rw[q83]at h3 h7;rw[q68,q68,q135];obtain⟨n,hn⟩:∃n,n=b-a:=⟨_,rfl⟩;obtain⟨f,hf⟩:∃f,f=n/4:=⟨_,rfl⟩;obtain⟨i,hi⟩:∃i,i=a+f*1:=⟨_,rfl⟩;obtain⟨j,hj⟩:∃j,j=a+f*2:=⟨_,rfl⟩;obtain⟨k,hk⟩:∃k,k=a+f*3:=⟨_,rfl⟩;have w0:IntKind.i64.wrap ((b:Int)-(a:Int))=(n:Int):=by rw[wrap_i64 (by omega)];omega
  have w1:(n:Int).tdiv 4=(f:Int):=by rw[q146 (by omega)];omega
  have w2:IntKind.i64.wrap (f:Int)=(f:Int):=wrap_i64 (by omega);have w3:IntKind.i64.wrap ((f:Int)*2)=(f:Int)*2:=wrap_i64 (by omega);have w4:IntKind.i64.wrap ((f:Int)*3)=(f:Int)*3:=wrap_i64 (by omega);have w5:IntKind.i64.wrap ((a:Int)+(f:Int))=(i:Int):=by rw[wrap_i64 (by omega)];omega
  have w6:IntKind.i64.wrap ((a:Int)+(f:Int)*2)=(j:Int):=by rw[wrap_i64 (by omega)];omega
  have w7:IntKind.i64.wrap ((a:Int)+(f:Int)*3)=(k:Int):=by rw[wrap_i64 (by omega)];omega
  refine ak (bg (ks:=[0,0,2]) XM (by kernel_rfl) (bg (ks:=[0,0,0,0,2]) Ob (by kernel_rfl) ah)) (by kernel_rfl) (by conv=>lhs;reduce) (by simp) ?_;generalize hC:choosePivot ltInt d a b=C;apply af;·simp(config := { maxSteps := 3000000 });exact⟨rfl,rfl⟩
  apply af;·simp(config := { maxSteps := 3000000 }) [w0];exact⟨rfl,rfl⟩
  apply af;·simp(config := { maxSteps := 3000000 });exact⟨rfl,rfl⟩
  apply af;·simp(config := { maxSteps := 3000000 }) [w1,w2,w5];exact⟨rfl,rfl⟩
  apply af;·simp(config := { maxSteps := 3000000 }) [w1,w2,w3,w6];exact⟨rfl,rfl⟩
  apply af;·simp(config := { maxSteps := 3000000 }) [w1,w2,w4,w7];exact⟨rfl,rfl⟩
  by_cases g8:n≥8
  ·have c8:(8:Int)≤(n:Int):=by omega
   by_cases g50:n≥50
   ·have c50:(50:Int)≤(n:Int):=by omega
    obtain⟨ri,e1⟩:∃ri,medianAdjacent ltInt d i 0=ri:=⟨_,rfl⟩;obtain⟨rj,e2⟩:∃rj,medianAdjacent ltInt d j ri.2=rj:=⟨_,rfl⟩;obtain⟨rk,e3⟩:∃rk,medianAdjacent ltInt d k rj.2=rk:=⟨_,rfl⟩;obtain⟨m,e4⟩:∃m,median ltInt d ri.1 rj.1 rk.1 rk.2=m:=⟨_,rfl⟩;have m1:=yw d i 0 d.size (by omega) (by omega);have m2:=yw d j ri.2 d.size (by omega) (by omega);have m3:=yw d k rj.2 d.size (by omega) (by omega);rw[e1]at m1;rw[e2]at m2;rw[e3]at m3;have hx:=J6 (d:=d) (a:=a) (b:=b) (by omega) (ri:=ri) (rj:=rj) (rk:=rk) (m:=m) (by rw[←hn,←hf,←hi,e1]) (by rw[←hn,←hf,←hj,e2]) (by rw[←hn,←hf,←hk,e3]) e4;rw[hC]at hx;have p1:(1:Int)≤(i:Int)∧(i:Int)+1<(d.size:Int):=by omega
    have p2:(1:Int)≤(j:Int)∧(j:Int)+1<(d.size:Int):=by omega
    have p3:(1:Int)≤(k:Int)∧(k:Int)+1<(d.size:Int):=by omega
    have s1:(ri.2:Int)≤900:=by omega
    have s2:(rj.2:Int)≤900:=by omega
    have s3:(rk.2:Int)≤900:=by omega
    have t1:ri.1<d.size:=m1.1;have t2:rj.1<d.size:=m2.1;have t3:rk.1<d.size:=m3.1;apply af
    ·apply af;·simp(config := { maxSteps := 3000000 }) [c8];exact⟨rfl,rfl⟩
     apply bJ rfl;apply af
     ·apply af;·simp(config := { maxSteps := 3000000 }) [c50];exact⟨rfl,rfl⟩
      apply bJ rfl;apply af;·simp(config := { maxSteps := 3000000 }) [p1,h7,e1];exact⟨rfl,rfl⟩
      apply af;·simp(config := { maxSteps := 3000000 }) [p2,s1,h7,e2];exact⟨rfl,rfl⟩
      simp(config := { maxSteps := 3000000 }) [p3,s2,h7,e3];exact⟨rfl,rfl⟩
     simp(config := { maxSteps := 3000000 }) [t1,t2,t3,s3,h7,e4];exact⟨rfl,rfl⟩
    by_cases z0:m.2=0
    ·rw[if_pos z0]at hx;subst hx;have y0:(m.2:Int)=0:=by omega
     simp(config := { maxSteps := 3000000 }) [y0,fL]
    ·rw[if_neg z0]at hx;have y0:¬(m.2:Int)=0:=by omega
     by_cases z1:m.2=12
     ·rw[if_pos z1]at hx;subst hx;have y1:(m.2:Int)=12:=by omega
      simp(config := { maxSteps := 3000000 }) [z0,y0,y1,fL]
     ·rw[if_neg z1]at hx;subst hx;have y1:¬(m.2:Int)=12:=by omega
      simp(config := { maxSteps := 3000000 }) [z0,z1,y0,y1,fL]
   ·have c50:¬(50:Int)≤(n:Int):=by omega
    have hx:=JZ (d:=d) (a:=a) (b:=b) (by omega) (by omega);rw[←hn,←hf,←hi,←hj,←hk,hC]at hx;obtain⟨m,e4⟩:∃m,median ltInt d i j k 0=m:=⟨_,rfl⟩;rw[e4]at hx;have t1:i<d.size:=by omega
    have t2:j<d.size:=by omega
    have t3:k<d.size:=by omega
    apply af
    ·apply af;·simp(config := { maxSteps := 3000000 }) [c8];exact⟨rfl,rfl⟩
     apply bJ rfl;apply af;·simp(config := { maxSteps := 3000000 }) [c50];exact⟨rfl,rfl⟩
     simp(config := { maxSteps := 3000000 }) [t1,t2,t3,h7,e4];exact⟨rfl,rfl⟩
    by_cases z0:m.2=0
    ·rw[if_pos z0]at hx;subst hx;have y0:(m.2:Int)=0:=by omega
     simp(config := { maxSteps := 3000000 }) [y0,fL]
    ·rw[if_neg z0]at hx;have y0:¬(m.2:Int)=0:=by omega
     by_cases z1:m.2=12
     ·rw[if_pos z1]at hx;subst hx;have y1:(m.2:Int)=12:=by omega
      simp(config := { maxSteps := 3000000 }) [z0,y0,y1,fL]
     ·rw[if_neg z1]at hx;subst hx;have y1:¬(m.2:Int)=12:=by omega
      simp(config := { maxSteps := 3000000 }) [z0,z1,y0,y1,fL]
  ·have c8:¬(8:Int)≤(n:Int):=by omega
   have hx:=EC (d:=d) (a:=a) (b:=b) (by omega);rw[←hn,←hf,←hj,hC]at hx;subst hx;simp(config := { maxSteps := 3000000 }) [c8,fL]
 ·cases h
def GZ:List UInt8:=0::1::(List.replicate 2 2++(List.replicate 4 3++(List.replicate 8 4++(List.replicate 16 5++(List.replicate 32 6++(List.replicate 64 7++List.replicate 128 8))))))
theorem Ku:∀n:Nat,n<256→1≤n→1<<<bitsLen n≤2*n:=by decide+kernel
@[simp] noncomputable def Ld:List AV→Option (Prop×AV)|[.pv (.int .u64 n)]=>some (0≤n∧n<256,.pv (.int .i64 (bitsLen n.toNat:Int)))|_=>none
theorem nd:∀n:Nat,n<256→GZ[n]?=some (bitsLen n).toUInt8∧bitsLen n≤8:=by decide+kernel
theorem Lg:aJ Tryz.prog 218 Ld:=by
 intro ys φ r h hφ;unfold Ld at h;split at h
 ·rename_i x;cases h;obtain⟨h1,h2⟩:=hφ;obtain⟨n,rfl⟩:∃n:Nat,x=n:=⟨x.toNat,by omega⟩;rw[q68];obtain⟨e1,e2⟩:=nd n (by omega);have w1:IntKind.u8.wrap (n:Int)=(n:Int):=by rw[wrap_u8];omega
  have c1:¬(4294967296:Int)≤(n:Int):=by omega
  have c2:¬(65536:Int)≤(n:Int):=by omega
  have c3:¬(256:Int)≤(n:Int):=by omega
  refine ak ah (by kernel_rfl) (by conv=>lhs;reduce) (by simp) ?_;apply af;·simp(config := { maxSteps := 3000000 });exact⟨rfl,rfl⟩
  apply af;·simp(config := { maxSteps := 3000000 }) [c1];exact⟨rfl,rfl⟩
  apply af;·simp(config := { maxSteps := 3000000 }) [c2];exact⟨rfl,rfl⟩
  apply af;·simp(config := { maxSteps := 3000000 }) [c3];exact⟨rfl,rfl⟩
  simp(config := { maxSteps := 3000000 }) [w1];refine⟨by omega,?_⟩;show IntKind.i64.wrap (IntKind.i64.wrap ((GZ[n]?.getD 0).toNat:Int))=_;rw[e1];have e3:((bitsLen n).toUInt8.toNat:Int)=(bitsLen n:Int):=by rw[show(bitsLen n).toUInt8.toNat=bitsLen n%256 from rfl,q115 (by omega)]
  show IntKind.i64.wrap (IntKind.i64.wrap ((bitsLen n).toUInt8.toNat:Int))=_;have e4:IntKind.i64.wrap (bitsLen n:Int)=(bitsLen n:Int):=wrap_i64 (by omega);rw[e3,e4,e4]
 ·cases h
theorem MI:aJ Tryz.prog 207 Ld:=by
 intro ys φ r h hφ;unfold Ld at h;split at h;·rename_i x;cases h;refine ak (ag Lg ah) (by kernel_rfl) (by conv=>lhs;reduce) (by simp) ?_;simp(config := { maxSteps := 3000000 }) [hφ]
 ·cases h
theorem yJ (a b:UInt64):gl .xor .u64 (a.toNat:Int) (b.toNat:Int)=.int .u64 ((a^^^b).toNat:Int):=by
 have h1:(BitVec.ofInt 64 (a.toNat:Int)).toNat=a.toNat:=by rw[q200,q206,q115 a.toNat_lt]
 have h2:(BitVec.ofInt 64 (b.toNat:Int)).toNat=b.toNat:=by rw[q200,q206,q115 b.toNat_lt]
 unfold gl;have h4:(BitVec.ofInt IntKind.u64.bits (a.toNat:Int)^^^BitVec.ofInt IntKind.u64.bits (b.toNat:Int)).toNat=(a^^^b).toNat:=by show(BitVec.ofInt 64 (a.toNat:Int)^^^BitVec.ofInt 64 (b.toNat:Int)).toNat=_;rw[q280,h1,h2,UInt64.toNat_xor]
 simp only[h4];refine congrArg _ ?_;exact wrap_u64 (by have:=(a^^^b).toNat_lt;omega)
theorem KI (a b:UInt64):gl .and .u64 (a.toNat:Int) (b.toNat:Int)=.int .u64 ((a.toNat&&&b.toNat:Nat):Int):=by
 have h1:(BitVec.ofInt 64 (a.toNat:Int)).toNat=a.toNat:=by rw[q200,q206,q115 a.toNat_lt]
 have h2:(BitVec.ofInt 64 (b.toNat:Int)).toNat=b.toNat:=by rw[q200,q206,q115 b.toNat_lt]
 unfold gl;have h4:(BitVec.ofInt IntKind.u64.bits (a.toNat:Int)&&&BitVec.ofInt IntKind.u64.bits (b.toNat:Int)).toNat=a.toNat&&&b.toNat:=by show(BitVec.ofInt 64 (a.toNat:Int)&&&BitVec.ofInt 64 (b.toNat:Int)).toNat=_;rw[BitVec.toNat_and,h1,h2]
 simp only[h4];refine congrArg _ ?_;exact wrap_u64 (by have:=(a&&&b).toNat_lt;rw[UInt64.toNat_and]at this;omega)
theorem xP (n:Nat):IntKind.u64.wrap (n:Int)=((n%2^64:Nat):Int):=by simp only[IntKind.wrap,IntKind.bits,IntKind.signed];simp
theorem DR (a:UInt64) (k:UInt64) (h:k.toNat<64):IntKind.u64.wrap ((a.toNat:Int)*2^k.toNat)=((a<<<k).toNat:Int):=by rw[show(a.toNat:Int)*2^k.toNat=((a.toNat*2^k.toNat:Nat):Int) by simp,xP,UInt64.toNat_shiftLeft,q115 h,q281]
theorem J4 (a:UInt64) (k:UInt64) (h:k.toNat<64):(a.toNat:Int).fdiv (2^k.toNat)=((a>>>k).toNat:Int):=by rw[UInt64.toNat_shiftRight,q115 h,Nat.shiftRight_eq_div_pow,show((2:Int)^k.toNat)=((2^k.toNat:Nat):Int) by simp];rw[Int.natCast_ediv];exact q139 _ (q261 _)
@[simp] noncomputable def Gxor:List AV→Option (Prop×AV)|[.aO [.bx [.pv (.int .u64 n)]]]=>some (0≤n∧n<18446744073709551616,.bE 0 [.pv (.int .u64 ((xorNext (UInt64.ofNat n.toNat)).toNat:Int)),.bx [.pv (.int .u64 ((xorNext (UInt64.ofNat n.toNat)).toNat:Int))]])|_=>none
theorem c_xor:dI Tryz.prog 221 Gxor:=by
 intro ys φ r h hφ;unfold Gxor at h;split at h
 ·rename_i x;cases h;obtain⟨h1,h2⟩:=hφ;obtain⟨a,rfl⟩:∃a:UInt64,x=a.toNat:=⟨UInt64.ofNat x.toNat,by rw[q255];omega⟩;rw[q68,UInt64.ofNat_toNat];obtain⟨b1,hb1⟩:∃b1,b1=a<<<13:=⟨_,rfl⟩;obtain⟨c1,hc1⟩:∃c1,c1=a^^^b1:=⟨_,rfl⟩;obtain⟨b2,hb2⟩:∃b2,b2=c1>>>7:=⟨_,rfl⟩;obtain⟨c2,hc2⟩:∃c2,c2=c1^^^b2:=⟨_,rfl⟩;obtain⟨b3,hb3⟩:∃b3,b3=c2<<<17:=⟨_,rfl⟩;obtain⟨c3,hc3⟩:∃c3,c3=c2^^^b3:=⟨_,rfl⟩;have s1:IntKind.u64.wrap ((a.toNat:Int)*2^min 13 IntKind.u64.bits)=(b1.toNat:Int):=by rw[hb1];exact DR a 13 (by decide)
  have s2:(c1.toNat:Int).fdiv (2^min 7 IntKind.u64.bits)=(b2.toNat:Int):=by rw[hb2];exact J4 c1 7 (by decide)
  have s3:IntKind.u64.wrap ((c2.toNat:Int)*2^min 17 IntKind.u64.bits)=(b3.toNat:Int):=by rw[hb3];exact DR c2 17 (by decide)
  have x1:=yJ a b1;have x2:=yJ c1 b2;have x3:=yJ c2 b3;rw[←hc1]at x1;rw[←hc2]at x2;rw[←hc3]at x3;have hx:xorNext a=c3:=by rw[hc3,hb3,hc2,hb2,hc1,hb1];rfl
  rw[hx];refine cf ah (by kernel_rfl) (by conv=>lhs;reduce) (by simp) rfl (by simp) ?_;apply af;·simp(config := { maxSteps := 3000000 });exact⟨rfl,rfl⟩
  apply af;·simp(config := { maxSteps := 3000000 }) [s1,x1];exact⟨rfl,rfl⟩
  apply af;·simp(config := { maxSteps := 3000000 }) [s2,x2];exact⟨rfl,rfl⟩
  apply af;·simp(config := { maxSteps := 3000000 }) [s3,x3];exact⟨rfl,rfl⟩
  simp(config := { maxSteps := 3000000 })
 ·cases h
@[simp] noncomputable def Yp:List AV→Option (Prop×AV)|[.pv (.int .i64 n)]=>some (0≤n∧n<256,.pv (.int .u64 ((1<<<bitsLen n.toNat:Nat):Int)))|_=>none
theorem ZV:aJ Tryz.prog 220 Yp:=by
 intro ys φ r h hφ;unfold Yp at h;split at h
 ·rename_i x;cases h;obtain⟨h1,h2⟩:=hφ;obtain⟨n,rfl⟩:∃n:Nat,x=n:=⟨x.toNat,by omega⟩;rw[q68];have e2:=(nd n (by omega)).2;have w1:IntKind.u64.wrap (n:Int)=(n:Int):=wrap_u64 (by omega);have h3:n<256:=by omega
  obtain⟨m,hm⟩:∃m,m=bitsLen n:=⟨_,rfl⟩;rw[←hm]at e2 ⊢;have hp:1<<<m=2^m:=by rw[q281,q292]
  have hle:2^m≤2^8:=q245 (by omega) e2;have w2:IntKind.u64.wrap (2^min m IntKind.u64.bits)=((1<<<m:Nat):Int):=by rw[show min m IntKind.u64.bits=m from q120 (by show m≤64;omega),hp,show((2:Int)^m)=((2^m:Nat):Int) by simp];exact wrap_u64 ⟨q261 _,Int.le_trans (Int.ofNat_le.2 hle) (by decide)⟩
  generalize 1<<<m=M at*;refine ak (ag MI ah) (by kernel_rfl) (by conv=>lhs;reduce) (by simp) ?_;simp(config := { maxSteps := 3000000 }) [w1,h3,←hm,w2];exact h2
 ·cases h
theorem Ih (a n m:Nat) (st:UInt64×Array Int) (idx:Nat):(breakStep a n m st idx).2.size=st.2.size:=by unfold breakStep;exact size_swp _ _ _
noncomputable def DA (F:Array Int→Nat→Nat→Array Int):List AV→Option (Prop×AV)|[.aO [.fr e a],.pv (.int .i64 p),.pv (.int .i64 q)]=>if e=22 then(dec dX a).map fun l=>(0≤p∧p≤q∧q≤(l.length:Int)∧l.length≤200,.bE 0 [.aO [],.fr 22 (rA (F l.toArray p.toNat q.toNat))]) else none|_=>none
@[simp] theorem Z5 (F:Array Int→Nat→Nat→Array Int) (e:TypeId) (d:Array Int) (p q:Int):DA F [.aO [.fr e (rA d)],.pv (.int .i64 p),.pv (.int .i64 q)]=if e=22 then some (0≤p∧p≤q∧q≤(d.size:Int)∧d.size≤200,.bE 0 [.aO [],.fr 22 (rA (F d p.toNat q.toNat))]) else none:=by show(if e=22 then(dec dX (rA d)).map _ else none)=_;rw[jg];simp
theorem EJ  (h:DA F ys=some (φ,r)):∃(d:Array Int) (p q:Int),ys=[.aO [.fr 22 (rA d)],.pv (.int .i64 p),.pv (.int .i64 q)]∧φ=(0≤p∧p≤q∧q≤(d.size:Int)∧d.size≤200)∧r=.bE 0 [.aO [],.fr 22 (rA (F d p.toNat q.toNat))]:=by
 unfold DA at h;split at h
 ·split at h;·rename_i e;subst e;obtain⟨l,hl,h⟩:=q0.1 h;cases h;cases dM hl;exact⟨l.toArray,_,_,by rw[Am],by simp,rfl⟩
  ·cases h
 ·cases h
theorem c_brk:dI Tryz.prog 210 (DA breakPatterns):=by
 intro ys φ r h hφ;obtain⟨d,p,q,rfl,rfl,rfl⟩:=EJ h;obtain⟨h1,h2,h3,h4⟩:=hφ;obtain⟨a,rfl⟩:∃a:Nat,p=a:=⟨p.toNat,by omega⟩;obtain⟨b,rfl⟩:∃b:Nat,q=b:=⟨q.toNat,by omega⟩;rw[q68,q68];obtain⟨n,hn⟩:∃n,n=b-a:=⟨_,rfl⟩;have w0:IntKind.i64.wrap ((b:Int)-(a:Int))=(n:Int):=by rw[wrap_i64 (by omega)];omega
 refine cf (ag ZV (bg (ks:=[2]) c_xor (by kernel_rfl) ah)) (by kernel_rfl) (by conv=>lhs;reduce) (by simp) rfl (by simp) ?_;generalize hW:breakPatterns d a b=W;unfold breakPatterns at hW;rw[←hn]at hW;apply af;·simp(config := { maxSteps := 3000000 }) [w0];exact⟨rfl,rfl⟩
 by_cases h8:n≥8
 ·have c8:(8:Int)≤(n:Int):=by omega
  simp only[if_pos h8]at hW;obtain⟨f,hf⟩:∃f,f=n/4:=⟨_,rfl⟩;obtain⟨ix,hix⟩:∃ix,ix=a+f*2-1:=⟨_,rfl⟩;obtain⟨M,hM⟩:∃M,M=1<<<bitsLen n:=⟨_,rfl⟩;rw[←hf,←hix,←hM]at hW;have h2b:=(nd n (by omega)).2;have hMp:1≤M∧M≤256:=by
   have hp:M=2^bitsLen n:=by rw[hM,q281,q292]
   have hle:2^bitsLen n≤2^8:=q245 (by omega) h2b;have:0<2^bitsLen n:=Nat.pow_pos (by omega);omega
  have v1:(n:Int).tdiv 4=(f:Int):=by rw[q146 (by omega)];omega
  have v2:IntKind.i64.wrap (f:Int)=(f:Int):=wrap_i64 (by omega);have v3:IntKind.i64.wrap ((f:Int)*2)=(f:Int)*2:=wrap_i64 (by omega);obtain⟨y,hy⟩:∃y,y=a+f*2:=⟨_,rfl⟩;have v4:IntKind.i64.wrap ((a:Int)+(f:Int)*2)=(y:Int):=by rw[wrap_i64 (by omega)];omega
  have v5:IntKind.i64.wrap ((y:Int)-1)=(ix:Int):=by rw[wrap_i64 (by omega)];omega
  have v6:IntKind.i64.wrap ((y:Int)+1)=(y:Int)+1:=wrap_i64 (by omega);have v7:IntKind.u64.wrap (n:Int)=(n:Int):=wrap_u64 (by omega);have v8:(n:Int)<256:=by omega
  obtain⟨r0,hr0⟩:∃r0,r0=UInt64.ofNat n:=⟨_,rfl⟩;have hr1:(r0.toNat:Int)=(n:Int):=by rw[hr0,q255,q115 (by omega)]
  rw[←hr0]at hW;obtain⟨st,hst⟩:∃st:Nat→UInt64×Array Int,(st 0=(r0,d))∧∀t,st (t+1)=breakStep a n M (st t) (ix+t):=⟨Nat.rec (r0,d) fun t s=>breakStep a n M s (ix+t),rfl,fun _=>rfl⟩;have hW3:(st 3).2=W:=by rw[hst.2 2,hst.2 1,hst.2 0,hst.1];exact hW
  have hsz:∀t,(st t).2.size=d.size:=by intro t;induction t with|zero=>rw[hst.1]|succ t ih=>rw[hst.2,Ih,ih]
  apply af;·simp(config := { maxSteps := 3000000 }) [c8];exact⟨rfl,rfl⟩
  apply bJ rfl;apply af;·simp(config := { maxSteps := 3000000 }) [v7];exact⟨rfl,rfl⟩
  apply af;·simp(config := { maxSteps := 3000000 }) [v8,←hM];exact⟨rfl,rfl⟩
  apply af;·simp(config := { maxSteps := 3000000 }) [v1,v2,v3,v4,v5];exact⟨rfl,rfl⟩
  rw[aW];refine aj (fun t:Nat=>t≤3) (fun t=>⟨[(0,.own 999),(1,.pv (.int .i64 (a:Int))),(6,.pv (.int .i64 (n:Int))),(7,.ptr 7 0),(8,.pv (.int .u64 (M:Int))),(9,.pv (.int .i64 ((ix:Int)+(t:Int))))],[(999,.arr 22 (rA (st t).2)),(7,.box [.pv (.int .u64 ((st t).1.toNat:Int))])]⟩) (fun t=>3-t) [] 0 (by omega) ?_ ?_;·simp[hst.1,hr1]
  ·intro t ht;have hD:=hsz t;have hs:=hst.2 t;have hM2:M≤2*n:=by rw[hM];exact Ku n (by omega) (by omega)
   rcases hq:st t with⟨r,D⟩;rw[hq]at hD hs;have hD:D.size=d.size:=hD;rw[jt];dsimp only;by_cases ht3:t<3
   ·obtain⟨i,hi⟩:∃i,i=ix+t:=⟨_,rfl⟩;obtain⟨r',hr'⟩:∃r',r'=xorNext r:=⟨_,rfl⟩;obtain⟨o,ho⟩:∃o,o=r'.toNat&&&(M-1):=⟨_,rfl⟩;obtain⟨o2,ho2⟩:∃o2,o2=if o≥n then o-n else o:=⟨_,rfl⟩;have hs:st (t+1)=(r',swp D i (a+o2)):=by rw[hs,ho2,ho,hr',hi];rfl
    have ole:o≤M-1:=by rw[ho];exact Nat.and_le_right
    have o2lt:o2<n:=by rw[ho2];split<;>omega
    obtain⟨c,hc⟩:∃c,c=a+o2:=⟨_,rfl⟩;rw[←hc]at hs;have z1:(ix:Int)+(t:Int)=(i:Int):=by omega
    have z2:(i:Int)≤(y:Int)+1:=by omega
    have z3:(r.toNat:Int)<18446744073709551616:=by have:=r.toNat_lt;omega
    have z4:IntKind.u64.wrap ((M:Int)-1)=(M:Int)-1:=wrap_u64 (by omega);have z5:gl .and .u64 (r'.toNat:Int) ((M:Int)-1)=.int .u64 (o:Int):=by have:=KI r' (UInt64.ofNat (M-1));rw[q255,q115 (by omega:M-1<2^64)]at this;rw[show(M:Int)-1=((M-1:Nat):Int) by omega,this,ho]
    have z6:IntKind.i64.wrap (o:Int)=(o:Int):=wrap_i64 (by omega);have z7:IntKind.i64.wrap ((i:Int)+1)=(i:Int)+1:=wrap_i64 (by omega);have z8:IntKind.i64.wrap ((a:Int)+(o2:Int))=(c:Int):=by rw[wrap_i64 (by omega)];omega
    have q1:i<D.size:=by omega
    have q2:c<D.size:=by omega
    have r1:=bB q1;have r2:=bB q2;have r3:=bB (d:=D.setIfInBounds i (gA D c)) (i:=c) (by rw[q102];omega);apply af;·simp(config := { maxSteps := 3000000 }) [v1,v2,v3,v4,v6,z1,z2];exact⟨rfl,rfl⟩
    rw[aL];rw[aW];apply af;·simp(config := { maxSteps := 3000000 }) [z3,←hr',z4,z5,z6,z1];exact⟨rfl,rfl⟩
    by_cases hon:o≥n
    ·rw[if_pos hon]at ho2;have k1:(n:Int)≤(o:Int):=by omega
     have k2:IntKind.i64.wrap ((o:Int)-(n:Int))=(o2:Int):=by rw[wrap_i64 (by omega)];omega
     apply af;·simp(config := { maxSteps := 3000000 }) [k1,k2];exact⟨rfl,rfl⟩
     simp(config := { maxSteps := 3000000 }) [z8,z7,q1,q2,r1,r2,r3];exact⟨t+1,by omega,⟨by omega,by rw[hs];rfl,by rw[hs]⟩,by omega⟩
    ·rw[if_neg hon]at ho2;subst ho2;have k1:¬(n:Int)≤(o2:Int):=by omega
     apply af;·simp(config := { maxSteps := 3000000 }) [k1];exact⟨rfl,rfl⟩
     simp(config := { maxSteps := 3000000 }) [z8,z7,q1,q2,r1,r2,r3];exact⟨t+1,by omega,⟨by omega,by rw[hs];rfl,by rw[hs]⟩,by omega⟩
   ·have:t=3:=by omega
    subst this;have z1:¬(ix:Int)+3≤(y:Int)+1:=by omega
    rw[hq]at hW3;have hW3:D=W:=hW3;subst hW3;simp(config := { maxSteps := 3000000 }) [v1,v2,v3,v4,v6,z1]
 ·have c8:¬(8:Int)≤(n:Int):=by omega
  simp only[if_neg h8]at hW;subst hW;simp(config := { maxSteps := 3000000 }) [c8]
noncomputable def Qm:List AV→Option (Prop×AV)|[.aO [.fr e a],.pv (.int .i64 p),.pv (.int .i64 q),.pv (.int .i64 v)]=>if e=22 then(dec dX a).map fun l=>((0≤p∧p≤v)∧v<q∧q≤(l.length:Int)∧l.length≤1000000,.bE 0 [.pv (.int .i64 ((partitionEqual ltInt l.toArray p.toNat q.toNat v.toNat).1:Int)),.fr 22 (rA (partitionEqual ltInt l.toArray p.toNat q.toNat v.toNat).2)]) else none|_=>none
@[simp] theorem Gpeq_eq (e:TypeId) (d:Array Int) (p q v:Int):Qm [.aO [.fr e (rA d)],.pv (.int .i64 p),.pv (.int .i64 q),.pv (.int .i64 v)]=if e=22 then some ((0≤p∧p≤v)∧v<q∧q≤(d.size:Int)∧d.size≤1000000,.bE 0 [.pv (.int .i64 ((partitionEqual ltInt d p.toNat q.toNat v.toNat).1:Int)),.fr 22 (rA (partitionEqual ltInt d p.toNat q.toNat v.toNat).2)]) else none:=by show(if e=22 then(dec dX (rA d)).map _ else none)=_;rw[jg];simp
theorem YY:dI Tryz.prog 215 Qm:=by
 intro ys φ r h hφ;unfold Qm at h;split at h
 ·rename_i e ra p q v;split at h
  ·rename_i he;subst he;obtain⟨l,hl,h⟩:=q0.1 h;cases h;obtain⟨d,rfl,rfl⟩:=lT hl;obtain⟨⟨h1,h2⟩,h3,h4,h5⟩:=hφ;rw[q83]at h4 h5;obtain⟨a,rfl⟩:∃a:Nat,p=a:=⟨p.toNat,by omega⟩;obtain⟨b,rfl⟩:∃a:Nat,q=a:=⟨q.toNat,by omega⟩;obtain⟨c,rfl⟩:∃a:Nat,v=a:=⟨v.toNat,by omega⟩;rw[q68,q68,q68,q135];refine cf (ag oc ah) (by kernel_rfl) (by conv=>lhs;reduce) (by simp) rfl (by simp) ?_;unfold partitionEqual;generalize hW:partEqLoop ltInt a (a+1) (b-1) (swp d a c)=W;have q1:a<d.size:=by omega
   have q2:c<d.size:=by omega
   have r1:=bB q1;have r2:=bB q2;have r3:=bB (d:=d.setIfInBounds a (gA d c)) (i:=c) (by rw[q102];omega);obtain⟨i0,hi0⟩:∃i0,i0=a+1:=⟨_,rfl⟩;obtain⟨j0,hj0⟩:∃j0,j0=b-1:=⟨_,rfl⟩;have w1:IntKind.i64.wrap ((a:Int)+1)=(i0:Int):=by rw[wrap_i64 (by omega)];omega
   have w2:IntKind.i64.wrap ((b:Int)-1)=(j0:Int):=by rw[wrap_i64 (by omega)];omega
   rw[←hi0,←hj0]at hW;apply af;·simp(config := { maxSteps := 3000000 });exact⟨rfl,rfl⟩
   apply af;·simp(config := { maxSteps := 3000000 }) [q1,q2,r1,r2,r3];exact⟨rfl,rfl⟩
   rw[show(d.setIfInBounds a (gA d c)).setIfInBounds c (gA d a)=swp d a c from rfl];apply af;·simp(config := { maxSteps := 3000000 }) [w1,w2];exact⟨rfl,rfl⟩
   rw[aL]
   ·rw[aW];refine aj (fun x:(Nat×Nat)×Array Int=>(a<x.1.1∧x.1.1≤x.1.2+1)∧x.1.2<b∧x.2.size=d.size∧partEqLoop ltInt a x.1.1 x.1.2 x.2=W) (fun x=>⟨[(0,.own 999),(1,.pv (.int .i64 (a:Int))),(9,.pv (.int .i64 (x.1.1:Int))),(10,.pv (.int .i64 (x.1.2:Int)))],[(999,.arr 22 (rA x.2))]⟩) (fun x=>x.1.2) [] ((i0,j0),swp d a c) ⟨⟨by show a<i0;omega,by show i0≤j0+1;omega⟩,by show j0<b;omega,size_swp _ _ _,hW⟩ ?_ ?_;·simp
    ·rintro⟨⟨i,j⟩,D⟩ ⟨⟨g1,g2⟩,g3,g4,g5⟩;have g1:a<i:=g1;have g2:i≤j+1:=g2;have g3:j<b:=g3;have g4:D.size=d.size:=g4;have g5:partEqLoop ltInt a i j D=W:=g5;have qa:a<D.size:=by omega
     have ra:=bB qa;obtain⟨pU,hpU⟩:∃pU:Int→Bool,pU=fun x=>!ltInt D[a]! x:=⟨_,rfl⟩;obtain⟨pD,hpD⟩:∃pD:Int→Bool,pD=fun x=>ltInt D[a]! x:=⟨_,rfl⟩;obtain⟨i2,hi2⟩:∃i2,i2=scanUp pU D j i:=⟨_,rfl⟩;obtain⟨j2,hj2⟩:∃j2,j2=scanDown pD D i2 j:=⟨_,rfl⟩;have u1:=scanUp_spec pU D j _ i rfl;rw[←hi2]at u1;have u2:=scanDown_spec pD D i2 j;rw[←hj2]at u2;have u3:i≤i2∧i2≤j+1:=⟨u1.1,u1.2.1 g2⟩;have u4:j2≤j∧i2≤j2+1:=⟨u2.1,u2.2.1 u3.2⟩;rw[jt];dsimp only;rw[aW];apply af
     ·rw[aW];refine aj (fun s:Nat=>i≤s∧s≤j+1∧scanUp pU D j s=i2) (fun s=>⟨[(0,.own 999),(1,.pv (.int .i64 (a:Int))),(9,.pv (.int .i64 (s:Int))),(10,.pv (.int .i64 (j:Int)))],[(999,.arr 22 (rA D))]⟩) (fun s=>j+1-s) [] i (by refine⟨?_,?_,?_⟩<;>first|omega|exact hi2.symm) ?_ ?_;·simp
      ·rintro s ⟨l1,l2,l3⟩;by_cases hc:s≤j
       ·have ws:IntKind.i64.wrap ((s:Int)+1)=((s+1:Nat):Int):=by rw[wrap_i64 (by omega)];omega
        have c1:(s:Int)≤(j:Int):=by omega
        have q1:s<D.size:=by omega
        have r1:=bB q1;cases hb:(!ltInt (gA D a) (gA D s)) with|true=>have e:=scanUp_go pU D j s hc (by rw[hpU];exact hb);rw[e]at l3;obtain⟨s',hs'⟩:∃s',s'=s+1:=⟨_,rfl⟩;rw[←hs']at ws l3;simp(config := { maxSteps := 3000000 }) [c1,q1,qa,r1,ra,hb,ws];exact⟨s',⟨by omega,by omega,l3⟩,rfl,by omega⟩|false=>have e:=scanUp_end pU D j s (.inr (by rw[hpU];exact hb));rw[e]at l3;subst l3;simp(config := { maxSteps := 3000000 }) [c1,q1,qa,r1,ra,hb];try exact⟨rfl,rfl⟩
       ·have c1:¬(s:Int)≤(j:Int):=by omega
        have e:=scanUp_end pU D j s (.inl hc);rw[e]at l3;subst l3;rcases q137 s D.size with q1|q1;·have r1:=bB q1;simp(config := { maxSteps := 3000000 }) [c1,q1,qa,r1,ra];try exact⟨rfl,rfl⟩
        ·have r1:=mw q1;simp(config := { maxSteps := 3000000 }) [c1,qa,r1,ra];try exact⟨rfl,rfl⟩
     apply af
     ·rw[aW];refine aj (fun s:Nat=>i2≤s+1∧s≤j∧scanDown pD D i2 s=j2) (fun s=>⟨[(0,.own 999),(1,.pv (.int .i64 (a:Int))),(9,.pv (.int .i64 (i2:Int))),(10,.pv (.int .i64 (s:Int)))],[(999,.arr 22 (rA D))]⟩) (fun s=>s) [] j (by refine⟨?_,?_,?_⟩<;>first|omega|exact hj2.symm) ?_ ?_;·simp
      ·rintro s ⟨l1,l2,l3⟩;by_cases hc:i2≤s
       ·have ws:IntKind.i64.wrap ((s:Int)-1)=((s-1:Nat):Int):=by rw[wrap_i64 (by omega)];omega
        have c1:(i2:Int)≤(s:Int):=by omega
        have q1:s<D.size:=by omega
        have r1:=bB q1;cases hb:ltInt (gA D a) (gA D s) with|true=>have e:=scanDown_go pD D i2 s hc (by omega) (by rw[hpD];exact hb);rw[e]at l3;obtain⟨s',hs'⟩:∃s',s'=s-1:=⟨_,rfl⟩;rw[←hs']at ws l3;simp(config := { maxSteps := 3000000 }) [c1,q1,qa,r1,ra,hb,ws];exact⟨s',⟨by omega,by omega,l3⟩,rfl,by omega⟩|false=>have e:=scanDown_end pD D i2 s (.inr (by rw[hpD];exact hb));rw[e]at l3;subst l3;simp(config := { maxSteps := 3000000 }) [c1,q1,qa,r1,ra,hb];try exact⟨rfl,rfl⟩
       ·have c1:¬(i2:Int)≤(s:Int):=by omega
        have e:=scanDown_end pD D i2 s (.inl hc);rw[e]at l3;subst l3;rcases q137 s D.size with q1|q1;·have r1:=bB q1;simp(config := { maxSteps := 3000000 }) [c1,q1,qa,r1,ra];try exact⟨rfl,rfl⟩
        ·have r1:=mw q1;simp(config := { maxSteps := 3000000 }) [c1,qa,r1,ra];try exact⟨rfl,rfl⟩
     by_cases hgt:i2>j2
     ·have k1:(j2:Int)<(i2:Int):=by omega
      have e:=partEq_break ltInt a i j D (by rw[hi2,hpU]) (by rw[hj2,hpD]) hgt;rw[e]at g5;have e1:(i2:Int)=(W.1:Int):=by rw[←g5]
      have e2:rA D=rA W.2:=by rw[←g5]
      simp(config := { maxSteps := 3000000 }) [k1];exact⟨e1,e2⟩
     ·have k1:¬(j2:Int)<(i2:Int):=by omega
      have e:=partEq_go ltInt a i j D (by rw[hi2,hpU]) (by rw[hj2,hpD]) hgt;rw[e]at g5;have lt2:=scans_lt ltInt a i j D (by omega) (i2:=i2) (j2:=j2) (by rw[hi2,hpU]) (by rw[hj2,hpD]) (by omega);have z1:i2<D.size:=by omega
      have z2:j2<D.size:=by omega
      have r1:=bB z1;have r2:=bB z2;have r3:=bB (d:=D.setIfInBounds i2 (gA D j2)) (i:=j2) (by rw[q102];omega);have v1:IntKind.i64.wrap ((i2:Int)+1)=(i2:Int)+1:=wrap_i64 (by omega);obtain⟨j3,hj3⟩:∃j3,j3=j2-1:=⟨_,rfl⟩;have v2:IntKind.i64.wrap ((j2:Int)-1)=(j3:Int):=by rw[wrap_i64 (by omega)];omega
      rw[←hj3]at g5;apply af;·simp(config := { maxSteps := 3000000 }) [k1];exact⟨rfl,rfl⟩
      apply af;·simp(config := { maxSteps := 3000000 }) [z1,z2,r1,r2,r3];exact⟨rfl,rfl⟩
      simp(config := { maxSteps := 3000000 }) [v1,v2];exact⟨i2+1,j3,swp D i2 j2,⟨⟨by omega,by omega⟩,by omega,by rw[size_swp,g4],g5⟩,⟨⟨by omega,rfl⟩,rfl⟩,by omega⟩
  ·cases h
 ·cases h
end Go.Proofs.YtlicclncicbajaaGreat.Ab
