/- Chapter 18: a state is written (walked at the machine: its bytes are at most one body; with its lives). -/
import Derived.Test.YtifcndkhigakfaaGreatY16
import Derived.Test.YtifcndkhigakfaaGreatY21
import Derived.Test.YtifcndkhigakfaaGreatY15
import Derived.Test.YtifcndkhigakfaaGreatY13
import Derived.Test.YtifcndkhigakfaaGreatY20
set_option linter.unusedVariables false
set_option linter.unusedSimpArgs false
set_option linter.unnecessarySimpa false
set_option maxHeartbeats 40000000
set_option maxRecDepth 100000
set_option linter.defProp false
namespace Go.Proofs.YtifcndkhigakfaaGreat.Ab
open Go Go.RowKit
def q170:=@Nat.le_of_lt
def q280:=@Decidable.byContradiction
end Go.Proofs.YtifcndkhigakfaaGreat.Ab
namespace Go.Proofs.YtifcndkhigakfaaGreat.Ab
open Go Go.RowKit Go.Shelf R
attribute[local go_sem] Oper.semAt_some
set_option maxHeartbeats 4000000 in def IK (ch tl:Int) (d0 d1 d2 d3 d4 d5 d6 d7 vc vl:Value) (er:Int) (rs:Bool) (hbad:er≠0\/rs=false) (w:World) (hc:∀W,Below w.heap.size w W->Calls Tryz.prog 31 #[.agg #[.int .u64 ch,.int .u64 tl,d0,d1,d2,d3,d4,d5,d6,d7,vc,vl]] W fun e W1=>∃V,e=.returned (.tuple #[V,.int .i64 er])/\Below W.heap.size W W1) (hr:∀W,Below w.heap.size w W->Calls Tryz.prog 32 #[.agg #[.int .u64 ch,.int .u64 tl,d0,d1,d2,d3,d4,d5,d6,d7,vc,vl]] W fun e W1=>e=.returned (.bool rs)/\Below W.heap.size W W1):Calls Tryz.prog 9 #[.agg #[.int .u64 ch,.int .u64 tl,d0,d1,d2,d3,d4,d5,d6,d7,vc,vl]] w fun e w'=>e=.returned (.tuple #[.slice none 0 0,.int .i64 2])/\Below w.heap.size w w':=by
 refine(callsIn_wide (n:=6)).1 ?_;refine callsIn_of_wp_marks Tryz.func9 rfl trivial ?_ rfl;simp only[Tryz.ntmps9,q107,q70,q91,Nat.reduceAdd,Nat.reduceSub,q225,q226,q241,q231,q153,q137];obtain⟨W0,hW0⟩:∃W0,W0=w.alloc (.cells #[.int .u64 ch,.int .u64 tl,d0,d1,d2,d3,d4,d5,d6,d7,vc,vl] 36):=⟨_,rfl⟩;have hB0:Below w.heap.size w W0:=by rw[hW0];exact(q223 _ w).alloc (q92 _) _
 have hh0:W0.heap[w.heap.size]?=some (.cells #[.int .u64 ch,.int .u64 tl,d0,d1,d2,d3,d4,d5,d6,d7,vc,vl] 36 (0,0)):=by rw[hW0];show(w.heap.push _)[w.heap.size]?=_;simp
 have hz0:w.heap.size<W0.heap.size:=(q67.1 hh0).1;gi_wp2;rw[<-hW0];refine⟨trivial,(callsIn_wide.2 (hc W0 hB0)).mono ?_⟩;rintro e W1 ⟨V,rfl,hB1⟩;have hh1:=(hB1.block _ hz0).trans hh0;obtain⟨x0,x1,x2,x3,x4,x5,x6,x7,x8,x9,x10,x11⟩:=uR hh1;have hBw:Below w.heap.size w W1:=hB0.trans (hB1.mono (q170 hz0));by_cases he:er=0;·subst he;have hrs:rs=false:=hbad.resolve_left (fun h=>h rfl);subst hrs;gi_wp2;refine⟨trivial,(callsIn_wide.2 (hr W1 hBw)).mono ?_⟩;rintro e W2 ⟨rfl,hB2⟩;gi_wp2;exact⟨_,results_tmp2 rfl _ _ _,rfl,hBw.trans (hB2.mono hBw.size)⟩
 ·have hne:(er !=0)=true:=by simpa using he
  gi_wp2;refine⟨trivial,?_⟩;gi_wp2;exact⟨_,results_tmp2 rfl _ _ _,rfl,hBw⟩
set_option maxHeartbeats 4000000 in def Hw (ch tl:Int) (L:List Pn) (d0 d1 d2 d3 d4 d5 d6 d7 vc:Value) (Al:Option Addr) (cl:Nat) (C R:List UInt8) (hch:cg ch) (htl:cg tl) (hLn:L.length<=10000) (hL:∀e∈L,iV e) (hlen:(cW [ch,tl,(L.length:Int)]++bQ L).length+C.length<=65535) (w:World) (hA:L=[]\/∃A0,Al=some A0/\A0.block<w.heap.size/\∀(k:Nat) (h:k<L.length),w.cell? (A0.add (k*3))=some (.int .u64 L[k].i)/\w.cell? ⟨(A0.add (k*3)).block,(A0.add (k*3)).off+1,none⟩=some (.int .u64 L[k].v)/\w.cell? ⟨(A0.add (k*3)).block,(A0.add (k*3)).off+2,none⟩=some (.int .u64 L[k].u)) (hc:∀W,Below w.heap.size w W->Calls Tryz.prog 31 #[.agg #[.int .u64 ch,.int .u64 tl,d0,d1,d2,d3,d4,d5,d6,d7,vc,.slice Al L.length cl]] W fun e W1=>∃A c,e=.returned (.tuple #[.slice (some A) C.length c,.int .i64 0])/\(∀j,j<C.length->W1.cell? (A.add j)=(dW C)[j]?)/\A.block<W1.heap.size/\Below W.heap.size W W1) (hr:∀W,Below w.heap.size w W->Calls Tryz.prog 32 #[.agg #[.int .u64 ch,.int .u64 tl,d0,d1,d2,d3,d4,d5,d6,d7,vc,.slice Al L.length cl]] W fun e W1=>e=.returned (.bool true)/\Below W.heap.size W W1) (ha:∀x y z:Int,cg x->cg y->cg z->∀W A c,3<=c->W.cell? (A.add 0)=some (.int .u64 x)->W.cell? (A.add 1)=some (.int .u64 y)->W.cell? (A.add 2)=some (.int .u64 z)->Calls Tryz.prog 33 #[.slice (some A) 3 c] W fun e W1=>∃V,e=.returned V/\W1.ownsRow W.heap.size 5 1 V (cW [x,y,z]).length (dW (cW [x,y,z]))/\Below W.heap.size W W1) (hj:∀W A c V,1<=c->W.cell? (A.add 0)=some (.int .u8 12)->W.cell? (A.add 1)=some V->W.ownsRow 0 5 1 V ((cW [ch,tl,(L.length:Int)]++bQ L).length+C.length) (dW (cW [ch,tl,(L.length:Int)]++bQ L)++dW C)->Calls Tryz.prog 35 #[.slice (some A) 1 c] W fun e W1=>∃V',e=.returned (.tuple #[V',.int .i64 0])/\dA (fun b=>W.heap.size<=b/\b<W1.heap.size) W1 V' (.ro (bytesRow R))/\Below W.heap.size W W1):Calls Tryz.prog 9 #[.agg #[.int .u64 ch,.int .u64 tl,d0,d1,d2,d3,d4,d5,d6,d7,vc,.slice Al L.length cl]] w fun e w'=>∃V',e=.returned (.tuple #[V',.int .i64 0])/\dA (fun b=>w.heap.size<=b/\b<w'.heap.size) w' V' (.ro (bytesRow R))/\Below w.heap.size w w':=by
 refine(callsIn_wide (n:=6)).1 ?_;refine callsIn_of_wp_marks Tryz.func9 rfl trivial ?_ rfl;simp only[Tryz.ntmps9,q107,q70,q91,Nat.reduceAdd,Nat.reduceSub,q225,q226,q241,q231,q153,q137];obtain⟨W0,hW0⟩:∃W0,W0=w.alloc (.cells #[.int .u64 ch,.int .u64 tl,d0,d1,d2,d3,d4,d5,d6,d7,vc,.slice Al L.length cl] 36):=⟨_,rfl⟩;have hB0:Below w.heap.size w W0:=by rw[hW0];exact(q223 _ w).alloc (q92 _) _
 have hh0:W0.heap[w.heap.size]?=some (.cells #[.int .u64 ch,.int .u64 tl,d0,d1,d2,d3,d4,d5,d6,d7,vc,.slice Al L.length cl] 36 (0,0)):=by rw[hW0];show(w.heap.push _)[w.heap.size]?=_;simp
 have hwl:IntKind.u64.wrap (L.length:Int)=(L.length:Int):=wrap_u64 (by omega);have hz0:w.heap.size<W0.heap.size:=(q67.1 hh0).1;gi_wp2;rw[<-hW0];refine⟨trivial,(callsIn_wide.2 (hc W0 hB0)).mono ?_⟩;rintro e W1 ⟨A,c,rfl,hC,hAb,hB1⟩;have hh1:=(hB1.block _ hz0).trans hh0;obtain⟨x0,x1,x2,x3,x4,x5,x6,x7,x8,x9,x10,x11⟩:=uR hh1;gi_wp2;refine⟨trivial,(callsIn_wide.2 (hr W1 (hB0.trans (hB1.mono (q170 hz0))))).mono ?_⟩;rintro e W2 ⟨rfl,hB2⟩;have hz1:w.heap.size<W1.heap.size:=q97 hz0 hB1.size;have hh2:=(hB2.block _ hz1).trans hh1;clear x0 x1 x2 x3 x4 x5 x6 x7 x8 x9 x10 x11;obtain⟨x0,x1,x2,x3,x4,x5,x6,x7,x8,x9,x10,x11⟩:=uR hh2;gi_wp2;have hz2:w.heap.size<W2.heap.size:=q97 hz1 hB2.size;obtain⟨W3,hW3⟩:∃W3,W3=W2.alloc (.cells #[.int .u64 ch,.int .u64 tl,.int .u64 (L.length:Int)] 22):=⟨_,rfl⟩;have hB3:Below W2.heap.size W2 W3:=by rw[hW3];exact(q223 _ W2).alloc (q92 _) _
 have hh3':W3.heap[W2.heap.size]?=some (.cells #[.int .u64 ch,.int .u64 tl,.int .u64 (L.length:Int)] 22 (0,0)):=by rw[hW3];show(W2.heap.push _)[W2.heap.size]?=_;simp
 have hh3:=(hB3.block _ hz2).trans hh2;have hz3:w.heap.size<W3.heap.size:=q97 hz2 hB3.size;rw[<-hW3];refine⟨trivial,(callsIn_wide.2 (ha ch tl (L.length:Int) hch htl (by unfold cg;omega) W3 ⟨W2.heap.size,0,none⟩ 3 (q92 _) (by simp[Addr.add,World.cell?,hh3']) (by simp[Addr.add,World.cell?,hh3']) (by simp[Addr.add,World.cell?,hh3']))).mono ?_⟩;rintro e W4 ⟨V,rfl,hV,hB4⟩;have hh4:=(hB4.block _ hz3).trans hh3;clear x0 x1 x2 x3 x4 x5 x6 x7 x8 x9 x10 x11;obtain⟨x0,x1,x2,x3,x4,x5,x6,x7,x8,x9,x10,x11⟩:=uR hh4;gi_wp2;generalize hB:cW [ch,tl,(L.length:Int)]=B at*;gi_loopw[6,36] (fun vb p wr=>∃k:Nat,k<=L.length/\p=.int .i64 (k:Int)/\wr.ownsRow W3.heap.size 5 1 vb (B.length+(bQ (L.take k)).length) (dW B++dW (bQ (L.take k)))/\Below W3.heap.size W3 wr) (fun _ p _=>L.length-(intOf p).toNat);case atStart=>exact⟨0,q95 _,rfl,by simpa[bQ,dW]using hV,hB4⟩
 case round=>
  obtain⟨k,hk,rfl,hrow,hBr⟩:=hrel;obtain⟨iu,hiu,hu0,hu1,hu2⟩:=info_parts Ay;by_cases hlt:k<L.length
  ·rcases hA with rfl|⟨A0,rfl,hA0,hcl⟩;·simp at hlt
   obtain⟨c0,c1,c2⟩:=hcl k hlt;have hb3:∀a:Addr,a.block=A0.block->wr.cell? a=w.cell? a:=fun a ha=>by have h1:Below w.heap.size w wr:=hB0.trans ((hB1.mono (q170 hz0)).trans ((hB2.mono (q170 hz1)).trans ((hB3.mono (q170 hz2)).trans (hBr.mono (q170 hz3)))));exact h1.cell (by rw[ha];exact hA0)
   have q0:wr.cell? (A0.add (k*3))=some (.int .u64 L[k].i):=by rw[hb3 _ (bN _ _),c0]
   have q1:wr.cell? ⟨(A0.add (k*3)).block,(A0.add (k*3)).off+1,none⟩=some (.int .u64 L[k].v):=(hb3 ⟨_,_,none⟩ (bN _ _)).trans c1;have q2:wr.cell? ⟨(A0.add (k*3)).block,(A0.add (k*3)).off+2,none⟩=some (.int .u64 L[k].u):=(hb3 ⟨_,_,none⟩ (bN _ _)).trans c2;have hlt':(k:Int)<(L.length:Int):=by omega
   gi_wp2;obtain⟨W5,hW5⟩:∃W5,W5=(wr.alloc (.cells #[.int .u64 L[k].i,.int .u64 L[k].v,.int .u64 L[k].u] 84)).alloc (.cells #[.int .u64 L[k].i,.int .u64 L[k].v,.int .u64 L[k].u] 22):=⟨_,rfl⟩;have hz5:W5.heap.size=wr.heap.size+2:=by rw[hW5];simp
   have hh5:W5.heap[wr.heap.size+1]?=some (.cells #[.int .u64 L[k].i,.int .u64 L[k].v,.int .u64 L[k].u] 22 (0,0)):=by rw[hW5];have:=q227 (wr.alloc (.cells #[.int .u64 L[k].i,.int .u64 L[k].v,.int .u64 L[k].u] 84)) (.cells #[.int .u64 L[k].i,.int .u64 L[k].v,.int .u64 L[k].u] 22);rw[World.size_alloc]at this;exact this
   have hB5:Below wr.heap.size wr W5:=by rw[hW5];exact((q223 _ wr).alloc (q92 _) _).alloc (by simp) _
   have okk:=hL L[k] (q84 hlt);rw[<-hW5];refine⟨trivial,(callsIn_wide.2 (ha _ _ _ okk.1 okk.2.1 okk.2.2 W5 ⟨wr.heap.size+1,0,none⟩ 3 (q92 _) (by simp[Addr.add,World.cell?,hh5]) (by simp[Addr.add,World.cell?,hh5]) (by simp[Addr.add,World.cell?,hh5]))).mono ?_⟩;rintro e W6 ⟨V6,rfl,hV6,hB6⟩;have hrow6:W6.ownsRow W3.heap.size 5 1 u6 (B.length+(bQ (L.take k)).length) (dW B++dW (bQ (L.take k))):=by
    refine⟨hrow.1,?_⟩;rcases hrow.2 with h|⟨g,cap,cur,h1,h2,h3,h4⟩;·exact .inl h
    ·have hgl:=(q67.1 h3).1;exact .inr ⟨g,cap,cur,h1,h2,(hB6.block _ (by omega)).trans ((hB5.block _ hgl).trans h3),h4⟩
   generalize hP:cW [L[k].i,L[k].v,L[k].u]=P at*;have hP0:P.length≠0:=by rw[<-hP,nW];unfold uC bk;have:=fQ L[k].i.toNat;simp only[q65];omega
   obtain⟨A6,c6,rfl,hC6⟩:∃A6 c6,V6=.slice (some A6) P.length c6/\∀j u,(dW P)[j]?=some u->W6.cell? (A6.add j)=some u:=by
    rcases hV6.2 with⟨_,h0⟩|⟨g,cap,cur,hg,hgb,hgh,hnc,hcm,hcs,htk⟩;·exact absurd h0 hP0
    ·refine⟨⟨g,0,none⟩,cap,hg,fun j u hj=>?_⟩;have hjl:j<P.length:=by have:=(q63.1 hj).1;simpa[dW]using this
     rw[q100,<-hj,<-htk,q81,if_pos (by omega)];unfold World.cell?;rw[hgh];simp
   have h9:∀a b,bQ (a++b)=bQ a++bQ b:=fun a b=>by simp[bQ]
   have hLk:bQ (L.take (k+1))=bQ (L.take k)++P:=by rw[q64 hlt,h9,<-hP,nW];congr 1;simp[bQ]
   have hLl:(bQ (L.take (k+1))).length<=(bQ L).length:=by
    have:bQ L=bQ (L.take (k+1))++bQ (L.drop (k+1)):=by rw[<-h9,q127]
    rw[this,q65];omega
   rw[hLk,q65]at hLl;rw[q65]at hlen;gi_wp2_with(gi_at_builtin;refine wpListIn_append_own _ rfl _ _ 37 rfl W3.heap.size 5 iu (.int .u8 0) 1 1 Tryz.underlying37 hiu hu0 hu1 hu2 rfl (by decide) _ _ _ rfl hrow6 A6 P.length c6 (dW P) rfl (by simp[dW]) hC6 (by intro u hu;simp only[dW,q83]at hu;obtain⟨q,_,rfl⟩:=hu;rfl) (by unfold maxLen;omega) (by omega) (by have:=hBr.size;have:=hB6.size;omega) ?_;intro V7 W7 hV7 hg7 _);refine⟨⟨k+1,by omega,by simp,?_,yP (hBr.trans ((hB5.mono hBr.size).trans (hB6.mono (by have:=hBr.size;omega)))) hrow6 hg7⟩,by simp[intOf];omega⟩;have e1:dW (bQ (L.take k)++P)=dW (bQ (L.take k))++dW P:=by simp[dW]
   rw[hLk,q65,e1,<-q193,<-q77];exact hV7
  ·have hke:k=L.length:=by omega
   subst hke;rw[q155]at hrow;obtain⟨BL,hBL⟩:∃BL,BL=B++bQ L:=⟨_,rfl⟩;rw[<-hBL]at hlen hj;have hV:wr.ownsRow W3.heap.size 5 1 u6 BL.length (dW BL):=by rw[hBL,q65];simpa[dW]using hrow
   clear hBL hrow;have hBa:Below wr.heap.size wr (wr.alloc (.cells #[.slice none 0 0] 93)):=(q223 _ wr).alloc (q92 _) _;have hCw:∀j u,(dW C)[j]?=some u->(wr.alloc (.cells #[.slice none 0 0] 93)).cell? (A.add j)=some u:=by
    intro j u hj;have hjl:j<C.length:=by have:=(q63.1 hj).1;simpa[dW]using this
    have hb:(A.add j).block<W1.heap.size:=by rw[bN];exact hAb
    rw[hBa.cell (q97 hb (q113 hB2.size (q113 hB3.size hBr.size))),(hBr.cell (q97 hb (q113 hB2.size hB3.size))),(hB3.cell (q97 hb hB2.size)),hB2.cell hb,hC j hjl,hj]
   gi_wp2_with(gi_at_builtin;refine wpListIn_append_own _ rfl _ _ 37 rfl W3.heap.size 5 iu (.int .u8 0) 1 1 Tryz.underlying37 hiu hu0 hu1 hu2 rfl (by decide) _ _ _ rfl (hV.alloc _) A C.length c (dW C) rfl (by simp[dW]) hCw (by intro u hu;simp only[dW,q83]at hu;obtain⟨q,_,rfl⟩:=hu;rfl) (by unfold maxLen;omega) (by omega) (by have:=hBr.size;simp;omega) ?_;intro V5 W5 hV5 hg5 _);obtain⟨A5,c5,rfl⟩:∃A5 c5,V5=.slice A5 (BL.length+C.length) c5:=by
    rcases hV5.2 with⟨h,hn⟩|⟨g,cap,cur,h,_⟩;·exact⟨none,0,by rw[h,hn]⟩
    ·exact⟨_,_,h⟩
   have bO:=(Boxed.new wr 93 (.slice none 0 0)).kept hg5 ((Boxed.new wr 93 (.slice none 0 0)).not_row (by decide) (hV.alloc _));have hB5:Below w.heap.size w W5:=by
    have h4:Below w.heap.size w (wr.alloc (.cells #[.slice none 0 0] 93)):=(((((hB0.trans (hB1.mono (q170 hz0))).trans (hB2.mono (q170 hz1))).trans (hB3.mono (q170 hz2))).trans (hBr.mono (q170 hz3))).alloc (by have:=hBr.size;omega) _);refine h4.grown hg5 h4.size fun k e=>?_;have hvo:=hV.2;rcases hvo with⟨hv,_⟩|⟨g,cap,cur,hv,hb,_⟩;·rw[hv]at e;cases e
    ·rw[hv]at e;have e':some g=some k:=e;cases e';exact q170 (q97 hz3 hb)
   have hz5:wr.heap.size<W5.heap.size:=by have:=hg5.size;simp at this;omega
   refine⟨trivial,(Hc Fence.wide 5 trivial rfl _ _ rfl).mono ?_⟩;rintro e W6 ⟨rfl,hW6⟩;gi_wp2;obtain⟨ifr,hif,hf0,hf1,hf2⟩:=info_parts JX;have hW65:W6=W5.alloc (.cells #[.slice A5 (BL.length+C.length) c5] 37):=hW6;have hz6:W6.heap.size=W5.heap.size+1:=by rw[hW65];simp
   have hc6:W6.cell? ⟨W5.heap.size,0,none⟩=some (.slice A5 (BL.length+C.length) c5):=by rw[hW65];exact(Boxed.new W5 _ _).cell
   have hB6:Below w.heap.size w W6:=by rw[hW65];exact hB5.alloc hB5.size _
   have bO6:Boxed W6 wr.heap.size 93 (.slice none 0 0):=by rw[hW65];exact bO.alloc _
   have hV6:W6.ownsRow W3.heap.size 5 1 (.slice A5 (BL.length+C.length) c5) (BL.length+C.length) (dW BL++dW C):=by rw[hW65];exact hV5.alloc _
   rw[<-hW65];clear hW6 hW65;refine' wpIn_rangeFunc_ownG rfl (by omega) (gf:=66) (lb:=#[.pointer (some ⟨W5.heap.size,0,none⟩)]) rfl trivial (enters_of Tryz.func66 (by kernel_rfl) rfl) (A9 Fence.wide 5 trivial rfl (by omega) W5.heap.size 0 A5 (BL.length+C.length) c5 hlen W6 (by omega) (by omega) hc6) belowK_t (belowK_b (by omega)) (q223 _ _) (fun _=>rfl) (fun(pre:List Unit) W=>((∃v,Boxed W wr.heap.size 93 v/\W.ownsRow wr.heap.size 97 2 v pre.length (pre.flatMap fun _=>[.int .u8 12,.slice A5 (BL.length+C.length) c5])/\True)/\W.ownsRow W3.heap.size 5 1 (.slice A5 (BL.length+C.length) c5) (BL.length+C.length) (dW BL++dW C))/\Below w.heap.size w W) (fun _ _ _=>False) (OwnFrom.and (OwnFrom.and (Own.from (holdsRow_own _ _ _ _ _ _ _ _) _) (Own.from (CB _ _ _ _ _ _) _)) (ownFrom_below (q92 _) hB6.size)) (fun _ _ _ _ _ hs _ _=>hs) ⟨⟨⟨_,bO6,q188 _ _ _ _,trivial⟩,hV6⟩,hB6⟩ _ ?assign ?body ?done ?stop;case assign=>intro l x W K hK;gi_wp2;exact hK
   case body=>rintro l pre x W ⟨⟨⟨v,hv,hrow,_⟩,hVW⟩,hB⟩ hlt;have hc:=hv.cell;have hwr:wr.heap.size<=W.heap.size:=q170 hv.lt;have hww:w.heap.size<=wr.heap.size:=q170 (q97 hz3 hBr.size);gi_wp2_with(gi_at_builtin;refine wpListIn_append_own _ rfl _ _ 93 rfl wr.heap.size 97 ifr _ 2 32 Tryz.underlying93 hif hf0 hf1 hf2 rfl (by decide) _ _ _ rfl (hrow.alloc _) ⟨W.heap.size,0,none⟩ 1 1 [.int .u8 12,.slice A5 (BL.length+C.length) c5] rfl rfl (cell_two_new _ _ _ _) (by simp[Value.oneCell']) (by unfold maxLen;omega) (by omega) (by simp;omega) ?_;intro v' w1 hown' hgrow _;obtain⟨g',cap',rfl⟩:=ownsRow_succ hown';obtain⟨hv1,hv2,hr2,hk2,hb2⟩:=hv.appended (by decide) hrow hwr (q92 _) hown' hgrow;have hc1:=hv1.cell;have hfz:=hv1.frozen);have hV7:=HH hv1 (HR (hVW.alloc _) (hrow.alloc _) (by decide) hgrow) (by decide) (.slice (some ⟨g',0,none⟩) (pre.length+1) cap');refine⟨hk2.from _,hb2.mono (q95 _),⟨⟨_,hv2,by simpa using hr2,trivial⟩,hV7⟩,hB.trans (hb2.mono hww)⟩
   case done=>
    rintro D ys W hD rfl ⟨⟨⟨v,hv,hrow,_⟩,hVW⟩,hB⟩ hK;have hc:=hv.cell;have hDW:D<W.heap.size:=(q67.1 hK).1;gi_wp2;rcases hrow.2 with⟨_,h0⟩|⟨g,cap,cur,rfl,hgb,hg,hcn,hcm,hcs,htk⟩;·cases h0
    have hcc:∀i,W.cell? ⟨g,i,none⟩=cur[i]?:=fun i=>by unfold World.cell?;rw[hg];rfl
    have hk0:∀i,i<2->cur[i]?=[Value.int .u8 12,.slice A5 (BL.length+C.length) c5][i]?:=fun i hi=>by have:=congrArg (fun l=>l[i]?) htk;simp only[q70,q91,q126,q297,q81,hi,if_true,q99,q244,q130,q216]at this;exact this
    refine⟨trivial,(callsIn_wide.2 (hj W ⟨g,0,none⟩ cap (.slice A5 (BL.length+C.length) c5) hcn (by rw[q100,hcc,hk0 _ (by omega)];rfl) (by rw[q100,hcc,hk0 _ (by omega)];rfl) (rJ hVW))).mono ?_⟩;rintro e W8 ⟨V',rfl,hR,hB8⟩;gi_wp2;refine⟨by simp,.inl ⟨_,_,rfl,run_takeDeferred ((hB8.block D hDW).trans hK),?_⟩⟩;have hzD:w.heap.size<=D:=q113 hB6.size hD;have hzW:w.heap.size<=W.heap.size:=hB.size;refine⟨_,results_tmp2 rfl _ _ _,V',rfl,hR.mono fun b hb=>⟨⟨q113 hzW hb.1,by rw[World.putObj_size];exact hb.2⟩,World.putObj_heap_other (by have:=hb.1;omega)⟩,?_⟩;exact hB.trans ((hB8.mono hzW).trans (belowK_b (w:=w) (q92 _) W8 D _ _ hzD ((hB8.block D hDW).trans hK) rfl rfl))
   case stop=>rintro D c pre W _ _ h _;exact h.elim
end Go.Proofs.YtifcndkhigakfaaGreat.Ab
namespace Go.Proofs.YtifcndkhigakfaaGreat.Ab
open Go Go.RowKit R
@[simp] noncomputable def GclB:List AV->Option (Prop×AV)|[.pv (.ro b)]=>(dec dZ b).map fun l=>(l.length<=100000000,.fr 5 (bytesRow l))|_=>none
def c_clB:aL Tryz.prog 160 GclB:=by
 intro ys φ r h hφ;unfold GclB at h;split at h;·obtain⟨b,hb,h⟩:=q900.1 h;cases h;cases aK hb;have hl:b.length<=100000000:=hφ;refine aq ah (by kernel_rfl) (by conv=>lhs;reduce) (by simp) ?_;cases b with|nil=>have hx:bytesRow []=[]:=rfl;simp[hx,kP]|cons x l=>have hx:bytesRow (x::l)=[.int .u8 (x.toNat:Int)]::bytesRow l:=rfl;simp[hx,aF];simp only[q70]at hl;exact⟨by omega,by omega,Om l⟩
 ·cases h
@[simp] noncomputable def aaV:List AV->Option (Prop×AV)|[.pv (.ro a),.pv (.ro b)]=>(dec dZ a).bind fun la=>(dec dZ b).map fun lb=>(la.length<=1000000000,.pv (.bool (decide (la=lb))))|_=>none
def aaJ:aL Tryz.prog 159 aaV:=by
 intro ys φ r h hφ;unfold aaV at h;split at h
 ·rename_i ra rb;obtain⟨a,ha,h⟩:=qB.1 h;obtain⟨b,hb,h⟩:=q900.1 h;cases h;cases aK ha;cases aK hb;have hl:a.length<=1000000000:=hφ;refine aq ah (by kernel_rfl) (by conv=>lhs;reduce) (by simp) ?_;by_cases hlen:a.length=b.length
  ·have hlen':(a.length:Int)=b.length:=by omega
   simp[hlen'];refine au (fun i:Nat=>i<=a.length/\a.take i=b.take i) (fun i=>⟨[(0,.pv (.ro (bytesRow a))),(1,.pv (.ro (bytesRow b))),(4,.pv (.bool false)),(12,.pv (.int .i64 a.length)),(13,.pv (.int .i64 i))],[]⟩) (fun i=>a.length-i) [] 0 (by simp) ?_ ?_;·simp[hlen]
   ·rintro i ⟨hi,ht⟩;have w2:IntKind.i64.wrap ((i:Int)+1)=(i:Int)+1:=wrap_i64 (by omega);by_cases hlt:i<a.length
    ·have r1:=R.bytesRow_at hlt;have hlb:i<b.length:=by omega
     have r2:=R.bytesRow_at hlb;by_cases he:a[i]=b[i];·simp[w2,hlt,hlb,r1,r2,he];refine⟨i+1,⟨by omega,?_⟩,by omega,by omega⟩;rw[q64 hlt,q64 hlb,ht,he]
     ·have hn:¬a=b:=fun e=>he (by subst e;rfl);have hf:¬(a[i].toNat:Int)=(b[i].toNat:Int):=fun h=>he (q192.1 (by omega));simp[w2,hlt,hlb,r1,r2,hn,hf]
    ·simp[hlt];rw[List.take_of_length_le (by omega),List.take_of_length_le (by omega)]at ht;exact ht
  ·have hn:¬a=b:=fun e=>hlen (by rw[e]);have hlen':¬(a.length:Int)=b.length:=by omega
   simp[hlen',hn]
 ·cases h
def mY (b:List UInt8) (lo hi:Int):List UInt8:=(b.take hi.toNat).drop lo.toNat
def Fk (b:List UInt8) (lo hi:Int):cut (bytesRow b) lo hi=bytesRow (mY b lo hi):=by simp[cut,mY,bytesRow,q189,q161]
def qT (b:List UInt8) {lo hi:Int} (h0:0<=lo) (h1:lo<=hi) (h2:hi<=b.length):((mY b lo hi).length:Int)=hi-lo:=by simp only[mY,q88,q68];omega
def eh (b:List UInt8) (p:Int):Fm×Int×Int:=if p<0\/(b.length:Int)<=p then(⟨0,[]⟩,p,10) else if(ai b (p+1)).2.2≠0 then(⟨0,[]⟩,p,(ai b (p+1)).2.2) else if 65535<(ai b (p+1)).1 then(⟨0,[]⟩,p,3) else if(b.length:Int)-(ai b (p+1)).2.1<(ai b (p+1)).1+4 then(⟨0,[]⟩,p,10) else if mY b ((ai b (p+1)).2.1+(ai b (p+1)).1) ((ai b (p+1)).2.1+(ai b (p+1)).1+4)=fZ (j8 (mY b p ((ai b (p+1)).2.1+(ai b (p+1)).1))) then(⟨b.getD p.toNat 0,mY b (ai b (p+1)).2.1 ((ai b (p+1)).2.1+(ai b (p+1)).1)⟩,(ai b (p+1)).2.1+(ai b (p+1)).1+4,0) else(⟨0,[]⟩,p,30)
@[simp] noncomputable def GfTk:List AV->Option (Prop×AV)|[.pv (.ro b),.pv (.int .i64 p)]=>(dec dZ b).map fun l=>(l.length<=100000000/\-9223372036854775808<=p/\p<=9223372036854775807,.aN [.agg [.pv (.int .u8 ((eh l p).1.k.toNat:Int)),.fr 5 (bytesRow (eh l p).1.b)],.pv (.int .i64 (eh l p).2.1),.pv (.int .i64 (eh l p).2.2)])|_=>none
def aa9:aL Tryz.prog 119 GfTk:=by
 intro ys φ r h hφ;unfold GfTk at h;split at h
 ·rename_i rb p;obtain⟨b,hb,h⟩:=q900.1 h;cases h;cases aK hb;obtain⟨hl,p1,p2⟩:=hφ;have hi:(Tryz.prog.info? 5).isSome=true:=by kernel_rfl
  have hl9:b.length<=1000000000:=by omega
  refine aq (ag tv (ag PJ (ag aaJ (ag c_clB ah)))) (by kernel_rfl) (by conv=>lhs;reduce) (by simp) ?_;apply ae;·simp;exact⟨rfl,rfl⟩
  by_cases h0:p<0\/(b.length:Int)<=p
  ·have ht:eh b p=(⟨0,[]⟩,p,10):=by unfold eh;rw[if_pos h0]
   rw[ht];refine bB (fun _=>False) ?_ (fun _ h=>h.elim);apply ae
   ·by_cases h1:p<0;·simp[h1];exact⟨rfl,rfl⟩
    ·have h2:(b.length:Int)<=p:=h0.resolve_left h1;simp[h1,h2]
   apply cm rfl;simp[hi]
  ·have h1:¬p<0:=fun h=>h0 (Or.inl h);have h2:¬(b.length:Int)<=p:=fun h=>h0 (q247 h);have w1:IntKind.i64.wrap (p+1)=p+1:=wrap_i64 (by omega);have g1:-9223372036854775808<=p+1:=by omega
   have g2:p+1<=9223372036854775807:=by omega
   obtain⟨q,rfl⟩:∃q:Nat,p=(q:Int):=⟨p.toNat,by omega⟩;have hq:q<b.length:=by omega
   have rq:=R.bytesRow_at hq;have hgd:b.getD q 0=b[q]:=by simp[q80,hq]
   apply ae
   ·apply ae;·simp[h1,h2];exact⟨rfl,rfl⟩
    apply cr rfl;simp;exact⟨rfl,rfl⟩
   obtain⟨k1,k2,k3,_⟩:=cJ b (q+1);unfold eh;rw[if_neg h0];apply ae;·simp[w1,g1,g2,hl9];exact⟨rfl,rfl⟩
   generalize ai b (q+1)=L at*;obtain⟨n,s,e⟩:=L;have k1:e=0->0<=(q:Int)+1/\(q:Int)+1<s/\s<=b.length:=k1;have k2:0<=n:=k2;have k3:n<=18446744073709551615:=k3;dsimp only;by_cases he:e=0;rotate_left
   ·rw[if_pos he];refine bB (fun _=>False) ?_ (fun _ h=>h.elim);rw[aR];apply ae;·simp[he];exact⟨rfl,rfl⟩
    apply cm rfl;simp[hi]
   rw[if_neg (by simp[he])];obtain⟨_,k4,k5⟩:=k1 he;by_cases hn:65535<n
   ·rw[if_pos hn];refine bB (fun _=>False) ?_ (fun _ h=>h.elim);rw[aR];apply ae;·simp[he];exact⟨rfl,rfl⟩
    apply cr rfl;apply ae;·simp[hn];exact⟨rfl,rfl⟩
    apply cm rfl;simp[hi]
   rw[if_neg hn];obtain⟨m,rfl⟩:∃m:Nat,n=(m:Int):=⟨n.toNat,by omega⟩;obtain⟨t,rfl⟩:∃t:Nat,s=(t:Int):=⟨s.toNat,by omega⟩;have w2:IntKind.i64.wrap (m:Int)=(m:Int):=wrap_i64 (by omega);have w3:IntKind.i64.wrap ((m:Int)+4)=(m:Int)+4:=wrap_i64 (by omega);have w4:IntKind.i64.wrap ((b.length:Int)-(t:Int))=(b.length:Int)-(t:Int):=wrap_i64 (by omega);have w5:IntKind.i64.wrap ((t:Int)+(m:Int))=(t:Int)+(m:Int):=wrap_i64 (by omega);have w6:IntKind.i64.wrap ((t:Int)+(m:Int)+4)=(t:Int)+(m:Int)+4:=wrap_i64 (by omega);by_cases hs:(b.length:Int)-(t:Int)<(m:Int)+4
   ·rw[if_pos hs];refine bB (fun _=>False) ?_ (fun _ h=>h.elim);rw[aR];apply ae;·simp[he];exact⟨rfl,rfl⟩
    apply cr rfl;apply ae;·simp[hn];exact⟨rfl,rfl⟩
    apply cr rfl;apply ae;·simp[w2,w3,w4,hs];exact⟨rfl,rfl⟩
    apply cm rfl;simp[hi]
   rw[if_neg hs];apply ae
   ·rw[aR];apply ae;·simp[he];exact⟨rfl,rfl⟩
    apply cr rfl;apply ae;·simp[hn];exact⟨rfl,rfl⟩
    apply cr rfl;apply ae;·simp[w2,w3,w4,hs];exact⟨rfl,rfl⟩
    apply cr rfl;simp;exact⟨rfl,rfl⟩
   apply ae;·simp[w2,w5];exact⟨rfl,rfl⟩
   have c1:((mY b (t+m:Int) (t+m+4)).length:Int)=4:=by rw[qT b (by omega) (by omega) (by omega)];omega
   have c2:((mY b (q:Int) (t+m)).length:Int)=t+m-q:=qT b (by omega) (by omega) (by omega);have c3:((mY b (t:Int) (t+m)).length:Int)=m:=by rw[qT b (by omega) (by omega) (by omega)];omega
   have d1:(mY b (t+m:Int) (t+m+4)).length<=1000000000:=by omega
   have d2:(mY b (q:Int) (t+m)).length<=1000000000:=by omega
   have d3:(mY b (t:Int) (t+m)).length<=100000000:=by omega
   have e1:(0:Int)<=(t:Int)+m:=by omega
   have e2:(t:Int)+m<=(t:Int)+m+4:=by omega
   have e3:(t:Int)+m+4<=b.length:=by omega
   have e4:(q:Int)<=(t:Int)+m:=by omega
   have e5:(t:Int)+m<=b.length:=by omega
   have e6:(t:Int)<=(t:Int)+m:=by omega
   have s4:∀s,(fZ s).length<=1000000000:=fun s=>by simp[fZ]
   have hb1:(∀r∈bytesRow b,r.length=1)=True:=eq_true (Om b);by_cases hsum:mY b (t+m:Int) (t+m+4)=fZ (j8 (mY b (q:Int) (t+m)))
   ·rw[if_pos hsum];apply ae
    ·apply ae;·simp[w6,Fk,hb1,s4,d1,d2,e1,e2,e3,e4,e5,hsum,iv];exact⟨rfl,rfl⟩
     apply cr rfl;simp;exact⟨rfl,rfl⟩
    simp[w6,Fk,hb1,rq,hgd,hq,d3,e5,e6,iv]
   ·rw[if_neg hsum];refine bB (fun _=>False) ?_ (fun _ h=>h.elim);apply ae;·simp[w6,Fk,hb1,s4,d1,d2,e1,e2,e3,e4,e5,hsum,iv];exact⟨rfl,rfl⟩
    apply cm rfl;simp[hi]
 ·cases h
def C4 (b:List UInt8) (p:Int) (h:(eh b p).2.2=0):0<=p/\p<(eh b p).2.1/\(eh b p).2.1<=b.length/\(eh b p).1.b.length<=65535/\p+(eh b p).1.b.length<(eh b p).2.1:=by
 obtain⟨k1,k2,k3,_⟩:=cJ b (p+1);unfold eh at h |-;split at h;·cases h
 rename_i h0;rw[if_neg h0];split at h;·rename_i h1;exact absurd h h1
 rename_i h1;rw[if_neg h1];have h1:(ai b (p+1)).2.2=0:=by simpa using h1
 obtain⟨_,k4,k5⟩:=k1 h1;split at h;·cases h
 rename_i h2;rw[if_neg h2];split at h;·cases h
 rename_i h3;rw[if_neg h3];split at h;·rename_i h4;rw[if_pos h4];have h0':¬p<0:=fun h=>h0 (Or.inl h);refine⟨by omega,by show p<(ai b (p+1)).2.1+(ai b (p+1)).1+4;omega,by show(ai b (p+1)).2.1+(ai b (p+1)).1+4<=_;omega,?_⟩;have:=qT b (lo:=(ai b (p+1)).2.1) (hi:=(ai b (p+1)).2.1+(ai b (p+1)).1) (by omega) (by omega) (by omega);show(mY b (ai b (p+1)).2.1 ((ai b (p+1)).2.1+(ai b (p+1)).1)).length<=65535/\p+((mY b (ai b (p+1)).2.1 ((ai b (p+1)).2.1+(ai b (p+1)).1)).length:Int)<(ai b (p+1)).2.1+(ai b (p+1)).1+4;omega
 ·cases h
def mq (b:List UInt8):Nat->Nat->List Fm×Nat|0,p=>([],p)|n+1,p=>if(eh b p).2.2≠0 then([],p) else((eh b p).1::(mq b n (eh b p).2.1.toNat).1,(mq b n (eh b p).2.1.toNat).2)
def na (b:List UInt8):List Fm×Nat:=mq b (b.length+1) 0
def DQ (b:List UInt8):∀(n p:Nat),p<=b.length->(mq b n p).1.length+p<=b.length/\((mq b n p).1.flatMap Fm.b).length+p<=b.length/\p<=(mq b n p).2/\(mq b n p).2<=b.length/\∀f∈(mq b n p).1,f.b.length<=65535
 |0,p,hp=>⟨by simp[mq];omega,by simp[mq];omega,q92 _,hp,fun f hf=>by cases hf⟩|n+1,p,hp=>by
  unfold mq;split;·exact⟨by simp;omega,by simp;omega,q92 _,hp,fun f hf=>by cases hf⟩
  ·rename_i he;have he:(eh b (p:Int)).2.2=0:=by simpa using he
   obtain⟨_,k1,k2,k3,k4⟩:=C4 b p he;obtain⟨m,hm⟩:∃m:Nat,(eh b (p:Int)).2.1=(m:Int):=⟨(eh b (p:Int)).2.1.toNat,by omega⟩;rw[hm]at k1 k2 k4;rw[hm,q66];obtain⟨i1,i2,i3,i4,i5⟩:=DQ b n m (by omega);refine⟨by simp only[q70];omega,by simp only[q99,q65];omega,by show p<=(mq b n m).2;omega,i4,fun f hf=>?_⟩;rcases q78.1 hf with rfl|hf;·exact k3
   ·exact i5 f hf
def BV (b:List UInt8):(na b).1.length<=b.length/\((na b).1.flatMap Fm.b).length<=b.length/\(na b).2<=b.length/\∀f∈(na b).1,f.b.length<=65535:=by obtain⟨i1,i2,i3,i4,i5⟩:=DQ b (b.length+1) 0 (q95 _);exact⟨i1,i2,i4,i5⟩
@[simp] noncomputable def GfA (e:TypeId):List AV->Option (Prop×AV)|[.pv (.ro b)]=>(dec dZ b).map fun l=>(l.length<=1000000,.aN [.fr e (gu (na l).1),.pv (.int .i64 ((na l).2:Int))])|_=>none
def G4 (a b:List Fm):gu (a++b)=gu a++gu b:=by simp[gu]
def c_fA:aL Tryz.prog 78 (GfA 97):=by
 intro ys φ r h hφ;unfold GfA at h;split at h
 ·rename_i rb;obtain⟨b,hb,h⟩:=q900.1 h;cases h;cases aK hb;have hl:b.length<=1000000:=hφ;have hl8:b.length<=100000000:=by omega
  refine aq (ag aa9 ah) (by kernel_rfl) (by conv=>lhs;reduce) (by simp) ?_;simp;refine au (fun x:Nat×List Fm=>x.1<=b.length/\x.2.length<=x.1/\∃n,b.length<n+x.1/\(na b).1=x.2++(mq b n x.1).1/\(na b).2=(mq b n x.1).2) (fun x=>⟨[(0,.pv (.ro (bytesRow b))),(2,.own 2),(3,.pv (.int .i64 (x.1:Int)))],[(2,.arr 97 (gu x.2))]⟩) (fun x=>b.length-x.1) [] (0,[]) ⟨by simp,by simp,b.length+1,by omega,by simp[na],rfl⟩ ?_ ?_;·simp[gu]
  ·rintro⟨p,l⟩ ⟨hp,hpl,n,hn,h1,h2⟩;have hp:p<=b.length:=hp;have hpl:l.length<=p:=hpl;have hn:b.length<n+p:=hn;have h1:(na b).1=l++(mq b n p).1:=h1;have h2:(na b).2=(mq b n p).2:=h2;rw[ke];dsimp only;have g1:-9223372036854775808<=(p:Int):=by omega
   have g2:(p:Int)<=9223372036854775807:=by omega
   have hok:=C4 b p;match n,hn,h1,h2 with
   |0,hn,_,_=>omega|n+1,hn,h1,h2=>
    unfold mq at h1 h2;simp[hl8,g1,g2,iv,aF];refine⟨fun he=>?_,fun he=>?_⟩;·rw[if_pos he]at h1 h2;rw[h1,h2,q130];exact⟨rfl,rfl⟩
    ·obtain⟨_,k1,k2,_⟩:=hok he;obtain⟨m,hm⟩:∃m:Nat,(eh b (p:Int)).2.1=(m:Int):=⟨(eh b (p:Int)).2.1.toNat,by omega⟩;rw[if_neg (by simp[he]),hm,q66]at h1 h2;exact⟨⟨by omega,by omega⟩,m,l++[(eh b (p:Int)).1],⟨by omega,by simp;omega,n,by omega,by rw[h1];simp,h2⟩,⟨hm,by rw[G4];rfl⟩,by omega⟩
 ·cases h
def AJ (n i:Nat) (f:Fm):Prop:=f.k=12/\(i+1<n->f.b.length=65535)/\(0<i->f.b≠[])
instance (n i:Nat) (f:Fm):Decidable (AJ n i f):=by unfold AJ;infer_instance
def EM (l:List Fm):Bool:=(List.range l.length).all fun i=>match l[i]? with|some f=>decide (AJ l.length i f)|none=>true
def vJ {l:List Fm}:EM l=true↔∀(i:Nat) (h:i<l.length),AJ l.length i l[i]:=by
 unfold EM;rw[q85];constructor;·intro h i hi;have:=h i (q142.2 hi);rw[q62 hi]at this;simpa using this
 ·intro h i hi;have hi:=q142.1 hi;rw[q62 hi];exact decide_eq_true (h i hi)
def lQ (l:List Fm):List UInt8:=l.flatMap Fm.b
def Cu (a b:List Fm):lQ (a++b)=lQ a++lQ b:=by simp[lQ]
def Cs (f:Fm):lQ [f]=f.b:=by simp[lQ]
@[simp] def bodF_nil:lQ []=[]:=rfl
def iX (b:List UInt8):List UInt8×Bool:=if EM (na b).1=true then(lQ (na b).1,decide ((na b).2=b.length)) else([],false)
@[simp] noncomputable def Gwh:List AV->Option (Prop×AV)|[.pv (.ro b)]=>(dec dZ b).map fun l=>(l.length<=1000000,.aN [.fr 5 (bytesRow (iX l).1),.pv (.bool (iX l).2)])|_=>none
def c_wh:aL Tryz.prog 42 Gwh:=by
 intro ys φ r h hφ;unfold Gwh at h;split at h
 ·rename_i rb;obtain⟨b,hb,h⟩:=q900.1 h;cases h;cases aK hb;have hl:b.length<=1000000:=hφ;obtain⟨a1,a2,a3,_⟩:=BV b;have hi:(Tryz.prog.info? 5).isSome=true:=by kernel_rfl
  refine aq (ag c_fA ah) (by kernel_rfl) (by conv=>lhs;reduce) (by simp) ?_;unfold iX;apply ae;·simp;exact⟨rfl,rfl⟩
  apply ae;·simp[hl];exact⟨rfl,rfl⟩
  generalize na b=A at*;obtain⟨l,g⟩:=A;have a1:l.length<=b.length:=a1;have a2:(lQ l).length<=b.length:=a2;have a3:g<=b.length:=a3;have hfl:∀k,(lQ (l.take k)).length<=(lQ l).length:=fun k=>by
   have:lQ l=lQ (l.take k)++lQ (l.drop k):=by rw[<-Cu,q127]
   rw[this,q65];omega
  apply ae;·simp;exact⟨rfl,rfl⟩
  rw[bh];apply ae;·simp;exact⟨rfl,rfl⟩
  rw[aR];refine au (fun k:Nat=>k<=l.length/\∀(i:Nat) (h:i<l.length),i<k->AJ l.length i l[i]) (fun k=>⟨[(0,.pv (.ro (bytesRow b))),(4,.own 11),(5,.pv (.int .i64 (g:Int))),(6,.own 6),(14,.own 11),(15,.pv (.int .i64 l.length)),(16,.pv (.int .i64 (k:Int)))],[(11,.arr 97 (gu l)),(6,.arr 5 (bytesRow (lQ (l.take k))))]⟩) (fun k=>l.length-k) [] 0 (by simp) ?_ ?_;·simp
  ·rintro k ⟨hk,ht⟩;have w2:IntKind.i64.wrap ((k:Int)+1)=(k:Int)+1:=wrap_i64 (by omega);rw[ke];dsimp only;by_cases hlt:k<l.length
   ·have r1:=Dg hlt;have htk:lQ (l.take (k+1))=lQ (l.take k)++l[k].b:=by rw[q64 hlt,Cu,Cs]
    have h1:=hfl (k+1);rw[htk,q65]at h1;have hbs:bytesRow (lQ (l.take k))++bytesRow l[k].b=bytesRow (lQ (l.take (k+1))):=by rw[htk,bY]
    have hok:AJ l.length k l[k]->∀(i:Nat) (h:i<l.length),i<k+1->AJ l.length i l[i]:=fun h i hi hik=>by
     by_cases e:i=k;·subst e;exact h
     ·exact ht i hi (by omega)
    have hno:¬AJ l.length k l[k]->EM l=false:=fun h=>by cases hw:EM l with|false=>rfl|true=>exact absurd (vJ.1 hw k hlt) h
    have e12:(12:UInt8).toNat=12:=rfl;apply ae;·simp[hlt];exact⟨rfl,rfl⟩
    apply ae;·simp;exact⟨rfl,rfl⟩
    by_cases ho:AJ l.length k l[k]
    ·obtain⟨c1,c2,c3⟩:=ho;have c1':(l[k].k.toNat:Int)=12:=by rw[c1];rfl
     by_cases d1:(k:Int)+1<l.length
     ·have d2:l[k].b.length=65535:=c2 (by omega);have d2':(l[k].b.length:Int)=65535:=by omega
      have d3:¬l[k].b=[]:=fun e=>by rw[e]at d2;simp at d2
      rw[bh,aR];apply ae;·simp[hlt,r1];exact⟨rfl,rfl⟩
      apply ae
      ·apply ae;·simp[w2,c1',d1,d2,d2',d3];exact⟨rfl,rfl⟩
       apply cr rfl;simp;exact⟨rfl,rfl⟩
      simp[w2,hbs,aF];exact⟨⟨by omega,by omega,Om _⟩,k+1,⟨by omega,hok ⟨c1,c2,c3⟩⟩,⟨by omega,rfl⟩,by omega⟩
     ·rcases q154 k with d4|d4
      ·have d5:¬0<k:=by omega
       rw[bh,aR];apply ae;·simp[hlt,r1];exact⟨rfl,rfl⟩
       apply ae
       ·apply ae;·simp[w2,c1',d1,d5];exact⟨rfl,rfl⟩
        apply cr rfl;simp;exact⟨rfl,rfl⟩
       simp[w2,hbs,aF];exact⟨⟨by omega,by omega,Om _⟩,k+1,⟨by omega,hok ⟨c1,c2,c3⟩⟩,⟨by omega,rfl⟩,by omega⟩
      ·have d3:=c3 d4;rw[bh,aR];apply ae;·simp[hlt,r1];exact⟨rfl,rfl⟩
       apply ae
       ·apply ae;·simp[w2,c1',d1,d4,d3];exact⟨rfl,rfl⟩
        apply cr rfl;simp;exact⟨rfl,rfl⟩
       simp[w2,hbs,aF];exact⟨⟨by omega,by omega,Om _⟩,k+1,⟨by omega,hok ⟨c1,c2,c3⟩⟩,⟨by omega,rfl⟩,by omega⟩
    ·have hn:=hno ho;refine bB (fun _=>False) ?_ (fun _ h=>h.elim);rw[aR];apply ae;·simp[hlt,r1];exact⟨rfl,rfl⟩
     refine bB (fun _=>False) ?_ (fun _ h=>h.elim);by_cases c1:l[k].k=12
     ·have c1':(l[k].k.toNat:Int)=12:=by rw[c1];rfl
      by_cases c4:0<k/\l[k].b=[]
      ·obtain⟨c4,c5⟩:=c4;by_cases c2:(k:Int)+1<l.length
       ·apply ae;·simp[w2,c1',c2,c4,c5];exact⟨rfl,rfl⟩
        apply cm rfl;simp[hn,hi]
       ·apply ae;·simp[w2,c1',c2,c4,c5];exact⟨rfl,rfl⟩
        apply cm rfl;simp[hn,hi]
      ·have hx:¬((k:Int)+1<l.length->l[k].b.length=65535):=fun h=>ho ⟨c1,fun g=>h (by omega),fun g e=>c4 ⟨g,e⟩⟩;have c2:(k:Int)+1<l.length:=q278 fun h=>hx fun g=>absurd g h;have c3:¬l[k].b.length=65535:=fun h=>hx fun _=>h;have c3':¬(l[k].b.length:Int)=65535:=by omega
       apply ae;·simp[w2,c1',c2,c3,c3'];exact⟨rfl,rfl⟩
       apply cm rfl;simp[hn,hi]
     ·have c1':¬(l[k].k.toNat:Int)=12:=fun h=>c1 (q192.1 (by rw[e12];omega));apply ae;·simp[c1'];exact⟨rfl,rfl⟩
      apply cm rfl;simp[hn,hi]
   ·have hke:k=l.length:=by omega
    subst hke;have hw:EM l=true:=vJ.2 fun i hi=>ht i hi hi;have hgd:decide ((g:Int)=(b.length:Int))=decide (g=b.length):=decide_eq_decide.2 (by omega);rw[q155];simp[hlt,hw,hgd]
 ·cases h
def vm (b:List UInt8) (lo hi:Nat):mY b (lo:Int) (hi:Int)=(b.drop lo).take (hi-lo):=by simp[mY,q214]
def FM {b:List UInt8}{q t m:Nat} (hq:q<b.length) (h:ai b ((q:Int)+1)=((m:Int),(t:Int),0)) (hl:t+m<=b.length):mY b (q:Int) ((t:Int)+m)=wU b[q] (mY b (t:Int) ((t:Int)+m))/\(mY b (t:Int) ((t:Int)+m)).length=m/\q+1<t:=by
 obtain⟨q',m',e1,e2,e3,e4,r,hr⟩:=nh (b:=b) (p:=(q:Int)+1) (by rw[h]);rw[h]at e2 e4;have e2:(m:Int)=(m':Int):=e2;have e4:(t:Int)=((q'+(bj m').length:Nat):Int):=e4;obtain rfl:m=m':=by omega
 obtain rfl:q'=q+1:=by omega
 have hp:=fQ m;have ht:t=q+1+(bj m).length:=by omega
 have hd:b.drop q=b[q]::(bj m++r):=by rw[q93 hq,hr]
 have hd2:b.drop t=r:=by rw[ht,<-q115,hr,q106]
 have c1:mY b (t:Int) ((t:Int)+m)=r.take m:=by have:=vm b t (t+m);rw[q187]at this;rw[this,hd2];congr 1;omega
 have c2:mY b (q:Int) ((t:Int)+m)=(b[q]::(bj m++r)).take (t+m-q):=by have:=vm b q (t+m);rw[q187]at this;rw[this,hd]
 have hrl:m<=r.length:=by have:=congrArg List.length hd2;rw[q88]at this;omega
 have c3:(mY b (t:Int) ((t:Int)+m)).length=m:=by rw[c1,q68];omega
 refine⟨?_,c3,by omega⟩;rw[c2,c1];have e5:t+m-q=((bj m).length+m)+1:=by omega
 rw[e5,List.take_succ_cons,q199];have e6:(bj m).take ((bj m).length+m)=bj m:=List.take_of_length_le (by omega);have e7:(bj m).length+m-(bj m).length=m:=by omega
 rw[e6,e7];show _=b[q]::bk ((r.take m).length:Int)++r.take m;rw[q68,q103 hrl];rfl
def Ek {b:List UInt8}{q t m:Nat} (hq:q<b.length) (h:ai b ((q:Int)+1)=((m:Int),(t:Int),0)) (hl:t+m+4<=b.length):(mO b[q] (mY b (t:Int) ((t:Int)+m))).length=t+m+4-q/\((b.drop q).take (t+m+4-q)=mO b[q] (mY b (t:Int) ((t:Int)+m))↔mY b ((t:Int)+m) ((t:Int)+m+4)=fZ (j8 (mY b (q:Int) ((t:Int)+m)))):=by
 obtain⟨h1,h2,h3⟩:=FM hq h (by omega);have hlen:(mY b (q:Int) ((t:Int)+m)).length=t+m-q:=by have:=qT b (lo:=(q:Int)) (hi:=(t:Int)+m) (by omega) (by omega) (by omega);omega
 have hw:mO b[q] (mY b (t:Int) ((t:Int)+m))=mY b (q:Int) ((t:Int)+m)++fZ (j8 (mY b (q:Int) ((t:Int)+m))):=by unfold mO;rw[<-h1]
 have hs4:∀s,(fZ s).length=4:=fun s=>rfl;refine⟨by rw[hw,q65,hlen,hs4];omega,?_⟩;rw[hw];have e1:mY b (q:Int) ((t:Int)+m)=(b.drop q).take (t+m-q):=by have:=vm b q (t+m);rwa[q187]at this
 have e2:mY b ((t:Int)+m) ((t:Int)+m+4)=(b.drop (t+m)).take 4:=by have:=vm b (t+m) (t+m+4);rw[q187,q187,q187]at this;rw[show((4:Nat):Int)=4 from rfl]at this;rw[this];congr 1;omega
 have e3:(b.drop q).take (t+m+4-q)=(b.drop q).take (t+m-q)++(b.drop (t+m)).take 4:=by rw[show t+m+4-q=(t+m-q)+4 by omega,List.take_add,q115];congr 3;omega
 rw[e3,<-e1,e2];exact⟨fun h=>q290 h,fun h=>by rw[h]⟩
def Ir {b r:List UInt8}{p:Nat}{k:UInt8}{B:List UInt8} (h:b.drop p=mO k B++r) (hl:B.length<=65535):eh b (p:Int)=(⟨k,B⟩,((p+(mO k B).length:Nat):Int),0):=by
 have hs4:∀s,(fZ s).length=4:=fun s=>rfl;have hv:bk (B.length:Int)=bj B.length:=rfl;have hF:mO k B=k::(bj B.length++(B++fZ (j8 (wU k B)))):=by show(k::bk (B.length:Int)++B)++fZ (j8 (wU k B))=_;rw[hv];simp
 have hFl:(mO k B).length=1+(bj B.length).length+B.length+4:=by rw[hF];simp only[q70,q65,hs4];omega
 have hlen:b.length-p=(mO k B).length+r.length:=by have:=congrArg List.length h;rwa[q88,q65]at this
 have hp:p<b.length:=by omega
 have h0:b[p]=k:=by
  have h1:(b.drop p)[0]?=some k:=by rw[h,hF];rfl
  rw[q89]at h1;simp only[q167]at h1;rw[q62 hp]at h1;simpa using h1
 have hd:b.drop (p+1)=bj B.length++(B++fZ (j8 (wU k B))++r):=by rw[<-q115,h,hF];simp
 have hL:=fm (b:=b) (p:=p+1) (n:=B.length) hd (by omega);have hpos:=fQ B.length;obtain⟨t,ht⟩:∃t,t=p+1+(bj B.length).length:=⟨_,rfl⟩;have hL:ai b ((p:Int)+1)=((B.length:Int),(t:Int),0):=by
  have e1:((p+1:Nat):Int)=(p:Int)+1:=by omega
  rw[e1]at hL;rw[hL,ht];congr 2;all_goals omega
 have hdt:b.drop t=B++(fZ (j8 (wU k B))++r):=by rw[ht,<-q115,hd,q106,q77]
 have hcB:mY b (t:Int) ((t:Int)+(B.length:Int))=B:=by have:=vm b t (t+B.length);rw[q187]at this;rw[this,hdt,show t+B.length-t=B.length by omega,q138]
 obtain⟨f1,f2⟩:=Ek (b:=b) hp hL (by omega);rw[hcB,h0]at f1 f2;have h5:=f2.1 (by rw[<-f1,h,q138]);unfold eh;rw[hL];dsimp only;rw[if_neg (by omega),if_neg (by simp),if_neg (by omega),if_neg (by omega),if_pos h5,hcB];have hg:b.getD (p:Int).toNat 0=k:=by simp[q80,hp,h0]
 rw[hg];congr 2;omega
def JM {k:UInt8}{B:List UInt8} (hl:B.length<=65535):na (mO k B)=([⟨k,B⟩],(mO k B).length):=by
 have h:=Ir (b:=mO k B) (r:=[]) (p:=0) (k:=k) (B:=B) (by simp) hl;have hend:(eh (mO k B) (((mO k B).length:Nat):Int)).2.2≠0:=by unfold eh;rw[if_pos (q247 (q185 _))];simp
 have hpos:0<(mO k B).length:=by simp[mO,wU]
 unfold na;obtain⟨n,hn⟩:∃n,(mO k B).length=n+1:=⟨(mO k B).length-1,by omega⟩;rw[hn,mq];rw[show((0:Nat):Int)=0 from rfl]at h |-;rw[h,if_neg (by simp)];dsimp only;rw[q66,q126,mq,if_pos hend,hn]
def Dq (b:List UInt8) (q:Int):((az b q).2.2=0->0<=q/\q<(az b q).2.1/\(az b q).2.1<=b.length)/\((az b q).2.2≠0->(az b q).2.1=q):=by
 obtain⟨h1,h2,h3,h4,_⟩:=cJ b q;unfold az;split;·rename_i h;exact⟨fun h'=>absurd h' h,fun _=>rfl⟩
 ·rename_i h;have h0:(ai b q).2.2=0:=by simpa using h
  obtain⟨g1,g2,g3⟩:=h1 h0;split;·exact⟨fun h'=>by simp at h',fun _=>rfl⟩
  ·rename_i h';refine⟨fun _=>?_,fun h=>absurd rfl h⟩;dsimp only;omega
def cX (b:List UInt8) (q:Int):En×Int×Int:=if(az b q).2.2≠0 then(⟨[],0⟩,0,(az b q).2.2) else if(ai b (az b q).2.1).2.2≠0 then(⟨[],0⟩,0,(ai b (az b q).2.1).2.2) else(⟨(az b q).1,(ai b (az b q).2.1).1⟩,(ai b (az b q).2.1).2.1,0)
def cK (b:List UInt8):Nat->Int->Int->List En×Int×Int|0,_,q=>([],q,0)|f+1,n,q=>if n<=0 then([],q,0) else if(cX b q).2.2≠0 then([],0,(cX b q).2.2) else if(cK b f (n-1) (cX b q).2.1).2.2≠0 then([],0,(cK b f (n-1) (cX b q).2.1).2.2) else((cX b q).1::(cK b f (n-1) (cX b q).2.1).1,(cK b f (n-1) (cX b q).2.1).2.1,0)
def pd (b:List UInt8) (R:List En×Int×Int):List En×Int:=if R.2.2≠0 then([],R.2.2) else if R.2.1=b.length/\aP R.1=true then(R.1,0) else([],2)
def fc (b:List UInt8):List En×Int:=if(ai b 0).2.2≠0 then([],(ai b 0).2.2) else pd b (cK b (b.length+1) (ai b 0).1 (ai b 0).2.1)
def ib (L:List En) (q:List En×Int×Int):List En×Int×Int:=if q.2.2≠0 then([],0,q.2.2) else(L++q.1,q.2.1,0)
def CY (b:List UInt8):∀(k:Nat) (n p:Int),(cK b k n p).2.2≠0->cK b k n p=([],0,(cK b k n p).2.2)
 |0,n,p,h=>absurd rfl h|k+1,n,p,h=>by
  unfold cK at h |-;split;·rename_i h0;rw[if_pos h0]at h;exact absurd rfl h
  ·rename_i h0;rw[if_neg h0]at h;split;·rfl
   ·split;·rfl
    ·rename_i h1 h2;rw[if_neg h1,if_neg h2]at h;exact absurd rfl h
def vy (b:List UInt8) (k:Nat) (n p:Int):ib [] (cK b k n p)=cK b k n p:=by
 unfold ib;split;·rename_i h;exact(CY b k n p h).symm
 ·rename_i h;have:(cK b k n p).2.2=0:=by simpa using h
  rw[<-this];rfl
def tP (b:List UInt8) (L:List En) (k:Nat) (n p:Int) (hn:0<n) (h:(cX b p).2.2=0):ib L (cK b (k+1) n p)=ib (L++[(cX b p).1]) (cK b k (n-1) (cX b p).2.1):=by
 rw[cK,if_neg (by omega),if_neg (by simpa using h)];by_cases h2:(cK b k (n-1) (cX b p).2.1).2.2=0;·rw[if_neg (by simpa using h2)];simp[ib,h2]
 ·rw[if_pos h2];simp[ib,h2]
def me (b:List UInt8) (L:List En) (k:Nat) (n p:Int) (hn:0<n) (h:(cX b p).2.2≠0):ib L (cK b (k+1) n p)=([],0,(cX b p).2.2):=by rw[cK,if_neg (by omega),if_pos h];simp[ib,h]
def wT (b:List UInt8) (L:List En) (k:Nat) (n p:Int) (hn:n<=0):ib L (cK b k n p)=(L,p,0):=by cases k with|zero=>simp[cK,ib]|succ k=>rw[cK,if_pos hn];simp[ib]
@[simp] noncomputable def F4 (e:TypeId):List AV->Option (Prop×AV)|[.pv (.ro b)]=>(dec dZ b).map fun l=>(l.length<=100000000,.aN [.fr e (bg (fc l).1),.pv (.int .i64 (fc l).2)])|_=>none
def c_rCpar:aL Tryz.prog 86 (F4 107):=by
 intro ys φ r h hφ;unfold F4 at h;split at h
 ·rename_i rb;obtain⟨b,hb,h⟩:=q900.1 h;cases h;cases aK hb;have hl:b.length<=1000000000:=by omega
  refine aq (ag oI (ag (yU oI) (ag c_rRt ah))) (by kernel_rfl) (by conv=>lhs;reduce) (by simp) ?_;by_cases he:(ai b 0).2.2=0
  ·have hT:fc b=pd b (cK b (b.length+1) (ai b 0).1 (ai b 0).2.1):=by unfold fc;rw[if_neg (by simpa using he)]
   obtain⟨k1,k2,k3,k4,k5⟩:=cJ b 0;obtain⟨j1,j2,j3⟩:=k1 he;generalize hP:fc b=T at*;simp[hl,he];generalize(ai b 0).1=n at*;generalize(ai b 0).2.1=q0 at*;refine au (fun x:Nat×Int×List En=>(x.2.2.length:Int)<=n/\0<=x.2.1/\x.2.1<=b.length/\(b.length:Int)<x.1+x.2.1/\x.2.2.length<=x.2.1/\T=pd b (ib x.2.2 (cK b x.1 (n-x.2.2.length) x.2.1))) (fun x=>⟨[(0,.pv (.ro (bytesRow b))),(4,.pv (.int .u64 n)),(5,.pv (.int .i64 x.2.1)),(7,.own 7)],[(7,.arr 107 (bg x.2.2))]⟩) (fun x=>(b.length-x.2.1).toNat) [] (b.length+1,q0,[]) ?_ ?_ ?_;·exact⟨by simpa using k2,by show 0<=q0;omega,j3,by simp;omega,by simp;omega,by rw[vy];simpa using hT⟩
   ·simp
   ·rintro⟨f,q,acc⟩ ⟨hn,hq0,hq1,hf,hacc,hG⟩;dsimp only at hn hq0 hq1 hf hacc hG;have wl:IntKind.u64.wrap (acc.length:Int)=(acc.length:Int):=wrap_u64 (by omega);have hq2:-9223372036854775808<=q:=by omega
    have hq3:q<=9223372036854775807:=by omega
    by_cases hlt:(acc.length:Int)<n
    ·obtain⟨f,rfl⟩:∃g,f=g+1:=⟨f-1,by omega⟩;obtain⟨t1,t2⟩:=Dq b q;by_cases h0:(az b q).2.2=0
     ·obtain⟨t3,t4,t5⟩:=t1 h0;obtain⟨l1,l2,l3,l4,l5⟩:=cJ b (az b q).2.1;have hq4:-9223372036854775808<=(az b q).2.1:=by omega
      have hq5:(az b q).2.1<=9223372036854775807:=by omega
      by_cases h1:(ai b (az b q).2.1).2.2=0
      ·obtain⟨l6,l7,l8⟩:=l1 h1;have hE:cX b q=(⟨(az b q).1,(ai b (az b q).2.1).1⟩,(ai b (az b q).2.1).2.1,0):=by unfold cX;rw[if_neg (by simpa using h0),if_neg (by simpa using h1)]
       rw[tP b acc f (n-acc.length) q (by omega) (by rw[hE]),hE]at hG;simp[wl,hlt,hl,hq2,hq3,hq4,hq5,h0,h1,aF];refine⟨by omega,f,(ai b (az b q).2.1).2.1,acc++[⟨(az b q).1,(ai b (az b q).2.1).1⟩],?_⟩;have hlen:((acc++[(⟨(az b q).1,(ai b (az b q).2.1).1⟩:En)]).length:Int)=acc.length+1:=by simp
       have hi:n-((acc++[(⟨(az b q).1,(ai b (az b q).2.1).1⟩:En)]).length:Int)=n-acc.length-1:=by omega
       refine⟨⟨by omega,by omega,l8,by omega,by omega,by rw[hi];exact hG⟩,⟨rfl,?_⟩,by omega⟩;rw[fu];rfl
      ·have hE:cX b q=(⟨[],0⟩,0,(ai b (az b q).2.1).2.2):=by unfold cX;rw[if_neg (by simpa using h0),if_pos h1]
       rw[me b acc f _ q (by omega) (by rw[hE];exact h1),hE]at hG;have hTe:T=([],(ai b (az b q).2.1).2.2):=by rw[hG];simp[pd,h1]
       simp[wl,hlt,hl,hq2,hq3,hq4,hq5,h0,h1,hTe]
     ·have hE:cX b q=(⟨[],0⟩,0,(az b q).2.2):=by unfold cX;rw[if_pos h0]
      rw[me b acc f _ q (by omega) (by rw[hE];exact h0),hE]at hG;have hTe:T=([],(az b q).2.2):=by rw[hG];simp[pd,h0]
      simp[wl,hlt,hl,hq2,hq3,h0,hTe]
    ·have hle:n-acc.length<=0:=by omega
     rw[wT b acc f _ q hle]at hG;have ha9:acc.length<=1000000000:=by omega
     by_cases hqb:q=b.length;·cases hrs:aP acc with
      |false=>
       have hTe:T=([],2):=by rw[hG];simp[pd,hrs]
       simp[wl,hlt,ha9,hrs,hqb,hTe]|true=>
       have hTe:T=(acc,0):=by rw[hG];simp[pd,hrs,hqb]
       simp[wl,hlt,ha9,hrs,hqb,hTe]
     ·have hTe:T=([],2):=by rw[hG];simp[pd,hqb]
      simp[wl,hlt,ha9,hqb,hTe]
  ·have hT:fc b=([],(ai b 0).2.2):=by unfold fc;rw[if_pos he]
   simp[hl,he,hT]
 ·cases h
def QT:aL Tryz.prog 45 (F4 86):=by
 intro ys φ r h hφ;unfold F4 at h;split at h
 ·rename_i rb;obtain⟨b,hb,h⟩:=q900.1 h;cases h;cases aK hb;have hl:b.length<=1000000000:=by omega
  refine aq (ag tv (ag Be (ag TT ah))) (by kernel_rfl) (by conv=>lhs;reduce) (by simp) ?_;obtain⟨k1,k2,k3,k4,k5⟩:=cJ b 0;have hT1:(ai b 0).2.2=0->fc b=pd b (cK b (b.length+1) (ai b 0).1 (ai b 0).2.1):=fun h=>by unfold fc;rw[if_neg (by simpa using h)]
  have hT2:(ai b 0).2.2≠0->fc b=([],(ai b 0).2.2):=fun h=>by unfold fc;rw[if_pos h]
  generalize hP:fc b=T at*;simp[hl];generalize(ai b 0).1=n at*;generalize(ai b 0).2.1=q0 at*;generalize(ai b 0).2.2=e0 at*;refine au (fun x:Nat×Int×List En×Int×Int=>0<=x.2.2.2.1/\x.2.2.2.1<=n/\(x.2.2.2.2=0->T=pd b (ib x.2.2.1 (cK b x.1 (n-x.2.2.2.1) x.2.1))/\0<=x.2.1/\x.2.1<=b.length/\(b.length:Int)<x.1+x.2.1/\(x.2.2.1.length:Int)<=x.2.1)/\(x.2.2.2.2≠0->T=([],x.2.2.2.2))) (fun x=>⟨[(0,.pv (.ro (bytesRow b))),(4,.pv (.int .u64 n)),(5,.pv (.int .i64 x.2.1)),(6,.pv (.int .i64 x.2.2.2.2)),(7,.own 7),(8,.pv (.int .u64 x.2.2.2.1))],[(7,.arr 86 (bg x.2.2.1))]⟩) (fun x=>if x.2.2.2.2=0 then(b.length-x.2.1).toNat+1 else 0) [] (b.length+1,q0,[],0,e0) ?_ ?_ ?_
  ·refine⟨by show(0:Int)<=0;omega,k2,fun h=>⟨?_,?_⟩,hT2⟩;·rw[vy];simpa using hT1 h
   ·have:=k1 h;exact⟨by show 0<=q0;omega,by show q0<=b.length;omega,by show(b.length:Int)<(b.length+1:Nat)+q0;omega,by show(0:Int)<=q0;omega⟩
  ·simp
  ·rintro⟨f,q,acc,m,e⟩ ⟨hm0,hm1,hz,hnz⟩;dsimp only at hm0 hm1 hz hnz;by_cases he:e=0
   ·subst he;obtain⟨hG,g1,g2,g3,g4⟩:=hz rfl;clear hz hnz;have hacc:acc.length<=1000000000:=by omega
    have hq2:-9223372036854775808<=q:=by omega
    have hq3:q<=9223372036854775807:=by omega
    by_cases hlt:m<n
    ·obtain⟨f,rfl⟩:∃g,f=g+1:=⟨f-1,by omega⟩;have wl:IntKind.u64.wrap (m+1)=m+1:=wrap_u64 (by omega);obtain⟨t1,t2⟩:=Dq b q;by_cases h0:(az b q).2.2=0
     ·obtain⟨t3,t4,t5⟩:=t1 h0;obtain⟨l1,l2,l3,l4,l5⟩:=cJ b (az b q).2.1;have hq4:-9223372036854775808<=(az b q).2.1:=by omega
      have hq5:(az b q).2.1<=9223372036854775807:=by omega
      by_cases h1:(ai b (az b q).2.1).2.2=0
      ·obtain⟨l6,l7,l8⟩:=l1 h1;have hE:cX b q=(⟨(az b q).1,(ai b (az b q).2.1).1⟩,(ai b (az b q).2.1).2.1,0):=by unfold cX;rw[if_neg (by simpa using h0),if_neg (by simpa using h1)]
       rw[tP b acc f (n-m) q (by omega) (by rw[hE]),hE]at hG;simp[wl,hlt,hl,hq2,hq3,hq4,hq5,h0,h1,aF];refine⟨⟨by omega,by omega⟩,f,(ai b (az b q).2.1).2.1,acc++[⟨(az b q).1,(ai b (az b q).2.1).1⟩],m+1,0,⟨by omega,by omega,fun _=>⟨by rw[show n-(m+1)=n-m-1 from by omega];exact hG,by omega,l8,by omega,by simp;omega⟩,fun h=>absurd rfl h⟩,⟨⟨rfl,rfl,rfl⟩,by rw[fu];rfl⟩,?_⟩;rw[if_pos rfl];omega
      ·have hE:cX b q=(⟨[],0⟩,0,(ai b (az b q).2.1).2.2):=by unfold cX;rw[if_neg (by simpa using h0),if_pos h1]
       rw[me b acc f _ q (by omega) (by rw[hE];exact h1),hE]at hG;have hTe:T=([],(ai b (az b q).2.1).2.2):=by rw[hG];simp[pd,h1]
       simp[wl,hlt,hl,hq2,hq3,hq4,hq5,h0,h1,hTe,aF];refine⟨⟨by omega,by omega⟩,f,(ai b (az b q).2.1).2.1,acc++[⟨(az b q).1,(ai b (az b q).2.1).1⟩],m+1,(ai b (az b q).2.1).2.2,⟨by omega,by omega,fun h=>absurd h h1,fun _=>rfl⟩,⟨⟨rfl,rfl,rfl⟩,by rw[fu];rfl⟩,?_⟩;rw[if_neg h1];omega
     ·have hE:cX b q=(⟨[],0⟩,0,(az b q).2.2):=by unfold cX;rw[if_pos h0]
      rw[me b acc f _ q (by omega) (by rw[hE];exact h0),hE]at hG;have hTe:T=([],(az b q).2.2):=by rw[hG];simp[pd,h0]
      simp[wl,hlt,hl,hq2,hq3,h0,hTe]
    ·rw[wT b acc f _ q (by omega)]at hG;by_cases hqb:q=b.length;·cases hrs:aP acc with
      |false=>
       have hTe:T=([],2):=by rw[hG];simp[pd,hrs]
       simp[hlt,hacc,hrs,hqb,hTe]|true=>
       have hTe:T=(acc,0):=by rw[hG];simp[pd,hrs,hqb]
       simp[hlt,hacc,hrs,hqb,hTe]
     ·have hTe:T=([],2):=by rw[hG];simp[pd,hqb]
      simp[hlt,hacc,hqb,hTe]
   ·have hTe:=hnz he;simp[he,hTe]
 ·cases h
def Kg (e:En):0<(oS e).length:=by have:=fQ e.i.toNat;unfold oS bk;simp only[q65];omega
def zr:∀l:List En,l.length<=(fe l).length|[]=>by simp|e::l=>by have h1:=Kg e;have h2:=zr l;unfold fe at h2 |-;simp only[q99,q65,q70];omega
def Et {b r:List UInt8}{p:Nat}{e:En} (h:b.drop p=oS e++r) (hi:E4 e) (hn:e.n.length<2^64):cX b (p:Int)=(e,((p+(oS e).length:Nat):Int),0):=by
 obtain⟨i1,i2⟩:=hi;unfold oS at h;rw[q77]at h;have hT:=nT h hn;have hd:b.drop (p+(cH e.n).length)=bk e.i++r:=by rw[<-q115,h,q106]
 have hL:=fm (p:=p+(cH e.n).length) (n:=e.i.toNat) hd (by omega);have e1:(p:Int)+((cH e.n).length:Int)=((p+(cH e.n).length:Nat):Int):=by omega
 have e2:((e.i.toNat:Nat):Int)=e.i:=by omega
 rw[e1]at hT;rw[e2]at hL;unfold cX;rw[hT];dsimp only;rw[hL,if_neg (by simp),if_neg (by simp)];simp only[q69,and_true,true_and];have e3:(oS e).length=(cH e.n).length+(bj e.i.toNat).length:=by simp[oS,bk]
 rw[e3];omega
def vv {b:List UInt8}:∀(l:List En) (f p:Nat) (r:List UInt8),b.drop p=fe l++r->(∀e∈l,E4 e/\e.n.length<2^64)->l.length<=f->cK b f l.length (p:Int)=(l,((p+(fe l).length:Nat):Int),0)
 |[],f,p,r,_,_,_=>by cases f with|zero=>simp[cK,fe]|succ f=>rw[cK,if_pos (by simp)];simp[fe]
 |e::l,f,p,r,h,hn,hf=>by
  obtain⟨f,rfl⟩:∃g,f=g+1:=⟨f-1,by simp at hf;omega⟩;obtain⟨o1,o2⟩:=hn e (by simp);have hc:fe (e::l)=oS e++fe l:=by simp[fe]
  rw[hc,q77]at h;have hE:=Et h o1 o2;have hd:b.drop (p+(oS e).length)=fe l++r:=by rw[<-q115,h,q106]
  have ih:=vv l f _ r hd (fun m hm=>hn m (by simp[hm])) (by simp at hf;omega);have hlen:(((e::l).length:Nat):Int)-1=(l.length:Int):=by simp
  rw[cK,if_neg (by simp only[q70];omega),hE];dsimp only;rw[hlen,ih,if_neg (by simp),if_neg (by simp),hc];simp only[q65,q69,true_and,and_true];omega
def H3 {l:List En} (hr:aP l=true) (hi:∀e∈l,E4 e) (hl:l.length<2^64):fc (vh l)=(l,0):=by
 have hn:∀e∈l,E4 e/\e.n.length<2^64:=fun e he=>⟨hi e he,by have:=qF hr e he;omega⟩;have hv:bk (l.length:Int)=bj l.length:=by unfold bk;rw[q66]
 have h0:(vh l).drop 0=bj l.length++fe l:=by rw[q236,vh,hv]
 have hL:=fm (p:=0) h0 hl;have hd:(vh l).drop (bj l.length).length=fe l++[]:=by rw[vh,hv,q106,q130]
 have hlen:(vh l).length=(bj l.length).length+(fe l).length:=by rw[vh,hv,q65]
 have hp:=zr l;have hG:=vv l ((vh l).length+1) _ [] hd hn (by omega);have e1:((0:Nat):Int)+((bj l.length).length:Int)=(((bj l.length).length:Nat):Int):=by omega
 rw[e1]at hL;unfold fc;rw[show(0:Int)=((0:Nat):Int) from rfl,hL,if_neg (by simp)];dsimp only;rw[hG];unfold pd;rw[if_neg (by simp),if_pos ⟨by rw[hlen],hr⟩];rfl
noncomputable def eV (x:Sc):List UInt8:=cW [x.c,x.t,(x.ws.length:Int)]++(bQ x.ws++(ec x).1)
noncomputable def kz (x:Sc):List UInt8×Int:=if(ec x).2≠0\/iW x.ws=false then([],2) else(mO 12 (eV x),0)
def zS:Sc:=⟨0,0,BM,[],[]⟩
noncomputable def Gg (b:List UInt8) (c t:Int) (ws:List Pn) (q:Int):Option Sc:=if c=0 then(if(fc (b.drop q.toNat)).2≠0 then none else some ⟨c,t,BM,(fc (b.drop q.toNat)).1,ws⟩) else(if(eR (b.drop q.toNat)).2≠0 then none else some ⟨c,t,(eR (b.drop q.toNat)).1,[],ws⟩)
noncomputable def tG (b:List UInt8):Option Sc:=if(bJ b 0 3).2.2≠0 then none else if(aX b (b.length+1) ((bJ b 0 3).1.getD 2 0) (bJ b 0 3).2.1).2.2≠0 then none else Gg b ((bJ b 0 3).1.getD 0 0) ((bJ b 0 3).1.getD 1 0) (aX b (b.length+1) ((bJ b 0 3).1.getD 2 0) (bJ b 0 3).2.1).1 (aX b (b.length+1) ((bJ b 0 3).1.getD 2 0) (bJ b 0 3).2.1).2.1
noncomputable def sm (b:List UInt8):Sc×Int:=if(iX b).2=false then(zS,220) else match tG (iX b).1 with|none=>(zS,220)|some x=>if iW x.ws=true then(x,0) else(zS,220)
def BU (n:Int):bk n≠[]:=by show bj _≠[];rw[bj];split<;>simp
def NO {x:Sc} (h:(ec x).2=0):(ec x).1≠[]:=by
 unfold ec at h |-;split
 ·rename_i h1;rw[if_pos h1]at h;unfold jZ at h |-;split;·exact fun e=>BU _ (q207.1 e).1
  ·rename_i h2;rw[if_neg h2]at h;simp at h
 ·rename_i h1;rw[if_neg h1]at h;split
  ·rename_i h2;rw[if_pos h2]at h;unfold ph at h |-;split;·rename_i h3;rw[if_pos h3]at h;simp at h
   ·exact fun e=>BU _ (q207.1 (q207.1 e).1).1
  ·rename_i h2;rw[if_neg h2]at h;simp at h
def MZ {S:Nat->Prop}{w:World}{v:Value}{L:List Pn} (h:dA S w v (.ro (ay L))):∃Ao c,v=.slice Ao L.length c/\(L=[]\/∃A0,Ao=some A0/\S A0.block/\∀(k:Nat) (h:k<L.length),w.cell? (A0.add (k*3))=some (.int .u64 L[k].i)/\w.cell? ⟨(A0.add (k*3)).block,(A0.add (k*3)).off+1,none⟩=some (.int .u64 L[k].v)/\w.cell? ⟨(A0.add (k*3)).block,(A0.add (k*3)).off+2,none⟩=some (.int .u64 L[k].u)):=by
 obtain⟨A,c,rfl,hc,hne⟩:=h.gJ;rw[c9];refine⟨A,c,rfl,?_⟩;by_cases hL:L=[];·exact .inl hL
 obtain⟨ad,sz,us,rfl,g1,g2,g3,g4,g5⟩:=hne (fun e=>hL (by have:=congrArg List.length e;rw[c9]at this;exact q76 this));refine .inr ⟨ad,rfl,g1,fun k hk=>?_⟩;have hr:(ay L)[k]?=some [.int .u64 L[k].i,.int .u64 L[k].v,.int .u64 L[k].u]:=by simp[ay,hk,rowP]
 have hs:sz=3:=by rw[<-g2 _ (List.mem_of_getElem? hr)];rfl
 subst hs;have hk':k<(ay L).length:=by rw[c9];exact hk
 have e0:=g3 k 0 hk' (by omega);have e1:=g3 k 1 hk' (by omega);have e2:=g3 k 2 hk' (by omega);rw[(g5 k 0 _ _ hr rfl).aG]at e0;rw[(g5 k 1 _ _ hr rfl).aG]at e1;rw[(g5 k 2 _ _ hr rfl).aG]at e2;have hb:∀j,j≠0->ad.add (k*3+j)=⟨(ad.add (k*3)).block,(ad.add (k*3)).off+j,none⟩:=fun j hj=>by by_cases hk0:k*3=0<;>simp[Addr.add,hj,hk0,q193]
 rw[hb 1 (by omega)]at e1;rw[hb 2 (by omega)]at e2;exact⟨by simpa using e0,e1,e2⟩
def Ge {α:Type}{l:List α} (h:l.length=1):∃a,l=[a]:=q208.1 h
def Ey (x:Sc):Prop:=Pv x/\cg x.c/\cg x.t/\(∀w∈x.ws,iV w)/\x.ws.length<=10000/\((kz x).2=0->(eV x).length<=65535)
@[simp] noncomputable def Ju:List AV->Option (Prop×AV)|[.agg ys]=>mG ys fun x=>some (Ey x,.aN [.pv (.ro (bytesRow (kz x).1)),.pv (.int .i64 (kz x).2)])|_=>none
def Ke:aL Tryz.prog 9 Ju:=by
 intro ys φ r h hφ;unfold Ju at h;split at h
 ·obtain⟨x,rfl,h2⟩:=eQ h;clear h;cases h2;obtain⟨ok,oc,ot,ow,ol,oB⟩:=hφ;have k1:yA Tryz.prog 31 [] [.agg (aZ x)] [] (.aN [.fr 5 (bytesRow (ec x).1),.pv (.int .i64 (ec x).2)]):=by refine abr _ _ _ ?_ ok;obtain⟨c,t,⟨⟨e,p,i,u,h'⟩,ps,vs,sl⟩,cs,ws⟩:=x;simp[aZ]
  have k2:yA Tryz.prog 32 [] [.agg (aZ x)] [] (.pv (.bool (iW x.ws))):=by refine Qq _ _ _ ?_ (by have:=ol;omega:x.ws.length<=1000000000);obtain⟨c,t,⟨⟨e,p,i,u,h'⟩,ps,vs,sl⟩,cs,ws⟩:=x;simp[aZ]
  by_cases hbad:(ec x).2≠0\/iW x.ws=false
  ·have hp:kz x=([],2):=by unfold kz;rw[if_pos hbad]
   rw[hp];intro w S0 β vals hS0 hlt hheap hvl hvr;obtain⟨v0,rfl⟩:=Ge hvl;have hv0:=hvr 0 v0 _ rfl rfl;obtain⟨us,rfl,hl,hus⟩:=hv0.dg;match us,hl with
   |[a0,a1,a2,a3,a4,a5,a6,a7,a8,a9,a10,a11],_=>
    cases(hus 0 _ a0 rfl rfl).aG;cases(hus 1 _ a1 rfl rfl).aG;obtain⟨S,hSd⟩:∃S,S=bn S0 w.heap.size β (ab []) w:=⟨_,rfl⟩;have hSl:∀b,S b->b<w.heap.size:=fun b hb=>by rw[hSd]at hb;exact hb.2.1
    have hva:∀W,Below w.heap.size w W->RV Tryz.prog S W (fun _=>.nilIface) (fun _=>False) _ _:=fun W hW=>hv0.mono (fun b hb=>⟨by rw[hSd];exact hb,hW.block b hb.2.1⟩) (fun t ⟨o,ho⟩=>by simp[ab]at ho);have hone:∀W,Below w.heap.size w W->∀(i:Nat) (v:Value) (y:AV),[Value.agg #[.int .u64 x.c,.int .u64 x.t,a2,a3,a4,a5,a6,a7,a8,a9,a10,a11]][i]?=some v->[AV.agg (aZ x)][i]?=some y->RV Tryz.prog S W (fun _=>.nilIface) (fun _=>False) v y:=fun W hW i v y hi hx=>by match i,hi,hx with|0,hi,hx=>simp only[q72,qr]at hi hx;subst hi hx;exact hva W hW|i+1,hi,hx=>simp at hi
    refine(IK x.c x.t a2 a3 a4 a5 a6 a7 a8 a9 a10 a11 (ec x).2 (iW x.ws) hbad w ?_ ?_).mono ?_;·intro W hW;refine(kc k1 (vals:=[.agg #[.int .u64 x.c,.int .u64 x.t,a2,a3,a4,a5,a6,a7,a8,a9,a10,a11]]) rfl (fun b hb=>q97 (hSl b hb) hW.size) (hone W hW)).mono ?_;rintro e W1 ⟨v,β',rfl,hB1,hh,hb,hr⟩;have hr:RV Tryz.prog _ W1 β' _ v (.aN [.own 0,.pv (.int .i64 (ec x).2)]):=hr;obtain⟨us,rfl,hl,hu⟩:=hr.jt;match us,hl with|[u0,u1],_=>cases(hu 1 _ u1 rfl rfl).aG;exact⟨_,rfl,hB1⟩
    ·intro W hW;refine(kc k2 (vals:=[.agg #[.int .u64 x.c,.int .u64 x.t,a2,a3,a4,a5,a6,a7,a8,a9,a10,a11]]) rfl (fun b hb=>q97 (hSl b hb) hW.size) (hone W hW)).mono ?_;rintro e W1 ⟨v,β',rfl,hB1,hh,hb,hr⟩;exact⟨by rw[RV.fj (b:=iW x.ws) hr],hB1⟩
    ·rintro e w' ⟨rfl,hBw⟩;refine⟨_,fun _=>.nilIface,rfl,⟨hBw.os,hBw.tape,hBw.output,hBw.size,fun k hk _=>hBw.block k hk⟩,⟨fun t o ho=>?_,fun t t' b ⟨o,ho⟩=>?_⟩,fun t b ⟨o,ho⟩=>?_,?_⟩;·rw[lP]at ho;cases ho
     ·rw[lP]at ho;cases ho
     ·rw[lP]at ho;cases ho
     ·refine .aN _ [.slice none 0 0,.int .i64 2] rfl fun i y u hy hu=>?_;match i,hy,hu with|0,hy,hu=>cases hy;cases hu;exact .pv _ _ (.zk none 0)|1,hy,hu=>cases hy;cases hu;exact .pv _ _ (.int _ _)|i+2,hy,hu=>simp at hu
  have hp:kz x=(mO 12 (eV x),0):=by unfold kz;rw[if_neg hbad]
  have hc0:(ec x).2=0:=q280 fun h=>hbad (.inl h);have hr0:iW x.ws=true:=by cases h:iW x.ws with|true=>rfl|false=>exact absurd (.inr h) hbad
  have hlen:(eV x).length<=65535:=oB (by rw[hp]);have hC:=NO hc0;rw[hc0]at k1;rw[hr0]at k2;have k3:∀a b c:Int,cg a->cg b->cg c->yA Tryz.prog 33 [] [.pv (.ro [[.int .u64 a],[.int .u64 b],[.int .u64 c]])] [] (.fr 5 (bytesRow (cW [a,b,c]))):=by
   intro a b c ha hb hc;have h:Nb [.pv (.ro (b6 [a,b,c]))]=some (([a,b,c]:List Int).length<=1000000/\(∀n∈([a,b,c]:List Int),cg n),.fr 5 (bytesRow (cW [a,b,c]))):=by rw[M9,oy];rfl
   refine Jo _ _ _ h ⟨by simp,?_⟩;intro n hn;simp only[q78,q102,or_false]at hn;rcases hn with rfl|rfl|rfl;·exact ha
   ·exact hb
   ·exact hc
  have k4:yA Tryz.prog 35 [] [.pv (.ro [[.int .u8 12,.ro (bytesRow (eV x))]])] [] (.aN [.fr 5 (bytesRow (mO 12 (eV x))),.pv (.int .i64 0)]):=by
   have h:GfJ [.pv (.ro (gu [⟨12,eV x⟩]))]=some (([⟨12,eV x⟩]:List Fm).length<=1000/\(∀f∈([⟨12,eV x⟩]:List Fm),f.b.length<=65535),.aN [.fr 5 (bytesRow (pc [⟨12,eV x⟩])),.pv (.int .i64 0)]):=by unfold GfJ;dsimp only;rw[sy];rfl
   have:=c_fJ _ _ _ h ⟨by simp,by simpa using hlen⟩;rw[show gu [⟨12,eV x⟩]=[[PV.int .u8 12,.ro (bytesRow (eV x))]] from rfl]at this;simpa[pc]using this
  rw[hp];have hBe:eV x=(cW [x.c,x.t,(x.ws.length:Int)]++bQ x.ws)++(ec x).1:=by unfold eV;rw[q77]
  generalize hR:mO 12 (eV x)=R at*;generalize hCd:(ec x).1=C at*;rw[hBe]at hlen k4;intro w S0 β vals hS0 hlt hheap hvl hvr;obtain⟨v0,rfl⟩:=Ge hvl;have hv0:=hvr 0 v0 _ rfl rfl;obtain⟨us,rfl,hl,hus⟩:=hv0.dg;match us,hl with
  |[a0,a1,a2,a3,a4,a5,a6,a7,a8,a9,a10,a11],_=>
   cases(hus 0 _ a0 rfl rfl).aG;cases(hus 1 _ a1 rfl rfl).aG;obtain⟨Al,cl,rfl,hA⟩:=MZ (hus 11 _ a11 rfl rfl).bL;obtain⟨S,hSd⟩:∃S,S=bn S0 w.heap.size β (ab []) w:=⟨_,rfl⟩;have hSl:∀b,S b->b<w.heap.size:=fun b hb=>by rw[hSd]at hb;exact hb.2.1
   have hva:∀W,Below w.heap.size w W->RV Tryz.prog S W (fun _=>.nilIface) (fun _=>False) _ _:=fun W hW=>hv0.mono (fun b hb=>⟨by rw[hSd];exact hb,hW.block b hb.2.1⟩) (fun t ⟨o,ho⟩=>by simp[ab]at ho);have hone:∀W,Below w.heap.size w W->∀(i:Nat) (v:Value) (y:AV),[Value.agg #[.int .u64 x.c,.int .u64 x.t,a2,a3,a4,a5,a6,a7,a8,a9,a10,.slice Al x.ws.length cl]][i]?=some v->[AV.agg (aZ x)][i]?=some y->RV Tryz.prog S W (fun _=>.nilIface) (fun _=>False) v y:=fun W hW i v y hi hx=>by match i,hi,hx with|0,hi,hx=>simp only[q72,qr]at hi hx;subst hi hx;exact hva W hW|i+1,hi,hx=>simp at hi
   refine(Hw x.c x.t x.ws a2 a3 a4 a5 a6 a7 a8 a9 a10 Al cl C R oc ot ol ow (by rw[q65]at hlen;exact hlen) w (hA.imp id fun⟨A0,e,hb,hc⟩=>⟨A0,e,hb.2.1,hc⟩) ?_ ?_ ?_ ?_).mono ?_;·intro W hW;refine(kc k1 (vals:=[.agg #[.int .u64 x.c,.int .u64 x.t,a2,a3,a4,a5,a6,a7,a8,a9,a10,.slice Al x.ws.length cl]]) rfl (fun b hb=>q97 (hSl b hb) hW.size) (hone W hW)).mono ?_;rintro e W1 ⟨v,β',rfl,hB1,hh,hb,hr⟩;have hr:RV Tryz.prog _ W1 β' _ v (.aN [.own 0,.pv (.int .i64 0)]):=hr;obtain⟨us,rfl,hl,hu⟩:=hr.jt;match us,hl with
    |[u0,u1],_=>
     have e0:=((hu 0 _ u0 rfl rfl).bo).1;cases(hu 1 _ u1 rfl rfl).aG;subst e0;have hown:=uU (n0:=W.heap.size) Bz (hh.holds 0 (.arr 5 (bytesRow C)) rfl) (fun b hb'=>hb 0 b ⟨_,rfl⟩ hb');rcases hown.2 with⟨_,h0⟩|⟨g,cap,cur,hg,hgb,hgh,hnc,hcm,hcs,htk⟩;·exact absurd (q76 h0) hC
     ·refine⟨⟨g,0,none⟩,cap,by rw[hg],fun j hj=>?_,(q67.1 hgh).1,hB1⟩;rw[q100,<-htk,q81,if_pos (by omega)];unfold World.cell?;rw[hgh];simp
   ·intro W hW;refine(kc k2 (vals:=[.agg #[.int .u64 x.c,.int .u64 x.t,a2,a3,a4,a5,a6,a7,a8,a9,a10,.slice Al x.ws.length cl]]) rfl (fun b hb=>q97 (hSl b hb) hW.size) (hone W hW)).mono ?_;rintro e W1 ⟨v,β',rfl,hB1,hh,hb,hr⟩;exact⟨by rw[RV.fj (b:=true) hr],hB1⟩
   ·intro a b c oa ob oc W A cc hc h0 h1 h2;have hAb:A.block<W.heap.size:=by
     have:(A.add 0).block<W.heap.size:=by
      unfold World.cell? at h0;split at h0;·rename_i hq;exact(q67.1 hq).1
      ·cases h0
     rwa[bN]at this
    refine(kc (k3 a b c oa ob oc) (S:=fun b=>b<W.heap.size) (vals:=[.slice (some A) 3 cc]) rfl (fun b hb=>hb) (fun i v y hi hx=>?_)).mono ?_;·match i,hi,hx with
     |0,hi,hx=>
      cases hi;cases hx;refine .pv _ _ (.ro A cc [[.int .u64 a],[.int .u64 b],[.int .u64 c]] 1 (fun i _=>.int .u64 ([a,b,c].getD i 0)) hAb hc (fun r hr=>?_) (fun i j hi hj=>?_) (fun _ _ _ _ _ _=>rfl) (fun i j r p hr hp=>?_));·simp only[q78,q102,or_false]at hr;rcases hr with rfl|rfl|rfl<;>rfl
      ·obtain rfl:j=0:=by omega
       match i,hi with|0,_=>exact h0|1,_=>exact h1|2,_=>exact h2|i+3,hi=>simp at hi;omega
      ·match i,hr with
       |0,hr=>cases hr;match j,hp with|0,hp=>cases hp;exact .int _ _|j+1,hp=>simp at hp
       |1,hr=>cases hr;match j,hp with|0,hp=>cases hp;exact .int _ _|j+1,hp=>simp at hp
       |2,hr=>cases hr;match j,hp with|0,hp=>cases hp;exact .int _ _|j+1,hp=>simp at hp
       |i+3,hr=>simp at hr
     |i+1,hi,hx=>simp at hi
    ·rintro e W1 ⟨v,β',rfl,hB1,hh,hb,hr⟩;have e0:=(RV.bo (t:=0) hr).1;subst e0;exact⟨_,rfl,uU Bz (hh.holds 0 (.arr 5 (bytesRow (cW [a,b,c]))) rfl) (fun b hb'=>hb 0 b ⟨_,rfl⟩ hb'),hB1⟩
   ·intro W A c V hc h0 h1 hV;have hAb:A.block<W.heap.size:=by
     have:(A.add 0).block<W.heap.size:=by
      unfold World.cell? at h0;split at h0;·rename_i hq;exact(q67.1 hq).1
      ·cases h0
     rwa[bN]at this
    have hV2:W.ownsRow 0 5 1 V (cW [x.c,x.t,(x.ws.length:Int)]++bQ x.ws++C).length (dW (cW [x.c,x.t,(x.ws.length:Int)]++bQ x.ws++C)):=by
     have:dW (cW [x.c,x.t,(x.ws.length:Int)]++bQ x.ws++C)=dW (cW [x.c,x.t,(x.ws.length:Int)]++bQ x.ws)++dW C:=by simp[dW]
     rw[this,q65];exact hV
    generalize cW [x.c,x.t,(x.ws.length:Int)]++bQ x.ws++C=BC at*;have hRV:dA (fun b=>b<W.heap.size) W V (.ro (bytesRow BC)):=Bi (P:=Tryz.prog) hV2 fun b _ hb=>hb;have hVo:V.oneCell'=true:=by rcases hV.2 with⟨rfl,_⟩|⟨g,cap,cur,rfl,_⟩<;>rfl
    refine(kc k4 (S:=fun b=>b<W.heap.size) (vals:=[.slice (some A) 1 c]) rfl (fun b hb=>hb) (fun i v y hi hx=>?_)).mono ?_;·match i,hi,hx with
     |0,hi,hx=>
      cases hi;cases hx;refine .pv _ _ (.ro A c [[.int .u8 12,.ro (bytesRow BC)]] 2 (fun _ j=>if j=0 then .int .u8 12 else V) hAb hc (fun r hr=>?_) (fun i j hi hj=>?_) (fun i j r p hr hp=>?_) (fun i j r p hr hp=>?_));·simp only[q78,q102,or_false]at hr;subst hr;rfl
      ·obtain rfl:i=0:=by simp at hi;omega
       match j,hj with|0,_=>exact h0|1,_=>exact h1|j+2,hj=>omega
      ·split;·rfl
       ·exact hVo
      ·match i,hr with
       |0,hr=>cases hr;match j,hp with|0,hp=>cases hp;exact .int _ _|1,hp=>cases hp;exact hRV|j+2,hp=>simp at hp
       |i+1,hr=>simp at hr
     |i+1,hi,hx=>simp at hi
    ·rintro e W1 ⟨v,β',rfl,hB1,hh,hb,hr⟩;have hr:RV Tryz.prog _ W1 β' _ v (.aN [.own 0,.pv (.int .i64 0)]):=hr;obtain⟨us,rfl,hl,hu⟩:=hr.jt;match us,hl with|[u0,u1],_=>have e0:=((hu 0 _ u0 rfl rfl).bo).1;cases(hu 1 _ u1 rfl rfl).aG;subst e0;exact⟨_,rfl,Bi (P:=Tryz.prog) (uU (n0:=W.heap.size) Bz (hh.holds 0 (.arr 5 (bytesRow R)) rfl) (fun b hb'=>hb 0 b ⟨_,rfl⟩ hb')) fun b h1 h2=>⟨h1,h2⟩,hB1⟩
   ·rintro e w' ⟨V',rfl,hR,hBw⟩;refine⟨_,fun _=>.nilIface,rfl,⟨hBw.os,hBw.tape,hBw.output,hBw.size,fun k hk _=>hBw.block k hk⟩,⟨fun t o ho=>?_,fun t t' b ⟨o,ho⟩=>?_⟩,fun t b ⟨o,ho⟩=>?_,?_⟩;·rw[lP]at ho;cases ho
    ·rw[lP]at ho;cases ho
    ·rw[lP]at ho;cases ho
    ·refine .aN _ [V',.int .i64 0] rfl fun i y u hy hu=>?_;match i,hy,hu with|0,hy,hu=>cases hy;cases hu;exact .pv _ _ (hR.mono fun b hb=>⟨⟨.inr hb.1,hb.2,fun⟨t,o,ho,_⟩=>by rw[lP]at ho;cases ho⟩,rfl⟩)|1,hy,hu=>cases hy;cases hu;exact .pv _ _ (.int _ _)|i+2,hy,hu=>simp at hu
 ·cases h
def nD (b:List UInt8):Nat->Int->Int->Int|0,_,q=>q|f+1,n,q=>if n<=0 then q else if(aH b 3 q).2.2≠0 then q else nD b f (n-1) (aH b 3 q).2.1
def Dl (b:List UInt8):∀(f:Nat) (n q:Int),(aX b f n q).2.2=0->nD b f n q=(aX b f n q).2.1
 |0,n,q,_=>rfl|f+1,n,q,h=>by
  unfold aX nD at*;split at h;·rename_i h1;rw[if_pos h1,if_pos h1]
  ·rename_i h1;rw[if_neg h1,if_neg h1];split at h;·rename_i h2;exact absurd h h2
   ·rename_i h2;rw[if_neg h2,if_neg h2];split at h;·rename_i h3;exact absurd h h3
    ·rename_i h3;rw[if_neg h3];exact Dl b f (n-1) _ (by simpa using h3)
@[simp] noncomputable def Gliv:List AV->Option (Prop×AV)|[.pv (.ro b),.pv (.int .i64 p),.pv (.int .u64 n)]=>(dec dZ b).map fun l=>((l.length<=100000000/\0<=p/\p<=l.length)/\0<=n/\n<=18446744073709551615,.aN [.fr 84 (ay (aX l (l.length+1) n p).1),.pv (.int .i64 (nD l (l.length+1) n p)),.pv (.int .i64 (aX l (l.length+1) n p).2.2)])|_=>none
def aae:aL Tryz.prog 44 Gliv:=by
 intro ys φ r h hφ;unfold Gliv at h;split at h
 ·rename_i rb p n;obtain⟨b,hb,h⟩:=q900.1 h;cases h;cases aK hb;obtain⟨⟨hl8,hp1,hp2⟩,hn1,hn2⟩:=hφ;have hl:b.length<=1000000000:=by omega
  have h3:(3:Int).toNat=3:=rfl;have hinf:(Tryz.prog.info? 84).isSome=true:=by kernel_rfl
  refine aq (ag uS ah) (by kernel_rfl) (by conv=>lhs;reduce) (by simp) ?_;have hfin:aX b (b.length+1) n p=gm [] (aX b (b.length+1) n p):=(wY b _ n p).symm;generalize hT:aX b (b.length+1) n p=T at*;generalize hE:nD b (b.length+1) n p=E at*;have hfin:T=gm [] (aX b (b.length+1) n p):=by rw[hT];exact hfin
  simp;refine au (fun x:Nat×Int×List Pn×Int=>0<=x.2.2.2/\x.2.2.2<=18446744073709551615/\0<=x.2.1/\x.2.1<=b.length/\T=gm x.2.2.1 (aX b x.1 x.2.2.2 x.2.1)/\E=nD b x.1 x.2.2.2 x.2.1/\(b.length:Int)<x.1+x.2.1/\(x.2.2.1.length:Int)<=x.2.1) (fun x=>⟨[(0,.pv (.ro (bytesRow b))),(1,.pv (.int .i64 x.2.1)),(2,.pv (.int .u64 x.2.2.2)),(6,.own 6)],[(6,.arr 84 (ay x.2.2.1))]⟩) (fun x=>(b.length-x.2.1).toNat) [] (b.length+1,p,[],n) ⟨hn1,hn2,hp1,hp2,hfin,hE.symm,by show(b.length:Int)<((b.length+1:Nat):Int)+p;omega,hp1⟩ ?_ ?_;·simp[ay]
  ·rintro⟨f,q,acc,m⟩ ⟨hm0,hm1,hq1,hq2,hG,hA,hf,hacc⟩;dsimp only at hm0 hm1 hq1 hq2 hG hA hf hacc;have g1:-9223372036854775808<=q:=by omega
   have g2:q<=9223372036854775807:=by omega
   have ha9:acc.length<=1000000000:=by omega
   rw[ke];dsimp only;obtain⟨f,rfl⟩:∃g,f=g+1:=⟨f-1,by omega⟩;by_cases hlt:0<m
   ·have wl:IntKind.u64.wrap (m-1)=m-1:=wrap_u64 (by omega);by_cases h0:(aH b 3 q).2.2=0
    ·obtain⟨x,y,z,hx,o1,o2,o3⟩:=nU h0;obtain⟨_,_,i3,i4⟩:=im b 3 q h0;have i4:=(i4 (by omega)).2;have hAA:bJ b q 3=([x,y,z],(aH b 3 q).2.1,0):=by unfold bJ;rw[if_neg (by simpa using h0),<-hx,<-h0]
     rw[uo b acc f m q hlt h0,hx]at hG;have hA2:E=nD b f (m-1) (aH b 3 q).2.1:=by rw[hA,nD,if_neg (by omega),if_neg (by simpa using h0)]
     have r0:rowAt (b6 [x,y,z]) 0=[.int .u64 x]:=rfl;have r1:rowAt (b6 [x,y,z]) 1=[.int .u64 y]:=rfl;have r2:rowAt (b6 [x,y,z]) 2=[.int .u64 z]:=rfl;simp[hlt,hl,g1,g2,h3,hAA,r0,r1,r2,wl,aF];exact⟨⟨by omega,by omega⟩,f,(aH b 3 q).2.1,acc++[⟨x,y,z⟩],m-1,⟨by omega,by omega,by omega,by omega,hG,hA2,by omega,by simp;omega⟩,⟨⟨rfl,rfl⟩,by rw[gN];rfl⟩,by omega⟩
    ·have hAA:bJ b q 3=([],q,(aH b 3 q).2.2):=by unfold bJ;rw[if_pos h0]
     rw[u7 b acc f m q hlt h0]at hG;have hA2:E=q:=by rw[hA,nD,if_neg (by omega),if_pos h0]
     simp[hlt,hl,g1,g2,h3,hAA,h0,hG,hA2,hinf]
   ·rw[vA b acc (f+1) m q (by omega)]at hG;have hA2:E=q:=by rw[hA,nD,if_pos (by omega)]
    simp[hlt,hG,hA2]
 ·cases h
end Go.Proofs.YtifcndkhigakfaaGreat.Ab
