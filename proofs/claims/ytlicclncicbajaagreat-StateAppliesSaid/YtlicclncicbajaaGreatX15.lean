/- Chapter 2: checksums as plain numbers: one digit, a byte, a row; by a table, and digit by digit. -/
import Derived.Test.YtlicclncicbajaaGreatX14
import Derived.Test.YtlicclncicbajaaGreatX16
import Derived.ProofKit
import Derived.Below
import Derived.ChangeSame
import Derived.Carry
import Derived.Deep.Slices
import Derived.Deep.Fields
import Derived.Test.YtlicclncicbajaaGreatRows
set_option linter.unusedVariables false
set_option linter.unusedSimpArgs false
set_option linter.unnecessarySimpa false
set_option maxHeartbeats 40000000
set_option maxRecDepth 100000
set_option linter.defProp false
namespace Go.Proofs.YtlicclncicbajaaGreat.Ab
open Go Go.RowKit Go.Shelf R
variable {n i:Nat}{f:FuncId}{l:List Vn}{W:World}{row:List PV}
attribute[local go_sem] Oper.semAt_some
theorem LH (a b:List UInt8):eJ (a++b)=eJ a++eJ b:=by simp[eJ]
theorem EA {s i:Nat} (h:i<4):(km s).take (i+1)=(km s).take i++[(s/256^i).toUInt8]:=by rcases(show i=0∨i=1∨i=2∨i=3 by omega) with rfl|rfl|rfl|rfl<;>simp[km]
theorem FG {n0:Nat}{w W W':World}{V:Value}{e:TypeId}{sz n:Nat}{xs:List Value} (hW:Below n0 w W) (hr:W.ownsRow n0 e sz V n xs) (hg:W.grownBy W' V.ownBlock) (hn:n0≤w.heap.size:=by omega):Below n0 w W':=by
 refine hW.grown hg (q113 hn hW.size) fun q e=>?_;rcases hr.2 with⟨hv,_⟩|⟨g,cap,cur,hv,hgb,_⟩;·rw[hv]at e;cases e
 ·rw[hv]at e;have e':some g=some q:=e;cases e';exact hgb
set_option maxHeartbeats 4000000 in theorem KL (k:UInt8) (b P:List UInt8) (s:Nat) (hs:s<4294967296) (A:Addr) (c:Nat) (hb:b.length≤65535) (hP:P.length≤10) (hP0:P≠[]) (w:World) (hA:A.block<w.heap.size) (hcl:∀j u,(eJ b)[j]?=some u→w.cell? (A.add j)=some u) (hp:∀W,Calls Tryz.prog 77 #[.int .u64 b.length] W fun e W1=>∃A c,e=.returned (.slice (some A) P.length c)∧(∀j,j<P.length→W1.cell? (A.add j)=(eJ P)[j]?)∧A.block<W1.heap.size∧Below W.heap.size W W1) (hS:∀W A c V,1≤c→W.cell? (A.add 0)=some V→W.ownsRow 0 5 1 V (k::P++b).length (eJ (k::P++b))→Calls Tryz.prog 78 #[.slice (some A) 1 c] W fun e W1=>e=.returned (.int .u32 (s:Int))∧Below W.heap.size W W1):Calls Tryz.prog 43 #[.agg #[.int .u8 (k.toNat:Int),.slice (some A) b.length c]] w fun e w'=>∃V',e=.returned V'∧w'.ownsRow w.heap.size 5 1 V' (k::P++b++km s).length (eJ (k::P++b++km s))∧Below w.heap.size w w':=by
 refine(callsIn_wide (n:=6)).1 ?_;refine callsIn_of_wp Tryz.func43 rfl trivial ?_ rfl;simp only[Tryz.ntmps43,q105,q79,q87,Nat.reduceAdd,Nat.reduceSub,q248,q249,q268,q256,q158,q149];have hw:IntKind.u64.wrap (b.length:Int)=(b.length:Int):=wrap_u64 (by omega);obtain⟨iu,hiu,hu0,hu1,hu2⟩:=info_parts yu;obtain⟨W0,hW0⟩:∃W0,W0=(w.alloc (.cells #[.int .u8 (k.toNat:Int),.slice (some A) b.length c] 79)).alloc (.cells #[.int .u8 (k.toNat:Int)] 5):=⟨_,rfl⟩;have hB0:Below w.heap.size w W0:=by rw[hW0];exact((q246 _ w).alloc (q93 _) _).alloc (by simp) _
 have hz0:W0.heap.size=w.heap.size+2:=by rw[hW0];simp
 have hf0:W0.heap[w.heap.size]?=some (.cells #[.int .u8 (k.toNat:Int),.slice (some A) b.length c] 79 (0,0)):=by rw[hW0];exact(q201 _ _ _ (by simp)).trans (q250 w _)
 have hr0:W0.ownsRow w.heap.size 5 1 (.slice (some ⟨w.heap.size+1,0,none⟩) 1 1) 1 (eJ [k]):=by refine⟨rfl,.inr ⟨w.heap.size+1,1,#[.int .u8 (k.toNat:Int)],rfl,by omega,?_,q93 _,by unfold maxLen;omega,rfl,rfl⟩⟩;rw[hW0];have:=q250 (w.alloc (.cells #[.int .u8 (k.toNat:Int),.slice (some A) b.length c] 79)) (.cells #[.int .u8 (k.toNat:Int)] 5);rw[World.size_alloc]at this;exact this
 gi_wp2;rw[←hW0];refine⟨trivial,(callsIn_wide.2 (hp W0)).mono ?_⟩;rintro e W1 ⟨A1,c1,rfl,hC1,hA1,hB1⟩;have hf1:=(hB1.block _ (by omega)).trans hf0;have hr1:W1.ownsRow w.heap.size 5 1 (.slice (some ⟨w.heap.size+1,0,none⟩) 1 1) 1 (eJ [k]):=by
  refine⟨hr0.1,.inr ?_⟩;rcases hr0.2 with⟨h,_⟩|⟨g,cap,cur,h1,h2,h3,h4⟩;·cases h
  ·exact⟨g,cap,cur,h1,h2,(hB1.block _ (q66.1 h3).1).trans h3,h4⟩
 have hPw:∀j u,(eJ P)[j]?=some u→W1.cell? (A1.add j)=some u:=fun j u hj=>by
  have hjl:j<P.length:=by have:=(q65.1 hj).1;simpa[eJ]using this
  rw[hC1 j hjl,hj]
 have hBw1:Below w.heap.size w W1:=hB0.trans (hB1.mono (by omega));have hbk:∀{W W':World}{V:Value}{n:Nat}{xs:List Value},Below w.heap.size w W→W.ownsRow w.heap.size 5 1 V n xs→W.heap[w.heap.size]?=some (.cells #[.int .u8 (k.toNat:Int),.slice (some A) b.length c] 79 (0,0))→W.grownBy W' V.ownBlock→Below w.heap.size w W'∧W'.heap[w.heap.size]?=some (.cells #[.int .u8 (k.toNat:Int),.slice (some A) b.length c] 79 (0,0)):=by
  intro W W' V n xs hW hr hf hg;refine⟨hW.grown hg hW.size fun q e=>?_,(hg.block _ (q66.1 hf).1 fun e=>?_).trans hf⟩
  ·rcases hr.2 with⟨hv,_⟩|⟨g,cap,cur,hv,hgb,_⟩;·rw[hv]at e;cases e
   ·rw[hv]at e;have e':some g=some q:=e;cases e';exact hgb
  ·rcases hr.2 with⟨hv,_⟩|⟨g,cap,cur,hv,hgb,hgh,_⟩;·rw[hv]at e;cases e
   ·rw[hv]at e;have e':some w.heap.size=some g:=e;cases e';rw[hf]at hgh;cases hgh
 have hc2:∀{W:World},W.heap[w.heap.size]?=some (.cells #[.int .u8 (k.toNat:Int),.slice (some A) b.length c] 79 (0,0))→W.cell? ⟨w.heap.size,1,none⟩=some (.slice (some A) b.length c):=fun h=>by unfold World.cell?;rw[h];rfl
 have hbw:∀{W:World},Below w.heap.size w W→∀j u,(eJ b)[j]?=some u→W.cell? (A.add j)=some u:=fun hW j u hj=>(hW.cell (by rw[bW];exact hA)).trans (hcl j u hj);have h1c:∀l:List UInt8,∀u∈eJ l,u.oneCell'=true:=by intro l u hu;simp only[eJ,q84]at hu;obtain⟨q,_,rfl⟩:=hu;rfl
 have hl0:∀l:List UInt8,(eJ l).length=l.length*1:=fun l=>by simp[eJ]
 gi_wp2_with(first|(gi_at_builtin;refine wpListIn_append_own _ rfl _ _ 74 rfl w.heap.size 5 iu (.int .u8 0) 1 1 Tryz.underlying74 hiu hu0 hu1 hu2 rfl (by decide) _ _ _ rfl hr1 A1 P.length c1 (eJ P) rfl (hl0 _) hPw (h1c _) (by unfold maxLen;omega) (by omega) hBw1.size ?_;intro V2 W2 hV2 hg2 _;obtain⟨hBw2,hf2⟩:=hbk hBw1 hr1 hf1 hg2;have hx2:=hc2 hf2;clear hr1)|(gi_at_builtin;refine wpListIn_append_own _ rfl _ _ 74 rfl w.heap.size 5 iu (.int .u8 0) 1 1 Tryz.underlying74 hiu hu0 hu1 hu2 rfl (by decide) _ _ _ rfl hV2 A b.length c (eJ b) rfl (hl0 _) (hbw hBw2) (h1c _) (by unfold maxLen;omega) (by omega) hBw2.size ?_;intro V3 W3 hV3 hg3 _;obtain⟨hBw3,hf3⟩:=hbk hBw2 hV2 hf2 hg3;obtain⟨g3,cap3,rfl⟩:∃g cap,V3=.slice (some ⟨g,0,none⟩) (1+P.length+b.length) cap:=(by rcases hV3.2 with⟨_,h0⟩|⟨g,cap,cur,h,_⟩<;>first|omega|exact⟨_,_,h⟩)));obtain⟨W4,hW4⟩:∃W4,W4=W3.alloc (.cells #[.slice (some ⟨g3,0,none⟩) (1+P.length+b.length) cap3] 74):=⟨_,rfl⟩;have hV4:W4.ownsRow w.heap.size 5 1 (.slice (some ⟨g3,0,none⟩) (1+P.length+b.length) cap3) (1+P.length+b.length) (eJ [k]++eJ P++eJ b):=by rw[hW4];exact hV3.alloc _
 have hB4:Below w.heap.size w W4:=by rw[hW4];exact hBw3.alloc hBw3.size _
 have hk4:W4.cell? ((⟨W3.heap.size,0,none⟩:Addr).add 0)=some (.slice (some ⟨g3,0,none⟩) (1+P.length+b.length) cap3):=by rw[hW4,q100];exact(Boxed.new W3 _ _).cell
 have hlen:(k::P++b).length=1+P.length+b.length:=by simp;omega
 have hby:eJ (k::P++b)=eJ [k]++eJ P++eJ b:=by simp[eJ]
 rw[←hW4];refine⟨trivial,(callsIn_wide.2 (hS W4 ⟨W3.heap.size,0,none⟩ 1 _ (q93 _) hk4 (by rw[hlen,hby];exact pO hV4))).mono ?_⟩;rintro e W5 ⟨rfl,hB5⟩;have hV5:W5.ownsRow w.heap.size 5 1 (.slice (some ⟨g3,0,none⟩) (1+P.length+b.length) cap3) (1+P.length+b.length) (eJ [k]++eJ P++eJ b):=by
  refine⟨hV4.1,.inr ?_⟩;rcases hV4.2 with⟨h,_⟩|⟨g,cap,cur,h1,h2,h3,h4⟩;·cases h
  ·exact⟨g,cap,cur,h1,h2,(hB5.block _ (q66.1 h3).1).trans h3,h4⟩
 have hBw5:Below w.heap.size w W5:=hB4.trans (hB5.mono hB4.size);clear hV4 hk4 hV3 hV2 hg2 hg3 hr0 hf0 hf1 hf2 hf3 hx2 hC1 hPw hW4 hW0 hbw hc2;gi_wp2;gi_loopw[3,4,5] (fun v p q wr=>∃i:Nat,i≤4∧p=.int .u32 ((s/256^i:Nat):Int)∧q=.int .i64 (i:Int)∧wr.ownsRow w.heap.size 5 1 v (1+P.length+b.length+i) (eJ [k]++eJ P++eJ b++eJ ((km s).take i))∧Below w.heap.size w wr) (fun _ _ q _=>4-(intOf q).toNat);case atStart=>exact⟨0,by omega,by simp,rfl,by simpa[eJ]using hV5,hBw5⟩
 case round=>
  obtain⟨i,hi,rfl,rfl,hrow,hB⟩:=hrel;have hsz:w.heap.size≤wr.heap.size:=hB.size;by_cases hlt:(i:Int)<4
  ·gi_wp2_with(gi_at_builtin;refine wpListIn_append_own _ rfl _ _ 74 rfl w.heap.size 5 iu (.int .u8 0) 1 1 Tryz.underlying74 hiu hu0 hu1 hu2 rfl (by decide) _ _ _ rfl (hrow.alloc _) ⟨wr.heap.size,0,none⟩ 1 1 [_] rfl rfl (cell_one_new _ _ _) (by simp[Value.oneCell']) (by unfold maxLen;omega) (by omega) (by simp;omega) ?_;intro V6 W6 hV6 hg6 _);have hm:s/256^i<4294967296:=q262 (Nat.div_le_self _ _) hs;have hz:((s:Int)/256^i)=((s/256^i:Nat):Int):=by simp
   have hd:s/256^(i+1)=s/256^i/256:=by rw[Nat.pow_succ,Nat.div_div_eq_div_mul]
   rw[hz]at hV6 hg6;obtain⟨m,hmd⟩:∃m,m=s/256^i:=⟨_,rfl⟩;rw[←hmd]at hV6 hg6 hz hm hd;have hm0:(0:Int)≤(m:Int):=q261 m;refine⟨⟨i+1,by omega,?_,by simp,?_,?_⟩,by simp[intOf];omega⟩;·rw[hz,hd,q146 hm0];congr 1;omega
   ·have hsa:(km s).take (i+1)=(km s).take i++[m.toUInt8]:=by rw[hmd];exact EA (by omega)
    have hv:((m:Int).tmod 256%256)=((m.toUInt8.toNat:Nat):Int):=by rw[q178 hm0];simp
    rw[hsa,LH,←q96,show eJ [m.toUInt8]=[.int .u8 ((m.toUInt8.toNat:Nat):Int)] from rfl,←hv];exact hV6
   ·exact FG (hB.alloc hsz _) (hrow.alloc _) hg6
  ·have:i=4:=by omega
   subst this;gi_wp2;refine bodyPost_ret (results_tmp rfl _ _ _) rfl ⟨_,rfl,?_,hB⟩;have e1:(P.length+(b.length+(km s).length)+1)=1+P.length+b.length+4:=by show P.length+(b.length+4)+1=_;omega
   have e2:eJ (k::(P++(b++km s)))=eJ [k]++eJ P++eJ b++eJ ((km s).take 4):=by rw[show(km s).take 4=km s from rfl];simp[eJ]
   rw[e1,e2];exact hrow
theorem Ik {S:Nat→Prop}{w:World}{v:Value}{b:List UInt8} (h:dt S w v (.ro (bytesRow b))) (hb:b≠[]):∃A c,v=.slice (some A) b.length c∧S A.block∧∀j u,(eJ b)[j]?=some u→w.cell? (A.add j)=some u:=by
 obtain⟨A,c,rfl,hc,hne⟩:=h.gq;have hlen:(bytesRow b).length=b.length:=by simp[bytesRow]
 obtain⟨ad,sz,us,rfl,g1,g2,g3,g4,g5⟩:=hne (fun e=>hb (by have:=congrArg List.length e;rw[hlen]at this;exact q72 this));refine⟨ad,c,by rw[hlen],g1,fun j u hj=>?_⟩;have hjl:j<b.length:=by have:=(q65.1 hj).1;simpa[eJ]using this
 have hr:(bytesRow b)[j]?=some [.int .u8 (b[j].toNat:Int)]:=by simp[bytesRow,hjl]
 have hs1:sz=1:=by rw[←g2 _ (List.mem_of_getElem? hr)];rfl
 subst hs1;have h1:=g3 j 0 (by omega) (by omega);have h2:=(g5 j 0 _ _ hr rfl).aN;rw[h2]at h1;have hu:u=.int .u8 (b[j].toNat:Int):=by simp only[eJ,q77,q64 hjl,q116,qr]at hj;exact hj.symm
 rw[hu];simpa using h1
theorem Qw {P:Program}{args:List AV}{L:List UInt8} (h:∀(w:World) (S:Nat→Prop) (vals:List Value),(∀b,S b→b<w.heap.size)→vals.length=args.length→(∀(i:Nat) (x:Value) (y:AV),vals[i]?=some x→args[i]?=some y→RV P S w (fun _=>.nilIface) (fun _=>False) x y)→Calls P f vals.toArray w fun e w'=>∃V,e=.returned V∧dt (fun b=>w.heap.size≤b∧b<w'.heap.size) w' V (.ro (bytesRow L))∧Below w.heap.size w w'):sO P f [] args [] (.pv (.ro (bytesRow L))):=by
 intro w S0 β vals hS0 hlt hheap hvl hvr;have hno:∀t,bC (ab []) (fun t=>dC (cellAt (.pv (.ro (bytesRow L))) t)) t=none:=by
  intro t;show dC (cellAt (.pv (.ro (bytesRow L))) t)=none;simp only[cellAt,bM];split;·split<;>rfl
  ·rfl
 refine(h w (aZ S0 w.heap.size β (ab []) w) vals (fun b hb=>hb.2.1) hvl fun i x y hx hy=>?_).mono ?_;·exact(hvr i x y hx hy).mono (fun b hb=>⟨hb,rfl⟩) (fun t ⟨o,ho⟩=>by simp[ab]at ho)
 ·rintro e w' ⟨V,rfl,hR,hb⟩;refine⟨_,fun _=>.nilIface,rfl,⟨hb.os,hb.tape,hb.output,hb.size,fun k hk _=>hb.block k hk⟩,⟨fun t o ho=>?_,fun t t' b ⟨o,ho⟩=>?_⟩,fun t b ⟨o,ho⟩=>?_,.pv _ _ (hR.mono fun b hb=>⟨⟨.inr hb.1,hb.2,fun⟨t,o,ho,_⟩=>by rw[hno]at ho;cases ho⟩,rfl⟩)⟩;·rw[hno]at ho;cases ho
  ·rw[hno]at ho;cases ho
  ·rw[hno]at ho;cases ho
@[simp] noncomputable def Yo:List AV→Option (Prop×AV)|[.agg [.pv k,.pv b]]=>(dec nq [[k,b]]).map fun l=>(((l.map Fm.b).getD 0 []).length≤65535∧((l.map Fm.b).getD 0 [])≠[],.pv (.ro (bytesRow (l.flatMap fun f=>FR f.k f.b))))|_=>none
theorem c_rfB:aJ Tryz.prog 43 Yo:=by
 intro ys φ r h hφ;unfold Yo at h;split at h
 ·obtain⟨l,hk,h⟩:=q0.1 h;cases h;obtain⟨⟨k,b⟩,rfl,rfl,rfl⟩:=ka hk;obtain⟨h1,h2⟩:=hφ;have h1:b.length≤65535:=h1;have h2:b≠[]:=h2;have hv:=zg b h1;have hv0:cW (b.length:Int)≠[]:=by show fC b.length≠[];rw[fC];split<;>simp
  have hf:=sP k b h1;have hfl:List.flatMap (fun f:Fm=>FR f.k f.b) [⟨k,b⟩]=FR k b:=by simp
  rw[hfl];refine Qw fun w S vals hS hvl hvr=>?_;match vals,hvl with|[v0],_=>obtain⟨us,rfl,hl,hus⟩:=(hvr 0 v0 _ rfl rfl).da;match us,hl with
   |[a0,a1],_=>
    cases(hus 0 _ a0 rfl rfl).aN;obtain⟨A,c,rfl,hSA,hcl⟩:=Ik (hus 1 _ a1 rfl rfl).bq h2;have hgs:Ej [.pv (.ro [[.ro (bytesRow (zO k b))]])]=some ((zO k b).length≤1000000000,.pv (.int .u32 ((pj (zO k b):Nat):Int))):=by rw[JQ,dL];rfl
    refine(KL k b (cW (b.length:Int)) (pj (zO k b)) (JR _) A c h1 hv hv0 w (hS _ hSA) hcl ?_ ?_).mono ?_
    ·intro W;refine(m5 (QL _ _ _ (Kj (b.length:Int)) ⟨by omega,by omega⟩) (S:=fun b=>b<W.heap.size) (vals:=[.int .u64 b.length]) rfl (fun b hb=>hb) (fun i v x hi hx=>?_)).mono ?_;·match i,hi,hx with|0,hi,hx=>cases hi;cases hx;exact .pv _ _ (.int _ _)|i+1,hi,hx=>simp at hi
     ·rintro e W1 ⟨v,β',rfl,hB1,hh,hb,hr⟩;have e0:=(RV.aX (t:=0) hr).1;subst e0;have hown:=sW (n0:=W.heap.size) yO (hh.holds 0 (.arr 5 (bytesRow (cW (b.length:Int)))) rfl) (fun b hb'=>hb 0 b ⟨_,rfl⟩ hb');rcases hown.2 with⟨_,h0⟩|⟨g,cap,cur,hg,hgb,hgh,hnc,hcm,hcs,htk⟩;·exact absurd (q72 h0) hv0
      ·refine⟨⟨g,0,none⟩,cap,by rw[hg],fun j hj=>?_,(q66.1 hgh).1,hB1⟩;rw[q100,←htk,q81,if_pos (by omega)];unfold World.cell?;rw[hgh];simp
    ·intro W A2 c2 V hc2 hV0 hV;have hAb:A2.block<W.heap.size:=by
      have:(A2.add 0).block<W.heap.size:=by
       unfold World.cell? at hV0;split at hV0;·rename_i hq;exact(q66.1 hq).1
       ·cases hV0
      rwa[bW]at this
     have hRV:dt (fun b=>b<W.heap.size) W V (.ro (bytesRow (zO k b))):=yE (P:=Tryz.prog) hV fun b _ hb=>hb;have hVo:V.oneCell'=true:=by rcases hV.2 with⟨rfl,_⟩|⟨g,cap,cur,rfl,_⟩<;>rfl
     refine(m5 (Po _ _ _ hgs (by omega)) (S:=fun b=>b<W.heap.size) (vals:=[.slice (some A2) 1 c2]) rfl (fun b hb=>hb) (fun i v x hi hx=>?_)).mono ?_;·match i,hi,hx with
      |0,hi,hx=>
       cases hi;cases hx;refine .pv _ _ (.ro A2 c2 [[.ro (bytesRow (zO k b))]] 1 (fun _ _=>V) hAb hc2 (fun r hr=>?_) (fun i j hi hj=>?_) (fun i j r p hr hp=>hVo) (fun i j r p hr hp=>?_));·simp only[q76,q92,or_false]at hr;subst hr;rfl
       ·obtain rfl:i=0:=by simp at hi;omega
        obtain rfl:j=0:=by omega
        exact hV0
       ·match i,hr with
        |0,hr=>cases hr;match j,hp with|0,hp=>cases hp;exact hRV|j+1,hp=>simp at hp
        |i+1,hr=>simp at hr
      |i+1,hi,hx=>simp at hi
     ·rintro e W1 ⟨v,β',rfl,hB1,hh,hb,hr⟩;exact⟨by rw[RV.aN (k:=.u32) (n:=((pj (zO k b):Nat):Int)) hr],hB1⟩
    ·rintro e w' ⟨V',rfl,hR,hBw⟩;exact⟨V',rfl,yE (P:=Tryz.prog) hR fun b h1 h2=>⟨h1,h2⟩,hBw⟩
 ·cases h
@[simp] noncomputable def GrfP:List AV→Option (Prop×AV)|[.agg [.pv k,.pv b]]=>(dec nq [[k,b]]).map fun l=>(((l.map Fm.b).getD 0 []).length≤65535∧((l.map Fm.b).getD 0 [])≠[],.aO [.pv (.ro (bytesRow (l.flatMap fun f=>FR f.k f.b))),.pv (.int .i64 0)])|_=>none
theorem XU:aJ Tryz.prog 22 GrfP:=by
 intro ys φ r h hφ;unfold GrfP at h;split at h
 ·obtain⟨l,hk,h⟩:=q0.1 h;cases h;obtain⟨⟨k,b⟩,rfl,rfl,rfl⟩:=ka hk;obtain⟨h1,hne⟩:=hφ;have hl:b.length≤65535:=h1;have hne:¬b=[]:=hne;have hl2:¬(65535:Int)<(b.length:Int):=by omega
  have hl3:(b.length:Int)≤65535:=by omega
  refine ak (ag c_rfB ah) (by kernel_rfl) (by conv=>lhs;reduce) (by simp) ?_;simp(config := { maxSteps := 3000000 }) [hl,hl2,hl3,hne]
 ·cases h
end Go.Proofs.YtlicclncicbajaaGreat.Ab
namespace Go.Proofs.YtlicclncicbajaaGreat.Ab
open Go Go.RowKit R
variable {n i:Nat}{f:FuncId}{l:List Vn}{W:World}{row:List PV}
def jk (n:Int):Sc:=⟨n,0,⟨⟨0,0,0,0,false⟩,[],[],false⟩,[],[]⟩
@[simp] noncomputable def GBl:List AV→Option (Prop×AV)|[.pv (.int .u64 n)]=>some (True,.agg [.pv (.int .u64 n),.pv (.int .u64 0),.pv (.int .u64 0),.pv (.int .u64 0),.pv (.int .u64 0),.pv (.int .u64 0),.pv (.bool false),.pv .nil,.pv .nil,.pv (.bool false),.pv .nil,.pv .nil])|_=>none
theorem c_Bl:aJ Tryz.prog 20 GBl:=by
 intro ys φ r h hφ;unfold GBl at h;split at h;·cases h;refine ak ah (by kernel_rfl) (by conv=>lhs;reduce) (by simp) ?_;simp(config := { maxSteps := 3000000 })
 ·cases h
def b5:List UInt8:=[0,0,0,0,0,0,0,1,0]
theorem mJ (h:n<128):cW (n:Int)=[n.toUInt8]:=by show fC n=_;rw[df h]
theorem wh:im []=([0],0):=by have v0:cW 0=[0]:=mJ (n:=0) (by omega);have hr:bS []=true:=rfl;unfold im;rw[if_pos ⟨hr,rfl⟩];simp[HE,jM,v0]
theorem BD:GR ⟨⟨0,0,0,0,false⟩,[],[],false⟩=(b5,0):=by have v0:cW 0=[0]:=mJ (n:=0) (by omega);have v1:cW 1=[1]:=mJ (n:=1) (by omega);simp[GR,wh,kf,lI,gQ,wZ,nI,oU,v0,v1,df,b5]
theorem Bj:Gs ⟨⟨0,0,0,0,false⟩,[],[],false⟩:=by simp[Gs,cy,wh]
theorem QT:sO Tryz.prog 38 [] [.agg (aS (jk 5))] [] (.aO [.fr 5 (bytesRow b5),.pv (.int .i64 0)]):=by
 refine ak (ag PW (ag c_SD ah)) (by kernel_rfl) (by conv=>lhs;reduce) (by simp) ?_;apply af;·simp(config := { maxSteps := 3000000 }) [aS,jk];exact⟨rfl,rfl⟩
 rw[aL];apply af;·simp(config := { maxSteps := 3000000 });exact⟨rfl,rfl⟩
 apply cM rfl;rw[ur,aL];apply af;·simp(config := { maxSteps := 3000000 });exact⟨rfl,rfl⟩
 apply bJ rfl;simp(config := { maxSteps := 3000000 }) [Bj,BD]
theorem Qj:sO Tryz.prog 39 [] [.agg (aS (jk 5))] [] (.pv (.bool true)):=by
 refine ak ah (by kernel_rfl) (by conv=>lhs;reduce) (by simp) ?_;simp(config := { maxSteps := 3000000 }) [aS,jk];refine aj (fun k:Nat=>True) (fun k=>⟨[(1,.ptr 1 0),(2,.pv (.bool false)),(6,.pv (.int .i64 0)),(7,.pv (.int .i64 0))],[(1,.box (aS (jk 5)))]⟩) (fun k=>0) [] 0 trivial ?_ ?_;·simp[aS,jk]
 ·intro k _;simp(config := { maxSteps := 3000000 }) [aS,jk]
noncomputable def r5:List UInt8:=pz [⟨12,[5,0,0]++b5⟩]
theorem allL5:lI [5,0,0]=[5,0,0]:=by have v0:cW 0=[0]:=mJ (n:=0) (by omega);have v5:cW 5=[5]:=mJ (n:=5) (by omega);simp[lI,v0,v5]
theorem RU:sO Tryz.prog 21 [] [.agg (aS (jk 5))] [] (.aO [.pv (.ro (bytesRow r5)),.pv (.int .i64 0)]):=by
 refine JY 5 0 _ _ _ _ _ _ _ _ _ [5,0,0] b5 r5 (by decide) (by decide) QT Qj ?_ ?_
 ·have h:Le [.pv (.ro (cm [5,0,0]))]=some (([5,0,0]:List Int).length≤1000000∧(∀n∈([5,0,0]:List Int),cy n),.fr 5 (bytesRow (lI [5,0,0]))):=by rw[Lh,mX];rfl
  have:=H9 _ _ _ h ⟨by decide,by simp[cy]⟩;rw[allL5]at this;exact this
 ·have h:GfJ [.pv (.ro (lQ [⟨12,[5,0,0]++b5⟩]))]=some (([⟨12,[5,0,0]++b5⟩]:List Fm).length≤1000∧(∀f∈([⟨12,[5,0,0]++b5⟩]:List Fm),f.b.length≤65535),.aO [.fr 5 (bytesRow (pz [⟨12,[5,0,0]++b5⟩])),.pv (.int .i64 0)]):=by unfold GfJ;dsimp only;rw[rq];rfl
  exact c_fJ _ _ _ h ⟨by decide,by simp[b5]⟩
@[simp] noncomputable def Md:List AV→Option (Prop×AV)|[.agg ys]=>lx ys fun x=>some (x=jk 5,.aO [.pv (.ro (bytesRow r5)),.pv (.int .i64 0)])|_=>none
theorem Rm:aJ Tryz.prog 21 Md:=by
 intro ys φ r h hφ;unfold Md at h;split at h;·obtain⟨x,rfl,h2⟩:=dU h;clear h;cases h2;have hx:x=jk 5:=hφ;subst hx;exact RU
 ·cases h
def sA:Sc:=⟨0,1,⟨⟨0,0,0,0,false⟩,[],[],false⟩,[⟨[97],1⟩],[⟨1,1,1⟩]⟩
def sB:Sc:=⟨0,2,⟨⟨0,0,0,0,false⟩,[],[],false⟩,[⟨[97],1⟩,⟨[98],2⟩],[⟨1,1,2⟩]⟩
theorem aA:dn ⟨0,0,⟨⟨0,0,0,0,false⟩,[],[],false⟩,[],[]⟩ ⟨9,1,1,1,0,0,0,0,0,0,[97],[]⟩ 0=(sA,0):=by kernel_rfl
theorem aB:dn sA ⟨9,1,1,2,0,0,0,0,0,0,[98],[]⟩ 0=(sB,0):=by kernel_rfl
theorem aC:dn sB ⟨9,1,1,2,0,0,0,0,0,0,[99],[]⟩ 0=(sB,220):=by kernel_rfl
theorem aD:dn sB ⟨7,1,1,3,0,0,0,0,0,0,[],[]⟩ 0=(sB,220):=by kernel_rfl
theorem qB:sx sB.ws 1 1=(2,true):=by kernel_rfl
theorem oS0:uD ⟨0,0,⟨⟨0,0,0,0,false⟩,[],[],false⟩,[],[]⟩ ⟨9,1,1,1,0,0,0,0,0,0,[97],[]⟩ 0:=by simp[uD,cy]
theorem oSA:uD ⟨0,1,⟨⟨0,0,0,0,false⟩,[],[],false⟩,[⟨[97],1⟩],[⟨1,1,1⟩]⟩ ⟨9,1,1,2,0,0,0,0,0,0,[98],[]⟩ 0:=by simp[uD,cy]
theorem oSB (r:Rc) (h:r.c=0) (h2:r.v=0):uD ⟨0,2,⟨⟨0,0,0,0,false⟩,[],[],false⟩,[⟨[97],1⟩,⟨[98],2⟩],[⟨1,1,2⟩]⟩ r 0:=by simp[uD,cy,h,h2]
theorem Y7:rowAt (aM [⟨[97],1⟩,⟨[98],2⟩]) 0=[.str [97],.int .u64 1]:=rfl
theorem Yz:rowAt (aM [⟨[97],1⟩,⟨[98],2⟩]) 1=[.str [98],.int .u64 2]:=rfl
theorem f12:dec nq [[.int .u8 12,.ro [[.int .u8 5],[.int .u8 0],[.int .u8 0],[.int .u8 0],[.int .u8 0],[.int .u8 0],[.int .u8 0],[.int .u8 0],[.int .u8 0],[.int .u8 0],[.int .u8 1],[.int .u8 0]]]]=some [⟨12,[5,0,0]++b5⟩]:=by
 have e:[[PV.int .u8 12,.ro [[.int .u8 5],[.int .u8 0],[.int .u8 0],[.int .u8 0],[.int .u8 0],[.int .u8 0],[.int .u8 0],[.int .u8 0],[.int .u8 0],[.int .u8 0],[.int .u8 1],[.int .u8 0]]]]=lQ [⟨12,[5,0,0]++b5⟩]:=by kernel_rfl
 rw[e];exact rq _
theorem Ph:(pz [⟨12,[5,0,0,0,0,0,0,0,0,0,1,0]⟩]).length≤1000000000:=by have:=sP 12 [5,0,0,0,0,0,0,0,0,0,1,0] (by decide);simp only[pz,FR,km,q106,q234,q147,q74,q79,q87]at this ⊢;omega
@[simp] noncomputable def aa7:List AV→Option (Prop×AV)|[]=>some (True,.pv (.bool true))|_=>none
theorem c_wkS:aJ Tryz.prog 7 aa7:=by
 intro ys φ r h hφ;unfold aa7 at h;split at h
 ·cases h;have kA:=aA;have kB:=aB;have kC:=aC;have kD:=aD;have kQ:=qB;unfold sA at kA kB;unfold sB at kB kC kD kQ;have kD2:=oSB ⟨7,1,1,3,0,0,0,0,0,0,[],[]⟩ rfl rfl;have kC2:=oSB ⟨9,1,1,2,0,0,0,0,0,0,[99],[]⟩ rfl rfl;refine ak (ag c_Bl (ag Nd (ag Mx (ag Rm (ag XU (ag JL ah)))))) (by kernel_rfl) (by conv=>lhs;reduce) (by simp) ?_;apply af;·simp(config := { maxSteps := 3000000 });exact⟨rfl,rfl⟩
  apply af;·simp(config := { maxSteps := 3000000 }) [kA,oS0,bF,fN,aF,aE,aU];exact⟨rfl,rfl⟩
  apply af;·simp(config := { maxSteps := 3000000 }) [kB,oSA,bF,fN,aF,aE,aU];exact⟨rfl,rfl⟩
  apply af;·simp(config := { maxSteps := 3000000 }) [kC,kC2,bF,fN,aF,aE,aU];exact⟨rfl,rfl⟩
  apply af;·simp(config := { maxSteps := 3000000 }) [kD,kD2,bF,fN,aF,aE,aU];exact⟨rfl,rfl⟩
  apply af;·simp(config := { maxSteps := 3000000 }) [kQ];exact⟨rfl,rfl⟩
  apply af;·simp(config := { maxSteps := 3000000 }) [jk];exact⟨rfl,rfl⟩
  apply af;·simp(config := { maxSteps := 3000000 }) [f12,b5];exact⟨rfl,rfl⟩
  apply af
  ·refine(show cn _ _ _ _ _ from ?_);apply bR 12 rfl rfl;·simp(config := { maxSteps := 3000000 }) [Y7,Yz,aU];exact⟨rfl,rfl⟩
   apply bR 12 rfl rfl;·simp(config := { maxSteps := 3000000 }) [Y7,Yz,aU];exact⟨rfl,rfl⟩
   apply bR 10 rfl rfl;·simp(config := { maxSteps := 3000000 }) [Y7,Yz,aU];exact⟨rfl,rfl⟩
   apply bR 8 rfl rfl;·simp(config := { maxSteps := 3000000 }) [Y7,Yz,aU];exact⟨rfl,rfl⟩
   apply bR 8 rfl rfl;·simp(config := { maxSteps := 3000000 }) [Y7,Yz,aU];exact⟨rfl,rfl⟩
   simp(config := { maxSteps := 3000000 }) [r5,b5];exact⟨Ph,rfl,rfl⟩
  simp(config := { maxSteps := 3000000 });simp[pz]
 ·cases h
inductive Ch (l:List Vn):Vn→List Vn→Prop|base (v:Vn):bT v=0→Ch l v [v]|step (v w:Vn) (p:List Vn):w∈l→w.n=bT v→bT v≠0→Ch l w p→Ch l v (p++[v])
theorem Ch.mono {l m:List Vn} (hs:∀v∈l,v∈m) {v:Vn}{p:List Vn} (h:Ch l v p):Ch m v p:=by induction h with|base v h=>exact .base v h|step v w p hw hn hb _ ih=>exact .step v w p (hs w hw) hn hb ih
theorem Ch.map {f:Vn→Vn} (hn:∀v,(f v).n=v.n) (hb:∀v,bT (f v)=bT v) {v:Vn}{p:List Vn} (h:Ch l v p):Ch (l.map f) (f v) (p.map f):=by induction h with|base v h=>exact .base _ ((hb v).trans h)|step v w p hw h1 h2 _ ih=>rw[q148];exact .step _ (f w) _ (q84.2 ⟨w,hw,rfl⟩) (by rw[hn,hb,h1]) (by rw[hb];exact h2) ih
theorem Ch.self {v:Vn}{p:List Vn} (h:Ch l v p):∃q,p=q++[v]:=by cases h with|base _ _=>exact⟨[],rfl⟩|step _ _ p _ _ _ _=>exact⟨p,rfl⟩
theorem Ch.shape {v:Vn}{p:List Vn} (h:Ch l v p):∀(k:Nat) (hk:k<p.length),(bT p[k]=0↔k=0)∧∀h0:0<k,bT p[k]=(p[k-1]'(by omega)).n:=by induction h with
 |base v h=>
  intro k hk;simp only[q157]at hk;have:k=0:=by omega
  subst this;exact⟨by simpa using h,fun h=>by omega⟩|step v w p hw hn hb hc ih=>
  intro k hk;rw[q74,q157]at hk;by_cases hkp:k<p.length;·obtain⟨h1,h2⟩:=ih k hkp;refine⟨by rw[q187 hkp];exact h1,fun h0=>?_⟩;rw[q187 hkp,q187 (show k-1<p.length by omega)];exact h2 h0
  ·have hke:k=p.length:=by omega
   obtain⟨q,rfl⟩:=hc.self;subst hke;refine⟨?_,fun h0=>?_⟩;·rw[q184 (by omega)];simp only[q247,q295,q74,q157];exact⟨fun h=>absurd h hb,fun h=>by omega⟩
   ·rw[q184 (by omega),q187 (by simp)];simp only[q247,q295,q74,q157,q159];rw[q184 (by omega)];simpa using hn.symm
theorem Gv (l:List Vn) (v:Vn):(dD l v).1.length≤l.length+1:=by
 unfold dD;split;·simp
 ·split<;>simp
theorem Ak (l:List Vn) (cw:List Int):(eL l cw).length≤l.length:=by
 unfold eL;split;·simp
 ·have:=q144 (fun v=>ky (nu l cw) v.n) (nu l cw);rw[tJ]at this;exact this
theorem OU {a:Ap}{x:Ap×Bool} (h:CD a=some x):x.1.ps.length≤a.ps.length+1∧x.1.vs.length≤a.vs.length+1:=by
 have p1:∀e,(qn a.ps e).1.length≤a.ps.length+1:=by intro e;unfold qn;split<;>simp
 have p2:∀n,(rh a.ps n).1.length≤a.ps.length+1:=by
  intro n;unfold rh;have:=tc n a.ps;split;·show(lL n a.ps).length≤_;omega
  ·simp
 have p3:∀c s,(dP a.ps c s).length≤a.ps.length+1:=by intro c s;have:=q144 (fun e=>!fg c s e) a.ps;unfold dP;omega
 have v1:=fun v=>Gv a.vs v;have v2:=fun k=>Ak a.vs k;unfold CD at h;repeat' split at h
 all_goals first|cases h;exact⟨q119 _,q119 _⟩|cases h;exact⟨q119 _,v1 _⟩|cases h;exact⟨p1 _,q119 _⟩|cases h;exact⟨p2 _,q119 _⟩|cases h;exact⟨p3 _ _,Nat.le_succ_of_le (v2 _)⟩|cases h
theorem LI (a:Ap):(bh a).1.ps.length≤a.ps.length+1∧(bh a).1.vs.length≤a.vs.length+1:=by
 unfold bh;split;·exact⟨q119 _,q119 _⟩
 ·rename_i x hx;split;·exact OU hx
  ·exact⟨q119 _,q119 _⟩
theorem HY (l:List En) (s:List UInt8) (n:Int):(dg l s n).1.length≤l.length+1:=by
 unfold dg;repeat' split
 all_goals first|(rw[AH];omega)|simp
theorem JU (l:List En) (s:List UInt8):(jT l s).1.length≤l.length:=by
 unfold jT;repeat' split
 all_goals first|exact gH l s|simp
theorem Kw (l:List En) (s t:List UInt8):(eD l s t).1.length≤l.length+1:=by
 unfold eD;repeat' split
 all_goals first|exact q126 _|(have:=AH (b6 l s) ⟨t,(eP l s).1⟩;have:=gH l s;show(qK _ _).length≤_;omega)
theorem JO (l:List En) (r:Rc) (n:Int):(gU l r n).1.length≤l.length+1:=by
 unfold gU;repeat' split
 ·exact HY _ _ _
 ·exact Nat.le_succ_of_le (JU _ _)
 ·exact Kw _ _ _
 ·exact q119 _
 ·exact q119 _
theorem Lc (x:Sc) (r:Rc) (s:Int):((dn x r s).1.d.ps.length≤x.d.ps.length+1∧(dn x r s).1.d.vs.length≤x.d.vs.length+1)∧(dn x r s).1.cs.length≤x.cs.length+1∧(dn x r s).1.ws.length≤x.ws.length+1:=by
 unfold dn;split
 ·unfold ib;repeat' split
  all_goals first|exact⟨⟨q119 _,q119 _⟩,q119 _,q119 _⟩|exact⟨⟨q119 _,q119 _⟩,JO _ _ _,qL _ _⟩|exact⟨LI ⟨x.d.l,x.d.ps,x.d.vs,x.d.sl,r,x.t+1,s⟩,q119 _,qL _ _⟩|exact⟨⟨q119 _,q119 _⟩,q119 _,qL _ _⟩
 ·exact⟨⟨q119 _,q119 _⟩,q119 _,q119 _⟩
theorem KJ (x:Sc) (r:Rc) (s p i:Int) (hx:cy x.t∧x.cs.length≤maxLen∧x.d.vs.length≤maxLen∧(∀v∈x.d.vs,lg v)∧(∀e∈x.d.ps,ki e)∧cy x.d.l.e∧cy x.d.l.p∧cy x.d.l.i∧cy x.d.l.u) (hr:(cy r.p∧cy r.i∧cy r.s∧cy r.e∧cy r.u∧cy r.v∧cy r.c∧cy r.z∧cy r.m)∧0≤r.k) (hs:cy s) (hp:cy p) (hi:cy i):sO Tryz.prog 3 [] [.agg (aS x),.agg (aP r),.pv (.int .u64 s),.pv (.int .u64 p),.pv (.int .u64 i)] [] (.pv (.bool true)):=by
 refine ak (ag R4 (ag OI (ag c_wkS (ag c_dS (bg (ks:=[0]) c_dSr (by kernel_rfl) (ag Ow (ag Ra (ag IQ (ag Mx (ag Nd (ag c_rSS (bg (ks:=[1]) c_SpS (by kernel_rfl) ah)))))))))))) (by kernel_rfl) (by conv=>lhs;reduce) (by simp) ?_;obtain⟨o1,o2,o3,o4,o5,o6,_⟩:=hx;obtain⟨⟨_,_,_,_,_,q6,q7,_⟩,hk⟩:=hr;obtain⟨c,t,⟨⟨de,dp,di,du,dh⟩,ps,vs,sl⟩,cs,ws⟩:=x;obtain⟨k,rp,ri,rs,re,ru,rv,rc,rz,rm,rn,rt⟩:=r;have o2:cs.length≤maxLen:=o2;have o3:vs.length≤maxLen:=o3;apply af;·simp(config := { maxSteps := 3000000 }) [aS,aP];exact⟨rfl,rfl⟩
 cases hf:BI ⟨c,t,⟨⟨de,dp,di,du,dh⟩,ps,vs,sl⟩,cs,ws⟩ with
 |false=>
  refine bA (fun _=>False) ?_ (fun _ h=>h.elim);apply af;·simp(config := { maxSteps := 3000000 }) [hf,o2,o3];exact⟨rfl,rfl⟩
  apply bJ rfl;simp(config := { maxSteps := 3000000 })|true=>cases hg:CV rn rt with
  |false=>
   refine bA (fun _=>False) ?_ (fun _ h=>h.elim);apply af;·simp(config := { maxSteps := 3000000 }) [hf,o2,o3,hg];exact⟨rfl,rfl⟩
   apply bJ rfl;simp(config := { maxSteps := 3000000 })|true=>
   have pq:(ps.length≤20∧vs.length≤20)∧cs.length≤20∧ws.length≤20:=by simp only[BI,yR,q73,decide_eq_true_eq]at hf;exact⟨⟨hf.1.1.2.1.2,hf.1.1.2.2⟩,hf.1.2,hf.2⟩
   obtain⟨⟨p1,p2⟩,p3,p4⟩:=pq;have l1:ps.length≤100000:=by omega
   have l2:vs.length≤100000:=by omega
   have l3:cs.length≤100000:=by omega
   have l4:ws.length≤100000:=by omega
   have m1:ps.length≤1000000000:=by omega
   have m2:vs.length≤1000000000:=by omega
   have m3:cs.length≤1000000000:=by omega
   have m4:ws.length≤1000000000:=by omega
   have hok:uD ⟨c,t,⟨⟨de,dp,di,du,dh⟩,ps,vs,sl⟩,cs,ws⟩ ⟨k,rp,ri,rs,re,ru,rv,rc,rz,rm,rn,rt⟩ s:=⟨o1,l4,l3,o6,by show ps.length<50;omega,l2,o5,o4,q7,hs,q6⟩;have hk:0≤k:=hk;apply af;·simp(config := { maxSteps := 3000000 }) [hf,o2,o3,hg];exact⟨rfl,rfl⟩
   apply af;·simp(config := { maxSteps := 3000000 }) [l1,l2,l3,l4,aS,aF,aE,aU];exact⟨rfl,rfl⟩
   have hl:=Lc ⟨c,t,⟨⟨de,dp,di,du,dh⟩,ps,vs,sl⟩,cs,ws⟩ ⟨k,rp,ri,rs,re,ru,rv,rc,rz,rm,rn,rt⟩ s;generalize hA:dn ⟨c,t,⟨⟨de,dp,di,du,dh⟩,ps,vs,sl⟩,cs,ws⟩ ⟨k,rp,ri,rs,re,ru,rv,rc,rz,rm,rn,rt⟩ s=q at*;obtain⟨⟨xc,xt,⟨⟨xe,xp,xi,xu,xh⟩,xps,xvs,xsl⟩,xcs,xws⟩,e⟩:=q;obtain⟨⟨y1,y2⟩,y3,y4⟩:=hl;have y1:xps.length≤ps.length+1:=y1;have y2:xvs.length≤vs.length+1:=y2;have y3:xcs.length≤cs.length+1:=y3;have y4:xws.length≤ws.length+1:=y4;have z1:xps.length≤100000:=by omega
   have z2:xvs.length≤100000:=by omega
   have z3:xcs.length≤100000:=by omega
   have z4:xws.length≤100000:=by omega
   have n1:xps.length≤1000000000:=by omega
   have n2:xvs.length≤1000000000:=by omega
   have n3:xcs.length≤1000000000:=by omega
   have n4:xws.length≤1000000000:=by omega
   have u1:xps.length≤1000000:=by omega
   have u2:xvs.length≤1000000:=by omega
   have u3:xcs.length≤1000000:=by omega
   have u4:xws.length≤1000000:=by omega
   have r1:(∀r∈au xps,r.length=3)=True:=eq_true (bH xps);have r2:(∀r∈aH xvs,r.length=10)=True:=eq_true (iI xvs);have r3:(∀r∈aM xcs,r.length=2)=True:=eq_true (by intro r hr;simp only[aM,q84]at hr;obtain⟨e,_,rfl⟩:=hr;rfl);have r4:(∀r∈au xws,r.length=3)=True:=eq_true (bH xws);apply af;·simp(config := { maxSteps := 3000000 }) [hok,hk,hA,aS,aP,aF,aE,aU];exact⟨rfl,rfl⟩
   generalize hq:sx ws p i=q;obtain⟨q1,q2⟩:=q;apply af;·simp(config := { maxSteps := 3000000 }) [m4,hq];exact⟨rfl,rfl⟩
   apply af;·simp(config := { maxSteps := 3000000 }) [m4,hq];exact⟨rfl,rfl⟩
   apply af
   ·apply af;·simp(config := { maxSteps := 3000000 });exact⟨rfl,rfl⟩
    apply cM rfl;simp(config := { maxSteps := 3000000 });exact⟨rfl,rfl⟩
   rw[aL];apply af;·simp(config := { maxSteps := 3000000 });exact⟨rfl,rfl⟩
   rw[aW];refine aj (fun j:Nat=>j≤2) (fun j=>⟨[(2,.pv (.int .u64 s)),(3,.pv (.int .u64 p)),(4,.pv (.int .u64 i)),(5,.ptr 5 0),(6,.ptr 6 0),(10,.pv (.bool false)),(11,.ptr 11 0),(12,.ptr 12 0),(13,.pv (.int .i64 e)),(14,.pv (.int .u64 q1)),(15,.pv (.bool q2)),(16,.pv (.int .u64 q1)),(17,.pv (.bool q2)),(18,.pv (.int .i64 (j:Int)))],[(5,.box (aS ⟨c,t,⟨⟨de,dp,di,du,dh⟩,ps,vs,sl⟩,cs,ws⟩)),(6,.box (aP ⟨k,rp,ri,rs,re,ru,rv,rc,rz,rm,rn,rt⟩)),(11,.box (aS ⟨c,t,⟨⟨de,dp,di,du,dh⟩,ps,vs,sl⟩,cs,ws⟩)),(12,.box (aS ⟨xc,xt,⟨⟨xe,xp,xi,xu,xh⟩,xps,xvs,xsl⟩,xcs,xws⟩))]⟩) (fun j=>2-j) [] 0 (by simp) ?_ ?_;·simp[aS,aP]
   ·intro j hj;have w2:IntKind.i64.wrap ((j:Int)+1)=(j:Int)+1:=wrap_i64 (by omega);rw[jt];dsimp only;by_cases hlt:(j:Int)<2
    ·apply af;·simp(config := { maxSteps := 3000000 }) [hlt];exact⟨rfl,rfl⟩
     rw[aL,aW];apply af;·simp(config := { maxSteps := 3000000 }) [hok,hA,bF,aS,aP,aF,aE,aU];exact⟨rfl,rfl⟩
     apply af
     ·apply af;·simp(config := { maxSteps := 3000000 }) [z1,z2,z3,z4,n1,n2,n3,n4,bF,aF,aE,aU];exact⟨rfl,rfl⟩
      apply cM rfl;simp(config := { maxSteps := 3000000 });exact⟨rfl,rfl⟩
     apply af;·simp(config := { maxSteps := 3000000 }) [u1,u2,u3,u4,r1,r2,r3,r4,aF,aE,aU];exact⟨rfl,rfl⟩
     apply af;·simp(config := { maxSteps := 3000000 }) [l1,l2,l3,l4,m1,m2,m3,m4,bF,aF,aE,aU];exact⟨rfl,rfl⟩
     apply cM rfl;simp(config := { maxSteps := 3000000 }) [w2,aS,aP];exact⟨j+1,by omega,by omega,by omega⟩
    ·simp(config := { maxSteps := 3000000 }) [hlt]
end Go.Proofs.YtlicclncicbajaaGreat.Ab
namespace Go.Proofs.YtlicclncicbajaaGreat.Ab
open Go Go.RowKit R
variable {n i:Nat}{f:FuncId}{l:List Vn}{W:World}{row:List PV}
def Hd (x:Sc):List PV:=[.int .u64 x.c,.int .u64 x.t,.int .u64 x.d.l.e,.int .u64 x.d.l.p,.int .u64 x.d.l.i,.int .u64 x.d.l.u,.bool x.d.l.h,.ro (au x.d.ps),.ro (aH x.d.vs),.bool x.d.sl,.ro (aM x.cs),.ro (au x.ws)]
def okSt (x:Sc):Prop:=cy x.t∧x.cs.length≤maxLen∧aaP x.d
theorem EE  (h:fS Tryz.prog (n+6) 36 row):∃d,row=Hd d∧okSt d:=by
 unfold fS at h;rw[Tryz.underlying36]at h;have c0:Tryz.prog.cellsOf 36=12:=by kernel_rfl
 have c1:Tryz.prog.cellsOf 22=1:=by kernel_rfl
 have c2:Tryz.prog.cellsOf 31=8:=by kernel_rfl
 have c3:Tryz.prog.cellsOf 33=1:=by kernel_rfl
 have c4:Tryz.prog.cellsOf 34=1:=by kernel_rfl
 simp only[c0,q76,q92,or_false,forall_eq_or_imp,forall_eq,c1,c2,c3,c4]at h;obtain⟨hl,h1,h2,h3,h4,h5⟩:=h;match row,hl with|[a1,a2,a3,a4,a5,a6,a7,a8,a9,a10,a11,a12],_=>obtain⟨x1,e1,_⟩:=bL h1;obtain⟨x2,e2,o2⟩:=bL h2;obtain⟨x3,e3,o3⟩:=Lb h3;obtain⟨x4,e4,o4⟩:=Kr h4;obtain⟨x5,e5⟩:=Gy h5;simp[Zx]at e1 e2 e3 e4 e5;obtain⟨f1,f2,f3,f4,f5,f6,f7,f8⟩:=e3;subst e1 e2 f1 f2 f3 f4 f5 f6 f7 f8 e4 e5;exact⟨⟨x1,x2,x3,x4,x5⟩,rfl,o2,o4,o3⟩
theorem Ix:oR Tryz.prog 36=true:=by unfold oR;rw[Tryz.underlying36]
theorem Gw:fK Tryz.prog 6 36=true:=by kernel_rfl
theorem HP:Tryz.prog.readableRec 36=true:=by kernel_rfl
theorem QZ:oR Tryz.prog 38=true:=by unfold oR;rw[Tryz.underlying38]
theorem QB:Tryz.prog.readableRec 38=true:=by kernel_rfl
theorem P8:oR Tryz.prog 22=false:=by unfold oR;rw[Tryz.underlying22]
theorem Ce:Tryz.prog.readableRec 22=true:=by kernel_rfl
theorem KZ:fK Tryz.prog 6 38=true:=by kernel_rfl
theorem yM:fK Tryz.prog 6 22=true:=by kernel_rfl
end Go.Proofs.YtlicclncicbajaaGreat.Ab
