/- Chapter 18: a state is written: from the contracts of what is called to its own. -/
import Derived.Test.YtlicclncicbajaaGreatY13
set_option linter.unusedVariables false
set_option linter.unusedSimpArgs false
set_option linter.unnecessarySimpa false
set_option maxHeartbeats 40000000
set_option maxRecDepth 100000
namespace Go.Proofs.YtlicclncicbajaaGreat.Ab
open Go Go.RowKit
theorem rU {P:Program}{S:Nat→Prop}{w:World}{β:Nat→Value}{D:Nat→Prop}{t n0:Nat}{L:List UInt8}{e:TypeId} (hsz:∀inf,P.info? e=some inf→inf.size=1) (h:bj P S w β D t (.arr e (bytesRow L))) (hb:∀b,b9 (β t)=some b→n0≤b):w.ownsRow n0 e 1 (β t) L.length (eo L):=by
 obtain⟨inf,us,hi,hown,_,hus⟩:=h;have h1:=hsz inf hi;rw[h1]at hown;have hlen:(bytesRow L).length=L.length:=by simp[bytesRow]
 rw[hlen]at hown;have hu:us=eo L:=by
  apply List.ext_getElem?;intro j;rcases Nat.lt_or_ge j L.length with hj|hj
  ·have hr:(bytesRow L)[j]?=some [.int .u8 (L[j].toNat:Int)]:=by simp[bytesRow,hj]
   obtain⟨u,hu,_,hv⟩:=hus j 0 _ _ hr rfl;rw[h1,Nat.mul_one,Nat.add_zero]at hu;rw[hu,hv.aI];simp[eo,hj]
  ·have h1:=hown.1;rw[List.getElem?_eq_none (by omega),List.getElem?_eq_none (by simp[eo];omega)]
 subst hu;refine⟨hown.1,?_⟩;rcases hown.2 with h|⟨g,cap,cur,hv,_,h3⟩;·exact .inl h
 ·exact .inr ⟨g,cap,cur,hv,hb g (by rw[hv];rfl),h3⟩
theorem xO {P:Program}{w:World}{V:Value}{L:List UInt8}{n0:Nat}{e:TypeId}{S:Nat→Prop} (h:w.ownsRow n0 e 1 V L.length (eo L)) (hS:∀b,n0≤b→b<w.heap.size→S b):cZ S w V (.ro (bytesRow L)):=by
 have hlen:(bytesRow L).length=L.length:=by simp[bytesRow]
 rcases h.2 with⟨rfl,h0⟩|⟨g,cap,cur,rfl,hb,hg,hnc,hcm,hcs,htk⟩;·have:L=[]:=List.eq_nil_of_length_eq_zero h0;subst this;exact .wP none 0
 ·have hgl:g<w.heap.size:=(Array.getElem?_eq_some_iff.1 hg).1;have hcell:∀j,j<L.length→w.cell? ⟨g,j,none⟩=(eo L)[j]?:=fun j hj=>by rw[←htk,List.getElem?_take,if_pos (by omega)];unfold World.cell?;rw[hg];simp
  rw[←hlen]at hnc ⊢;refine .ro ⟨g,0,none⟩ cap (bytesRow L) 1 (fun i _=>.int .u8 ((L.getD i 0).toNat:Int)) (hS g hb hgl) hnc (fun r hr=>?_) (fun i j hi hj=>?_) (fun i j r p hr hp=>rfl) (fun i j r p hr hp=>?_);·simp only[bytesRow,List.mem_map]at hr;obtain⟨c,_,rfl⟩:=hr;rfl
  ·rw[hlen]at hi;obtain rfl:j=0:=by omega
   rw[Addr.add_lit];simp only[Nat.zero_add,Nat.mul_one,Nat.add_zero];rw[hcell i hi];simp[eo,hi]
  ·have hi:i<L.length:=by have:=(List.getElem?_eq_some_iff.1 hr).1;omega
   simp only[bytesRow,List.getElem?_map,List.getElem?_eq_getElem hi,Option.map_some,Option.some.injEq]at hr;subst hr;match j,hp with|0,hp=>simp only[List.getElem?_cons_zero,Option.some.injEq]at hp;subst hp;simp only[List.getD_eq_getElem?_getD,List.getElem?_eq_getElem hi,Option.getD_some];exact .int _ _|j+1,hp=>simp at hp
theorem mo {P:Program}{f:FuncId}{ys:List AV}{r:AV} (h:rT P f [] ys [] r) {W:World}{S:Nat→Prop}{vals:List Value} (hl:vals.length=ys.length) (hS:∀b,S b→b<W.heap.size) (hv:∀(i:Nat) (v:Value) (x:AV),vals[i]?=some v→ys[i]?=some x→RV P S W (fun _=>.nilIface) (fun _=>False) v x):Calls P f vals.toArray W fun e w'=>∃v β',e=.returned v∧Below W.heap.size W w'∧Heap P (aS S W.heap.size β' (bn (ab []) fun t=>dm (cellAt r t)) w') w' β' (bn (ab []) fun t=>dm (cellAt r t))∧(∀t b,ay (bn (ab []) fun t=>dm (cellAt r t)) t→b9 (β' t)=some b→W.heap.size≤b)∧RV P (aS S W.heap.size β' (bn (ab []) fun t=>dm (cellAt r t)) w') w' β' (ay (bn (ab []) fun t=>dm (cellAt r t))) v (cI FQ r):=by
 have h2:=h W S (fun _=>.nilIface) vals hS (fun t b ⟨o,ho⟩=>by simp[ab]at ho) ⟨fun t o ho=>by simp[ab]at ho,fun t t' b ⟨o,ho⟩=>by simp[ab]at ho⟩ hl fun i v x hi hx=>(hv i v x hi hx).mono (fun b hb=>⟨⟨.inl hb,hS b hb,fun⟨t,o,ho,_⟩=>by simp[ab]at ho⟩,rfl⟩) (fun t ht=>ht.elim);refine h2.mono ?_;rintro e w' ⟨v,β',rfl,hf,hh,hb,hr⟩;refine⟨v,β',rfl,⟨hf.os,hf.tape,hf.output,hf.size,fun k hk=>hf.block k hk fun⟨t,o,ho,_⟩=>by simp[ab]at ho⟩,hh,fun t b hd hbk=>?_,hr⟩;rcases hb t b hd hbk with h|⟨t',o,ho,_⟩;·exact h
 ·simp[ab]at ho
theorem xT:∀inf,Tryz.prog.info? 5=some inf→inf.size=1:=by intro inf hi;obtain⟨iu,hiu,_,hu1,_⟩:=info_parts xq;rw[hiu]at hi;cases hi;exact hu1
theorem rR (p q:PV) (t:Nat):bn (ab []) (fun t=>dm (cellAt (.aJ [.pv p,.pv q]) t)) t=none:=by
 show dm (cellAt (.aJ [.pv p,.pv q]) t)=none;simp only[cellAt];rcases(show t%1000=0∨t%1000=1∨2≤t%1000 by omega) with h|h|h;·rw[h];simp only[List.getElem?_cons_zero,Option.bind_some,bD];split<;>rfl
 ·rw[h];simp only[List.getElem?_cons_succ,List.getElem?_cons_zero,Option.bind_some,bD];split<;>rfl
 ·rw[List.getElem?_eq_none (by simpa using h)];rfl
theorem Is (ch tl:Int) (y2 y3 y4 y5 y6 y7 y8 y9 y10:AV) (B C R:List UInt8) (hB:B.length+C.length≤65535) (hC:C≠[]) (k1:rT Tryz.prog 38 [] [.agg [.pv (.int .u64 ch),.pv (.int .u64 tl),y2,y3,y4,y5,y6,y7,y8,y9,y10,.pv (.ro [])]] [] (.aJ [.fr 5 (bytesRow C),.pv (.int .i64 0)])) (k2:rT Tryz.prog 39 [] [.agg [.pv (.int .u64 ch),.pv (.int .u64 tl),y2,y3,y4,y5,y6,y7,y8,y9,y10,.pv (.ro [])]] [] (.pv (.bool true))) (k3:rT Tryz.prog 40 [] [.pv (.ro [[.int .u64 ch],[.int .u64 tl],[.int .u64 0]])] [] (.fr 5 (bytesRow B))) (k4:rT Tryz.prog 42 [] [.pv (.ro [[.int .u8 12,.ro (bytesRow (B++C))]])] [] (.aJ [.fr 5 (bytesRow R),.pv (.int .i64 0)])):rT Tryz.prog 21 [] [.agg [.pv (.int .u64 ch),.pv (.int .u64 tl),y2,y3,y4,y5,y6,y7,y8,y9,y10,.pv (.ro [])]] [] (.aJ [.pv (.ro (bytesRow R)),.pv (.int .i64 0)]):=by intro w S0 β vals hS0 hlt hheap hvl hvr;match vals,hvl with|[v0],_=>have hv0:=hvr 0 v0 _ rfl rfl;obtain⟨us,rfl,hl,hus⟩:=hv0.cN;match us,hl with
 |[a0,a1,a2,a3,a4,a5,a6,a7,a8,a9,a10,a11],_=>
  cases(hus 0 _ a0 rfl rfl).aI;cases(hus 1 _ a1 rfl rfl).aI;obtain⟨Al,cl,h11,_,_⟩:=(hus 11 _ a11 rfl rfl).bh.fP;cases h11;obtain⟨S,hSd⟩:∃S,S=aS S0 w.heap.size β (ab []) w:=⟨_,rfl⟩;have hSl:∀b,S b→b<w.heap.size:=fun b hb=>by rw[hSd]at hb;exact hb.2.1
  have hva:∀W,Below w.heap.size w W→RV Tryz.prog S W (fun _=>.nilIface) (fun _=>False) _ _:=fun W hW=>hv0.mono (fun b hb=>⟨by rw[hSd];exact hb,hW.block b hb.2.1⟩) (fun t ⟨o,ho⟩=>by simp[ab]at ho);have hone:∀W,Below w.heap.size w W→∀(i:Nat) (v:Value) (x:AV),[Value.agg #[.int .u64 ch,.int .u64 tl,a2,a3,a4,a5,a6,a7,a8,a9,a10,.slice Al 0 cl]][i]?=some v→[AV.agg [.pv (.int .u64 ch),.pv (.int .u64 tl),y2,y3,y4,y5,y6,y7,y8,y9,y10,.pv (.ro [])]][i]?=some x→RV Tryz.prog S W (fun _=>.nilIface) (fun _=>False) v x:=fun W hW i v x hi hx=>by match i,hi,hx with|0,hi,hx=>simp only[List.getElem?_cons_zero,Option.some.injEq]at hi hx;subst hi hx;exact hva W hW|i+1,hi,hx=>simp at hi
  refine(GC ch tl a2 a3 a4 a5 a6 a7 a8 a9 a10 Al cl B C R hB w ?_ ?_ ?_ ?_).mono ?_;·intro W hW;refine(mo k1 (vals:=[.agg #[.int .u64 ch,.int .u64 tl,a2,a3,a4,a5,a6,a7,a8,a9,a10,.slice Al 0 cl]]) rfl (fun b hb=>Nat.lt_of_lt_of_le (hSl b hb) hW.size) (hone W hW)).mono ?_;rintro e W1 ⟨v,β',rfl,hB1,hh,hb,hr⟩;have hr:RV Tryz.prog _ W1 β' _ v (.aJ [.own 0,.pv (.int .i64 0)]):=hr;obtain⟨us,rfl,hl,hu⟩:=hr.jk;match us,hl with
   |[u0,u1],_=>
    have e0:=((hu 0 _ u0 rfl rfl).aR).1;cases(hu 1 _ u1 rfl rfl).aI;subst e0;have hown:=rU (n0:=W.heap.size) xT (hh.holds 0 (.arr 5 (bytesRow C)) rfl) (fun b hb'=>hb 0 b ⟨_,rfl⟩ hb');rcases hown.2 with⟨_,h0⟩|⟨g,cap,cur,hg,hgb,hgh,hnc,hcm,hcs,htk⟩;·exact absurd (List.eq_nil_of_length_eq_zero h0) hC
    ·refine⟨⟨g,0,none⟩,cap,by rw[hg],fun j hj=>?_,(Array.getElem?_eq_some_iff.1 hgh).1,hB1⟩;rw[Addr.add_lit,←htk,List.getElem?_take,if_pos (by omega)];unfold World.cell?;rw[hgh];simp
  ·intro W hW;refine(mo k2 (vals:=[.agg #[.int .u64 ch,.int .u64 tl,a2,a3,a4,a5,a6,a7,a8,a9,a10,.slice Al 0 cl]]) rfl (fun b hb=>Nat.lt_of_lt_of_le (hSl b hb) hW.size) (hone W hW)).mono ?_;rintro e W1 ⟨v,β',rfl,hB1,hh,hb,hr⟩;exact⟨by rw[RV.eP (b:=true) hr],hB1⟩
  ·intro W A c hc h0 h1 h2;have hAb:A.block<W.heap.size:=by
    have:(A.add 0).block<W.heap.size:=by
     unfold World.cell? at h0;split at h0;·rename_i hq;exact(Array.getElem?_eq_some_iff.1 hq).1
     ·cases h0
    rwa[bH]at this
   refine(mo k3 (S:=fun b=>b<W.heap.size) (vals:=[.slice (some A) 3 c]) rfl (fun b hb=>hb) (fun i v x hi hx=>?_)).mono ?_;·match i,hi,hx with
    |0,hi,hx=>
     cases hi;cases hx;refine .pv _ _ (.ro A c [[.int .u64 ch],[.int .u64 tl],[.int .u64 0]] 1 (fun i _=>.int .u64 ([ch,tl,0].getD i 0)) hAb hc (fun r hr=>?_) (fun i j hi hj=>?_) (fun _ _ _ _ _ _=>rfl) (fun i j r p hr hp=>?_));·simp only[List.mem_cons,List.not_mem_nil,or_false]at hr;rcases hr with rfl|rfl|rfl<;>rfl
     ·obtain rfl:j=0:=by omega
      match i,hi with|0,_=>exact h0|1,_=>exact h1|2,_=>exact h2|i+3,hi=>simp at hi;omega
     ·match i,hr with
      |0,hr=>cases hr;match j,hp with|0,hp=>cases hp;exact .int _ _|j+1,hp=>simp at hp
      |1,hr=>cases hr;match j,hp with|0,hp=>cases hp;exact .int _ _|j+1,hp=>simp at hp
      |2,hr=>cases hr;match j,hp with|0,hp=>cases hp;exact .int _ _|j+1,hp=>simp at hp
      |i+3,hr=>simp at hr
    |i+1,hi,hx=>simp at hi
   ·rintro e W1 ⟨v,β',rfl,hB1,hh,hb,hr⟩;have e0:=(RV.aR (t:=0) hr).1;subst e0;exact⟨_,rfl,rU xT (hh.holds 0 (.arr 5 (bytesRow B)) rfl) (fun b hb'=>hb 0 b ⟨_,rfl⟩ hb'),hB1⟩
  ·intro W A c V hc h0 h1 hV;have hAb:A.block<W.heap.size:=by
    have:(A.add 0).block<W.heap.size:=by
     unfold World.cell? at h0;split at h0;·rename_i hq;exact(Array.getElem?_eq_some_iff.1 hq).1
     ·cases h0
    rwa[bH]at this
   have hV2:W.ownsRow 0 5 1 V (B++C).length (eo (B++C)):=by
    have:eo (B++C)=eo B++eo C:=by simp[eo]
    rw[this,List.length_append];exact hV
   have hRV:cZ (fun b=>b<W.heap.size) W V (.ro (bytesRow (B++C))):=xO (P:=Tryz.prog) hV2 fun b _ hb=>hb;have hVo:V.oneCell'=true:=by rcases hV.2 with⟨rfl,_⟩|⟨g,cap,cur,rfl,_⟩<;>rfl
   refine(mo k4 (S:=fun b=>b<W.heap.size) (vals:=[.slice (some A) 1 c]) rfl (fun b hb=>hb) (fun i v x hi hx=>?_)).mono ?_;·match i,hi,hx with
    |0,hi,hx=>
     cases hi;cases hx;refine .pv _ _ (.ro A c [[.int .u8 12,.ro (bytesRow (B++C))]] 2 (fun _ j=>if j=0 then .int .u8 12 else V) hAb hc (fun r hr=>?_) (fun i j hi hj=>?_) (fun i j r p hr hp=>?_) (fun i j r p hr hp=>?_));·simp only[List.mem_cons,List.not_mem_nil,or_false]at hr;subst hr;rfl
     ·obtain rfl:i=0:=by simp at hi;omega
      match j,hj with|0,_=>exact h0|1,_=>exact h1|j+2,hj=>omega
     ·split;·rfl
      ·exact hVo
     ·match i,hr with
      |0,hr=>cases hr;match j,hp with|0,hp=>cases hp;exact .int _ _|1,hp=>cases hp;exact hRV|j+2,hp=>simp at hp
      |i+1,hr=>simp at hr
    |i+1,hi,hx=>simp at hi
   ·rintro e W1 ⟨v,β',rfl,hB1,hh,hb,hr⟩;have hr:RV Tryz.prog _ W1 β' _ v (.aJ [.own 0,.pv (.int .i64 0)]):=hr;obtain⟨us,rfl,hl,hu⟩:=hr.jk;match us,hl with|[u0,u1],_=>have e0:=((hu 0 _ u0 rfl rfl).aR).1;cases(hu 1 _ u1 rfl rfl).aI;subst e0;exact⟨_,rfl,xO (P:=Tryz.prog) (rU (n0:=W.heap.size) xT (hh.holds 0 (.arr 5 (bytesRow R)) rfl) (fun b hb'=>hb 0 b ⟨_,rfl⟩ hb')) fun b h1 h2=>⟨h1,h2⟩,hB1⟩
  ·rintro e w' ⟨V',rfl,hR,hBw⟩;refine⟨_,fun _=>.nilIface,rfl,⟨hBw.os,hBw.tape,hBw.output,hBw.size,fun k hk _=>hBw.block k hk⟩,⟨fun t o ho=>?_,fun t t' b ⟨o,ho⟩=>?_⟩,fun t b ⟨o,ho⟩=>?_,?_⟩;·rw[rR]at ho;cases ho
   ·rw[rR]at ho;cases ho
   ·rw[rR]at ho;cases ho
   ·refine .aJ _ [V',.int .i64 0] rfl fun i x u hx hu=>?_;match i,hx,hu with|0,hx,hu=>cases hx;cases hu;exact .pv _ _ (hR.mono fun b hb=>⟨⟨.inr hb.1,hb.2,fun⟨t,o,ho,_⟩=>by rw[rR]at ho;cases ho⟩,rfl⟩)|1,hx,hu=>cases hx;cases hu;exact .pv _ _ (.int _ _)|i+2,hx,hu=>simp at hu
end Go.Proofs.YtlicclncicbajaaGreat.Ab
namespace Go.Proofs.YtlicclncicbajaaGreat.Ab
open Go Go.RowKit R
def S1 (n:Nat):Nat:=n/2^^^(if n%2=1 then 2197175160 else 0)
def S8 (n:Nat):Nat:=S1 (S1 (S1 (S1 (S1 (S1 (S1 (S1 n)))))))
def EX:Nat→Nat→Nat|0,n=>n|k+1,n=>S1 (EX k n)
theorem Lv (n:Nat):EX 8 n=S8 n:=rfl
theorem Hv (a b:Nat):(a^^^b)/2=a/2^^^b/2:=by apply Nat.eq_of_testBit_eq;intro i;simp[Nat.testBit_div_two,Nat.testBit_xor]
theorem Fp (a b:Nat):(a^^^b)%2=(a%2+b%2)%2:=by rcases Nat.mod_two_eq_zero_or_one a with ha|ha<;>rcases Nat.mod_two_eq_zero_or_one b with hb|hb<;>(have h:=Nat.testBit_xor (x:=a) (y:=b) (i:=0);simp only[Nat.testBit_zero,ha,hb]at h;rcases Nat.mod_two_eq_zero_or_one (a^^^b) with hc|hc<;>simp_all)
theorem Gd (a b:Nat):S1 (a^^^b)=S1 a^^^S1 b:=by
 unfold S1;rw[Hv,Fp];rcases Nat.mod_two_eq_zero_or_one a with ha|ha<;>rcases Nat.mod_two_eq_zero_or_one b with hb|hb<;>simp only[ha,hb];·simp
 ·simp[Nat.xor_assoc]
 ·simp only[Nat.reduceAdd,Nat.reduceMod,if_true,if_false,Nat.zero_ne_one,Nat.xor_zero];rw[Nat.xor_assoc,Nat.xor_assoc,Nat.xor_comm 2197175160]
 ·simp only[Nat.reduceAdd,Nat.reduceMod,if_true,if_false,Nat.zero_ne_one,Nat.xor_zero];rw[Nat.xor_assoc,Nat.xor_comm 2197175160,Nat.xor_assoc,Nat.xor_self,Nat.xor_zero]
theorem HN (a b:Nat):S8 (a^^^b)=S8 a^^^S8 b:=by unfold S8;simp only[Gd]
theorem Pv (m:Nat):S1 (2*m)=m:=by unfold S1;simp
theorem Pd (m:Nat):S8 (256*m)=m:=by
 have:256*m=2*(2*(2*(2*(2*(2*(2*(2*m))))))):=by omega
 unfold S8;rw[this];simp only[Pv]
theorem mX {n:Nat} (h:n<4294967296):S1 n<4294967296:=by unfold S1;apply Nat.xor_lt_two_pow (n:=32) (by omega);split<;>decide
theorem Md {n:Nat} (h:n<4294967296):S8 n<4294967296:=by unfold S8;exact mX (mX (mX (mX (mX (mX (mX (mX h)))))))
theorem Fg {n:Nat} (h:n<4294967296):∀k,EX k n<4294967296|0=>h|k+1=>mX (Fg h k)
theorem Pt (n:Nat):n=(n%256)^^^(256*(n/256)):=by
 apply Nat.eq_of_testBit_eq;intro i;rw[Nat.testBit_xor,show(256:Nat)=2^8 from rfl,Nat.testBit_mod_two_pow,Nat.testBit_two_pow_mul,Nat.testBit_div_two_pow];by_cases h:i<8;·simp[h,show¬8≤i from by omega]
 ·simp[h,show 8≤i from by omega,show i-8+8=i from by omega]
theorem Bu (a b:Nat):(a^^^b)%256=a%256^^^b%256:=by rw[show(256:Nat)=2^8 from rfl,Nat.xor_mod_two_pow]
theorem AS (a b:Nat):(a^^^b)/256=a/256^^^b/256:=by rw[show(256:Nat)=2^8 from rfl,Nat.xor_div_two_pow]
def Mp (c x:Nat):Nat:=S8 (c%256^^^x)^^^c/256
theorem Fl {c x:Nat} (h:x<256):Mp c x=S8 (c^^^x):=by have e:=Pt (c^^^x);rw[e,HN,Pd,Bu,AS,Nat.mod_eq_of_lt h,Nat.div_eq_of_lt h,Nat.xor_zero];rfl
theorem PZ {c x:Nat} (hc:c<4294967296) (h:x<256):Mp c x<4294967296:=by rw[Fl h];exact Md (Nat.xor_lt_two_pow (n:=32) (by omega) (by omega))
def Dy (c x:Nat):Nat→Nat|0=>c|k+1=>S1 (Dy c x k^^^(x/2^k)%2)
theorem F9 {c x:Nat} (hc:c<4294967296):∀k,Dy c x k<4294967296|0=>hc|k+1=>mX (Nat.xor_lt_two_pow (n:=32) (F9 hc k) (by omega))
theorem C5 (c x:Nat):∀k,Dy c x k=EX k c^^^Dy 0 x k|0=>by simp[Dy,EX]|k+1=>by simp only[Dy,EX];rw[C5 c x k,Nat.xor_assoc,Gd]
theorem GH:∀x,x<256→Dy 0 x 8=S8 x:=by decide
theorem MB {c x:Nat} (h:x<256):Dy c x 8=Mp c x:=by rw[C5,Lv,GH x h,←HN,Fl h]
def ke (c:Nat) (l:List UInt8):Nat:=l.foldl (fun c x=>Mp c x.toNat) c
theorem vB (c:Nat) (l:List UInt8) (x:UInt8):ke c (l++[x])=Mp (ke c l) x.toNat:=by simp[ke]
theorem oG {c:Nat} (h:c<4294967296):∀l:List UInt8,ke c l<4294967296:=by intro l;induction l generalizing c with|nil=>exact h|cons x l ih=>exact ih (PZ h (by have:=x.toNat_lt;omega))
def uL (c:Nat) (l:List UInt8):Nat:=ke (c^^^4294967295) l^^^4294967295
theorem I2 {c:Nat} (h:c<4294967296) (l:List UInt8):uL c l<4294967296:=Nat.xor_lt_two_pow (n:=32) (oG (Nat.xor_lt_two_pow (n:=32) h (by omega)) l) (by omega)
def nV (l:List UInt8):Nat:=uL 0 l
theorem wrap_u32 {n:Int} (h:0≤n) (h':n<4294967296):IntKind.u32.wrap n=n:=by simp only[IntKind.wrap,IntKind.bits,IntKind.signed];simp;omega
theorem ic (w a:Nat) (h:a<2^w):(BitVec.ofInt w (a:Int)).toNat=a:=by rw[BitVec.ofInt_natCast,BitVec.toNat_ofNat,Nat.mod_eq_of_lt h]
theorem jh {a b:Nat} (ha:a<4294967296) (hb:b<4294967296):gb .xor .u32 (a:Int) (b:Int)=.int .u32 ((a^^^b:Nat):Int):=by
 have hx:a^^^b<4294967296:=Nat.xor_lt_two_pow (n:=32) ha hb;have h4:(BitVec.ofInt IntKind.u32.bits (a:Int)^^^BitVec.ofInt IntKind.u32.bits (b:Int)).toNat=a^^^b:=by show(BitVec.ofInt 32 (a:Int)^^^BitVec.ofInt 32 (b:Int)).toNat=_;rw[BitVec.toNat_xor,ic 32 a ha,ic 32 b hb]
 unfold gb;simp only[h4];exact congrArg _ (wrap_u32 (by omega) (by omega))
theorem yc {a b:Nat} (ha:a<4294967296) (hb:b<4294967296):gb .and .u32 (a:Int) (b:Int)=.int .u32 ((a&&&b:Nat):Int):=by
 have hx:a&&&b<4294967296:=Nat.lt_of_le_of_lt Nat.and_le_left ha;have h4:(BitVec.ofInt IntKind.u32.bits (a:Int)&&&BitVec.ofInt IntKind.u32.bits (b:Int)).toNat=a&&&b:=by show(BitVec.ofInt 32 (a:Int)&&&BitVec.ofInt 32 (b:Int)).toNat=_;rw[BitVec.toNat_and,ic 32 a ha,ic 32 b hb]
 unfold gb;simp only[h4];exact congrArg _ (wrap_u32 (by omega) (by omega))
theorem MZ {a b:Nat} (ha:a<256) (hb:b<256):gb .xor .u8 (a:Int) (b:Int)=.int .u8 ((a^^^b:Nat):Int):=by
 have hx:a^^^b<256:=Nat.xor_lt_two_pow (n:=8) ha hb;have h4:(BitVec.ofInt IntKind.u8.bits (a:Int)^^^BitVec.ofInt IntKind.u8.bits (b:Int)).toNat=a^^^b:=by show(BitVec.ofInt 8 (a:Int)^^^BitVec.ofInt 8 (b:Int)).toNat=_;rw[BitVec.toNat_xor,ic 8 a ha,ic 8 b hb]
 unfold gb;simp only[h4];exact congrArg _ ((wrap_u8 _).trans (by omega))
def dw (l:List Int):List AV:=l.map fun n=>.pv (.int .u32 n)
def wW (l:List Int):List PV:=l.map fun n=>.int .u32 n
@[simp] theorem Hn (l:List Int):(dw l).length=l.length:=by simp[dw]
@[simp] theorem Vp (l:List Int) (i:Nat) (n:Int):(dw l).set i (.pv (.int .u32 n))=dw (l.set i n):=by simp[dw,List.map_set]
@[simp] theorem Ty (l:List Int) (n:Nat):(dw l).take n=dw (l.take n):=by simp[dw,List.map_take]
@[simp] theorem Rk (l:List Int) (n:Nat):(dw l).drop n=dw (l.drop n):=by simp[dw,List.map_drop]
@[simp] theorem D7:∀l:List Int,ff (dw l)=true|[]=>rfl|n::l=>by have:=D7 l;unfold dw at this ⊢;simp only[List.map_cons,ff,ef,Bool.true_and];exact this
theorem qW {l m:List Int} (h:l.length≤m.length):bL (dw l) 0 (dw m)=dw m:=by simp[bL,List.drop_eq_nil_of_le,Hn,h]
@[simp] theorem B9:∀l:List Int,lD (dw l)=true|[]=>rfl|n::l=>by have:=B9 l;unfold dw at this ⊢;simp only[List.map_cons,lD,iA,Bool.true_and];exact this
@[simp] theorem Eh (d:Nat):∀(l:List Int) (j:Nat),fF (kW d) j (dw l)=dw l|[],_=>rfl|n::l,j=>by have:=Eh d l (j+1);unfold dw at this ⊢;simp only[List.map_cons,fF,this];rfl
@[simp] theorem Hd:∀(l:List Int) (j:Nat),fK j (dw l)=[]|[],_=>rfl|n::l,j=>Hd l (j+1)
@[simp] theorem C0 (P:Program) (aa:Nat→Option AO):∀l:List Int,wS P aa (dw l) (dw l)|[]=>trivial|n::l=>⟨⟨rfl,rfl⟩,C0 P aa l⟩
@[simp] theorem F4:∀l m:List Int,tj (dw l) (dw m)=[]|[],[]=>rfl|[],_::_=>rfl|_::_,[]=>rfl|n::l,k::m=>F4 l m
@[simp] theorem IE:∀(l:List Int) (j:Nat),qd j (dw l)=[]|[],_=>rfl|n::l,j=>IE l (j+1)
@[simp] theorem GR (aa:Nat→Option AO):∀l:List Int,gO aa (dw l)=some (wW l)|[]=>rfl|n::l=>by have:=GR aa l;unfold dw at this ⊢;simp only[List.map_cons,gO,eA,this];rfl
@[simp] theorem ED (os:List (Nat×AO)):∀l:List Int,fS os (dw l)|[]=>trivial|n::l=>⟨trivial,ED os l⟩
def zc:Value:=.int .u32 0
theorem Fw (n:Nat):(List.replicate n (Value.int .u32 0)).all (·.oneCell')=true:=by rw[List.all_eq_true];intro v hv;rw[List.eq_of_mem_replicate hv];rfl
theorem F0 (n:Nat):(List.replicate n (Value.int .u32 0)).map cv=dw (List.replicate n 0):=by simp only[List.map_replicate,dw];rfl
def nR (i:Nat):List Int:=(List.range 256).map fun j=>if j<i then((S8 j:Nat):Int) else 0
@[simp] theorem Hr (i:Nat):(nR i).length=256:=by simp[nR]
theorem pj:nR 0=List.replicate 256 0:=by
 apply List.ext_getElem;·simp
 ·intro k h1 h2;rw[List.getElem_replicate];simp[nR]
theorem GG {i:Nat} (h:i<256):(nR i).set i ((S8 i:Nat):Int)=nR (i+1):=by
 apply List.ext_getElem;·simp
 ·intro k h1 h2;rw[List.getElem_set];simp only[nR,List.getElem_map,List.getElem_range];by_cases hk:i=k;·subst hk;simp
  ·rw[if_neg hk];by_cases hl:k<i;·simp[hl,show k<i+1 from by omega]
   ·simp[hl,show¬k<i+1 from by omega]
def tab:List Int:=nR 256
theorem J0:tab.length=256:=Hr 256
theorem Ob {j:Nat} (h:j<256):(wW tab).drop j=.int .u32 ((S8 j:Nat):Int)::wW (tab.drop (j+1)):=by
 have hl:j<(wW tab).length:=by simp[wW,tab];exact h
 rw[List.drop_eq_getElem_cons hl];congr 1;·simp[wW,tab,nR,h]
 ·simp[wW,List.map_drop]
def MA:List AV→Option (Prop×AV)|[]=>some (True,.agg (dw tab))|_=>none
@[simp] theorem GTab_eq:MA []=some (True,.agg (dw tab)):=rfl
theorem Kl (n:Nat) (h:n<4294967296):gb .and .u32 (n:Int) 1=.int .u32 ((n%2:Nat):Int):=by have:=yc (a:=n) (b:=1) h (by omega);rw[Nat.and_one_is_mod]at this;exact this
def mB (n:Nat):Nat:=if n%2=1 then 4294967295 else 0
def pB (n:Nat):Nat:=if n%2=1 then 2197175160 else 0
theorem Ik (n:Nat):IntKind.u32.wrap (-((n:Int)%2))=((mB n:Nat):Int):=by
 unfold mB;have e:((n:Int)%2)=((n%2:Nat):Int):=by omega
 rw[e];rcases Nat.mod_two_eq_zero_or_one n with h|h<;>rw[h]<;>decide
theorem Hj (n:Nat):gb .and .u32 2197175160 ((mB n:Nat):Int)=.int .u32 ((pB n:Nat):Int):=by
 unfold mB pB;rcases Nat.mod_two_eq_zero_or_one n with h|h<;>rw[h];·exact yc (a:=2197175160) (b:=0) (by omega) (by omega)
 ·exact(yc (a:=2197175160) (b:=4294967295) (by omega) (by omega)).trans (congrArg _ (by decide))
theorem MM (n:Nat):(n:Int).fdiv (2^min 1 IntKind.u32.bits)=(n:Int)/2:=by show(n:Int).fdiv 2=_;exact Int.fdiv_eq_ediv_of_nonneg _ (by omega)
theorem HL (n:Nat):(n:Int).fdiv (2^min 8 IntKind.u32.bits)=(n:Int)/256:=by show(n:Int).fdiv 256=_;exact Int.fdiv_eq_ediv_of_nonneg _ (by omega)
theorem OW (n:Nat) {k:Nat} (hk:k≤8):(n:Int).fdiv (2^min k IntKind.u8.bits)=((n/2^k:Nat):Int):=by have hp:(0:Int)≤2^k:=Int.le_of_lt (Int.pow_pos (by omega));rw[show min k IntKind.u8.bits=k from Nat.min_eq_left hk,Int.fdiv_eq_ediv_of_nonneg _ hp];simp
theorem Yw:aN Tryz.prog 199 MA:=by
 intro ys φ r h hφ;unfold MA at h;split at h
 ·cases h;refine aq ah (by kernel_rfl) (by conv=>lhs;reduce) (by simp) ?_;have hz1:=Fw 256;have hz2:=F0 256;generalize List.replicate 256 (Value.int .u32 0)=R at hz1 hz2;rw[←pj]at hz2;simp(config := { maxSteps := 3000000 }) [hz1,hz2];refine al (fun i:Nat=>i≤256) (fun i=>⟨[(0,.ptr 0 0),(1,.ptr 1 0),(4,.pv (.int .i64 i))],[(0,.box (dw (nR 0))),(1,.box (dw (nR i)))]⟩) (fun i=>256-i) [] 0 (by simp) ?_ ?_;·simp;rw[pj];rfl
  ·rintro i hi;have w2:IntKind.i64.wrap ((i:Int)+1)=(i:Int)+1:=wrap_i64 (by omega);by_cases hlt:i<256
   ·have hlt':(i:Int)<256:=by omega
    have w3:IntKind.u32.wrap (i:Int)=(i:Int):=wrap_u32 (by omega) (by omega);simp(config := { maxSteps := 3000000 }) [w2,w3,hlt,hlt'];refine al (fun k:Nat=>k≤8) (fun k=>⟨[(0,.ptr 0 0),(1,.ptr 1 0),(2,.pv (.int .i64 i)),(3,.pv (.int .u32 ((EX k i:Nat):Int))),(4,.pv (.int .i64 i)),(9,.pv (.int .i64 k))],[(0,.box (dw (nR 0))),(1,.box (dw (nR i)))]⟩) (fun k=>8-k) [] 0 (by simp) ?_ ?_;·simp[EX]
    ·rintro k hk;have w4:IntKind.i64.wrap ((k:Int)+1)=(k:Int)+1:=wrap_i64 (by omega);by_cases hkl:k<8
     ·have hkl':(k:Int)<8:=by omega
      have hs:EX k i<4294967296:=Fg (by omega) k;generalize hc:EX k i=c at hs;have f1:=Kl c hs;have f2:=Ik c;have f3:=Hj c;have f5:=MM c;have f4:gb .xor .u32 ((c:Int)/2) ((pB c:Nat):Int)=.int .u32 ((S1 c:Nat):Int):=jh (a:=c/2) (b:=pB c) (by omega) (by unfold pB;split<;>omega);simp(config := { maxSteps := 3000000 }) [w4,hkl',f1,f2,f3,f4,f5];exact⟨k+1,by omega,⟨by simp only[EX,hc],by omega⟩,by omega⟩
     ·have hk8:k=8:=by omega
      subst hk8;have hS:EX 8 i=S8 i:=Lv i;simp(config := { maxSteps := 3000000 }) [w2,hlt',hS,GG hlt];rw[if_pos hlt];exact⟨trivial,i+1,by omega,⟨by omega,⟨fun h=>absurd h Nat.zero_ne_one,rfl⟩⟩,by omega⟩
   ·have hi6:i=256:=by omega
    subst hi6;simp(config := { maxSteps := 3000000 }) [qW];have ht:(nR 256).take 256=tab:=List.take_of_length_le (by simp);rw[ht];exact C0 _ _ _
 ·cases h
@[simp] def Xm:List AV→Option (Prop×AV)|[.rp ps,.pv (.int .u32 c),.pv (.ro b)]=>(bytesOf b).map fun l=>(ps=wW tab∧0≤c∧c<4294967296∧l.length≤1000000000,.pv (.int .u32 ((uL c.toNat l:Nat):Int)))|_=>none
theorem gr:∀{rows:List (List PV)}{l:List UInt8},bytesOf rows=some l→rows=bytesRow l
 |[],l,h=>by simp[bytesOf]at h;subst h;rfl|r::rows,l,h=>by
  simp only[bytesOf,Option.bind_eq_some_iff,Option.map_eq_some_iff]at h;obtain⟨c,hc,m,hm,rfl⟩:=h;have ih:=gr hm;unfold byteOf at hc;split at hc
  ·rename_i n;split at hc
   ·rename_i hn;simp only[Option.some.injEq]at hc;subst hc;have e:((UInt8.ofNat n.toNat).toNat:Int)=n:=by rw[UInt8.toNat_ofNat'];omega
    rw[ih];simp only[bytesRow,List.map_cons,e]
   ·cases hc
  ·cases hc
theorem bytes_at {l:List UInt8}{i:Nat} (h:i<l.length):rowAt (bytesRow l) (i:Int)=[.int .u8 ((l[i].toNat:Nat):Int)]:=by simp[rowAt,bytesRow,h]
theorem c_upd:aN Tryz.prog 200 Xm:=by
 intro ys φ r h hφ;unfold Xm at h;split at h
 ·rename_i ps c0 rb;obtain⟨b,hb,h⟩:=Option.map_eq_some_iff.1 h;cases h;obtain⟨rfl,hc0,hc1,hbl⟩:=hφ;cases gr hb;obtain⟨c0,rfl⟩:∃m:Nat,c0=(m:Int):=⟨c0.toNat,by omega⟩;rw[Int.toNat_natCast];have hc2:c0<4294967296:=by omega
  refine aq ah (by kernel_rfl) (by conv=>lhs;reduce) (by simp) ?_;have x1:=jh (a:=c0) (b:=4294967295) hc2 (by omega);have x1':gb .xor .u32 (c0:Int) 4294967295=.int .u32 ((c0^^^4294967295:Nat):Int):=x1;have hq:c0^^^4294967295<4294967296:=Nat.xor_lt_two_pow (n:=32) hc2 (by omega);generalize hC:c0^^^4294967295=C at x1' hq;simp(config := { maxSteps := 3000000 }) [x1'];refine al (fun i:Nat=>i≤b.length) (fun i=>⟨[(0,.rp (wW tab)),(1,.pv (.int .u32 ((ke C (b.take i):Nat):Int))),(11,.pv (.ro (bytesRow b))),(12,.pv (.int .i64 b.length)),(13,.pv (.int .i64 i))],[]⟩) (fun i=>b.length-i) [] 0 (by simp) ?_ ?_;·simp[ke]
  ·rintro i hi;have w2:IntKind.i64.wrap ((i:Int)+1)=(i:Int)+1:=wrap_i64 (by omega);have hlt4:=oG hq (b.take i);by_cases hlt:i<b.length
   ·have hlt':(i:Int)<(b.length:Int):=by omega
    have r1:=bytes_at hlt;have hs:ke C (b.take (i+1))=Mp (ke C (b.take i)) b[i].toNat:=by rw[List.take_succ_eq_append_getElem hlt,vB]
    generalize ke C (b.take i)=c at hlt4 hs;have hx:b[i].toNat<256:=b[i].toNat_lt;generalize b[i].toNat=x at hx r1 hs;have w3:IntKind.u8.wrap (c:Int)=((c%256:Nat):Int):=(wrap_u8 _).trans (by omega);have w3':IntKind.u8.wrap (c:Int)=(c:Int)%256:=wrap_u8 _;have x2:gb .xor .u8 ((c:Int)%256) (x:Int)=.int .u8 ((c%256^^^x:Nat):Int):=MZ (a:=c%256) (b:=x) (by omega) hx;have hj:c%256^^^x<256:=Nat.xor_lt_two_pow (n:=8) (by omega) hx;have x4:gb .xor .u32 ((S8 (c%256^^^x):Nat):Int) ((c:Int)/256)=.int .u32 ((Mp c x:Nat):Int):=jh (a:=S8 (c%256^^^x)) (b:=c/256) (Md (by omega)) (by omega);generalize hJ:c%256^^^x=j at x2 hj x4;have hj':(j:Int)<256:=by omega
    have t1:=Ob hj;have f5:=HL c;simp(config := { maxSteps := 3000000 }) [w2,w3',hlt',r1,x2,hj',t1,f5,x4];exact⟨i+1,by omega,⟨by rw[hs],by omega⟩,by omega⟩
   ·have:i=b.length:=by omega
    subst this;have x3:gb .xor .u32 ((ke C b:Nat):Int) 4294967295=.int .u32 ((uL c0 b:Nat):Int):=by unfold uL;rw[hC];exact jh (a:=ke C b) (b:=4294967295) (oG hq b) (by omega)
    simp(config := { maxSteps := 3000000 }) [x3,List.take_length]
 ·cases h
theorem U7 (c:Nat) (hc:c<4294967296):rT Tryz.prog 159 [] [.pv (.int .u32 c)] [] (.pv (.int .u32 ((S1 c:Nat):Int))):=by
 refine aq ah (by kernel_rfl) (by conv=>lhs;reduce) (by simp) ?_;rcases Nat.mod_two_eq_zero_or_one c with h|h
 ·have e:(c:Int).tmod 2=0:=by rw[Int.tmod_eq_emod_of_nonneg (by omega)];omega
  have q:(c:Int).tdiv 2=(c:Int)/2:=Int.tdiv_eq_ediv_of_nonneg (by omega);have q1:((S1 c:Nat):Int)=(c:Int)/2:=by unfold S1;rw[h];simp
  have w:=wrap_u32 (n:=(c:Int)/2) (by omega) (by omega);simp(config := { maxSteps := 3000000 }) [e,q,q1,w]
 ·have e:(c:Int).tmod 2=1:=by rw[Int.tmod_eq_emod_of_nonneg (by omega)];omega
  have q:(c:Int).tdiv 2=(c:Int)/2:=Int.tdiv_eq_ediv_of_nonneg (by omega);have w:=wrap_u32 (n:=(c:Int)/2) (by omega) (by omega);have x1:gb .xor .u32 ((c:Int)/2) 2197175160=.int .u32 ((S1 c:Nat):Int):=by unfold S1;rw[h,if_pos rfl];exact jh (a:=c/2) (b:=2197175160) (by omega) (by omega)
  simp(config := { maxSteps := 3000000 }) [e,q,w,x1]
@[simp] def X7:List AV→Option (Prop×AV)|[.pv (.int .u32 c)]=>some (0≤c∧c<4294967296,.pv (.int .u32 ((S1 c.toNat:Nat):Int)))|_=>none
theorem P8:aN Tryz.prog 159 X7:=by
 intro ys φ r h hφ;unfold X7 at h;split at h;·rename_i c;cases h;obtain⟨c,rfl⟩:∃m:Nat,c=(m:Int):=⟨c.toNat,by omega⟩;rw[Int.toNat_natCast];exact U7 c (by omega)
 ·cases h
@[simp] def Kn:List AV→Option (Prop×AV)|[.pv (.int .u32 c),.pv (.ro b)]=>(bytesOf b).map fun l=>(0≤c∧c<4294967296∧l.length≤1000000000,.pv (.int .u32 ((uL c.toNat l:Nat):Int)))|_=>none
theorem N2:aN Tryz.prog 123 Kn:=by
 intro ys φ r h hφ;unfold Kn at h;split at h
 ·rename_i c0 rb;obtain⟨b,hb,h⟩:=Option.map_eq_some_iff.1 h;cases h;obtain⟨hc0,hc1,hbl⟩:=hφ;cases gr hb;obtain⟨c0,rfl⟩:∃m:Nat,c0=(m:Int):=⟨c0.toNat,by omega⟩;rw[Int.toNat_natCast];have hc2:c0<4294967296:=by omega
  refine aq (ag P8 ah) (by kernel_rfl) (by conv=>lhs;reduce) (by simp) ?_;have x1:gb .xor .u32 (c0:Int) 4294967295=.int .u32 ((c0^^^4294967295:Nat):Int):=jh (a:=c0) (b:=4294967295) hc2 (by omega);have hq:c0^^^4294967295<4294967296:=Nat.xor_lt_two_pow (n:=32) hc2 (by omega);generalize hC:c0^^^4294967295=C at x1 hq;simp(config := { maxSteps := 3000000 }) [x1];refine al (fun i:Nat=>i≤b.length) (fun i=>⟨[(0,.pv (.int .u32 ((ke C (b.take i):Nat):Int))),(1,.pv (.ro (bytesRow b))),(5,.pv (.int .i64 i))],[]⟩) (fun i=>b.length-i) [] 0 (by simp) ?_ ?_;·simp[ke]
  ·rintro i hi;have w2:IntKind.i64.wrap ((i:Int)+1)=(i:Int)+1:=wrap_i64 (by omega);have hlt4:=oG hq (b.take i);by_cases hlt:i<b.length
   ·have hlt':(i:Int)<(b.length:Int):=by omega
    have r1:=bytes_at hlt;have hs:ke C (b.take (i+1))=Mp (ke C (b.take i)) b[i].toNat:=by rw[List.take_succ_eq_append_getElem hlt,vB]
    generalize ke C (b.take i)=c at hlt4 hs;have hx:b[i].toNat<256:=b[i].toNat_lt;generalize b[i].toNat=x at hx r1 hs;simp(config := { maxSteps := 3000000 }) [hlt'];refine al (fun k:Nat=>k≤8) (fun k=>⟨[(0,.pv (.int .u32 ((Dy c x k:Nat):Int))),(1,.pv (.ro (bytesRow b))),(5,.pv (.int .i64 i)),(6,.pv (.int .i64 k))],[]⟩) (fun k=>8-k) [] 0 (by simp) ?_ ?_;·simp[Dy]
    ·rintro k hk;have w4:IntKind.i64.wrap ((k:Int)+1)=(k:Int)+1:=wrap_i64 (by omega);by_cases hkl:k<8
     ·have hkl':(k:Int)<8:=by omega
      have hd:=F9 (x:=x) hlt4 k;have he:Dy c x (k+1)=S1 (Dy c x k^^^(x/2^k)%2):=rfl;have hD:x/2^k<256:=Nat.lt_of_le_of_lt (Nat.div_le_self _ _) hx;have hf:=OW x (k:=k) (by omega);generalize x/2^k=D at hf hD he;have w5:IntKind.u32.wrap (D:Int)=(D:Int):=wrap_u32 (by omega) (by omega);have w6:(D:Int).tmod 2=((D%2:Nat):Int):=by rw[Int.tmod_eq_emod_of_nonneg (by omega)];omega
      have hE:D%2<2:=by omega
      generalize D%2=E at w6 hE he;generalize Dy c x k=y at hd he;have x2:=jh (a:=y) (b:=E) hd (by omega);have hz:y^^^E<4294967296:=Nat.xor_lt_two_pow (n:=32) hd (by omega);generalize y^^^E=z at x2 hz he;have hz':(z:Int)<4294967296:=by omega
      have hk0:(0:Int)≤(k:Int):=by omega
      simp(config := { maxSteps := 3000000 }) [w4,hkl',hlt',r1,hf,w5,w6,x2,hz',hz,hk0];exact⟨k+1,by omega,⟨by rw[he],by omega⟩,by omega⟩
     ·have hk8:k=8:=by omega
      subst hk8;simp(config := { maxSteps := 3000000 }) [w2];exact⟨i+1,by omega,⟨by rw[hs,MB hx],by omega⟩,by omega⟩
   ·have:i=b.length:=by omega
    subst this;have x3:gb .xor .u32 ((ke C b:Nat):Int) 4294967295=.int .u32 ((uL c0 b:Nat):Int):=by unfold uL;rw[hC];exact jh (a:=ke C b) (b:=4294967295) (oG hq b) (by omega)
    simp(config := { maxSteps := 3000000 }) [x3,List.take_length]
 ·cases h
def Dw:List AV→Option (Prop×AV)|[.pv (.ro [[.ro b]])]=>(bytesOf b).map fun l=>(l.length≤1000000000,.pv (.int .u32 ((nV l:Nat):Int)))|_=>none
@[simp] theorem IB (b:List (List PV)):Dw [.pv (.ro [[.ro b]])]=(bytesOf b).map fun l=>(l.length≤1000000000,.pv (.int .u32 ((nV l:Nat):Int))):=rfl
theorem IC (l:List UInt8):nV l<4294967296:=I2 (by omega) l
theorem dA:∀l:List UInt8,bytesOf (bytesRow l)=some l|[]=>rfl|c::l=>by have ih:=dA l;have h:=c.toNat_lt;simp only[bytesRow,List.map_cons]at ih ⊢;simp only[bytesOf,ih,byteOf];rw[if_pos (by omega)];simp
theorem WZ:aN Tryz.prog 180 Dw:=by
 intro ys φ r h hφ;unfold Dw at h;split at h
 ·rename_i rb;obtain⟨b,hb,h⟩:=Option.map_eq_some_iff.1 h;cases h;cases gr hb;have hbb:=dA b;refine aq (ag Yw (ag c_upd ah)) (by kernel_rfl) (by conv=>lhs;reduce) (by simp) ?_;have hz1:=Fw 256;have hz2:=F0 256;generalize List.replicate 256 (Value.int .u32 0)=R at hz1 hz2;rw[←pj]at hz2;have hsp:bL (dw (nR 0)) 0 (dw tab)=dw tab:=qW (by simp[tab]);have ht:=J0;have htr:Gq (.agg (dw tab))=false:=by rw[CG,List.any_eq_false];intro x hx;simp only[dw,List.mem_map]at hx;obtain⟨n,_,rfl⟩:=hx;simp
  simp(config := { maxSteps := 3000000 }) [-CG,htr,hz1,hz2,hsp,ht];refine al (fun i:Nat=>i≤1) (fun i=>⟨[(3,.ptr 3 0),(4,.pv (.int .u32 (if i=0 then 0 else((nV b:Nat):Int)))),(8,.pv (.ro [[.ro (bytesRow b)]])),(9,.pv (.int .i64 1)),(10,.pv (.int .i64 i))],[(3,.box (dw tab))]⟩) (fun i=>1-i) [] 0 (by simp) ?_ ?_;·simp
  ·rintro i hi;by_cases h0:i=0;·subst h0;have hr:rowAt [[PV.ro (bytesRow b)]] 0=[.ro (bytesRow b)]:=rfl;have hs:uL 0 b=nV b:=rfl;simp(config := { maxSteps := 3000000 }) [hr,hbb,hφ,hs];exact⟨1,by omega,⟨fun h=>absurd h (by omega),by decide⟩,by omega⟩
   ·have:i=1:=by omega
    subst this;simp(config := { maxSteps := 3000000 })
 ·cases h
theorem Ni:aN Tryz.prog 78 Dw:=by
 intro ys φ r h hφ;unfold Dw at h;split at h
 ·rename_i rb;obtain⟨b,hb,h⟩:=Option.map_eq_some_iff.1 h;cases h;cases gr hb;have hbb:=dA b;refine aq (ag N2 ah) (by kernel_rfl) (by conv=>lhs;reduce) (by simp) ?_;simp(config := { maxSteps := 3000000 });refine al (fun i:Nat=>i≤1) (fun i=>⟨[(0,.pv (.ro [[.ro (bytesRow b)]])),(3,.own 3),(4,.pv (.int .i64 i))],[(3,.arr 5 (if i=0 then[] else bytesRow b))]⟩) (fun i=>1-i) [] 0 (by simp) ?_ ?_;·simp
  ·rintro i hi;by_cases h0:i=0;·subst h0;have hr:rowAt [[PV.ro (bytesRow b)]] 0=[.ro (bytesRow b)]:=rfl;simp(config := { maxSteps := 3000000 }) [hr,aH];refine⟨⟨by omega,by omega,?_⟩,1,by omega,⟨by decide,fun h=>absurd h (by omega)⟩,by omega⟩;intro q hq;simp only[bytesRow,List.mem_map]at hq;obtain⟨c,_,rfl⟩:=hq;rfl
   ·have:i=1:=by omega
    subst this;have hs:uL 0 b=nV b:=rfl;simp(config := { maxSteps := 3000000 }) [hbb,hφ,hs]
 ·cases h
@[simp] def GOf:List AV→Option (Prop×AV)|[.pv (.ro b)]=>(bytesOf b).map fun l=>(l.length≤1000000000,.agg [.pv (.int .u64 l.length),.pv (.int .u64 ((nV l:Nat):Int))])|_=>none
def jV (s:Nat):List UInt8:=[s.toUInt8,(s/256).toUInt8,(s/65536).toUInt8,(s/16777216).toUInt8]
def AD (k:UInt8) (b:List UInt8):List UInt8:=k::cH (b.length:Int)++b
def E5 (k:UInt8) (b:List UInt8):List UInt8:=AD k b++jV (nV (AD k b))
theorem w8 (n:Nat):IntKind.u8.wrap (n:Int)=(n.toUInt8.toNat:Int):=by rw[wrap_u8];simp
theorem by1 (b:List UInt8):∀r∈bytesRow b,r.length=1:=by intro r hr;simp only[bytesRow,List.mem_map]at hr;obtain⟨c,_,rfl⟩:=hr;rfl
theorem xo (b:List UInt8) (h:b.length≤65535):(cH (b.length:Int)).length≤10:=by
 show(fe b.length).length≤10;by_cases h1:b.length<128;·rw[cS h1];simp
 ·rw[iX h1];by_cases h2:b.length/128<128;·rw[cS h2];simp
  ·rw[iX h2,cS (by omega)];simp
theorem rW (k:UInt8) (b:List UInt8) (h:b.length≤65535):(AD k b).length≤b.length+11:=by have:=xo b h;simp only[AD,List.length_append,List.length_cons];omega
@[simp] noncomputable def ZB:List AV→Option (Prop×AV)|[.pv (.ro b)]=>(dec fj b).map fun l=>(l.length≤1000000000,.fr 5 (bytesRow (jV (nV l))))|_=>none
theorem aaf:aN Tryz.prog 158 ZB:=by
 intro ys φ r h hφ;unfold ZB at h;split at h
 ·obtain⟨b,hb,h⟩:=Option.map_eq_some_iff.1 h;cases h;cases dU hb;refine aq (ag WZ ah) (by kernel_rfl) (by conv=>lhs;reduce) (by simp) ?_;have hbb:=dA b;have hl:b.length≤1000000000:=hφ;generalize hs:nV b=s;have f1:(s:Int).fdiv (2^min 8 IntKind.u32.bits)=((s/256:Nat):Int):=by rw[HL];simp
  have f2:(s:Int).fdiv (2^min 16 IntKind.u32.bits)=((s/65536:Nat):Int):=by show(s:Int).fdiv 65536=_;rw[Int.fdiv_eq_ediv_of_nonneg _ (by omega)];simp
  have f3:(s:Int).fdiv (2^min 24 IntKind.u32.bits)=((s/16777216:Nat):Int):=by show(s:Int).fdiv 16777216=_;rw[Int.fdiv_eq_ediv_of_nonneg _ (by omega)];simp
  simp(config := { maxSteps := 3000000 }) [hbb,hl,hs];rw[f1,f2,f3,w8,w8,w8,w8];rfl
 ·cases h
structure Fm where
 k:UInt8
 b:List UInt8
def mM (f:Fm):List PV:=[.int .u8 (f.k.toNat:Int),.ro (bytesRow f.b)]
theorem bytes_inj {a b:List UInt8} (h:bytesRow a=bytesRow b):a=b:=by have h1:=dA a;rw[h,dA]at h1;cases h1;rfl
theorem G0:∀a b,mM a=mM b→a=b:=by rintro⟨k,b⟩ ⟨k',b'⟩ h;simp only[mM,List.cons.injEq,PV.int.injEq,PV.ro.injEq,true_and,and_true]at h;have hk:k=k':=UInt8.toNat_inj.1 (by omega);rw[hk,bytes_inj h.2]
def lN (l:List Fm):List (List PV):=l.map mM
@[simp] theorem JS (l:List Fm):(lN l).length=l.length:=by simp[lN]
theorem Gk {l:List Fm}{i:Nat} (h:i<l.length):rowAt (lN l) (i:Int)=[.int .u8 (l[i].k.toNat:Int),.ro (bytesRow l[i].b)]:=by simp[rowAt,lN,h,mM]
@[simp] theorem qt (l:List Fm):dec mM (lN l)=some l:=gX G0 l
theorem mV {rows:List (List PV)}{l:List Fm} (h:dec mM rows=some l):rows=lN l:=gV h
@[simp] theorem dec_F1 (k:UInt8) (b:List UInt8):dec mM [[.int .u8 (k.toNat:Int),.ro (bytesRow b)]]=some [⟨k,b⟩]:=qt [⟨k,b⟩]
@[simp] noncomputable def Gfr (F:UInt8→List UInt8→List UInt8):List AV→Option (Prop×AV)|[.agg [.pv k,.pv b]]=>(dec mM [[k,b]]).map fun l=>(((l.map Fm.b).getD 0 []).length≤65535,.fr 5 (bytesRow (l.flatMap fun f=>F f.k f.b)))|_=>none
theorem jQ {k b:PV}{l:List Fm} (h:dec mM [[k,b]]=some l):∃f:Fm,l=[f]∧k=.int .u8 (f.k.toNat:Int)∧b=.ro (bytesRow f.b):=by have h2:=mV h;match l,h2 with|[f],h2=>simp only[lN,List.map_cons,List.map_nil,List.cons.injEq,and_true,mM]at h2;exact⟨f,rfl,h2.1,h2.2⟩
theorem Xh:aN Tryz.prog 157 (Gfr fun k b=>k::cH (b.length:Int)):=by
 intro ys φ r h hφ;unfold Gfr at h;split at h;·obtain⟨l,hk,h⟩:=Option.map_eq_some_iff.1 h;cases h;obtain⟨⟨k,b⟩,rfl,rfl,rfl⟩:=jQ hk;have hl:b.length≤65535:=hφ;have hv:=xo b hl;refine aq (ag AL ah) (by kernel_rfl) (by conv=>lhs;reduce) (by simp) ?_;have w:IntKind.u64.wrap (b.length:Int)=(b.length:Int):=wrap_u64 (by omega);simp(config := { maxSteps := 3000000 }) [w,aH];refine⟨by omega,⟨by omega,by omega,by1 _⟩,rfl⟩
 ·cases h
theorem Um:aN Tryz.prog 121 (Gfr E5):=by
 intro ys φ r h hφ;unfold Gfr at h;split at h
 ·obtain⟨l,hk,h⟩:=Option.map_eq_some_iff.1 h;cases h;obtain⟨⟨k,b⟩,rfl,rfl,rfl⟩:=jQ hk;have hl:b.length≤65535:=hφ;have hv:=xo b hl;refine aq (ag Xh (ag aaf ah)) (by kernel_rfl) (by conv=>lhs;reduce) (by simp) ?_;have hf:=rW k b hl;have j1:bytesRow (k::cH (b.length:Int))++bytesRow b=bytesRow (AD k b):=by simp[bytesRow,AD]
  have j2:bytesRow (AD k b)++bytesRow (jV (nV (AD k b)))=bytesRow (E5 k b):=by simp[bytesRow,E5]
  have hl2:(AD k b).length≤1000000000:=by omega
  have h4:∀s,(jV s).length=4:=fun s=>rfl;simp(config := { maxSteps := 3000000 }) [hl,j1,j2,hl2,h4,aH];exact⟨⟨by omega,by omega,by1 _⟩,by simp[jV,bytesRow,bz,gR],by omega,by omega,by1 _⟩
 ·cases h
@[simp] noncomputable def GfP:List AV→Option (Prop×AV)|[.agg [.pv k,.pv b]]=>(dec mM [[k,b]]).map fun l=>(((l.map Fm.b).getD 0 []).length≤65535,.aJ [.fr 5 (bytesRow (l.flatMap fun f=>E5 f.k f.b)),.pv (.int .i64 0)])|_=>none
theorem c_fP:aN Tryz.prog 76 GfP:=by
 intro ys φ r h hφ;unfold GfP at h;split at h
 ·obtain⟨l,hk,h⟩:=Option.map_eq_some_iff.1 h;cases h;obtain⟨⟨k,b⟩,rfl,rfl,rfl⟩:=jQ hk;have hl:b.length≤65535:=hφ;have hl2:¬(65535:Int)<(b.length:Int):=by omega
  have hl3:(b.length:Int)≤65535:=by omega
  refine aq (ag Um ah) (by kernel_rfl) (by conv=>lhs;reduce) (by simp) ?_;simp(config := { maxSteps := 3000000 }) [hl,hl2,hl3]
 ·cases h
def oT (l:List Fm):List UInt8:=l.flatMap fun f=>E5 f.k f.b
theorem Cl (k:UInt8) (b:List UInt8) (h:b.length≤65535):(E5 k b).length≤66000:=by have:=rW k b h;show(AD k b++jV _).length≤_;rw[List.length_append];show _+4≤_;omega
theorem yX:∀(l:List Fm),(∀f∈l,f.b.length≤65535)→(oT l).length≤l.length*66000|[],_=>by simp[oT]|f::l,h=>by have ih:=yX l fun g hg=>h g (by simp[hg]);have h1:=Cl f.k f.b (h f (by simp));simp only[oT,List.flatMap_cons,List.length_append,List.length_cons]at ih ⊢;omega
@[simp] noncomputable def GfJ:List AV→Option (Prop×AV)|[.pv (.ro a)]=>(dec mM a).map fun l=>(l.length≤1000∧(∀f∈l,f.b.length≤65535),.aJ [.fr 5 (bytesRow (oT l)),.pv (.int .i64 0)])|_=>none
theorem c_fJ:aN Tryz.prog 42 GfJ:=by
 intro ys φ r h hφ;unfold GfJ at h;split at h
 ·obtain⟨l,hk,h⟩:=Option.map_eq_some_iff.1 h;cases h;cases mV hk;obtain⟨hn,hb⟩:=hφ;refine aq (ag c_fP ah) (by kernel_rfl) (by conv=>lhs;reduce) (by simp) ?_;simp(config := { maxSteps := 3000000 });refine al (fun i:Nat=>i≤l.length) (fun i=>⟨[(0,.pv (.ro (lN l))),(2,.own 2),(3,.pv (.int .i64 0)),(4,.own 4),(9,.pv (.ro (lN l))),(10,.pv (.int .i64 l.length)),(11,.pv (.int .i64 (i:Int)))],[(2,.arr 5 []),(4,.arr 5 (bytesRow (oT (l.take i))))]⟩) (fun i=>l.length-i) [] 0 (by simp) ?_ ?_;·simp[oT,bytesRow]
  ·intro i hi;have w2:IntKind.i64.wrap ((i:Int)+1)=(i:Int)+1:=wrap_i64 (by omega);by_cases hlt:i<l.length
   ·have r1:=Gk hlt;have h1:=hb l[i] (List.getElem_mem hlt);have h2:=Cl l[i].k l[i].b h1;have h3:=yX (l.take i) fun f hf=>hb f (List.mem_of_mem_take hf);have h4:(l.take i).length≤1000:=by rw[List.length_take];omega
    have j1:bytesRow (oT (l.take i))++bytesRow (E5 l[i].k l[i].b)=bytesRow (oT (l.take (i+1))):=by rw[List.take_succ_eq_append_getElem hlt];simp only[oT,List.flatMap_append,List.flatMap_cons,List.flatMap_nil,List.append_nil,bytesRow,List.map_append]
    simp(config := { maxSteps := 3000000 }) [w2,hlt,r1,h1,j1,aH];exact⟨⟨by omega,by omega,by1 _⟩,i+1,by omega,⟨by omega,rfl⟩,by omega⟩
   ·simp(config := { maxSteps := 3000000 }) [hlt];rw[List.take_of_length_le (by omega)]
 ·cases h
end Go.Proofs.YtlicclncicbajaaGreat.Ab
namespace Go.Proofs.YtlicclncicbajaaGreat.Ab
open Go Go.RowKit Go.Shelf R
attribute[local go_sem] Oper.semAt_some
theorem IJ (a b:List UInt8):eo (a++b)=eo a++eo b:=by simp[eo]
theorem EO {s i:Nat} (h:i<4):(jV s).take (i+1)=(jV s).take i++[(s/256^i).toUInt8]:=by rcases(show i=0∨i=1∨i=2∨i=3 by omega) with rfl|rfl|rfl|rfl<;>simp[jV]
theorem Eb {n0:Nat}{w W W':World}{V:Value}{e:TypeId}{sz n:Nat}{xs:List Value} (hW:Below n0 w W) (hr:W.ownsRow n0 e sz V n xs) (hg:W.grownBy W' V.ownBlock) (hn:n0≤w.heap.size:=by omega):Below n0 w W':=by
 refine hW.grown hg (Nat.le_trans hn hW.size) fun q e=>?_;rcases hr.2 with⟨hv,_⟩|⟨g,cap,cur,hv,hgb,_⟩;·rw[hv]at e;cases e
 ·rw[hv]at e;have e':some g=some q:=e;cases e';exact hgb
set_option maxHeartbeats 4000000 in theorem Ig (k:UInt8) (b P:List UInt8) (s:Nat) (hs:s<4294967296) (A:Addr) (c:Nat) (hb:b.length≤65535) (hP:P.length≤10) (hP0:P≠[]) (w:World) (hA:A.block<w.heap.size) (hcl:∀j u,(eo b)[j]?=some u→w.cell? (A.add j)=some u) (hp:∀W,Calls Tryz.prog 77 #[.int .u64 b.length] W fun e W1=>∃A c,e=.returned (.slice (some A) P.length c)∧(∀j,j<P.length→W1.cell? (A.add j)=(eo P)[j]?)∧A.block<W1.heap.size∧Below W.heap.size W W1) (hS:∀W A c V,1≤c→W.cell? (A.add 0)=some V→W.ownsRow 0 5 1 V (k::P++b).length (eo (k::P++b))→Calls Tryz.prog 78 #[.slice (some A) 1 c] W fun e W1=>e=.returned (.int .u32 (s:Int))∧Below W.heap.size W W1):Calls Tryz.prog 43 #[.agg #[.int .u8 (k.toNat:Int),.slice (some A) b.length c]] w fun e w'=>∃V',e=.returned V'∧w'.ownsRow w.heap.size 5 1 V' (k::P++b++jV s).length (eo (k::P++b++jV s))∧Below w.heap.size w w':=by
 refine(callsIn_wide (n:=6)).1 ?_;refine callsIn_of_wp Tryz.func43 rfl trivial ?_ rfl;simp only[Tryz.ntmps43,List.size_toArray,List.length_cons,List.length_nil,Nat.reduceAdd,Nat.reduceSub,Array.replicate_succ,Array.replicate_zero,List.push_toArray,List.append_toArray,List.nil_append,List.cons_append];have hw:IntKind.u64.wrap (b.length:Int)=(b.length:Int):=wrap_u64 (by omega);obtain⟨iu,hiu,hu0,hu1,hu2⟩:=info_parts xq;obtain⟨W0,hW0⟩:∃W0,W0=(w.alloc (.cells #[.int .u8 (k.toNat:Int),.slice (some A) b.length c] 79)).alloc (.cells #[.int .u8 (k.toNat:Int)] 5):=⟨_,rfl⟩;have hB0:Below w.heap.size w W0:=by rw[hW0];exact((Below.refl _ w).alloc (Nat.le_refl _) _).alloc (by simp) _
 have hz0:W0.heap.size=w.heap.size+2:=by rw[hW0];simp
 have hf0:W0.heap[w.heap.size]?=some (.cells #[.int .u8 (k.toNat:Int),.slice (some A) b.length c] 79 (0,0)):=by rw[hW0];exact(Below.heap_alloc _ _ _ (by simp)).trans (World.alloc_heap_new w _)
 have hr0:W0.ownsRow w.heap.size 5 1 (.slice (some ⟨w.heap.size+1,0,none⟩) 1 1) 1 (eo [k]):=by refine⟨rfl,.inr ⟨w.heap.size+1,1,#[.int .u8 (k.toNat:Int)],rfl,by omega,?_,Nat.le_refl _,by unfold maxLen;omega,rfl,rfl⟩⟩;rw[hW0];have:=World.alloc_heap_new (w.alloc (.cells #[.int .u8 (k.toNat:Int),.slice (some A) b.length c] 79)) (.cells #[.int .u8 (k.toNat:Int)] 5);rw[World.size_alloc]at this;exact this
 gi_wp2;rw[←hW0];refine⟨trivial,(callsIn_wide.2 (hp W0)).mono ?_⟩;rintro e W1 ⟨A1,c1,rfl,hC1,hA1,hB1⟩;have hf1:=(hB1.block _ (by omega)).trans hf0;have hr1:W1.ownsRow w.heap.size 5 1 (.slice (some ⟨w.heap.size+1,0,none⟩) 1 1) 1 (eo [k]):=by
  refine⟨hr0.1,.inr ?_⟩;rcases hr0.2 with⟨h,_⟩|⟨g,cap,cur,h1,h2,h3,h4⟩;·cases h
  ·exact⟨g,cap,cur,h1,h2,(hB1.block _ (Array.getElem?_eq_some_iff.1 h3).1).trans h3,h4⟩
 have hPw:∀j u,(eo P)[j]?=some u→W1.cell? (A1.add j)=some u:=fun j u hj=>by
  have hjl:j<P.length:=by have:=(List.getElem?_eq_some_iff.1 hj).1;simpa[eo]using this
  rw[hC1 j hjl,hj]
 have hBw1:Below w.heap.size w W1:=hB0.trans (hB1.mono (by omega));have hbk:∀{W W':World}{V:Value}{n:Nat}{xs:List Value},Below w.heap.size w W→W.ownsRow w.heap.size 5 1 V n xs→W.heap[w.heap.size]?=some (.cells #[.int .u8 (k.toNat:Int),.slice (some A) b.length c] 79 (0,0))→W.grownBy W' V.ownBlock→Below w.heap.size w W'∧W'.heap[w.heap.size]?=some (.cells #[.int .u8 (k.toNat:Int),.slice (some A) b.length c] 79 (0,0)):=by
  intro W W' V n xs hW hr hf hg;refine⟨hW.grown hg hW.size fun q e=>?_,(hg.block _ (Array.getElem?_eq_some_iff.1 hf).1 fun e=>?_).trans hf⟩
  ·rcases hr.2 with⟨hv,_⟩|⟨g,cap,cur,hv,hgb,_⟩;·rw[hv]at e;cases e
   ·rw[hv]at e;have e':some g=some q:=e;cases e';exact hgb
  ·rcases hr.2 with⟨hv,_⟩|⟨g,cap,cur,hv,hgb,hgh,_⟩;·rw[hv]at e;cases e
   ·rw[hv]at e;have e':some w.heap.size=some g:=e;cases e';rw[hf]at hgh;cases hgh
 have hc2:∀{W:World},W.heap[w.heap.size]?=some (.cells #[.int .u8 (k.toNat:Int),.slice (some A) b.length c] 79 (0,0))→W.cell? ⟨w.heap.size,1,none⟩=some (.slice (some A) b.length c):=fun h=>by unfold World.cell?;rw[h];rfl
 have hbw:∀{W:World},Below w.heap.size w W→∀j u,(eo b)[j]?=some u→W.cell? (A.add j)=some u:=fun hW j u hj=>(hW.cell (by rw[bH];exact hA)).trans (hcl j u hj);have h1c:∀l:List UInt8,∀u∈eo l,u.oneCell'=true:=by intro l u hu;simp only[eo,List.mem_map]at hu;obtain⟨q,_,rfl⟩:=hu;rfl
 have hl0:∀l:List UInt8,(eo l).length=l.length*1:=fun l=>by simp[eo]
 gi_wp2_with(first|(gi_at_builtin;refine wpListIn_append_own _ rfl _ _ 74 rfl w.heap.size 5 iu (.int .u8 0) 1 1 Tryz.underlying74 hiu hu0 hu1 hu2 rfl (by decide) _ _ _ rfl hr1 A1 P.length c1 (eo P) rfl (hl0 _) hPw (h1c _) (by unfold maxLen;omega) (by omega) hBw1.size ?_;intro V2 W2 hV2 hg2 _;obtain⟨hBw2,hf2⟩:=hbk hBw1 hr1 hf1 hg2;have hx2:=hc2 hf2;clear hr1)|(gi_at_builtin;refine wpListIn_append_own _ rfl _ _ 74 rfl w.heap.size 5 iu (.int .u8 0) 1 1 Tryz.underlying74 hiu hu0 hu1 hu2 rfl (by decide) _ _ _ rfl hV2 A b.length c (eo b) rfl (hl0 _) (hbw hBw2) (h1c _) (by unfold maxLen;omega) (by omega) hBw2.size ?_;intro V3 W3 hV3 hg3 _;obtain⟨hBw3,hf3⟩:=hbk hBw2 hV2 hf2 hg3;obtain⟨g3,cap3,rfl⟩:∃g cap,V3=.slice (some ⟨g,0,none⟩) (1+P.length+b.length) cap:=(by rcases hV3.2 with⟨_,h0⟩|⟨g,cap,cur,h,_⟩<;>first|omega|exact⟨_,_,h⟩)));obtain⟨W4,hW4⟩:∃W4,W4=W3.alloc (.cells #[.slice (some ⟨g3,0,none⟩) (1+P.length+b.length) cap3] 74):=⟨_,rfl⟩;have hV4:W4.ownsRow w.heap.size 5 1 (.slice (some ⟨g3,0,none⟩) (1+P.length+b.length) cap3) (1+P.length+b.length) (eo [k]++eo P++eo b):=by rw[hW4];exact hV3.alloc _
 have hB4:Below w.heap.size w W4:=by rw[hW4];exact hBw3.alloc hBw3.size _
 have hk4:W4.cell? ((⟨W3.heap.size,0,none⟩:Addr).add 0)=some (.slice (some ⟨g3,0,none⟩) (1+P.length+b.length) cap3):=by rw[hW4,Addr.add_lit];exact(Boxed.new W3 _ _).cell
 have hlen:(k::P++b).length=1+P.length+b.length:=by simp;omega
 have hby:eo (k::P++b)=eo [k]++eo P++eo b:=by simp[eo]
 rw[←hW4];refine⟨trivial,(callsIn_wide.2 (hS W4 ⟨W3.heap.size,0,none⟩ 1 _ (Nat.le_refl _) hk4 (by rw[hlen,hby];exact oh hV4))).mono ?_⟩;rintro e W5 ⟨rfl,hB5⟩;have hV5:W5.ownsRow w.heap.size 5 1 (.slice (some ⟨g3,0,none⟩) (1+P.length+b.length) cap3) (1+P.length+b.length) (eo [k]++eo P++eo b):=by
  refine⟨hV4.1,.inr ?_⟩;rcases hV4.2 with⟨h,_⟩|⟨g,cap,cur,h1,h2,h3,h4⟩;·cases h
  ·exact⟨g,cap,cur,h1,h2,(hB5.block _ (Array.getElem?_eq_some_iff.1 h3).1).trans h3,h4⟩
 have hBw5:Below w.heap.size w W5:=hB4.trans (hB5.mono hB4.size);clear hV4 hk4 hV3 hV2 hg2 hg3 hr0 hf0 hf1 hf2 hf3 hx2 hC1 hPw hW4 hW0 hbw hc2;gi_wp2;gi_loopw[3,4,5] (fun v p q wr=>∃i:Nat,i≤4∧p=.int .u32 ((s/256^i:Nat):Int)∧q=.int .i64 (i:Int)∧wr.ownsRow w.heap.size 5 1 v (1+P.length+b.length+i) (eo [k]++eo P++eo b++eo ((jV s).take i))∧Below w.heap.size w wr) (fun _ _ q _=>4-(intOf q).toNat);case atStart=>exact⟨0,by omega,by simp,rfl,by simpa[eo]using hV5,hBw5⟩
 case round=>
  obtain⟨i,hi,rfl,rfl,hrow,hB⟩:=hrel;have hsz:w.heap.size≤wr.heap.size:=hB.size;by_cases hlt:(i:Int)<4
  ·gi_wp2_with(gi_at_builtin;refine wpListIn_append_own _ rfl _ _ 74 rfl w.heap.size 5 iu (.int .u8 0) 1 1 Tryz.underlying74 hiu hu0 hu1 hu2 rfl (by decide) _ _ _ rfl (hrow.alloc _) ⟨wr.heap.size,0,none⟩ 1 1 [_] rfl rfl (cell_one_new _ _ _) (by simp[Value.oneCell']) (by unfold maxLen;omega) (by omega) (by simp;omega) ?_;intro V6 W6 hV6 hg6 _);have hm:s/256^i<4294967296:=Nat.lt_of_le_of_lt (Nat.div_le_self _ _) hs;have hz:((s:Int)/256^i)=((s/256^i:Nat):Int):=by simp
   have hd:s/256^(i+1)=s/256^i/256:=by rw[Nat.pow_succ,Nat.div_div_eq_div_mul]
   rw[hz]at hV6 hg6;obtain⟨m,hmd⟩:∃m,m=s/256^i:=⟨_,rfl⟩;rw[←hmd]at hV6 hg6 hz hm hd;have hm0:(0:Int)≤(m:Int):=Int.natCast_nonneg m;refine⟨⟨i+1,by omega,?_,by simp,?_,?_⟩,by simp[intOf];omega⟩;·rw[hz,hd,Int.tdiv_eq_ediv_of_nonneg hm0];congr 1;omega
   ·have hsa:(jV s).take (i+1)=(jV s).take i++[m.toUInt8]:=by rw[hmd];exact EO (by omega)
    have hv:((m:Int).tmod 256%256)=((m.toUInt8.toNat:Nat):Int):=by rw[Int.tmod_eq_emod_of_nonneg hm0];simp
    rw[hsa,IJ,←List.append_assoc,show eo [m.toUInt8]=[.int .u8 ((m.toUInt8.toNat:Nat):Int)] from rfl,←hv];exact hV6
   ·exact Eb (hB.alloc hsz _) (hrow.alloc _) hg6
  ·have:i=4:=by omega
   subst this;gi_wp2;refine bodyPost_ret (results_tmp rfl _ _ _) rfl ⟨_,rfl,?_,hB⟩;have e1:(P.length+(b.length+(jV s).length)+1)=1+P.length+b.length+4:=by show P.length+(b.length+4)+1=_;omega
   have e2:eo (k::(P++(b++jV s)))=eo [k]++eo P++eo b++eo ((jV s).take 4):=by rw[show(jV s).take 4=jV s from rfl];simp[eo]
   rw[e1,e2];exact hrow
theorem Gt {S:Nat→Prop}{w:World}{v:Value}{b:List UInt8} (h:cZ S w v (.ro (bytesRow b))) (hb:b≠[]):∃A c,v=.slice (some A) b.length c∧S A.block∧∀j u,(eo b)[j]?=some u→w.cell? (A.add j)=some u:=by
 obtain⟨A,c,rfl,hc,hne⟩:=h.fP;have hlen:(bytesRow b).length=b.length:=by simp[bytesRow]
 obtain⟨ad,sz,us,rfl,g1,g2,g3,g4,g5⟩:=hne (fun e=>hb (by have:=congrArg List.length e;rw[hlen]at this;exact List.eq_nil_of_length_eq_zero this));refine⟨ad,c,by rw[hlen],g1,fun j u hj=>?_⟩;have hjl:j<b.length:=by have:=(List.getElem?_eq_some_iff.1 hj).1;simpa[eo]using this
 have hr:(bytesRow b)[j]?=some [.int .u8 (b[j].toNat:Int)]:=by simp[bytesRow,hjl]
 have hs1:sz=1:=by rw[←g2 _ (List.mem_of_getElem? hr)];rfl
 subst hs1;have h1:=g3 j 0 (by omega) (by omega);have h2:=(g5 j 0 _ _ hr rfl).aI;rw[h2]at h1;have hu:u=.int .u8 (b[j].toNat:Int):=by simp only[eo,List.getElem?_map,List.getElem?_eq_getElem hjl,Option.map_some,Option.some.injEq]at hj;exact hj.symm
 rw[hu];simpa using h1
theorem PH {P:Program}{f:FuncId}{args:List AV}{L:List UInt8} (h:∀(w:World) (S:Nat→Prop) (vals:List Value),(∀b,S b→b<w.heap.size)→vals.length=args.length→(∀(i:Nat) (x:Value) (y:AV),vals[i]?=some x→args[i]?=some y→RV P S w (fun _=>.nilIface) (fun _=>False) x y)→Calls P f vals.toArray w fun e w'=>∃V,e=.returned V∧cZ (fun b=>w.heap.size≤b∧b<w'.heap.size) w' V (.ro (bytesRow L))∧Below w.heap.size w w'):rT P f [] args [] (.pv (.ro (bytesRow L))):=by
 intro w S0 β vals hS0 hlt hheap hvl hvr;have hno:∀t,bn (ab []) (fun t=>dm (cellAt (.pv (.ro (bytesRow L))) t)) t=none:=by
  intro t;show dm (cellAt (.pv (.ro (bytesRow L))) t)=none;simp only[cellAt,bD];split;·split<;>rfl
  ·rfl
 refine(h w (aS S0 w.heap.size β (ab []) w) vals (fun b hb=>hb.2.1) hvl fun i x y hx hy=>?_).mono ?_;·exact(hvr i x y hx hy).mono (fun b hb=>⟨hb,rfl⟩) (fun t ⟨o,ho⟩=>by simp[ab]at ho)
 ·rintro e w' ⟨V,rfl,hR,hb⟩;refine⟨_,fun _=>.nilIface,rfl,⟨hb.os,hb.tape,hb.output,hb.size,fun k hk _=>hb.block k hk⟩,⟨fun t o ho=>?_,fun t t' b ⟨o,ho⟩=>?_⟩,fun t b ⟨o,ho⟩=>?_,.pv _ _ (hR.mono fun b hb=>⟨⟨.inr hb.1,hb.2,fun⟨t,o,ho,_⟩=>by rw[hno]at ho;cases ho⟩,rfl⟩)⟩;·rw[hno]at ho;cases ho
  ·rw[hno]at ho;cases ho
  ·rw[hno]at ho;cases ho
@[simp] noncomputable def aaq:List AV→Option (Prop×AV)|[.agg [.pv k,.pv b]]=>(dec mM [[k,b]]).map fun l=>(((l.map Fm.b).getD 0 []).length≤65535∧((l.map Fm.b).getD 0 [])≠[],.pv (.ro (bytesRow (l.flatMap fun f=>E5 f.k f.b))))|_=>none
theorem T0:aN Tryz.prog 43 aaq:=by
 intro ys φ r h hφ;unfold aaq at h;split at h
 ·obtain⟨l,hk,h⟩:=Option.map_eq_some_iff.1 h;cases h;obtain⟨⟨k,b⟩,rfl,rfl,rfl⟩:=jQ hk;obtain⟨h1,h2⟩:=hφ;have h1:b.length≤65535:=h1;have h2:b≠[]:=h2;have hv:=xo b h1;have hv0:cH (b.length:Int)≠[]:=by show fe b.length≠[];rw[fe];split<;>simp
  have hf:=rW k b h1;have hfl:List.flatMap (fun f:Fm=>E5 f.k f.b) [⟨k,b⟩]=E5 k b:=by simp
  rw[hfl];refine PH fun w S vals hS hvl hvr=>?_;match vals,hvl with|[v0],_=>obtain⟨us,rfl,hl,hus⟩:=(hvr 0 v0 _ rfl rfl).cN;match us,hl with
   |[a0,a1],_=>
    cases(hus 0 _ a0 rfl rfl).aI;obtain⟨A,c,rfl,hSA,hcl⟩:=Gt (hus 1 _ a1 rfl rfl).bh h2;have hgs:Dw [.pv (.ro [[.ro (bytesRow (AD k b))]])]=some ((AD k b).length≤1000000000,.pv (.int .u32 ((nV (AD k b):Nat):Int))):=by rw[IB,dA];rfl
    refine(Ig k b (cH (b.length:Int)) (nV (AD k b)) (IC _) A c h1 hv hv0 w (hS _ hSA) hcl ?_ ?_).mono ?_
    ·intro W;refine(mo (Nz _ _ _ (IT (b.length:Int)) ⟨by omega,by omega⟩) (S:=fun b=>b<W.heap.size) (vals:=[.int .u64 b.length]) rfl (fun b hb=>hb) (fun i v x hi hx=>?_)).mono ?_;·match i,hi,hx with|0,hi,hx=>cases hi;cases hx;exact .pv _ _ (.int _ _)|i+1,hi,hx=>simp at hi
     ·rintro e W1 ⟨v,β',rfl,hB1,hh,hb,hr⟩;have e0:=(RV.aR (t:=0) hr).1;subst e0;have hown:=rU (n0:=W.heap.size) xT (hh.holds 0 (.arr 5 (bytesRow (cH (b.length:Int)))) rfl) (fun b hb'=>hb 0 b ⟨_,rfl⟩ hb');rcases hown.2 with⟨_,h0⟩|⟨g,cap,cur,hg,hgb,hgh,hnc,hcm,hcs,htk⟩;·exact absurd (List.eq_nil_of_length_eq_zero h0) hv0
      ·refine⟨⟨g,0,none⟩,cap,by rw[hg],fun j hj=>?_,(Array.getElem?_eq_some_iff.1 hgh).1,hB1⟩;rw[Addr.add_lit,←htk,List.getElem?_take,if_pos (by omega)];unfold World.cell?;rw[hgh];simp
    ·intro W A2 c2 V hc2 hV0 hV;have hAb:A2.block<W.heap.size:=by
      have:(A2.add 0).block<W.heap.size:=by
       unfold World.cell? at hV0;split at hV0;·rename_i hq;exact(Array.getElem?_eq_some_iff.1 hq).1
       ·cases hV0
      rwa[bH]at this
     have hRV:cZ (fun b=>b<W.heap.size) W V (.ro (bytesRow (AD k b))):=xO (P:=Tryz.prog) hV fun b _ hb=>hb;have hVo:V.oneCell'=true:=by rcases hV.2 with⟨rfl,_⟩|⟨g,cap,cur,rfl,_⟩<;>rfl
     refine(mo (Ni _ _ _ hgs (by omega)) (S:=fun b=>b<W.heap.size) (vals:=[.slice (some A2) 1 c2]) rfl (fun b hb=>hb) (fun i v x hi hx=>?_)).mono ?_;·match i,hi,hx with
      |0,hi,hx=>
       cases hi;cases hx;refine .pv _ _ (.ro A2 c2 [[.ro (bytesRow (AD k b))]] 1 (fun _ _=>V) hAb hc2 (fun r hr=>?_) (fun i j hi hj=>?_) (fun i j r p hr hp=>hVo) (fun i j r p hr hp=>?_));·simp only[List.mem_cons,List.not_mem_nil,or_false]at hr;subst hr;rfl
       ·obtain rfl:i=0:=by simp at hi;omega
        obtain rfl:j=0:=by omega
        exact hV0
       ·match i,hr with
        |0,hr=>cases hr;match j,hp with|0,hp=>cases hp;exact hRV|j+1,hp=>simp at hp
        |i+1,hr=>simp at hr
      |i+1,hi,hx=>simp at hi
     ·rintro e W1 ⟨v,β',rfl,hB1,hh,hb,hr⟩;exact⟨by rw[RV.aI (k:=.u32) (n:=((nV (AD k b):Nat):Int)) hr],hB1⟩
    ·rintro e w' ⟨V',rfl,hR,hBw⟩;exact⟨V',rfl,xO (P:=Tryz.prog) hR fun b h1 h2=>⟨h1,h2⟩,hBw⟩
 ·cases h
@[simp] noncomputable def aaj:List AV→Option (Prop×AV)|[.agg [.pv k,.pv b]]=>(dec mM [[k,b]]).map fun l=>(((l.map Fm.b).getD 0 []).length≤65535∧((l.map Fm.b).getD 0 [])≠[],.aJ [.pv (.ro (bytesRow (l.flatMap fun f=>E5 f.k f.b))),.pv (.int .i64 0)])|_=>none
theorem Wi:aN Tryz.prog 22 aaj:=by
 intro ys φ r h hφ;unfold aaj at h;split at h
 ·obtain⟨l,hk,h⟩:=Option.map_eq_some_iff.1 h;cases h;obtain⟨⟨k,b⟩,rfl,rfl,rfl⟩:=jQ hk;obtain⟨h1,hne⟩:=hφ;have hl:b.length≤65535:=h1;have hne:¬b=[]:=hne;have hl2:¬(65535:Int)<(b.length:Int):=by omega
  have hl3:(b.length:Int)≤65535:=by omega
  refine aq (ag T0 ah) (by kernel_rfl) (by conv=>lhs;reduce) (by simp) ?_;simp(config := { maxSteps := 3000000 }) [hl,hl2,hl3,hne]
 ·cases h
end Go.Proofs.YtlicclncicbajaaGreat.Ab
namespace Go.Proofs.YtlicclncicbajaaGreat.Ab
open Go Go.RowKit R
def nE (v:Vn):Bool:=decide (v=mb v.n v.t)
def mT (l:List Vn):Bool:=l.all nE
def tJ (l:List Vn):Int:=if mT l=true then-1 else(l.findIdx (fun v=>!nE v):Int)
@[simp] def XF:List AV→Option (Prop×AV)|[.agg [.pv (.int .u64 n),.pv (.int .u64 b),.pv (.int .u64 p),.pv (.int .u64 i),.pv (.int .u64 s),.pv (.int .u64 z),.pv (.int .u64 m),.pv (.str t),.pv (.bool inl),.pv (.bool eG)]]=>some (True,.pv (.bool (!nE ⟨n,b,p,i,s,z,m,t,inl,eG⟩)))|_=>none
theorem YG:aN Tryz.prog 153 XF:=by
 intro ys φ r h hφ;unfold XF at h;split at h;·rename_i n b p i s z m t inl eG;cases h;have he:=Gi ⟨n,b,p,i,s,z,m,t,inl,eG⟩ (mb n t);simp only[mb]at he;have hp:nE ⟨n,b,p,i,s,z,m,t,inl,eG⟩=decide ((⟨n,b,p,i,s,z,m,t,inl,eG⟩:Vn)=⟨n,0,0,0,0,0,0,t,true,false⟩):=rfl;refine aq (ag CO ah) (by kernel_rfl) (by conv=>lhs;reduce) (by simp) ?_;simp(config := { maxSteps := 3000000 }) [hp]
 ·cases h
theorem Cq:fo Tryz.prog 153=true:=by kernel_rfl
@[simp] noncomputable def WD:List AV→Option (Prop×AV)|[.pv (.ro a),.bo f []]=>if f=153 then(dec cL a).map fun l=>(l.length≤1000000000,.pv (.int .i64 (tJ l))) else none|_=>none
theorem Ue:aN Tryz.prog 178 WD:=by
 intro ys φ r h hφ;unfold WD at h;split at h
 ·rename_i ra f;split at h
  ·rename_i hf;subst hf;obtain⟨a,ha,h⟩:=Option.map_eq_some_iff.1 h;cases h;cases aF ha;refine aq (ag YG ah) (by kernel_rfl) (by conv=>lhs;reduce) (by simp) ?_;simp(config := { maxSteps := 3000000 });refine al (fun i:Nat=>i≤a.length∧∀v∈a.take i,nE v=true) (fun i=>⟨[(0,.pv (.ro (az a))),(1,.bo 153 []),(7,.pv (.int .i64 a.length)),(8,.pv (.int .i64 i))],[]⟩) (fun i=>a.length-i) [] 0 (by simp) ?_ ?_;·simp
   ·rintro i ⟨hi,ht⟩;have w2:IntKind.i64.wrap ((i:Int)+1)=(i:Int)+1:=wrap_i64 (by omega);by_cases hlt:i<a.length;·have r1:=bq hlt;have he:(⟨a[i].n,a[i].b,a[i].p,a[i].i,a[i].s,a[i].z,a[i].m,a[i].t,a[i].inl,a[i].eG⟩:Vn)=a[i]:=rfl;cases hp:nE a[i]with
     |true=>
      simp(config := { maxSteps := 3000000 }) [w2,hlt,r1,Cq,he,hp];refine⟨i+1,⟨by omega,fun v hv=>?_⟩,by omega,by omega⟩;rw[List.take_succ_eq_append_getElem hlt,List.mem_append]at hv;rcases hv with hv|hv;·exact ht v hv
      ·rw[List.mem_singleton]at hv;rw[hv];exact hp|false=>
      have hall:mT a=false:=by unfold mT;rw[List.all_eq_false];exact⟨a[i],List.getElem_mem hlt,by simp[hp]⟩
      have hfi:a.findIdx (fun v=>!nE v)=i:=by
       rw[List.findIdx_eq hlt];refine⟨by simp[hp],fun j hj=>?_⟩;have:a[j]∈a.take i:=by rw[List.mem_take_iff_getElem];exact⟨j,by omega,rfl⟩
       simp[ht _ this]
      have hox:tJ a=i:=by unfold tJ;rw[hall,if_neg (by simp),hfi]
      simp(config := { maxSteps := 3000000 }) [w2,hlt,r1,Cq,he,hp,hox]
    ·rw[List.take_of_length_le (by omega)]at ht;have hall:mT a=true:=by unfold mT;rw[List.all_eq_true];exact ht
     have hox:tJ a=-1:=by unfold tJ;rw[hall,if_pos rfl]
     simp(config := { maxSteps := 3000000 }) [hlt,hox]
  ·cases h
 ·cases h
@[simp] noncomputable def T5:List AV→Option (Prop×AV)|[.pv (.ro a),.bo f []]=>if f=153 then(dec cL a).map fun l=>(l.length≤1000000000,.pv (.bool (!mT l))) else none|_=>none
theorem ZN:aN Tryz.prog 154 T5:=by
 intro ys φ r h hφ;unfold T5 at h;split at h
 ·rename_i ra f;split at h
  ·rename_i hf;subst hf;obtain⟨a,ha,h⟩:=Option.map_eq_some_iff.1 h;cases h;cases aF ha;refine aq (ag Ue ah) (by kernel_rfl) (by conv=>lhs;reduce) (by simp) ?_;have hq:decide (0≤tJ a)=!mT a:=by unfold tJ;cases hall:mT a<;>simp
   simp(config := { maxSteps := 3000000 }) [hφ,hq]
  ·cases h
 ·cases h
def sF (v:Vn):List UInt8:=cH v.n++oV v.t
def jv (l:List Vn):List UInt8:=l.flatMap sF
def Gf (l:List Vn):List UInt8:=cH l.length++jv l
def gS (l:List Vn):List UInt8×Int:=if bQ l=true∧mT l=true then(Gf l,0) else([],2)
theorem uB {n:Int} (h:0≤n∧n≤18446744073709551615):(cH n).length≤10:=ij (by omega)
theorem vL {v:Vn} (h:jC v) (ht:v.t.length≤1000000):(sF v).length≤1000020:=by have h1:=uB (n:=v.n) ⟨h.1,h.2.1⟩;have h2:=ij (n:=v.t.length) (by omega);simp only[sF,oV,List.length_append];omega
theorem ux:∀{l:List Vn},(∀v∈l,jC v∧v.t.length≤1000000)→(jv l).length≤1000020*l.length|[],_=>by simp[jv]|n::l,h=>by have h1:=vL (h n (by simp)).1 (h n (by simp)).2;have h2:=ux (l:=l) fun m hm=>h m (by simp[hm]);unfold jv at h2 ⊢;simp only[List.flatMap_cons,List.length_append,List.length_cons];omega
theorem yN (l:List Vn) (e:Vn):jv (l++[e])=jv l++sF e:=by simp[jv]
@[simp] noncomputable def KY:List AV→Option (Prop×AV)|[.pv (.ro a)]=>(dec cL a).map fun l=>(l.length≤1000∧(∀v∈l,jC v∧v.t.length≤1000000),.aJ [.fr 5 (bytesRow (gS l).1),.pv (.int .i64 (gS l).2)])|_=>none
theorem NW:aN Tryz.prog 114 KY:=by
 intro ys φ r h hφ;unfold KY at h;split at h
 ·rename_i ra;obtain⟨a,ha,h⟩:=Option.map_eq_some_iff.1 h;cases h;cases aF ha;obtain⟨hl,hn⟩:=hφ;refine aq (ag Fj (ag ZN (ag AL (ag Gv ah)))) (by kernel_rfl) (by conv=>lhs;reduce) (by simp) ?_;have hl9:a.length≤1000000000:=by omega
  cases hr:bQ a with|false=>
   have hp:gS a=([],2):=by simp[gS,hr]
   simp(config := { maxSteps := 3000000 }) [hl9,hr,hp]|true=>cases hall:mT a with
  |false=>
   have hp:gS a=([],2):=by simp[gS,hall]
   simp(config := { maxSteps := 3000000 }) [hl9,hr,hall,hp]|true=>
  have hp:gS a=(Gf a,0):=by simp[gS,hr,hall]
  have wl:IntKind.u64.wrap (a.length:Int)=(a.length:Int):=wrap_u64 (by omega);have l0:(0:Int)≤(a.length:Int):=by omega
  have l1:(a.length:Int)≤18446744073709551615:=by omega
  have hv:=uB (n:=(a.length:Int)) ⟨by omega,by omega⟩;simp(config := { maxSteps := 3000000 }) [wl,l0,l1,hl9,hr,hall,hp];refine al (fun i:Nat=>i≤a.length) (fun i=>⟨[(5,.own 19),(20,.pv (.ro (az a))),(21,.pv (.int .i64 a.length)),(22,.pv (.int .i64 i))],[(19,.arr 5 (bytesRow (cH a.length++jv (a.take i))))]⟩) (fun i=>a.length-i) [] 0 (by simp) ?_ ?_;·simp[jv]
  ·rintro i hi;have w2:IntKind.i64.wrap ((i:Int)+1)=(i:Int)+1:=wrap_i64 (by omega);by_cases hlt:i<a.length
   ·have r1:=bq hlt;have ho:=hn _ (List.getElem_mem hlt);have h1:=vL ho.1 ho.2;have h2:=ux (l:=a.take i) fun n h=>hn n (List.mem_of_mem_take h);rw[List.length_take]at h2;have h3:(sF a[i]).length=(cH a[i].n).length+(oV a[i].t).length:=by simp[sF]
    obtain⟨⟨o1,o2,_,_⟩,hm6⟩:=ho;simp(config := { maxSteps := 3000000 }) [w2,hlt,r1,aH,o1,o2,hm6];refine⟨⟨by omega,by omega,cV _⟩,⟨by omega,by omega,cV _⟩,i+1,by omega,⟨by omega,?_⟩,by omega⟩;rw[List.take_succ_eq_append_getElem hlt,yN];simp only[b8,sF,List.append_assoc]
   ·simp(config := { maxSteps := 3000000 }) [hlt];rw[List.take_of_length_le (by omega)];rfl
 ·cases h
def nc (b:List UInt8) (q:Int):Vn×Int×Int:=if(ck b q).2.2≠0 then(v0,0,(ck b q).2.2) else if(sI b (ck b q).2.1).2.2≠0 then(v0,0,(sI b (ck b q).2.1).2.2) else(mb (ck b q).1 (sI b (ck b q).2.1).1,(sI b (ck b q).2.1).2.1,0)
def uA (b:List UInt8):Nat→Int→Int→List Vn×Int×Int|0,_,q=>([],q,0)|f+1,n,q=>if n≤0 then([],q,0) else if(nc b q).2.2≠0 then([],0,(nc b q).2.2) else if(uA b f (n-1) (nc b q).2.1).2.2≠0 then([],0,(uA b f (n-1) (nc b q).2.1).2.2) else((nc b q).1::(uA b f (n-1) (nc b q).2.1).1,(uA b f (n-1) (nc b q).2.1).2.1,0)
def finV (b:List UInt8) (R:List Vn×Int×Int):List Vn×Int:=if R.2.2≠0 then([],R.2.2) else if R.2.1=b.length∧bQ R.1=true then(R.1,0) else([],2)
def Gy (b:List UInt8):List Vn×Int:=if(ck b 0).2.2≠0 then([],(ck b 0).2.2) else finV b (uA b (b.length+1) (ck b 0).1 (ck b 0).2.1)
@[simp] noncomputable def GVpar (e:TypeId):List AV→Option (Prop×AV)|[.pv (.ro b)]=>(dec fj b).map fun l=>(l.length≤100000000,.aJ [.fr e (az (Gy l).1),.pv (.int .i64 (Gy l).2)])|_=>none
def gC (b:Bool):Int:=if b=true then 1 else 0
theorem zf (b:Bool):cU (gC b):=by cases b<;>simp[gC,cU]
@[simp] def LI:List AV→Option (Prop×AV)|[.pv (.bool b)]=>some (True,.pv (.int .u64 (gC b)))|_=>none
theorem Mt:aN Tryz.prog 117 LI:=by
 intro ys φ r h hφ;unfold LI at h;split at h;·rename_i b;cases h;refine aq ah (by kernel_rfl) (by conv=>lhs;reduce) (by simp) ?_;cases b<;>simp(config := { maxSteps := 3000000 }) [gC]
 ·cases h
@[simp] noncomputable def FK:List AV→Option (Prop×AV)|[.pv .nil,.pv (.int .i64 n)]=>some (0≤n∧n≤1000000,.fr 5 [])|_=>none
theorem Ij:m7 Tryz.prog 155 FK:=by
 intro ys φ r h hφ;unfold FK at h;split at h
 ·rename_i n;cases h;obtain⟨h1,h2⟩:=hφ;have hinf:(Tryz.prog.info? 5).isSome=true:=by kernel_rfl
  have w0:IntKind.i64.wrap 0=0:=wrap_i64 (by omega);have w1:IntKind.i64.wrap n=n:=wrap_i64 (by omega);refine mn ah (by kernel_rfl) (by conv=>lhs;reduce) (by simp) (by simp[cP,lZ,iA]) (by simp) ?_;have hn0:¬n<0:=by omega
  by_cases h0:0<n;·simp(config := { maxSteps := 3000000 }) [hn0,h0,w0,w1,hinf];omega
  ·simp(config := { maxSteps := 3000000 }) [hn0,h0,w0,w1,hinf]
 ·cases h
@[simp] noncomputable def Mq:List AV→Option (Prop×AV)|[.pv (.ro [[.ro a],[.ro b],[.ro c]])]=>(dec fj a).bind fun la=>(dec fj b).bind fun lb=>(dec fj c).map fun lc=>(la.length≤200000∧lb.length≤200000∧lc.length≤200000,.fr 5 (bytesRow (la++(lb++lc))))|_=>none
theorem ND:aN Tryz.prog 116 Mq:=by
 intro ys φ r h hφ;unfold Mq at h;split at h
 ·rename_i ra rb rc;obtain⟨a,ha,h⟩:=Option.bind_eq_some_iff.1 h;obtain⟨b,hb,h⟩:=Option.bind_eq_some_iff.1 h;obtain⟨c,hc,h⟩:=Option.map_eq_some_iff.1 h;cases h;cases dU ha;cases dU hb;cases dU hc;obtain⟨hla,hlb,hlc⟩:=hφ;have w1:IntKind.i64.wrap 1=1:=wrap_i64 (by omega);have w2:IntKind.i64.wrap 2=2:=wrap_i64 (by omega);have w3:IntKind.i64.wrap 3=3:=wrap_i64 (by omega);have wa:IntKind.i64.wrap (a.length:Int)=a.length:=wrap_i64 (by omega);have wab:IntKind.i64.wrap ((a.length:Int)+(b.length:Int))=(a.length:Int)+(b.length:Int):=wrap_i64 (by omega);have wabc:IntKind.i64.wrap ((a.length:Int)+(b.length:Int)+(c.length:Int))=(a.length:Int)+(b.length:Int)+(c.length:Int):=wrap_i64 (by omega);have r0:rowAt [[PV.ro (bytesRow a)],[PV.ro (bytesRow b)],[PV.ro (bytesRow c)]] 0=[.ro (bytesRow a)]:=rfl;have r1:rowAt [[PV.ro (bytesRow a)],[PV.ro (bytesRow b)],[PV.ro (bytesRow c)]] 1=[.ro (bytesRow b)]:=rfl;have r2:rowAt [[PV.ro (bytesRow a)],[PV.ro (bytesRow b)],[PV.ro (bytesRow c)]] 2=[.ro (bytesRow c)]:=rfl;have ga:¬((a.length:Int)<0):=by omega
  have gab:¬((a.length:Int)+(b.length:Int)<0):=by omega
  have gabc:¬((a.length:Int)+(b.length:Int)+(c.length:Int)<0):=by omega
  have gc:(a.length:Int)+(b.length:Int)+(c.length:Int)≤1000000:=by omega
  have gd:(0:Int)≤(a.length:Int)+(b.length:Int)+(c.length:Int):=by omega
  refine aq (eD (p:=0) (k:=997) Ij (by kernel_rfl) ah) (by kernel_rfl) (by conv=>lhs;reduce) (by simp) ?_;simp(config := { maxSteps := 3000000 });refine al (fun i:Nat=>i=0∨i=1∨i=2∨i=3) (fun i=>⟨[(0,.pv (.ro [[.ro (bytesRow a)],[.ro (bytesRow b)],[.ro (bytesRow c)]])),(2,.own 2),(3,.pv (.int .i64 (if i=0 then 0 else if i=1 then(a.length:Int) else if i=2 then(a.length:Int)+(b.length:Int) else(a.length:Int)+(b.length:Int)+(c.length:Int)))),(9,.pv (.ro [[.ro (bytesRow a)],[.ro (bytesRow b)],[.ro (bytesRow c)]])),(10,.pv (.int .i64 3)),(11,.pv (.int .i64 i))],[(2,.arr 5 [])]⟩) (fun i=>3-i) [] 0 (by simp) ?_ ?_;·simp
  ·rintro i (rfl|rfl|rfl|rfl);·simp(config := { maxSteps := 3000000 }) [r0,wa,ga,w1]
   ·simp(config := { maxSteps := 3000000 }) [r1,wab,gab,w2]
   ·simp(config := { maxSteps := 3000000 }) [r2,wabc,gabc,w3]
   ·simp(config := { maxSteps := 3000000 }) [gc,gd];refine al (fun i:Nat=>i=0∨i=1∨i=2∨i=3) (fun i=>⟨[(0,.pv (.ro [[.ro (bytesRow a)],[.ro (bytesRow b)],[.ro (bytesRow c)]])),(2,.own 2),(6,.own 24),(25,.pv (.ro [[.ro (bytesRow a)],[.ro (bytesRow b)],[.ro (bytesRow c)]])),(26,.pv (.int .i64 3)),(27,.pv (.int .i64 i))],[(2,.arr 5 []),(24,.arr 5 (if i=0 then[] else if i=1 then bytesRow a else if i=2 then bytesRow a++bytesRow b else bytesRow a++(bytesRow b++bytesRow c)))]⟩) (fun i=>3-i) [] 0 (by simp) ?_ ?_;·simp
    ·rintro i (rfl|rfl|rfl|rfl);·simp(config := { maxSteps := 3000000 }) [r0,w1,aH];exact⟨by omega,by omega,cV _⟩
     ·simp(config := { maxSteps := 3000000 }) [r1,w2,aH];exact⟨by omega,by omega,cV _⟩
     ·simp(config := { maxSteps := 3000000 }) [r2,w3,aH];exact⟨by omega,by omega,cV _⟩
     ·simp(config := { maxSteps := 3000000 }) [b8]
 ·cases h
noncomputable def HK (d:Dc):List UInt8×Int:=if(gS d.vs).2≠0∨kz d.ps=false then([],2) else(lk [d.l.e,d.l.p,d.l.i,d.l.u,gC d.l.h,gC d.sl]++(vj d.ps++oV (gS d.vs).1),0)
def Gc (d:Dc):Prop:=d.vs.length≤1000∧(∀v∈d.vs,jC v∧v.t.length≤1000000)∧d.ps.length≤1000∧(∀e∈d.ps,ko e)∧(cU d.l.e∧cU d.l.p∧cU d.l.i∧cU d.l.u)∧(gS d.vs).1.length≤100000
theorem NQ {e p i u:Int}{h s:Bool} (o3:cU e) (o4:cU p) (o5:cU i) (o6:cU u):∀n∈[e,p,i,u,gC h,gC s],cU n:=by
 intro n hn;simp only[List.mem_cons,List.not_mem_nil,or_false]at hn;rcases hn with rfl|rfl|rfl|rfl|rfl|rfl;·exact o3
 ·exact o4
 ·exact o5
 ·exact o6
 ·exact zf _
 ·exact zf _
theorem Gl {b:List UInt8} (h:b.length≤18446744073709551615):(oV b).length≤b.length+10:=by have:=ij h;unfold oV;rw[List.length_append];omega
theorem Hw {ps:List Pn} (o2:∀e∈ps,ko e) (l2:ps.length≤1000):(vj ps).length≤40000:=by have h1:=fW (n:=(ps.length:Int)) (by unfold cU;omega);have h2:=qq o2;unfold vj;rw[List.length_append];omega
@[simp] noncomputable def Ld:List AV→Option (Prop×AV)|[.agg ys]=>m9 ys fun d=>some (Gc d,.aJ [.fr 5 (bytesRow (HK d).1),.pv (.int .i64 (HK d).2)])|_=>none
theorem MJ:aN Tryz.prog 72 Ld:=by
 intro ys φ r h hφ;unfold Ld at h;split at h
 ·obtain⟨d,rfl,h2⟩:=ey h;clear h;cases h2;obtain⟨⟨e,p,i,u,h'⟩,ps,vs,sl⟩:=d;obtain⟨l1,o1,l2,o2,⟨o3,o4,o5,o6⟩,l3⟩:=hφ;have l1:vs.length≤1000:=l1;have l2:ps.length≤1000:=l2;have l3:(gS vs).1.length≤100000:=l3;have o1:(∀v∈vs,jC v∧v.t.length≤1000000)=True:=eq_true o1;have o7:(∀e∈ps,ko e)=True:=eq_true o2;have o2:∀e∈ps,ko e:=o2;have o3:cU e:=o3;have o4:cU p:=o4;have o5:cU i:=o5;have o6:cU u:=o6;have o8:=NQ o3 o4 o5 o6 (h:=h') (s:=sl);have a1:(lk [e,p,i,u,gC h',gC sl]).length≤60:=tV o8;have a2:=Hw o2 l2;have l4:ps.length≤1000000:=by omega
  have l5:ps.length≤1000000000:=by omega
  have l6:(gS vs).1.length≤1000000:=by omega
  have d6:dec dH [[.int .u64 e],[.int .u64 p],[.int .u64 i],[.int .u64 u],[.int .u64 (gC h')],[.int .u64 (gC sl)]]=some [e,p,i,u,gC h',gC sl]:=mD [e,p,i,u,gC h',gC sl];refine aq (ag NW (ag zw (ag Mt (ag (tP Fk) (ag (tP Nd) (ag (tP Gv) (ag ND ah))))))) (by kernel_rfl) (by conv=>lhs;reduce) (by simp) ?_;unfold HK;apply af;·simp(config := { maxSteps := 3000000 }) [cellsD];exact⟨rfl,rfl⟩
  apply af;·simp(config := { maxSteps := 3000000 }) [l1,o1];exact⟨rfl,rfl⟩
  generalize hx:gS vs=x at*;obtain⟨b,x⟩:=x;by_cases he:x=0;·subst he;cases hr:kz ps with|false=>simp(config := { maxSteps := 3000000 }) [hr,l5]|true=>
   rw[if_neg (by simp)];apply af;·simp(config := { maxSteps := 3000000 }) [hr,l5];exact⟨rfl,rfl⟩
   apply af;·simp(config := { maxSteps := 3000000 });exact⟨rfl,rfl⟩
   apply af;·simp(config := { maxSteps := 3000000 }) [d6,o8,a1,a2,l3,l4,l6,o7];exact⟨⟨by omega,by omega,by have:b.length≤100000:=l3;have:=Gl (b:=b) (by omega);omega⟩,s8 _,rfl,rfl⟩
   simp(config := { maxSteps := 3000000 })
  ·simp(config := { maxSteps := 3000000 }) [he]
 ·cases h
def iC (n:Int):Sc:=⟨n,0,⟨⟨0,0,0,0,false⟩,[],[],false⟩,[],[]⟩
@[simp] noncomputable def GBl:List AV→Option (Prop×AV)|[.pv (.int .u64 n)]=>some (True,.agg [.pv (.int .u64 n),.pv (.int .u64 0),.pv (.int .u64 0),.pv (.int .u64 0),.pv (.int .u64 0),.pv (.int .u64 0),.pv (.bool false),.pv .nil,.pv .nil,.pv (.bool false),.pv .nil,.pv .nil])|_=>none
theorem c_Bl:aN Tryz.prog 20 GBl:=by
 intro ys φ r h hφ;unfold GBl at h;split at h;·cases h;refine aq ah (by kernel_rfl) (by conv=>lhs;reduce) (by simp) ?_;simp(config := { maxSteps := 3000000 })
 ·cases h
def b5:List UInt8:=[0,0,0,0,0,0,0,1,0]
theorem lA {n:Nat} (h:n<128):cH (n:Int)=[n.toUInt8]:=by show fe n=_;rw[cS h]
theorem vT:gS []=([0],0):=by have v0:cH 0=[0]:=lA (n:=0) (by omega);have hr:bQ []=true:=rfl;unfold gS;rw[if_pos ⟨hr,rfl⟩];simp[Gf,jv,v0]
theorem Bm:HK ⟨⟨0,0,0,0,false⟩,[],[],false⟩=(b5,0):=by have v0:cH 0=[0]:=lA (n:=0) (by omega);have v1:cH 1=[1]:=lA (n:=1) (by omega);simp[HK,vT,kz,lk,gC,vj,m5,oV,v0,v1,cS,b5]
theorem zL:Gc ⟨⟨0,0,0,0,false⟩,[],[],false⟩:=by simp[Gc,cU,vT]
theorem PI:rT Tryz.prog 38 [] [.agg (aQ (iC 5))] [] (.aJ [.fr 5 (bytesRow b5),.pv (.int .i64 0)]):=by
 refine aq (ag MJ (ag aab ah)) (by kernel_rfl) (by conv=>lhs;reduce) (by simp) ?_;apply af;·simp(config := { maxSteps := 3000000 }) [aQ,iC];exact⟨rfl,rfl⟩
 rw[bg];apply af;·simp(config := { maxSteps := 3000000 });exact⟨rfl,rfl⟩
 apply eI rfl;rw[tM,bg];apply af;·simp(config := { maxSteps := 3000000 });exact⟨rfl,rfl⟩
 apply cj rfl;simp(config := { maxSteps := 3000000 }) [zL,Bm]
theorem Nl:rT Tryz.prog 39 [] [.agg (aQ (iC 5))] [] (.pv (.bool true)):=by
 refine aq ah (by kernel_rfl) (by conv=>lhs;reduce) (by simp) ?_;simp(config := { maxSteps := 3000000 }) [aQ,iC];refine al (fun k:Nat=>True) (fun k=>⟨[(1,.ptr 1 0),(2,.pv (.bool false)),(6,.pv (.int .i64 0)),(7,.pv (.int .i64 0))],[(1,.box (aQ (iC 5)))]⟩) (fun k=>0) [] 0 trivial ?_ ?_;·simp[aQ,iC]
 ·intro k _;simp(config := { maxSteps := 3000000 }) [aQ,iC]
noncomputable def r5:List UInt8:=oT [⟨12,[5,0,0]++b5⟩]
theorem U5:lk [5,0,0]=[5,0,0]:=by have v0:cH 0=[0]:=lA (n:=0) (by omega);have v5:cH 5=[5]:=lA (n:=5) (by omega);simp[lk,v0,v5]
theorem Nk:rT Tryz.prog 21 [] [.agg (aQ (iC 5))] [] (.aJ [.pv (.ro (bytesRow r5)),.pv (.int .i64 0)]):=by
 refine Is 5 0 _ _ _ _ _ _ _ _ _ [5,0,0] b5 r5 (by decide) (by decide) PI Nl ?_ ?_
 ·have h:IV [.pv (.ro (cC [5,0,0]))]=some (([5,0,0]:List Int).length≤1000000∧(∀n∈([5,0,0]:List Int),cU n),.fr 5 (bytesRow (lk [5,0,0]))):=by rw[Js,mD];rfl
  have:=Fk _ _ _ h ⟨by decide,by simp[cU]⟩;rw[U5]at this;exact this
 ·have h:GfJ [.pv (.ro (lN [⟨12,[5,0,0]++b5⟩]))]=some (([⟨12,[5,0,0]++b5⟩]:List Fm).length≤1000∧(∀f∈([⟨12,[5,0,0]++b5⟩]:List Fm),f.b.length≤65535),.aJ [.fr 5 (bytesRow (oT [⟨12,[5,0,0]++b5⟩])),.pv (.int .i64 0)]):=by unfold GfJ;dsimp only;rw[qt];rfl
  exact c_fJ _ _ _ h ⟨by decide,by simp[b5]⟩
@[simp] noncomputable def L3:List AV→Option (Prop×AV)|[.agg ys]=>jU ys fun x=>some (x=iC 5,.aJ [.pv (.ro (bytesRow r5)),.pv (.int .i64 0)])|_=>none
theorem Ox:aN Tryz.prog 21 L3:=by
 intro ys φ r h hφ;unfold L3 at h;split at h;·obtain⟨x,rfl,h2⟩:=da h;clear h;cases h2;have hx:x=iC 5:=hφ;subst hx;exact Nk
 ·cases h
def sA:Sc:=⟨0,1,⟨⟨0,0,0,0,false⟩,[],[],false⟩,[⟨[97],1⟩],[⟨1,1,1⟩]⟩
def sB:Sc:=⟨0,2,⟨⟨0,0,0,0,false⟩,[],[],false⟩,[⟨[97],1⟩,⟨[98],2⟩],[⟨1,1,2⟩]⟩
theorem aA:nG ⟨0,0,⟨⟨0,0,0,0,false⟩,[],[],false⟩,[],[]⟩ ⟨9,1,1,1,0,0,0,0,0,0,[97],[]⟩ 0=(sA,0):=by kernel_rfl
theorem aB:nG sA ⟨9,1,1,2,0,0,0,0,0,0,[98],[]⟩ 0=(sB,0):=by kernel_rfl
theorem aC:nG sB ⟨9,1,1,2,0,0,0,0,0,0,[99],[]⟩ 0=(sB,220):=by kernel_rfl
theorem aD:nG sB ⟨7,1,1,3,0,0,0,0,0,0,[],[]⟩ 0=(sB,220):=by kernel_rfl
theorem qB:BY sB.ws 1 1=(2,true):=by kernel_rfl
theorem oS0:xI ⟨0,0,⟨⟨0,0,0,0,false⟩,[],[],false⟩,[],[]⟩ ⟨9,1,1,1,0,0,0,0,0,0,[97],[]⟩ 0:=by simp[xI,cU]
theorem oSA:xI ⟨0,1,⟨⟨0,0,0,0,false⟩,[],[],false⟩,[⟨[97],1⟩],[⟨1,1,1⟩]⟩ ⟨9,1,1,2,0,0,0,0,0,0,[98],[]⟩ 0:=by simp[xI,cU]
theorem oSB (r:Rc) (h:r.c=0) (h2:r.v=0):xI ⟨0,2,⟨⟨0,0,0,0,false⟩,[],[],false⟩,[⟨[97],1⟩,⟨[98],2⟩],[⟨1,1,2⟩]⟩ r 0:=by simp[xI,cU,h,h2]
theorem Ug:rowAt (aO [⟨[97],1⟩,⟨[98],2⟩]) 0=[.str [97],.int .u64 1]:=rfl
theorem XD:rowAt (aO [⟨[97],1⟩,⟨[98],2⟩]) 1=[.str [98],.int .u64 2]:=rfl
theorem f12:dec mM [[.int .u8 12,.ro [[.int .u8 5],[.int .u8 0],[.int .u8 0],[.int .u8 0],[.int .u8 0],[.int .u8 0],[.int .u8 0],[.int .u8 0],[.int .u8 0],[.int .u8 0],[.int .u8 1],[.int .u8 0]]]]=some [⟨12,[5,0,0]++b5⟩]:=by
 have e:[[PV.int .u8 12,.ro [[.int .u8 5],[.int .u8 0],[.int .u8 0],[.int .u8 0],[.int .u8 0],[.int .u8 0],[.int .u8 0],[.int .u8 0],[.int .u8 0],[.int .u8 0],[.int .u8 1],[.int .u8 0]]]]=lN [⟨12,[5,0,0]++b5⟩]:=by kernel_rfl
 rw[e];exact qt _
theorem O0:(oT [⟨12,[5,0,0,0,0,0,0,0,0,0,1,0]⟩]).length≤1000000000:=by have:=rW 12 [5,0,0,0,0,0,0,0,0,0,1,0] (by decide);simp only[oT,E5,jV,List.flatMap_cons,List.flatMap_nil,List.append_nil,List.length_append,List.length_cons,List.length_nil]at this ⊢;omega
@[simp] noncomputable def X5:List AV→Option (Prop×AV)|[]=>some (True,.pv (.bool true))|_=>none
theorem Xr:aN Tryz.prog 7 X5:=by
 intro ys φ r h hφ;unfold X5 at h;split at h
 ·cases h;have kA:=aA;have kB:=aB;have kC:=aC;have kD:=aD;have kQ:=qB;unfold sA at kA kB;unfold sB at kB kC kD kQ;have kD2:=oSB ⟨7,1,1,3,0,0,0,0,0,0,[],[]⟩ rfl rfl;have kC2:=oSB ⟨9,1,1,2,0,0,0,0,0,0,[99],[]⟩ rfl rfl;refine aq (ag c_Bl (ag YP (ag Zp (ag Ox (ag Wi (ag J2 ah)))))) (by kernel_rfl) (by conv=>lhs;reduce) (by simp) ?_;apply af;·simp(config := { maxSteps := 3000000 });exact⟨rfl,rfl⟩
  apply af;·simp(config := { maxSteps := 3000000 }) [kA,oS0,bf,fN,aY,aP,aV];exact⟨rfl,rfl⟩
  apply af;·simp(config := { maxSteps := 3000000 }) [kB,oSA,bf,fN,aY,aP,aV];exact⟨rfl,rfl⟩
  apply af;·simp(config := { maxSteps := 3000000 }) [kC,kC2,bf,fN,aY,aP,aV];exact⟨rfl,rfl⟩
  apply af;·simp(config := { maxSteps := 3000000 }) [kD,kD2,bf,fN,aY,aP,aV];exact⟨rfl,rfl⟩
  apply af;·simp(config := { maxSteps := 3000000 }) [kQ];exact⟨rfl,rfl⟩
  apply af;·simp(config := { maxSteps := 3000000 }) [iC];exact⟨rfl,rfl⟩
  apply af;·simp(config := { maxSteps := 3000000 }) [f12,b5];exact⟨rfl,rfl⟩
  apply af
  ·refine(show cK _ _ _ _ _ from ?_);apply iU 12 rfl rfl;·simp(config := { maxSteps := 3000000 }) [Ug,XD,aV];exact⟨rfl,rfl⟩
   apply iU 12 rfl rfl;·simp(config := { maxSteps := 3000000 }) [Ug,XD,aV];exact⟨rfl,rfl⟩
   apply iU 10 rfl rfl;·simp(config := { maxSteps := 3000000 }) [Ug,XD,aV];exact⟨rfl,rfl⟩
   apply iU 8 rfl rfl;·simp(config := { maxSteps := 3000000 }) [Ug,XD,aV];exact⟨rfl,rfl⟩
   apply iU 8 rfl rfl;·simp(config := { maxSteps := 3000000 }) [Ug,XD,aV];exact⟨rfl,rfl⟩
   simp(config := { maxSteps := 3000000 }) [r5,b5];exact⟨O0,rfl,rfl⟩
  simp(config := { maxSteps := 3000000 });simp[oT]
 ·cases h
theorem Cv {a b:En}:a=b↔a.n=b.n∧a.i=b.i:=by cases a;cases b;simp
theorem C9 {a b:Pn}:a=b↔a.i=b.i∧a.v=b.v∧a.u=b.u:=by cases a;cases b;simp
@[simp] noncomputable def GSS:List AV→Option (Prop×AV)|[.agg xs,.agg ys]=>jU xs fun a=>jU ys fun b=>some ((a.d.ps.length≤1000000000∧a.d.vs.length≤1000000000)∧a.cs.length≤1000000000∧a.ws.length≤1000000000,.pv (.bool (decide (a=b))))|_=>none
theorem WN:aN Tryz.prog 14 GSS:=by
 intro ys φ r h hφ;unfold GSS at h;split at h
 ·obtain⟨a,rfl,h1⟩:=da h;obtain⟨b,rfl,h2⟩:=da h1;clear h h1;cases h2;obtain⟨c,t,⟨⟨e,p,i,u,h'⟩,ps,vs,sl⟩,cs,ws⟩:=a;obtain⟨c2,t2,⟨⟨e2,p2,i2,u2,h2'⟩,ps2,vs2,sl2⟩,cs2,ws2⟩:=b;obtain⟨⟨l1,l2⟩,l3,l4⟩:=hφ;have l1:ps.length≤1000000000:=l1;have l2:vs.length≤1000000000:=l2;have l3:cs.length≤1000000000:=l3;have l4:ws.length≤1000000000:=l4;refine aq (ag XC ah) (by kernel_rfl) (by conv=>lhs;reduce) (by simp) ?_;apply af;·simp(config := { maxSteps := 3000000 }) [aQ];exact⟨rfl,rfl⟩
  by_cases hg:(((c=c2∧t=t2)∧(⟨⟨e,p,i,u,h'⟩,ps,vs,sl⟩:Dc)=⟨⟨e2,p2,i2,u2,h2'⟩,ps2,vs2,sl2⟩)∧cs.length=cs2.length)∧ws.length=ws2.length
  ·obtain⟨⟨⟨⟨rfl,rfl⟩,hd⟩,hcl⟩,hwl⟩:=hg;cases hd;have hcl':(cs.length:Int)=cs2.length:=by omega
   have hwl':(ws.length:Int)=ws2.length:=by omega
   rw[bg];apply af;·simp(config := { maxSteps := 3000000 }) [l1,l2,hcl',hwl',cellsD];exact⟨rfl,rfl⟩
   apply eI rfl;rw[tM];rw[bg];apply af;·simp(config := { maxSteps := 3000000 });exact⟨rfl,rfl⟩
   rw[bd];refine al (fun k:Nat=>k≤cs.length∧cs.take k=cs2.take k) (fun k=>⟨[(2,.ptr 2 0),(3,.ptr 3 0),(4,.pv (.bool false)),(5,.pv (.int .i64 (k:Int)))],[(2,.box (aQ ⟨c,t,⟨⟨e,p,i,u,h'⟩,ps,vs,sl⟩,cs,ws⟩)),(3,.box (aQ ⟨c,t,⟨⟨e,p,i,u,h'⟩,ps,vs,sl⟩,cs2,ws2⟩))]⟩) (fun k=>cs.length-k) [] 0 (by simp) ?_ ?_;·simp[aQ]
   ·rintro k ⟨hk,ht⟩;have w2:IntKind.i64.wrap ((k:Int)+1)=(k:Int)+1:=wrap_i64 (by omega);rw[jW];dsimp only;by_cases hlt:k<cs.length
    ·have r1:=dg hlt;have hlb:k<cs2.length:=by omega
     have r2:=dg hlb;by_cases he:cs[k]=cs2[k];·obtain⟨f1,f2⟩:=Cv.1 he;simp(config := { maxSteps := 3000000 }) [w2,hlt,hlb,r1,r2,f1,f2,aQ];refine⟨k+1,⟨by omega,?_⟩,by omega,by omega⟩;rw[List.take_succ_eq_append_getElem hlt,List.take_succ_eq_append_getElem hlb,ht,he]
     ·have hn:¬cs=cs2:=fun e=>he (by subst e;rfl);have hf:¬(cs[k].n=cs2[k].n∧cs[k].i=cs2[k].i):=fun h=>he (Cv.2 h);simp(config := { maxSteps := 3000000 }) [w2,hlt,hlb,r1,r2,hn,hf,aQ]
    ·have hkl:k=cs.length:=by omega
     subst hkl;rw[List.take_length,hcl,List.take_length]at ht;subst ht;simp(config := { maxSteps := 3000000 }) [hlt,aQ];refine al (fun k:Nat=>k≤ws.length∧ws.take k=ws2.take k) (fun k=>⟨[(2,.ptr 2 0),(3,.ptr 3 0),(4,.pv (.bool false)),(6,.pv (.int .i64 (k:Int)))],[(2,.box (aQ ⟨c,t,⟨⟨e,p,i,u,h'⟩,ps,vs,sl⟩,cs,ws⟩)),(3,.box (aQ ⟨c,t,⟨⟨e,p,i,u,h'⟩,ps,vs,sl⟩,cs,ws2⟩))]⟩) (fun k=>ws.length-k) [] 0 (by simp) ?_ ?_;·simp[aQ]
     ·rintro k ⟨hk,ht⟩;have w2:IntKind.i64.wrap ((k:Int)+1)=(k:Int)+1:=wrap_i64 (by omega);rw[jW];dsimp only;by_cases hlt:k<ws.length
      ·have r1:=bM hlt;have hlb:k<ws2.length:=by omega
       have r2:=bM hlb;by_cases he:ws[k]=ws2[k];·obtain⟨f1,f2,f3⟩:=C9.1 he;simp(config := { maxSteps := 3000000 }) [w2,hlt,hlb,r1,r2,f1,f2,f3,aQ];refine⟨k+1,⟨by omega,?_⟩,by omega,by omega⟩;rw[List.take_succ_eq_append_getElem hlt,List.take_succ_eq_append_getElem hlb,ht,he]
       ·have hn:¬ws=ws2:=fun e=>he (by subst e;rfl);have hf:¬(ws[k].i=ws2[k].i∧ws[k].v=ws2[k].v∧ws[k].u=ws2[k].u):=fun h=>he (C9.2 h);simp(config := { maxSteps := 3000000 }) [w2,hlt,hlb,r1,r2,hn,hf,aQ]
      ·have hkl:k=ws.length:=by omega
       subst hkl;rw[List.take_length,hwl,List.take_length]at ht;subst ht;simp(config := { maxSteps := 3000000 }) [hlt,aQ]
  ·have hne:¬((⟨c,t,⟨⟨e,p,i,u,h'⟩,ps,vs,sl⟩,cs,ws⟩:Sc)=⟨c2,t2,⟨⟨e2,p2,i2,u2,h2'⟩,ps2,vs2,sl2⟩,cs2,ws2⟩):=by intro hh;cases hh;exact hg ⟨⟨⟨⟨rfl,rfl⟩,rfl⟩,rfl⟩,rfl⟩
   by_cases g1:c=c2
   ·by_cases g2:t=t2
    ·by_cases g3:(⟨⟨e,p,i,u,h'⟩,ps,vs,sl⟩:Dc)=⟨⟨e2,p2,i2,u2,h2'⟩,ps2,vs2,sl2⟩
     ·cases g3;by_cases g4:cs.length=cs2.length
      ·have g5:¬ws.length=ws2.length:=fun h=>hg ⟨⟨⟨⟨g1,g2⟩,rfl⟩,g4⟩,h⟩;have g4':(cs.length:Int)=cs2.length:=by omega
       have g5':¬(ws.length:Int)=ws2.length:=by omega
       refine b6 (fun _=>False) ?_ (fun _ h=>h.elim);apply af;·simp(config := { maxSteps := 3000000 }) [g1,g2,g4',g5',l1,l2,cellsD];exact⟨rfl,rfl⟩
       apply cj rfl;simp(config := { maxSteps := 3000000 });simpa using hne
      ·have g4':¬(cs.length:Int)=cs2.length:=by omega
       refine b6 (fun _=>False) ?_ (fun _ h=>h.elim);apply af;·simp(config := { maxSteps := 3000000 }) [g1,g2,g4',l1,l2,cellsD];exact⟨rfl,rfl⟩
       apply cj rfl;simp(config := { maxSteps := 3000000 });simpa using hne
     ·have g3':=decide_eq_false g3;refine b6 (fun _=>False) ?_ (fun _ h=>h.elim);apply af;·simp(config := { maxSteps := 3000000 }) [g1,g2,g3',-Dc.mk.injEq,l1,l2,cellsD];exact⟨rfl,rfl⟩
      apply cj rfl;simp(config := { maxSteps := 3000000 });simpa using hne
    ·refine b6 (fun _=>False) ?_ (fun _ h=>h.elim);apply af;·simp(config := { maxSteps := 3000000 }) [g1,g2];exact⟨rfl,rfl⟩
     apply cj rfl;simp(config := { maxSteps := 3000000 });simpa using hne
   ·refine b6 (fun _=>False) ?_ (fun _ h=>h.elim);apply af;·simp(config := { maxSteps := 3000000 }) [g1];exact⟨rfl,rfl⟩
    apply cj rfl;simp(config := { maxSteps := 3000000 });simpa using hne
 ·cases h
@[simp] noncomputable def GrDI:List AV→Option (Prop×AV)|[.agg ys,.pv (.ro ts)]=>m9 ys fun d=>(dec kG ts).map fun ts=>(d.ps.length≤100000∧d.vs.length≤100000∧(∀v∈d.vs,jC v),.aJ [.agg [.pv (.int .u64 (fE d ts).1.l.e),.pv (.int .u64 (fE d ts).1.l.p),.pv (.int .u64 (fE d ts).1.l.i),.pv (.int .u64 (fE d ts).1.l.u),.pv (.bool (fE d ts).1.l.h),.pv (.ro (aw (fE d ts).1.ps)),.pv (.ro (az (fE d ts).1.vs)),.pv (.bool (fE d ts).1.sl)],.pv (.int .i64 (fE d ts).2)])|_=>none
theorem Y4:aN Tryz.prog 33 GrDI:=by
 intro ys φ r h hφ;unfold GrDI at h;split at h
 ·obtain⟨d,hd,h2⟩:=ey h;subst hd;clear h;obtain⟨ts,hts,h3⟩:=Option.map_eq_some_iff.1 h2;clear h2;cases h3;cases dF hts;obtain⟨h1,h2,h3⟩:=hφ;have h4:(∀v∈d.vs,jC v)=True:=eq_true h3;have hi2:(Tryz.prog.info? 144).isSome=true:=by kernel_rfl
  refine aq (ag Nw ah) (by kernel_rfl) (by conv=>lhs;reduce) (by simp) ?_;apply af;·simp(config := { maxSteps := 3000000 }) [cellsD];exact⟨rfl,rfl⟩
  apply af;·simp(config := { maxSteps := 3000000 }) [h2,h4];exact⟨rfl,rfl⟩
  unfold fE;generalize b7 d.vs ts=x;obtain⟨x,e⟩:=x;by_cases he:e=0
  ·subst he;apply af;·simp(config := { maxSteps := 3000000 });exact⟨rfl,rfl⟩
   simp(config := { maxSteps := 3000000 })
  ·simp(config := { maxSteps := 3000000 }) [he,hi2]
 ·cases h
@[simp] noncomputable def WX:List AV→Option (Prop×AV)|[.pv (.ro a),.pv (.ro b)]=>(dec eJ a).bind fun la=>(dec eJ b).map fun lb=>(la.length≤1000000000,.pv (.bool (decide (la=lb))))|_=>none
theorem ZL:aN Tryz.prog 36 WX:=by
 intro ys φ r h hφ;unfold WX at h;split at h
 ·rename_i ra rb;obtain⟨a,ha,h⟩:=Option.bind_eq_some_iff.1 h;obtain⟨b,hb,h⟩:=Option.map_eq_some_iff.1 h;cases h;cases bk ha;cases bk hb;have hl:a.length≤1000000000:=hφ;refine aq ah (by kernel_rfl) (by conv=>lhs;reduce) (by simp) ?_;by_cases hlen:a.length=b.length
  ·have hlen':(a.length:Int)=b.length:=by omega
   simp(config := { maxSteps := 3000000 }) [hlen'];refine al (fun i:Nat=>i≤a.length∧a.take i=b.take i) (fun i=>⟨[(0,.pv (.ro (aO a))),(1,.pv (.ro (aO b))),(4,.pv (.bool false)),(12,.pv (.int .i64 a.length)),(13,.pv (.int .i64 i))],[]⟩) (fun i=>a.length-i) [] 0 (by simp) ?_ ?_;·simp[hlen]
   ·rintro i ⟨hi,ht⟩;have w2:IntKind.i64.wrap ((i:Int)+1)=(i:Int)+1:=wrap_i64 (by omega);by_cases hlt:i<a.length
    ·have r1:=dg hlt;have hlb:i<b.length:=by omega
     have r2:=dg hlb;by_cases he:a[i]=b[i];·obtain⟨f1,f2⟩:=Cv.1 he;simp(config := { maxSteps := 3000000 }) [w2,hlt,hlb,r1,r2,f1,f2];refine⟨i+1,⟨by omega,?_⟩,by omega,by omega⟩;rw[List.take_succ_eq_append_getElem hlt,List.take_succ_eq_append_getElem hlb,ht,he]
     ·have hn:¬a=b:=fun e=>he (by subst e;rfl);have hf:¬(a[i].n=b[i].n∧a[i].i=b[i].i):=fun h=>he (Cv.2 h);simp(config := { maxSteps := 3000000 }) [w2,hlt,hlb,r1,r2,hn,hf]
    ·simp(config := { maxSteps := 3000000 }) [hlt];rw[List.take_of_length_le (by omega),List.take_of_length_le (by omega)]at ht;exact ht
  ·have hn:¬a=b:=fun e=>hlen (by rw[e]);have hlen':¬(a.length:Int)=b.length:=by omega
   simp(config := { maxSteps := 3000000 }) [hlen',hn]
 ·cases h
@[simp] noncomputable def We:List AV→Option (Prop×AV)|[.pv (.ro a),.pv (.ro b)]=>(dec rowP a).bind fun la=>(dec rowP b).map fun lb=>(la.length≤1000000000,.pv (.bool (decide (la=lb))))|_=>none
theorem OP:aN Tryz.prog 37 We:=by
 intro ys φ r h hφ;unfold We at h;split at h
 ·rename_i ra rb;obtain⟨a,ha,h⟩:=Option.bind_eq_some_iff.1 h;obtain⟨b,hb,h⟩:=Option.map_eq_some_iff.1 h;cases h;cases aE ha;cases aE hb;have hl:a.length≤1000000000:=hφ;refine aq ah (by kernel_rfl) (by conv=>lhs;reduce) (by simp) ?_;by_cases hlen:a.length=b.length
  ·have hlen':(a.length:Int)=b.length:=by omega
   simp(config := { maxSteps := 3000000 }) [hlen'];refine al (fun i:Nat=>i≤a.length∧a.take i=b.take i) (fun i=>⟨[(0,.pv (.ro (aw a))),(1,.pv (.ro (aw b))),(4,.pv (.bool false)),(12,.pv (.int .i64 a.length)),(13,.pv (.int .i64 i))],[]⟩) (fun i=>a.length-i) [] 0 (by simp) ?_ ?_;·simp[hlen]
   ·rintro i ⟨hi,ht⟩;have w2:IntKind.i64.wrap ((i:Int)+1)=(i:Int)+1:=wrap_i64 (by omega);by_cases hlt:i<a.length
    ·have r1:=bM hlt;have hlb:i<b.length:=by omega
     have r2:=bM hlb;by_cases he:a[i]=b[i];·obtain⟨f1,f2,f3⟩:=C9.1 he;simp(config := { maxSteps := 3000000 }) [w2,hlt,hlb,r1,r2,f1,f2,f3];refine⟨i+1,⟨by omega,?_⟩,by omega,by omega⟩;rw[List.take_succ_eq_append_getElem hlt,List.take_succ_eq_append_getElem hlb,ht,he]
     ·have hn:¬a=b:=fun e=>he (by subst e;rfl);have hf:¬(a[i].i=b[i].i∧a[i].v=b[i].v∧a[i].u=b[i].u):=fun h=>he (C9.2 h);simp(config := { maxSteps := 3000000 }) [w2,hlt,hlb,r1,r2,hn,hf]
    ·simp(config := { maxSteps := 3000000 }) [hlt];rw[List.take_of_length_le (by omega),List.take_of_length_le (by omega)]at ht;exact ht
  ·have hn:¬a=b:=fun e=>hlen (by rw[e]);have hlen':¬(a.length:Int)=b.length:=by omega
   simp(config := { maxSteps := 3000000 }) [hlen',hn]
 ·cases h
theorem c_sS:aN Tryz.prog 18 GSS:=by
 intro ys φ r h hφ;unfold GSS at h;split at h
 ·obtain⟨a,rfl,h1⟩:=da h;obtain⟨b,rfl,h2⟩:=da h1;clear h h1;cases h2;obtain⟨c,t,⟨⟨e,p,i,u,h'⟩,ps,vs,sl⟩,cs,ws⟩:=a;obtain⟨c2,t2,⟨⟨e2,p2,i2,u2,h2'⟩,ps2,vs2,sl2⟩,cs2,ws2⟩:=b;obtain⟨⟨l1,l2⟩,l3,l4⟩:=hφ;have l1:ps.length≤1000000000:=l1;have l2:vs.length≤1000000000:=l2;have l3:cs.length≤1000000000:=l3;have l4:ws.length≤1000000000:=l4;refine aq (ag aab (ag ZL (ag OP ah))) (by kernel_rfl) (by conv=>lhs;reduce) (by simp) ?_;apply af;·simp(config := { maxSteps := 3000000 }) [aQ];exact⟨rfl,rfl⟩
  by_cases g1:c=c2
  ·by_cases g2:t=t2
   ·by_cases g3:(⟨⟨e,p,i,u,h'⟩,ps,vs,sl⟩:Dc)=⟨⟨e2,p2,i2,u2,h2'⟩,ps2,vs2,sl2⟩
    ·cases g3;subst g1 g2;by_cases g4:cs=cs2
     ·subst g4;by_cases g5:ws=ws2;·subst g5;simp(config := { maxSteps := 3000000 }) [l1,l2,l3,l4,cellsD]
      ·simp(config := { maxSteps := 3000000 }) [l1,l2,l3,l4,cellsD,g5]
     ·simp(config := { maxSteps := 3000000 }) [l1,l2,l3,l4,cellsD,g4]
    ·have hne:¬((⟨c,t,⟨⟨e,p,i,u,h'⟩,ps,vs,sl⟩,cs,ws⟩:Sc)=⟨c2,t2,⟨⟨e2,p2,i2,u2,h2'⟩,ps2,vs2,sl2⟩,cs2,ws2⟩):=by intro hh;cases hh;exact g3 rfl
     rw[decide_eq_false hne];have g3':=decide_eq_false g3;simp(config := { maxSteps := 3000000 }) [-decide_eq_false_iff_not,-Dc.mk.injEq,-Ls.mk.injEq,l1,l2,l3,l4,cellsD,g1,g2,g3',g3]
   ·have hne:¬((⟨c,t,⟨⟨e,p,i,u,h'⟩,ps,vs,sl⟩,cs,ws⟩:Sc)=⟨c2,t2,⟨⟨e2,p2,i2,u2,h2'⟩,ps2,vs2,sl2⟩,cs2,ws2⟩):=by intro hh;cases hh;exact g2 rfl
    rw[decide_eq_false hne];simp(config := { maxSteps := 3000000 }) [g1,g2]
  ·have hne:¬((⟨c,t,⟨⟨e,p,i,u,h'⟩,ps,vs,sl⟩,cs,ws⟩:Sc)=⟨c2,t2,⟨⟨e2,p2,i2,u2,h2'⟩,ps2,vs2,sl2⟩,cs2,ws2⟩):=by intro hh;cases hh;exact g1 rfl
   rw[decide_eq_false hne];simp(config := { maxSteps := 3000000 }) [g1]
 ·cases h
noncomputable def rQ (x:Sc) (ts:List (List UInt8)):Sc×Int:=if(fE x.d ts).2=0 then(⟨x.c,x.t,(fE x.d ts).1,x.cs,x.ws⟩,0) else(⟨0,0,⟨⟨0,0,0,0,false⟩,[],[],false⟩,[],[]⟩,(fE x.d ts).2)
@[simp] noncomputable def VD:List AV→Option (Prop×AV)|[.agg ys,.pv (.ro ts)]=>jU ys fun x=>(dec kG ts).map fun ts=>((x.d.ps.length≤100000∧x.d.vs.length≤100000)∧(x.cs.length≤100000∧x.ws.length≤100000)∧∀v∈x.d.vs,jC v,.aJ [.agg (bf 134 108 71 84 (rQ x ts).1),.pv (.int .i64 (rQ x ts).2)])|_=>none
theorem ZF:aN Tryz.prog 17 VD:=by
 intro ys φ r h hφ;unfold VD at h;split at h
 ·obtain⟨x,rfl,h1⟩:=da h;clear h;obtain⟨ts,hts,h2⟩:=Option.map_eq_some_iff.1 h1;clear h1;cases h2;cases dF hts;obtain⟨c,t,⟨⟨e,p,i,u,h'⟩,ps,vs,sl⟩,cs,ws⟩:=x;obtain⟨⟨l1,l2⟩,⟨l3,l4⟩,o1⟩:=hφ;have l1:ps.length≤100000:=l1;have l2:vs.length≤100000:=l2;have l3:cs.length≤100000:=l3;have l4:ws.length≤100000:=l4;have o1:(∀v∈vs,jC v)=True:=eq_true o1;have i1:(Tryz.prog.info? 134).isSome=true:=by kernel_rfl
  have i2:(Tryz.prog.info? 108).isSome=true:=by kernel_rfl
  have i3:(Tryz.prog.info? 71).isSome=true:=by kernel_rfl
  have i4:(Tryz.prog.info? 84).isSome=true:=by kernel_rfl
  refine aq (ag Xk (ag FB ah)) (by kernel_rfl) (by conv=>lhs;reduce) (by simp) ?_;apply af;·simp(config := { maxSteps := 3000000 }) [aQ];exact⟨rfl,rfl⟩
  unfold rQ;generalize hx:fE ⟨⟨e,p,i,u,h'⟩,ps,vs,sl⟩ ts=q;obtain⟨⟨⟨xe,xp,xi,xu,xh⟩,xps,xvs,xsl⟩,er⟩:=q;apply af;·simp(config := { maxSteps := 3000000 }) [l1,l2,o1,hx,aY,aP];exact⟨rfl,rfl⟩
  rw[bg];by_cases he:er=0
  ·apply af;·simp(config := { maxSteps := 3000000 }) [he];exact⟨rfl,rfl⟩
   apply eI rfl;apply af;·simp(config := { maxSteps := 3000000 }) [l1,l2,l3,l4,bf,aY,aP,aV];exact⟨rfl,rfl⟩
   apply af;·simp(config := { maxSteps := 3000000 });exact⟨rfl,rfl⟩
   simp(config := { maxSteps := 3000000 }) [he,bf,aY,aP,aV]
  ·apply af;·simp(config := { maxSteps := 3000000 }) [he];exact⟨rfl,rfl⟩
   apply cj rfl;simp(config := { maxSteps := 3000000 }) [he,bf,i1,i2,i3,i4]
 ·cases h
@[simp] noncomputable def GrSI:List AV→Option (Prop×AV)|[.agg ys,.pv (.ro ts)]=>jU ys fun x=>(dec kG ts).map fun ts=>(x.d.ps.length≤100000∧x.d.vs.length≤100000∧∀v∈x.d.vs,jC v,.aJ [.agg (aQ (rQ x ts).1),.pv (.int .i64 (rQ x ts).2)])|_=>none
theorem Wq:aN Tryz.prog 16 GrSI:=by
 intro ys φ r h hφ;unfold GrSI at h;split at h
 ·obtain⟨x,rfl,h1⟩:=da h;clear h;obtain⟨ts,hts,h2⟩:=Option.map_eq_some_iff.1 h1;clear h1;cases h2;cases dF hts;obtain⟨c,t,⟨⟨e,p,i,u,h'⟩,ps,vs,sl⟩,cs,ws⟩:=x;obtain⟨l1,l2,o1⟩:=hφ;have l1:ps.length≤100000:=l1;have l2:vs.length≤100000:=l2;have o1:(∀v∈vs,jC v)=True:=eq_true o1;refine aq (ag Y4 ah) (by kernel_rfl) (by conv=>lhs;reduce) (by simp) ?_;apply af;·simp(config := { maxSteps := 3000000 }) [aQ];exact⟨rfl,rfl⟩
  unfold rQ;generalize hx:fE ⟨⟨e,p,i,u,h'⟩,ps,vs,sl⟩ ts=q;obtain⟨⟨⟨xe,xp,xi,xu,xh⟩,xps,xvs,xsl⟩,er⟩:=q;apply af;·simp(config := { maxSteps := 3000000 }) [l1,l2,o1,hx];exact⟨rfl,rfl⟩
  rw[bg];by_cases he:er=0
  ·apply af;·simp(config := { maxSteps := 3000000 }) [he];exact⟨rfl,rfl⟩
   apply eI rfl;simp(config := { maxSteps := 3000000 }) [he,aQ]
  ·apply af;·simp(config := { maxSteps := 3000000 }) [he];exact⟨rfl,rfl⟩
   apply cj rfl;simp(config := { maxSteps := 3000000 }) [he,aQ]
 ·cases h
theorem Ha (x:Sc) (ts:List (List UInt8)):((rQ x ts).1.d.ps.length≤x.d.ps.length∧(rQ x ts).1.d.vs.length≤x.d.vs.length)∧(rQ x ts).1.cs.length≤x.cs.length∧(rQ x ts).1.ws.length≤x.ws.length:=by
 have:(b7 x.d.vs ts).1.length≤x.d.vs.length:=by
  unfold b7;split;·simp
  ·have:=fO (l:=x.d.vs);simp[ll];omega
 have h2:(fE x.d ts).1.ps.length≤x.d.ps.length∧(fE x.d ts).1.vs.length≤x.d.vs.length:=by
  unfold fE;split;·exact⟨Nat.le_refl _,this⟩
  ·exact⟨by simp,by simp⟩
 unfold rQ;split;·exact⟨h2,Nat.le_refl _,Nat.le_refl _⟩
 ·exact⟨⟨by simp,by simp⟩,by simp,by simp⟩
theorem zt {x:Sc} (h:xE x=true):(x.d.ps.length≤20∧x.d.vs.length≤20)∧x.cs.length≤20∧x.ws.length≤20:=by simp only[xE,xy,Bool.and_eq_true,decide_eq_true_eq]at h;exact⟨⟨h.1.1.2.1.2,h.1.1.2.2⟩,h.1.2,h.2⟩
theorem Jc (x o:Sc) (ts:List (List UInt8)) (hx:cU x.t∧x.cs.length≤maxLen∧x.d.vs.length≤maxLen∧(∀v∈x.d.vs,jC v)∧(∀e∈x.d.ps,ko e)∧cU x.d.l.e∧cU x.d.l.p∧cU x.d.l.i∧cU x.d.l.u) (ho:cU o.t∧o.cs.length≤maxLen∧o.d.vs.length≤maxLen∧(∀v∈o.d.vs,jC v)∧(∀e∈o.d.ps,ko e)∧cU o.d.l.e∧cU o.d.l.p∧cU o.d.l.i∧cU o.d.l.u) (hts:ts.length≤maxLen):rT Tryz.prog 4 [] [.agg (aQ x),.agg (aQ o),.pv (.ro (eV ts))] [] (.pv (.bool true)):=by
 refine aq (ag Ot (ag Xr (ba (ks:=[0]) Ur (by kernel_rfl) (ag c_dS (ag Wq (ag ZF (ag WN (ba (ks:=[1]) aaG (by kernel_rfl) (ag c_sS ah))))))))) (by kernel_rfl) (by conv=>lhs;reduce) (by simp) ?_;obtain⟨o1,o2,o3,o4,_⟩:=hx;obtain⟨_,u2,u3,_⟩:=ho;have hV':(∀v∈x.d.vs,jC v)=True:=eq_true o4;have hin:=Ha x ts;have hfw:=@zt x;have hfo:=@zt o;obtain⟨c,t,⟨⟨de,dp,di,du,dh⟩,ps,vs,sl⟩,cs,ws⟩:=x;obtain⟨c2,t2,⟨⟨e2,p2,i2,u2',h2⟩,ps2,vs2,sl2⟩,cs2,ws2⟩:=o;have o2:cs.length≤maxLen:=o2;have o3:vs.length≤maxLen:=o3;have u2:cs2.length≤maxLen:=u2;have u3:vs2.length≤maxLen:=u3;have hV':(∀v∈vs,jC v)=True:=hV';apply af;·simp(config := { maxSteps := 3000000 }) [aQ];exact⟨rfl,rfl⟩
 cases hf:xE ⟨c,t,⟨⟨de,dp,di,du,dh⟩,ps,vs,sl⟩,cs,ws⟩ with
 |false=>
  refine b6 (fun _=>False) ?_ (fun _ h=>h.elim);apply af;·simp(config := { maxSteps := 3000000 }) [hf,o2,o3];exact⟨rfl,rfl⟩
  apply cj rfl;simp(config := { maxSteps := 3000000 })|true=>cases hg:xE ⟨c2,t2,⟨⟨e2,p2,i2,u2',h2⟩,ps2,vs2,sl2⟩,cs2,ws2⟩ with
  |false=>
   refine b6 (fun _=>False) ?_ (fun _ h=>h.elim);apply af;·simp(config := { maxSteps := 3000000 }) [hf,o2,o3,u2,u3,hg];exact⟨rfl,rfl⟩
   apply cj rfl;simp(config := { maxSteps := 3000000 })|true=>
   by_cases hl:(20:Int)<ts.length
   ·refine b6 (fun _=>False) ?_ (fun _ h=>h.elim);apply af;·simp(config := { maxSteps := 3000000 }) [hf,o2,o3,u2,u3,hg,hl];exact⟨rfl,rfl⟩
    apply cj rfl;simp(config := { maxSteps := 3000000 })
   apply af
   ·apply af;·simp(config := { maxSteps := 3000000 }) [hf,o2,o3,u2,u3,hg,hl];exact⟨rfl,rfl⟩
    apply eI rfl;simp(config := { maxSteps := 3000000 });exact⟨rfl,rfl⟩
   obtain⟨⟨p1,p2'⟩,p3,p4⟩:=hfw hf;obtain⟨⟨k1,k2⟩,k3,k4⟩:=hfo hg;obtain⟨⟨y1,y2⟩,y3,y4⟩:=hin;have p1:ps.length≤20:=p1;have p2':vs.length≤20:=p2';have p3:cs.length≤20:=p3;have p4:ws.length≤20:=p4;have k1:ps2.length≤20:=k1;have k2:vs2.length≤20:=k2;have k3:cs2.length≤20:=k3;have k4:ws2.length≤20:=k4;have l1:ps.length≤100000:=by omega
   have l2:vs.length≤100000:=by omega
   have l3:cs.length≤100000:=by omega
   have l4:ws.length≤100000:=by omega
   have m1:ps.length≤1000000000:=by omega
   have m2:vs.length≤1000000000:=by omega
   have m3:cs.length≤1000000000:=by omega
   have m4:ws.length≤1000000000:=by omega
   have j1:ps2.length≤100000:=by omega
   have j2:vs2.length≤100000:=by omega
   have j3:cs2.length≤100000:=by omega
   have j4:ws2.length≤100000:=by omega
   apply af
   ·apply af;·simp(config := { maxSteps := 3000000 });exact⟨rfl,rfl⟩
    rw[bd];refine al (fun i:Nat=>i≤ts.length) (fun j=>⟨[(2,.pv (.ro (eV ts))),(3,.ptr 3 0),(4,.ptr 4 0),(6,.pv (.bool false)),(7,.pv (.int .i64 j))],[(3,.box (aQ ⟨c,t,⟨⟨de,dp,di,du,dh⟩,ps,vs,sl⟩,cs,ws⟩)),(4,.box (aQ ⟨c2,t2,⟨⟨e2,p2,i2,u2',h2⟩,ps2,vs2,sl2⟩,cs2,ws2⟩))]⟩) (fun i=>ts.length-i) [] 0 (by simp) ?_ ?_;·simp[aQ]
    ·intro j hj;have w2:IntKind.i64.wrap ((j:Int)+1)=(j:Int)+1:=wrap_i64 (by omega);by_cases hlt:j<ts.length
     ·have r1:=px hlt;by_cases h1:(100:Int)<ts[j].length;·simp(config := { maxSteps := 3000000 }) [w2,hlt,r1,h1]
      ·have h1':(ts[j].length:Int)≤100:=by omega
       simp(config := { maxSteps := 3000000 }) [w2,hlt,r1,h1,h1'];exact⟨j+1,by omega,⟨by omega,by simp[aQ]⟩,by omega⟩
     ·have hja:j=ts.length:=by omega
      subst hja;simp(config := { maxSteps := 3000000 });exact⟨rfl,rfl⟩
   apply af;·simp(config := { maxSteps := 3000000 }) [l1,l2,l3,l4,aQ,aY,aP,aV];exact⟨rfl,rfl⟩
   generalize hA:rQ ⟨c,t,⟨⟨de,dp,di,du,dh⟩,ps,vs,sl⟩,cs,ws⟩ ts=q at*;obtain⟨⟨xc,xt,⟨⟨xe,xp,xi,xu,xh⟩,xps,xvs,xsl⟩,xcs,xws⟩,e⟩:=q;have y1:xps.length≤ps.length:=y1;have y2:xvs.length≤vs.length:=y2;have y3:xcs.length≤cs.length:=y3;have y4:xws.length≤ws.length:=y4;have z1:xps.length≤100000:=by omega
   have z2:xvs.length≤100000:=by omega
   have z3:xcs.length≤100000:=by omega
   have z4:xws.length≤100000:=by omega
   have n1:xps.length≤1000000000:=by omega
   have n2:xvs.length≤1000000000:=by omega
   have n3:xcs.length≤1000000000:=by omega
   have n4:xws.length≤1000000000:=by omega
   have u1:xps.length≤1000000:=by omega
   have u2:xvs.length≤1000000:=by omega
   have u3:xcs.length≤1000000:=by omega
   have u4:xws.length≤1000000:=by omega
   have r1:(∀r∈aw xps,r.length=3)=True:=eq_true (bI xps);have r2:(∀r∈az xvs,r.length=10)=True:=eq_true (mC xvs);have r3:(∀r∈aO xcs,r.length=2)=True:=eq_true (by intro r hr;simp only[aO,List.mem_map]at hr;obtain⟨e,_,rfl⟩:=hr;rfl);have r4:(∀r∈aw xws,r.length=3)=True:=eq_true (bI xws);apply af;·simp(config := { maxSteps := 3000000 }) [l1,l2,hV',hA,aQ,aY,aP,aV];exact⟨rfl,rfl⟩
   apply af;·simp(config := { maxSteps := 3000000 }) [l1,l2,l3,l4,hV',hA,bf,aQ,aY,aP,aV];exact⟨rfl,rfl⟩
   apply af
   ·apply af;·simp(config := { maxSteps := 3000000 }) [z1,z2,z3,z4,n1,n2,n3,n4,bf,aY,aP,aV];exact⟨rfl,rfl⟩
    apply eI rfl;simp(config := { maxSteps := 3000000 });exact⟨rfl,rfl⟩
   apply af;·simp(config := { maxSteps := 3000000 }) [u1,u2,u3,u4,r1,r2,r3,r4,aY,aP,aV];exact⟨rfl,rfl⟩
   simp(config := { maxSteps := 3000000 }) [l1,l2,l3,l4,m1,m2,m3,m4,j1,j2,j3,j4,bf,aY,aP,aV]
end Go.Proofs.YtlicclncicbajaaGreat.Ab
