/- Chapter 3: the reference's frame, walked at the machine. -/
import Derived.Test.YtifcndkhigakfaaGreatY14
import Derived.Test.YtifcndkhigakfaaGreatY12
import Derived.Test.YtifcndkhigakfaaGreatY19
import Derived.Test.YtifcndkhigakfaaGreatY17
import Derived.Test.YtifcndkhigakfaaGreatY15
import Derived.Test.YtifcndkhigakfaaGreatY20
set_option linter.unusedVariables false
set_option linter.unusedSimpArgs false
set_option linter.unnecessarySimpa false
set_option maxHeartbeats 40000000
set_option maxRecDepth 100000
set_option linter.defProp false
namespace Go.Proofs.YtifcndkhigakfaaGreat.Ab
open Go Go.RowKit
def q150:=@List.getElem_append_left
def q187:=@Int.natCast_add
def q255:=@List.mem_iff_getElem
def q300:=@List.getElem_singleton
end Go.Proofs.YtifcndkhigakfaaGreat.Ab
namespace Go.Proofs.YtifcndkhigakfaaGreat.Ab
open Go Go.RowKit Go.Shelf R
variable {P:Program}{n j i:Nat}{S:Nat->Prop}{l:List Vn}{ch:Int}
attribute[local go_sem] Oper.semAt_some
def N6 (a b:List UInt8):dW (a++b)=dW a++dW b:=by simp[dW]
def Hf {s i:Nat} (h:i<4):(fZ s).take (i+1)=(fZ s).take i++[(s/256^i).toUInt8]:=by rcases(show i=0\/i=1\/i=2\/i=3 by omega) with rfl|rfl|rfl|rfl<;>simp[fZ]
def yP {n0:Nat}{w W W':World}{V:Value}{e:TypeId}{sz n:Nat}{xs:List Value} (hW:Below n0 w W) (hr:W.ownsRow n0 e sz V n xs) (hg:W.grownBy W' V.ownBlock) (hn:n0<=w.heap.size:=by omega):Below n0 w W':=by
 refine hW.grown hg (q113 hn hW.size) fun q e=>?_;rcases hr.2 with⟨hv,_⟩|⟨g,cap,cur,hv,hgb,_⟩;·rw[hv]at e;cases e
 ·rw[hv]at e;have e':some g=some q:=e;cases e';exact hgb
def xS (w:World) (base:Nat) (t ty e:TypeId) (i:TypeInfo) (z:Value) (size bytes:Nat) (ht:P.underlying t=some (.slice e)) (hi:P.info? e=some i) (hz:i.zero=some z) (hsize:i.size=size) (hby:i.bytes=bytes) (hzs:z.cells.size=size) (hsz:0<size) (v:Value) (n:Nat) (xs:List Value) (hown:w.ownsRow base e size v n xs) (Ao:Option Addr) (m c:Nat) (news:List Value) (hl:news.length=m*size) (hX:(∃A,Ao=some A/\∀j u,news[j]?=some u->w.cell? (A.add j)=some u)\/(Ao=none/\m=0)) (h1:∀u∈news,u.oneCell'=true) (h63:n+m<=maxLen) (hbytes:(n+m)*bytes<=140737488355328) (hbase:base<=w.heap.size):∃v' w',(Builtin.append_ #[t,t] ty #[v,.slice Ao m c]).run P w=.ok v' w'/\w'.ownsRow base e size v' (n+m) (xs++news)/\w.grownBy w' v.ownBlock:=by
 rcases hX with⟨A,rfl,hnews⟩|⟨rfl,rfl⟩;·obtain⟨v',w',r1,r2,r3,_⟩:=run_append_own (P:=P) w base t ty e i z size bytes ht hi hz hsize hby hzs hsz v n xs hown A m c news hl hnews h1 h63 hbytes hbase;exact⟨v',w',r1,r2,r3⟩
 ·obtain rfl:news=[]:=q76 (by simpa using hl);refine⟨v,w,?_,by simpa using hown,⟨rfl,rfl,rfl,q92 _,fun _ _ _=>rfl⟩⟩;rcases hown.2 with⟨rfl,rfl⟩|⟨g,cap,cur,rfl,_,_,hnc,_⟩;·simp[Builtin.append_,run_underlying ht,sizeOf,typeInfo,hi,Builtin.lenOf,Builtin.firstCells]
  ·simp[Builtin.append_,run_underlying ht,sizeOf,typeInfo,hi,Builtin.lenOf,Builtin.firstCells,hnc,storeCells]
def oR {F:Fence}{n:Nat}{P:Program} (w:World) {ops:Array Oper}{rest:List Oper}{o:Oper}{a:Act}{Q:Exit->Act->World->Prop} (hg:o.guard=none) (s x:Operand) (t:TypeId) (hop:o.op=Op.call {callee:=Callee.builtin Builtin.append,args:=#[s,x],argTypes:=#[t,t]}) (base:Nat) (e:TypeId) (i:TypeInfo) (z:Value) (size bytes:Nat) (h1:P.underlying t=some (.slice e)) (h2:P.info? e=some i) (h3:i.zero=some z) (h4:i.size=size) (h5:i.bytes=bytes) (h6:z.cells.size=size) (h7:0<size) (v:Value) (k:Nat) (xs:List Value) (hs:a.eval s=v) (hown:w.ownsRow base e size v k xs) (Ao:Option Addr) (m c:Nat) (news:List Value) (hx:a.eval x=.slice Ao m c) (hn:news.length=m*size) (hX:(∃A,Ao=some A/\∀j u,news[j]?=some u->w.cell? (A.add j)=some u)\/(Ao=none/\m=0)) (h1c:∀u∈news,u.oneCell'=true) (b1:k+m<=maxLen) (b2:(k+m)*bytes<=140737488355328) (b3:base<=w.heap.size) (hK:∀v' w',w'.ownsRow base e size v' (k+m) (xs++news)->w.grownBy w' v.ownBlock->True->wpListIn F n P ops Q rest (a.put o.dst v') w'):wpListIn F n P ops Q (o::rest) a w:=by
 refine wpListIn_plain hg fun K hK'=>?_;obtain⟨v',w',hrun,r1,r2⟩:=xS (P:=P) w base t o.type e i z size bytes h1 h2 h3 h4 h5 h6 h7 v k xs hown Ao m c news hn hX h1c b1 b2 b3;unfold Oper.wpIn;refine⟨?_,?_⟩;·simp[Oper.about,hop,resolve,Target.leads,q198]
 ·rw[Oper.semAt_plain F _ _ (by rw[hop];intro c hc';cases hc')];simp[execOp,hop,resolve,invoke,builtin,hs,hx,hrun,Result.andThen];exact hK' _ _ (hK v' w' r1 r2 trivial)
set_option maxHeartbeats 4000000 in def NM (k:UInt8) (b P:List UInt8) (s:Nat) (hs:s<4294967296) (Ao:Option Addr) (c:Nat) (hb:b.length<=65535) (hP:P.length<=10) (hP0:P≠[]) (w:World) (hX:(∃A,Ao=some A/\(b≠[]->A.block<w.heap.size)/\∀j u,(dW b)[j]?=some u->w.cell? (A.add j)=some u)\/(Ao=none/\b.length=0)) (hp:∀W,Calls Tryz.prog 68 #[.int .u64 b.length] W fun e W1=>∃A c,e=.returned (.slice (some A) P.length c)/\(∀j,j<P.length->W1.cell? (A.add j)=(dW P)[j]?)/\A.block<W1.heap.size/\Below W.heap.size W W1) (hS:∀W A c V,1<=c->W.cell? (A.add 0)=some V->W.ownsRow 0 5 1 V (k::P++b).length (dW (k::P++b))->Calls Tryz.prog 106 #[.slice (some A) 1 c] W fun e W1=>e=.returned (.int .u32 (s:Int))/\Below W.heap.size W W1):Calls Tryz.prog 61 #[.agg #[.int .u8 (k.toNat:Int),.slice Ao b.length c]] w fun e w'=>∃V',e=.returned V'/\w'.ownsRow w.heap.size 5 1 V' (k::P++b++fZ s).length (dW (k::P++b++fZ s))/\Below w.heap.size w w':=by
 refine(callsIn_wide (n:=6)).1 ?_;refine callsIn_of_wp Tryz.func61 rfl trivial ?_ rfl;simp only[Tryz.ntmps61,q107,q70,q91,Nat.reduceAdd,Nat.reduceSub,q225,q226,q241,q231,q153,q137];have hw:IntKind.u64.wrap (b.length:Int)=(b.length:Int):=wrap_u64 (by omega);obtain⟨iu,hiu,hu0,hu1,hu2⟩:=info_parts Ay;obtain⟨W0,hW0⟩:∃W0,W0=(w.alloc (.cells #[.int .u8 (k.toNat:Int),.slice Ao b.length c] 64)).alloc (.cells #[.int .u8 (k.toNat:Int)] 5):=⟨_,rfl⟩;have hB0:Below w.heap.size w W0:=by rw[hW0];exact((q223 _ w).alloc (q92 _) _).alloc (by simp) _
 have hz0:W0.heap.size=w.heap.size+2:=by rw[hW0];simp
 have hf0:W0.heap[w.heap.size]?=some (.cells #[.int .u8 (k.toNat:Int),.slice Ao b.length c] 64 (0,0)):=by rw[hW0];exact(q197 _ _ _ (by simp)).trans (q227 w _)
 have hr0:W0.ownsRow w.heap.size 5 1 (.slice (some ⟨w.heap.size+1,0,none⟩) 1 1) 1 (dW [k]):=by refine⟨rfl,.inr ⟨w.heap.size+1,1,#[.int .u8 (k.toNat:Int)],rfl,by omega,?_,q92 _,by unfold maxLen;omega,rfl,rfl⟩⟩;rw[hW0];have:=q227 (w.alloc (.cells #[.int .u8 (k.toNat:Int),.slice Ao b.length c] 64)) (.cells #[.int .u8 (k.toNat:Int)] 5);rw[World.size_alloc]at this;exact this
 gi_wp2;rw[<-hW0];refine⟨trivial,(callsIn_wide.2 (hp W0)).mono ?_⟩;rintro e W1 ⟨A1,c1,rfl,hC1,hA1,hB1⟩;have hf1:=(hB1.block _ (by omega)).trans hf0;have hr1:W1.ownsRow w.heap.size 5 1 (.slice (some ⟨w.heap.size+1,0,none⟩) 1 1) 1 (dW [k]):=by
  refine⟨hr0.1,.inr ?_⟩;rcases hr0.2 with⟨h,_⟩|⟨g,cap,cur,h1,h2,h3,h4⟩;·cases h
  ·exact⟨g,cap,cur,h1,h2,(hB1.block _ (q67.1 h3).1).trans h3,h4⟩
 have hPw:∀j u,(dW P)[j]?=some u->W1.cell? (A1.add j)=some u:=fun j u hj=>by
  have hjl:j<P.length:=by have:=(q63.1 hj).1;simpa[dW]using this
  rw[hC1 j hjl,hj]
 have hBw1:Below w.heap.size w W1:=hB0.trans (hB1.mono (by omega));have hbk:∀{W W':World}{V:Value}{n:Nat}{xs:List Value},Below w.heap.size w W->W.ownsRow w.heap.size 5 1 V n xs->W.heap[w.heap.size]?=some (.cells #[.int .u8 (k.toNat:Int),.slice Ao b.length c] 64 (0,0))->W.grownBy W' V.ownBlock->Below w.heap.size w W'/\W'.heap[w.heap.size]?=some (.cells #[.int .u8 (k.toNat:Int),.slice Ao b.length c] 64 (0,0)):=by
  intro W W' V n xs hW hr hf hg;refine⟨hW.grown hg hW.size fun q e=>?_,(hg.block _ (q67.1 hf).1 fun e=>?_).trans hf⟩
  ·rcases hr.2 with⟨hv,_⟩|⟨g,cap,cur,hv,hgb,_⟩;·rw[hv]at e;cases e
   ·rw[hv]at e;have e':some g=some q:=e;cases e';exact hgb
  ·rcases hr.2 with⟨hv,_⟩|⟨g,cap,cur,hv,hgb,hgh,_⟩;·rw[hv]at e;cases e
   ·rw[hv]at e;have e':some w.heap.size=some g:=e;cases e';rw[hf]at hgh;cases hgh
 have hc2:∀{W:World},W.heap[w.heap.size]?=some (.cells #[.int .u8 (k.toNat:Int),.slice Ao b.length c] 64 (0,0))->W.cell? ⟨w.heap.size,1,none⟩=some (.slice Ao b.length c):=fun h=>by unfold World.cell?;rw[h];rfl
 have hbw:∀{W:World},Below w.heap.size w W->(∃A,Ao=some A/\∀j u,(dW b)[j]?=some u->W.cell? (A.add j)=some u)\/(Ao=none/\b.length=0):=fun hW=>by
  rcases hX with⟨A,h1,hA,hcl⟩|h;·refine .inl ⟨A,h1,fun j u hj=>(hW.cell (by rw[bN];exact hA fun e=>by rw[e]at hj;simp[dW]at hj)).trans (hcl j u hj)⟩
  ·exact .inr h
 have h1c:∀l:List UInt8,∀u∈dW l,u.oneCell'=true:=by intro l u hu;simp only[dW,q83]at hu;obtain⟨q,_,rfl⟩:=hu;rfl
 have hl0:∀l:List UInt8,(dW l).length=l.length*1:=fun l=>by simp[dW]
 gi_wp2_with(first|(gi_at_builtin;refine wpListIn_append_own _ rfl _ _ 37 rfl w.heap.size 5 iu (.int .u8 0) 1 1 Tryz.underlying37 hiu hu0 hu1 hu2 rfl (by decide) _ _ _ rfl hr1 A1 P.length c1 (dW P) rfl (hl0 _) hPw (h1c _) (by unfold maxLen;omega) (by omega) hBw1.size ?_;intro V2 W2 hV2 hg2 _;obtain⟨hBw2,hf2⟩:=hbk hBw1 hr1 hf1 hg2;have hx2:=hc2 hf2;clear hr1)|(gi_at_builtin;refine oR _ rfl _ _ 37 rfl w.heap.size 5 iu (.int .u8 0) 1 1 Tryz.underlying37 hiu hu0 hu1 hu2 rfl (by decide) _ _ _ rfl hV2 Ao b.length c (dW b) rfl (hl0 _) (hbw hBw2) (h1c _) (by unfold maxLen;omega) (by omega) hBw2.size ?_;intro V3 W3 hV3 hg3 _;obtain⟨hBw3,hf3⟩:=hbk hBw2 hV2 hf2 hg3;obtain⟨g3,cap3,rfl⟩:∃g cap,V3=.slice (some ⟨g,0,none⟩) (1+P.length+b.length) cap:=(by rcases hV3.2 with⟨_,h0⟩|⟨g,cap,cur,h,_⟩<;>first|omega|exact⟨_,_,h⟩)));obtain⟨W4,hW4⟩:∃W4,W4=W3.alloc (.cells #[.slice (some ⟨g3,0,none⟩) (1+P.length+b.length) cap3] 37):=⟨_,rfl⟩;have hV4:W4.ownsRow w.heap.size 5 1 (.slice (some ⟨g3,0,none⟩) (1+P.length+b.length) cap3) (1+P.length+b.length) (dW [k]++dW P++dW b):=by rw[hW4];exact hV3.alloc _
 have hB4:Below w.heap.size w W4:=by rw[hW4];exact hBw3.alloc hBw3.size _
 have hk4:W4.cell? ((⟨W3.heap.size,0,none⟩:Addr).add 0)=some (.slice (some ⟨g3,0,none⟩) (1+P.length+b.length) cap3):=by rw[hW4,q100];exact(Boxed.new W3 _ _).cell
 have hlen:(k::P++b).length=1+P.length+b.length:=by simp;omega
 have hby:dW (k::P++b)=dW [k]++dW P++dW b:=by simp[dW]
 rw[<-hW4];refine⟨trivial,(callsIn_wide.2 (hS W4 ⟨W3.heap.size,0,none⟩ 1 _ (q92 _) hk4 (by rw[hlen,hby];exact rJ hV4))).mono ?_⟩;rintro e W5 ⟨rfl,hB5⟩;have hV5:W5.ownsRow w.heap.size 5 1 (.slice (some ⟨g3,0,none⟩) (1+P.length+b.length) cap3) (1+P.length+b.length) (dW [k]++dW P++dW b):=by
  refine⟨hV4.1,.inr ?_⟩;rcases hV4.2 with⟨h,_⟩|⟨g,cap,cur,h1,h2,h3,h4⟩;·cases h
  ·exact⟨g,cap,cur,h1,h2,(hB5.block _ (q67.1 h3).1).trans h3,h4⟩
 have hBw5:Below w.heap.size w W5:=hB4.trans (hB5.mono hB4.size);clear hV4 hk4 hV3 hV2 hg2 hg3 hr0 hf0 hf1 hf2 hf3 hx2 hC1 hPw hW4 hW0 hbw hc2;gi_wp2;gi_loopw[3,4,5] (fun v p q wr=>∃i:Nat,i<=4/\p=.int .u32 ((s/256^i:Nat):Int)/\q=.int .i64 (i:Int)/\wr.ownsRow w.heap.size 5 1 v (1+P.length+b.length+i) (dW [k]++dW P++dW b++dW ((fZ s).take i))/\Below w.heap.size w wr) (fun _ _ q _=>4-(intOf q).toNat);case atStart=>exact⟨0,by omega,by simp,rfl,by simpa[dW]using hV5,hBw5⟩
 case round=>
  obtain⟨i,hi,rfl,rfl,hrow,hB⟩:=hrel;have hsz:w.heap.size<=wr.heap.size:=hB.size;by_cases hlt:(i:Int)<4
  ·gi_wp2_with(gi_at_builtin;refine wpListIn_append_own _ rfl _ _ 37 rfl w.heap.size 5 iu (.int .u8 0) 1 1 Tryz.underlying37 hiu hu0 hu1 hu2 rfl (by decide) _ _ _ rfl (hrow.alloc _) ⟨wr.heap.size,0,none⟩ 1 1 [_] rfl rfl (cell_one_new _ _ _) (by simp[Value.oneCell']) (by unfold maxLen;omega) (by omega) (by simp;omega) ?_;intro V6 W6 hV6 hg6 _);have hm:s/256^i<4294967296:=q264 (Nat.div_le_self _ _) hs;have hz:((s:Int)/256^i)=((s/256^i:Nat):Int):=by simp
   have hd:s/256^(i+1)=s/256^i/256:=by rw[Nat.pow_succ,Nat.div_div_eq_div_mul]
   rw[hz]at hV6 hg6;obtain⟨m,hmd⟩:∃m,m=s/256^i:=⟨_,rfl⟩;rw[<-hmd]at hV6 hg6 hz hm hd;have hm0:(0:Int)<=(m:Int):=q263 m;refine⟨⟨i+1,by omega,?_,by simp,?_,?_⟩,by simp[intOf];omega⟩;·rw[hz,hd,q152 hm0];congr 1;omega
   ·have hsa:(fZ s).take (i+1)=(fZ s).take i++[m.toUInt8]:=by rw[hmd];exact Hf (by omega)
    have hv:((m:Int).tmod 256%256)=((m.toUInt8.toNat:Nat):Int):=by rw[q169 hm0];simp
    rw[hsa,N6,<-q77,show dW [m.toUInt8]=[.int .u8 ((m.toUInt8.toNat:Nat):Int)] from rfl,<-hv];exact hV6
   ·exact yP (hB.alloc hsz _) (hrow.alloc _) hg6
  ·have:i=4:=by omega
   subst this;gi_wp2;refine bodyPost_ret (results_tmp rfl _ _ _) rfl ⟨_,rfl,?_,hB⟩;have e1:(P.length+(b.length+(fZ s).length)+1)=1+P.length+b.length+4:=by show P.length+(b.length+4)+1=_;omega
   have e2:dW (k::(P++(b++fZ s)))=dW [k]++dW P++dW b++dW ((fZ s).take 4):=by rw[show(fZ s).take 4=fZ s from rfl];simp[dW]
   rw[e1,e2];exact hrow
def J5 {w:World}{v:Value}{b:List UInt8} (h:dA S w v (.ro (bytesRow b))) (hb:b≠[]):∃A c,v=.slice (some A) b.length c/\S A.block/\∀j u,(dW b)[j]?=some u->w.cell? (A.add j)=some u:=by
 obtain⟨A,c,rfl,hc,hne⟩:=h.gJ;have hlen:(bytesRow b).length=b.length:=by simp[bytesRow]
 obtain⟨ad,sz,us,rfl,g1,g2,g3,g4,g5⟩:=hne (fun e=>hb (by have:=congrArg List.length e;rw[hlen]at this;exact q76 this));refine⟨ad,c,by rw[hlen],g1,fun j u hj=>?_⟩;have hjl:j<b.length:=by have:=(q63.1 hj).1;simpa[dW]using this
 have hr:(bytesRow b)[j]?=some [.int .u8 (b[j].toNat:Int)]:=by simp[bytesRow,hjl]
 have hs1:sz=1:=by rw[<-g2 _ (List.mem_of_getElem? hr)];rfl
 subst hs1;have h1:=g3 j 0 (by omega) (by omega);have h2:=(g5 j 0 _ _ hr rfl).aG;rw[h2]at h1;have hu:u=.int .u8 (b[j].toNat:Int):=by simp only[dW,q79,q62 hjl,q121,qr]at hj;exact hj.symm
 rw[hu];simpa using h1
def Ie {w:World}{v:Value}{b:List UInt8} (h:dA S w v (.ro (bytesRow b))):∃Ao c,v=.slice Ao b.length c/\((∃A,Ao=some A/\(b≠[]->S A.block)/\∀j u,(dW b)[j]?=some u->w.cell? (A.add j)=some u)\/(Ao=none/\b.length=0)):=by
 by_cases hb:b=[];·subst hb;obtain⟨A,c,rfl,hc,_⟩:=h.gJ;cases A with|none=>exact⟨none,c,rfl,.inr ⟨rfl,rfl⟩⟩|some A=>exact⟨some A,c,rfl,.inl ⟨A,rfl,fun h=>absurd rfl h,fun j u hj=>by simp[dW]at hj⟩⟩
 ·obtain⟨A,c,rfl,h1,h2⟩:=J5 h hb;exact⟨some A,c,rfl,.inl ⟨A,rfl,fun _=>h1,h2⟩⟩
def Tq {f:FuncId}{args:List AV}{L:List UInt8} (h:∀(w:World) (S:Nat->Prop) (vals:List Value),(∀b,S b->b<w.heap.size)->vals.length=args.length->(∀(i:Nat) (x:Value) (y:AV),vals[i]?=some x->args[i]?=some y->RV P S w (fun _=>.nilIface) (fun _=>False) x y)->Calls P f vals.toArray w fun e w'=>∃V,e=.returned V/\dA (fun b=>w.heap.size<=b/\b<w'.heap.size) w' V (.ro (bytesRow L))/\Below w.heap.size w w'):yA P f [] args [] (.pv (.ro (bytesRow L))):=by
 intro w S0 β vals hS0 hlt hheap hvl hvr;have hno:∀t,bF (ab []) (fun t=>dO (cellAt (.pv (.ro (bytesRow L))) t)) t=none:=by
  intro t;show dO (cellAt (.pv (.ro (bytesRow L))) t)=none;simp only[cellAt,bS];split;·split<;>rfl
  ·rfl
 refine(h w (bn S0 w.heap.size β (ab []) w) vals (fun b hb=>hb.2.1) hvl fun i x y hx hy=>?_).mono ?_;·exact(hvr i x y hx hy).mono (fun b hb=>⟨hb,rfl⟩) (fun t ⟨o,ho⟩=>by simp[ab]at ho)
 ·rintro e w' ⟨V,rfl,hR,hb⟩;refine⟨_,fun _=>.nilIface,rfl,⟨hb.os,hb.tape,hb.output,hb.size,fun k hk _=>hb.block k hk⟩,⟨fun t o ho=>?_,fun t t' b ⟨o,ho⟩=>?_⟩,fun t b ⟨o,ho⟩=>?_,.pv _ _ (hR.mono fun b hb=>⟨⟨.inr hb.1,hb.2,fun⟨t,o,ho,_⟩=>by rw[hno]at ho;cases ho⟩,rfl⟩)⟩;·rw[hno]at ho;cases ho
  ·rw[hno]at ho;cases ho
  ·rw[hno]at ho;cases ho
@[simp] noncomputable def Y0:List AV->Option (Prop×AV)|[.agg [.pv k,.pv b]]=>(dec oU [[k,b]]).map fun l=>(((l.map Fm.b).getD 0 []).length<=65535,.pv (.ro (bytesRow (l.flatMap fun f=>mO f.k f.b))))|_=>none
def YF:aL Tryz.prog 61 Y0:=by
 intro ys φ r h hφ;unfold Y0 at h;split at h
 ·obtain⟨l,hk,h⟩:=q900.1 h;cases h;obtain⟨⟨k,b⟩,rfl,rfl,rfl⟩:=lf hk;have h1:b.length<=65535:=hφ;have hv:=As b h1;have hv0:bk (b.length:Int)≠[]:=by show bj b.length≠[];rw[bj];split<;>simp
  have hf:=uY k b h1;have hfl:List.flatMap (fun f:Fm=>mO f.k f.b) [⟨k,b⟩]=mO k b:=by simp
  rw[hfl];refine Tq fun w S vals hS hvl hvr=>?_;match vals,hvl with|[v0],_=>obtain⟨us,rfl,hl,hus⟩:=(hvr 0 v0 _ rfl rfl).dg;match us,hl with
   |[a0,a1],_=>
    cases(hus 0 _ a0 rfl rfl).aG;obtain⟨Ao,c,rfl,hX⟩:=Ie (hus 1 _ a1 rfl rfl).bL;have hgs:HN [.pv (.ro [[.ro (bytesRow (wU k b))]])]=some ((wU k b).length<=1000000000,.pv (.int .u32 ((j8 (wU k b):Nat):Int))):=by rw[Of,dH];rfl
    refine(NM k b (bk (b.length:Int)) (j8 (wU k b)) (MQ _) Ao c h1 hv hv0 w (hX.imp (fun⟨A,e,h,g⟩=>⟨A,e,fun hb=>hS _ (h hb),g⟩) id) ?_ ?_).mono ?_
    ·intro W;refine(kc (KW _ _ _ (Mk (b.length:Int)) ⟨by omega,by omega⟩) (S:=fun b=>b<W.heap.size) (vals:=[.int .u64 b.length]) rfl (fun b hb=>hb) (fun i v x hi hx=>?_)).mono ?_;·match i,hi,hx with|0,hi,hx=>cases hi;cases hx;exact .pv _ _ (.int _ _)|i+1,hi,hx=>simp at hi
     ·rintro e W1 ⟨v,β',rfl,hB1,hh,hb,hr⟩;have e0:=(RV.bo (t:=0) hr).1;subst e0;have hown:=uU (n0:=W.heap.size) Bz (hh.holds 0 (.arr 5 (bytesRow (bk (b.length:Int)))) rfl) (fun b hb'=>hb 0 b ⟨_,rfl⟩ hb');rcases hown.2 with⟨_,h0⟩|⟨g,cap,cur,hg,hgb,hgh,hnc,hcm,hcs,htk⟩;·exact absurd (q76 h0) hv0
      ·refine⟨⟨g,0,none⟩,cap,by rw[hg],fun j hj=>?_,(q67.1 hgh).1,hB1⟩;rw[q100,<-htk,q81,if_pos (by omega)];unfold World.cell?;rw[hgh];simp
    ·intro W A2 c2 V hc2 hV0 hV;have hAb:A2.block<W.heap.size:=by
      have:(A2.add 0).block<W.heap.size:=by
       unfold World.cell? at hV0;split at hV0;·rename_i hq;exact(q67.1 hq).1
       ·cases hV0
      rwa[bN]at this
     have hRV:dA (fun b=>b<W.heap.size) W V (.ro (bytesRow (wU k b))):=Bi (P:=Tryz.prog) hV fun b _ hb=>hb;have hVo:V.oneCell'=true:=by rcases hV.2 with⟨rfl,_⟩|⟨g,cap,cur,rfl,_⟩<;>rfl
     refine(kc (Ty _ _ _ hgs (by omega)) (S:=fun b=>b<W.heap.size) (vals:=[.slice (some A2) 1 c2]) rfl (fun b hb=>hb) (fun i v x hi hx=>?_)).mono ?_;·match i,hi,hx with
      |0,hi,hx=>
       cases hi;cases hx;refine .pv _ _ (.ro A2 c2 [[.ro (bytesRow (wU k b))]] 1 (fun _ _=>V) hAb hc2 (fun r hr=>?_) (fun i j hi hj=>?_) (fun i j r p hr hp=>hVo) (fun i j r p hr hp=>?_));·simp only[q78,q102,or_false]at hr;subst hr;rfl
       ·obtain rfl:i=0:=by simp at hi;omega
        obtain rfl:j=0:=by omega
        exact hV0
       ·match i,hr with
        |0,hr=>cases hr;match j,hp with|0,hp=>cases hp;exact hRV|j+1,hp=>simp at hp
        |i+1,hr=>simp at hr
      |i+1,hi,hx=>simp at hi
     ·rintro e W1 ⟨v,β',rfl,hB1,hh,hb,hr⟩;exact⟨by rw[RV.aG (k:=.u32) (n:=((j8 (wU k b):Nat):Int)) hr],hB1⟩
    ·rintro e w' ⟨V',rfl,hR,hBw⟩;exact⟨V',rfl,Bi (P:=Tryz.prog) hR fun b h1 h2=>⟨h1,h2⟩,hBw⟩
 ·cases h
@[simp] noncomputable def GrfP:List AV->Option (Prop×AV)|[.agg [.pv k,.pv b]]=>(dec oU [[k,b]]).map fun l=>(((l.map Fm.b).getD 0 []).length<=65535,.aN [.pv (.ro (bytesRow (l.flatMap fun f=>mO f.k f.b))),.pv (.int .i64 0)])|_=>none
def c_rfP:aL Tryz.prog 30 GrfP:=by
 intro ys φ r h hφ;unfold GrfP at h;split at h
 ·obtain⟨l,hk,h⟩:=q900.1 h;cases h;obtain⟨⟨k,b⟩,rfl,rfl,rfl⟩:=lf hk;have hl:b.length<=65535:=hφ;have hl2:¬(65535:Int)<(b.length:Int):=by omega
  have hl3:(b.length:Int)<=65535:=by omega
  refine aq (ag YF ah) (by kernel_rfl) (by conv=>lhs;reduce) (by simp) ?_;simp[hl,hl2,hl3]
 ·cases h
end Go.Proofs.YtifcndkhigakfaaGreat.Ab
namespace Go.Proofs.YtifcndkhigakfaaGreat.Ab
open Go Go.RowKit R
variable {P:Program}{n j i:Nat}{S:Nat->Prop}{l:List Vn}{ch:Int}
def ef (n:Int):Sc:=⟨n,0,⟨⟨0,0,0,0,false⟩,[],[],false⟩,[],[]⟩
@[simp] noncomputable def GBl:List AV->Option (Prop×AV)|[.pv (.int .u64 n)]=>some (True,.agg [.pv (.int .u64 n),.pv (.int .u64 0),.pv (.int .u64 0),.pv (.int .u64 0),.pv (.int .u64 0),.pv (.int .u64 0),.pv (.bool false),.pv .nil,.pv .nil,.pv (.bool false),.pv .nil,.pv .nil])|_=>none
def c_Bl:aL Tryz.prog 17 GBl:=by
 intro ys φ r h hφ;unfold GBl at h;split at h;·cases h;refine aq ah (by kernel_rfl) (by conv=>lhs;reduce) (by simp) ?_;simp
 ·cases h
def b5:List UInt8:=[0,0,0,0,0,0,0,1,0]
def nA (h:n<128):bk (n:Int)=[n.toUInt8]:=by show bj n=_;rw[cy h]
def zN:ei []=([0],0):=by have v0:bk 0=[0]:=nA (n:=0) (by omega);have hr:aS []=true:=rfl;unfold ei;rw[if_pos ⟨hr,rfl⟩];simp[fV,cp,v0]
def Fs:ph ⟨⟨0,0,0,0,false⟩,[],[],false⟩=(b5,0):=by have v0:bk 0=[0]:=nA (n:=0) (by omega);have v1:bk 1=[1]:=nA (n:=1) (by omega);simp[ph,zN,eD,cW,cA,jb,bQ,cH,v0,v1,cy,b5]
def Dm:xK ⟨⟨0,0,0,0,false⟩,[],[],false⟩:=by simp[xK,cg,zN]
noncomputable def r5:List UInt8:=pc [⟨12,[5,0,0]++b5⟩]
def allL5:cW [5,0,0]=[5,0,0]:=by have v0:bk 0=[0]:=nA (n:=0) (by omega);have v5:bk 5=[5]:=nA (n:=5) (by omega);simp[cW,v0,v5]
def BM:Dc:=⟨⟨0,0,0,0,false⟩,[],[],false⟩
noncomputable def ec (x:Sc):List UInt8×Int:=if x.c=0/\x.d=BM then jZ x.cs else if x.c≠0/\x.cs=[] then ph x.d else([],2)
def Pv (x:Sc):Prop:=xK x.d/\x.cs.length<=1000000/\∀e∈x.cs,E4 e
@[simp] noncomputable def aaa:List AV->Option (Prop×AV)|[.agg ys]=>mG ys fun x=>some (Pv x,.aN [.fr 5 (bytesRow (ec x).1),.pv (.int .i64 (ec x).2)])|_=>none
def abr:aL Tryz.prog 31 aaa:=by
 intro ys φ r h hφ;unfold aaa at h;split at h
 ·obtain⟨x,rfl,h2⟩:=eQ h;clear h;cases h2;obtain⟨c,t,⟨⟨e,p,i,u,h'⟩,ps,vs,sl⟩,cs,ws⟩:=x;obtain⟨ok,h1,h2⟩:=hφ;have hps:ps.length<=1000000000:=by have:ps.length<=1000:=ok.2.2.1;omega
  have hvs:vs.length<=1000000000:=by have:vs.length<=1000:=ok.1;omega
  have h1:cs.length<=1000000:=h1;have h2:(∀e∈cs,E4 e)=True:=eq_true h2;have ok:xK ⟨⟨e,p,i,u,h'⟩,ps,vs,sl⟩=True:=eq_true ok;have hi:(Tryz.prog.info? 5).isSome=true:=by kernel_rfl
  refine aq (ag c_SD (ag TS (ag TB ah))) (by kernel_rfl) (by conv=>lhs;reduce) (by simp) ?_;apply ae;·simp[aZ];exact⟨rfl,rfl⟩
  by_cases hc:c=0
  ·by_cases hd:(⟨⟨e,p,i,u,h'⟩,ps,vs,sl⟩:Dc)=BM
   ·have hb:ec ⟨c,t,⟨⟨e,p,i,u,h'⟩,ps,vs,sl⟩,cs,ws⟩=jZ cs:=by unfold ec;rw[if_pos ⟨hc,hd⟩]
    rw[hb];have hd:(⟨⟨e,p,i,u,h'⟩,ps,vs,sl⟩:Dc)=⟨⟨0,0,0,0,false⟩,[],[],false⟩:=hd;have hd':=decide_eq_true hd;rw[bh];apply ae;·simp[-decide_eq_true_eq,-Dc.mk.injEq,-Ls.mk.injEq,hc,hps,hvs,hd'];exact⟨rfl,rfl⟩
    apply cm rfl;simp[h1,h2]
   ·have hb:ec ⟨c,t,⟨⟨e,p,i,u,h'⟩,ps,vs,sl⟩,cs,ws⟩=([],2):=by unfold ec;rw[if_neg (fun h=>hd h.2),if_neg (fun h=>h.1 hc)]
    rw[hb];have hd:¬(⟨⟨e,p,i,u,h'⟩,ps,vs,sl⟩:Dc)=⟨⟨0,0,0,0,false⟩,[],[],false⟩:=hd;have hd':=decide_eq_false hd;apply ae
    ·apply ae;·simp[-decide_eq_false_iff_not,-Dc.mk.injEq,-Ls.mk.injEq,hc,hps,hvs,hd',hd];exact⟨rfl,rfl⟩
     apply cr rfl;simp;exact⟨rfl,rfl⟩
    apply ae
    ·apply ae;·simp[hc];exact⟨rfl,rfl⟩
     apply cr rfl;simp;exact⟨rfl,rfl⟩
    simp[hi]
  ·apply ae
   ·apply ae;·simp[hc,hps,hvs];exact⟨rfl,rfl⟩
    apply cr rfl;simp;exact⟨rfl,rfl⟩
   by_cases hn:cs=[]
   ·have hb:ec ⟨c,t,⟨⟨e,p,i,u,h'⟩,ps,vs,sl⟩,cs,ws⟩=ph ⟨⟨e,p,i,u,h'⟩,ps,vs,sl⟩:=by unfold ec;rw[if_neg (fun h=>hc h.1),if_pos ⟨hc,hn⟩]
    rw[hb];subst hn;rw[bh];apply ae;·simp[hc];exact⟨rfl,rfl⟩
    apply cm rfl;simp[ok]
   ·have hb:ec ⟨c,t,⟨⟨e,p,i,u,h'⟩,ps,vs,sl⟩,cs,ws⟩=([],2):=by unfold ec;rw[if_neg (fun h=>hc h.1),if_neg (fun h=>hn h.2)]
    rw[hb];apply ae
    ·apply ae;·simp[hc,hn];exact⟨rfl,rfl⟩
     apply cr rfl;simp;exact⟨rfl,rfl⟩
    simp[hi]
 ·cases h
def rL {l:List En}{s:List UInt8}{e:En} (hr:aP l=true) (hn:dL s=true) (he:e∈l) (hs:e.n=s):ed l s=(e.i,0):=by
 have hf:=(gv (s:=s) hr).2 ⟨e,he,hs⟩;obtain⟨hlt,hg,hs'⟩:=gT hr hn hf;obtain⟨k,hk,rfl⟩:=q128 he;have hkl:k=lb l s:=by
  rcases q240 k (lb l s) with h|h|h;·exact absurd (hs.trans hs'.symm) (tJ (fO hr hlt h).1)
  ·exact h
  ·exact absurd (hs'.trans hs.symm) (tJ (fO hr hk h).1)
 subst hkl;exact hg
def ni {l:List En}{s:List UInt8} (hr:aP l=true) (hn:dL s=true) (h:∀e∈l,¬e.n=s):ed l s=(0,80):=by apply ir hr hn;cases hf:dB l s with|false=>rfl|true=>obtain⟨e,he,hs⟩:=(gv hr).1 hf;exact absurd hs (h e he)
def DE {l:List En}{s:List UInt8} (hr:aP l=true) (hn:dL s=false):ed l s=(0,170):=by unfold ed;rw[if_pos hr,if_neg (by simp[hn])]
def iK (l:List En) (e x:En):x∈j9 l e↔x=e\/x∈l:=by
 unfold j9 tr;have h:x∈l↔x∈l.take (lb l e.n)\/x∈l.drop (lb l e.n):=by
  conv=>lhs;rw[<-q127 (lb l e.n) l]
  exact q75
 rw[q75,q78,h];constructor
 ·rintro(h|h|h);·exact .inr (.inl h)
  ·exact .inl h
  ·exact .inr (.inr h)
 ·rintro(h|h|h);·exact .inr (.inl h)
  ·exact .inl h
  ·exact .inr (.inr h)
def wF {l:List En}{e:En} (hr:aP l=true) (hn:dL e.n=true) (h0:e.i≠0) (ej:DV l e.i=false) (hf:dB l e.n=false):aP (j9 l e)=true:=by
 have hr':=(eH l).1 hr;have hids:∀x∈l,¬x.i=e.i:=by intro x hx hh;unfold DV at ej;rw[q146]at ej;exact ej x hx (by simpa using hh)
 have hab:∀x∈l,¬x.n=e.n:=by intro x hx hh;have:=(gv (s:=e.n) hr).2 ⟨x,hx,hh⟩;rw[hf]at this;cases this
 rw[eH];refine⟨fun x hx=>?_,?_⟩
 ·rcases(iK l e x).1 hx with rfl|hx;·exact⟨hn,h0⟩
  ·exact hr'.1 x hx
 ·have hpw:=hr'.2;rw[<-q127 (lb l e.n) l,q195]at hpw;unfold j9 tr;rw[q195,List.pairwise_cons];refine⟨hpw.1,⟨fun x hx=>?_,hpw.2.1⟩,fun x hx y hy=>?_⟩;·have hxl:x∈l:=q110 hx;refine⟨?_,fun h=>hids x hxl h.symm⟩;rw[q196]at hx;obtain⟨j,hj,rfl⟩:=hx;have hge:=O5 (s:=e.n) (k:=lb l e.n+j) hr (by omega) (by omega);cases hb:Op.bytesLess e.n l[lb l e.n+j].n with|true=>rfl|false=>exact absurd (BE _ _ hge hb) (hab _ hxl)
  ·rcases q78.1 hy with rfl|hy;·have hxl:x∈l:=q96 hx;refine⟨?_,hids x hxl⟩;rw[q90]at hx;obtain⟨j,hj,rfl⟩:=hx;exact FY (by omega)
   ·exact hpw.2.2 x hx y hy
def qK {l:List En}{e:En} (hf:∀x∈l,¬x.n=e.n):bD (j9 l e) e.n=l:=by
 unfold bD j9 tr;rw[q165,List.filter_cons];have h1:(l.take (lb l e.n)).filter (fun x=>!decide (x.n=e.n))=l.take (lb l e.n):=by rw[q171];intro x hx;simpa using hf x (q96 hx)
 have h2:(l.drop (lb l e.n)).filter (fun x=>!decide (x.n=e.n))=l.drop (lb l e.n):=by rw[q171];intro x hx;simpa using hf x (q110 hx)
 rw[h1,h2];simp
def DT {l:List En}{s:List UInt8} (hr:aP l=true) (hlt:lb l s<l.length) (hs:l[lb l s].n=s):j9 (bD l s) l[lb l s]=l:=by
 obtain⟨k,hk⟩:∃k,k=lb l s:=⟨_,rfl⟩;have hw:=qv hr hlt hs;have hlb:lb (bD l s) s=k:=by
  rw[hw,<-hk];have hlen:(l.take k).length=k:=by rw[q68];omega
  apply JC;·simp;omega
  ·intro j hj hjk;rw[q150 (by omega),q271];exact FY (by omega)
  ·intro j hj hjk;rw[q158 (by omega),q270];apply O5 hr;omega
 unfold j9 tr;rw[hs,hlb,hw];have hlen:(l.take k).length=k:=by rw[q68];omega
 have e1:(l.take (lb l s)++l.drop (lb l s+1)).take k=l.take k:=by rw[<-hk,q111 (by omega),List.take_of_length_le (by omega)]
 have e2:(l.take (lb l s)++l.drop (lb l s+1)).drop k=l.drop (k+1):=by rw[<-hk];have:=q106 (l₁:=l.take k) (l₂:=l.drop (k+1));rwa[hlen]at this
 rw[e1,e2];subst hk;rw[<-q93 hlt,q127]
def vj {l m:List En}{x:List UInt8} (hl:aP l=true) (hm:aP m=true) (h:∀e:En,e.n=x->(e∈l↔e∈m)):ed l x=ed m x:=by cases hn:dL x with|false=>rw[DE hl hn,DE hm hn]|true=>
 by_cases hx:∃e∈l,e.n=x;·obtain⟨e,he,hs⟩:=hx;rw[rL hl hn he hs,rL hm hn ((h e hs).1 he) hs]
 ·rw[ni hl hn (fun e he hs=>hx ⟨e,he,hs⟩),ni hm hn (fun e he hs=>hx ⟨e,(h e hs).2 he,hs⟩)]
def Kl {l:List En}{s:List UInt8}{n:Int} (hr:aP l=true) (h:(dK l s n).2=0):(dK l s n).1.length=l.length+1/\aP (dK l s n).1=true/\ed (dK l s n).1 s=(n,0)/\mM (dK l s n).1 s=(l,0)/\∀x,¬x=s->ed (dK l s n).1 x=ed l x:=by
 rcases jK l s with⟨hr',hg⟩|⟨_,hn,hg⟩|⟨_,hn,hf,hg⟩|⟨_,hn,hf,hlt,hg,_⟩;·rw[hr]at hr';cases hr'
 ·exfalso;unfold dK at h;rw[hg]at h;simp at h
 ·by_cases hq:n=0\/DV l n=true;·exfalso;unfold dK at h;rw[hg,if_neg (by simp),if_neg (by simp),if_pos hq]at h;simp at h
  ·have hb:dK l s n=(j9 l ⟨s,n⟩,0):=by unfold dK;rw[hg,if_neg (by simp),if_neg (by simp),if_neg hq]
   have h0:n≠0:=fun e=>hq (.inl e);have ej:DV l n=false:=by cases hi:DV l n with|false=>rfl|true=>exact absurd (.inr hi) hq
   have hra:=wF (e:=⟨s,n⟩) hr hn h0 ej hf;have hab:∀x∈l,¬x.n=s:=by intro x hx hh;have:=(gv (s:=s) hr).2 ⟨x,hx,hh⟩;rw[hf]at this;cases this
   have hga:ed (j9 l ⟨s,n⟩) s=(n,0):=rL hra hn ((iK l ⟨s,n⟩ ⟨s,n⟩).2 (.inl rfl)) rfl;rw[hb];refine⟨Dn _ _,hra,hga,?_,fun x hx=>?_⟩;·unfold mM;rw[hga,if_neg (by simp),qK (e:=⟨s,n⟩) hab]
   ·refine vj hra hr fun e he=>?_;rw[iK];constructor
    ·rintro(rfl|h);·exact absurd he.symm hx
     ·exact h
    ·exact .inr
 ·exfalso;unfold dK at h;rw[hg]at h;simp at h
def NF {l:List En}{s t:List UInt8} (hr:aP l=true) (h:(fA l s t).2=0):(fA l s t).1.length=l.length/\aP (fA l s t).1=true/\fA (fA l s t).1 t s=(l,0)/\∃i,ed (fA l s t).1 t=(i,0)/\ed l s=(i,0)/\ed (fA l s t).1 s=(0,80)/\∀x,¬x=s->¬x=t->ed (fA l s t).1 x=ed l x:=by
 by_cases hq:dL s=false\/dL t=false;·exfalso;unfold fA at h;rw[if_pos ⟨hr,hq⟩]at h;simp at h
 have hs:dL s=true:=by cases hh:dL s with|true=>rfl|false=>exact absurd (.inl hh) hq
 have ht:dL t=true:=by cases hh:dL t with|true=>rfl|false=>exact absurd (.inr hh) hq
 cases hfs:dB l s with|false=>exfalso;unfold fA at h;rw[if_neg (fun hh=>hq hh.2),ir hr hs hfs]at h;simp at h|true=>obtain⟨hlt,hg,hsn⟩:=gT hr hs hfs;cases hft:dB l t with|true=>exfalso;unfold fA at h;rw[if_neg (fun hh=>hq hh.2),hg,(gT hr ht hft).2.1]at h;simp at h|false=>
  have hb:fA l s t=(j9 (bD l s) ⟨t,l[lb l s].i⟩,0):=by unfold fA;rw[if_neg (fun hh=>hq hh.2),hg,ir hr ht hft];simp
  have hmem:=q84 hlt;have hw:=iF s hr;have h0:l[lb l s].i≠0:=(((eH l).1 hr).1 _ hmem).2;have ej:=xE hr hmem hsn;have hft':=pz (s:=s) hr hft;have hst:¬s=t:=by rintro rfl;rw[hfs]at hft;cases hft
  have hrp:=wF (l:=bD l s) (e:=⟨t,l[lb l s].i⟩) hw ht h0 ej hft';have habt:∀x∈bD l s,¬x.n=t:=by intro x hx hh;have:=(gv (s:=t) hw).2 ⟨x,hx,hh⟩;rw[hft']at this;cases this
  have habs:∀x∈bD l s,¬x.n=s:=by intro x hx hh;have:=(q94.1 hx).2;simp[hh]at this
  have hgt:ed (j9 (bD l s) ⟨t,l[lb l s].i⟩) t=(l[lb l s].i,0):=rL (e:=⟨t,l[lb l s].i⟩) hrp ht ((iK _ _ _).2 (.inl rfl)) rfl;have hgs:ed (j9 (bD l s) ⟨t,l[lb l s].i⟩) s=(0,80):=by
   refine ni hrp hs fun e he hh=>?_;rcases(iK _ _ _).1 he with rfl|he;·exact hst hh.symm
   ·exact habs e he hh
  have hwt:bD (j9 (bD l s) ⟨t,l[lb l s].i⟩) t=bD l s:=qK (e:=⟨t,l[lb l s].i⟩) habt;have hl:(bD l s).length+1=l.length:=by rw[qv hr hlt hsn];simp;omega
  rw[hb];refine⟨by rw[Dn];exact hl,hrp,?_,l[lb l s].i,hgt,hg,hgs,fun x hxs hxt=>?_⟩
  ·unfold fA;rw[if_neg (by rintro⟨_,h|h⟩;rw[ht]at h;cases h;rw[hs]at h;cases h),hgt,hgs,if_neg (by simp),if_neg (by simp),hwt];have:(⟨s,l[lb l s].i⟩:En)=l[lb l s]:=by generalize l[lb l s]=y at hsn;cases y;simp only at hsn;rw[hsn]
   rw[this,DT hr hlt hsn]
  ·refine vj hrp hr fun e he=>?_;rw[iK];constructor
   ·rintro(rfl|h);·exact absurd he.symm hxt
    ·exact(q94.1 h).1
   ·intro h;refine .inr (q94.2 ⟨h,?_⟩);simp only[q125,decide_eq_false_iff_not];intro hh;exact hxs (he.symm.trans hh)
def lh (hr:aS l=true) (hij:i<j) (hj:j<l.length):l[i].n<l[j].n:=by
 have h1:=mh hr (i:=i) (by omega);have h2:=lT hr (i:=i+1) (j-(i+1)) (by omega);have e:i+1+(j-(i+1))=j:=by omega
 simp only[e]at h2;omega
def pW (hr:aS l=true) (hi:i<l.length):0<l[i].n:=by have hok:=(eY l).1 hr i hi;unfold iZ at hok;rw[q62 hi]at hok;simp only[q101,q71,decide_eq_true_eq]at hok;have h1:=hok.1;unfold fK at h1;cases i with|zero=>simpa using h1|succ i=>
 have h0:=lh hr (i:=0) (j:=i+1) (by omega) hi;have hok0:=(eY l).1 hr 0 (by omega);unfold iZ at hok0;rw[q62 (show 0<l.length by omega)]at hok0;simp only[q101,q71,decide_eq_true_eq]at hok0;have h2:=hok0.1;unfold fK at h2;have h2':0<l[0].n:=by simpa using h2
 omega
def sb (hlt:∀(i j:Nat) (hij:i<j) (hj:j<l.length),(l[i]'(by omega)).n<l[j].n) (hpos:∀v∈l,0<v.n) (hb:∀v∈l,bG v≠0->∃w∈l,w.n=bG v/\w.n<v.n):aS l=true:=by
 rw[eY];intro i hi;unfold iZ;rw[q62 hi];simp only[q101,q71,q132,decide_eq_true_eq];refine⟨?_,?_⟩;·unfold fK;cases i with|zero=>simpa using hpos _ (q84 hi)|succ i=>have:=hlt i (i+1) (by omega) hi;simpa[show i<l.length by omega]using this
 ·by_cases h0:bG l[i]=0;·exact .inl h0
  ·right;obtain⟨w,hw,h1,h2⟩:=hb l[i] (q84 hi) h0;obtain⟨k,hk,rfl⟩:=q128 hw;have hki:k<i:=by
    rcases q240 k i with h|h|h;·exact h
    ·subst h;omega
    ·have:=hlt i k h hk;omega
   rcases oN (l.take i) (bG l[i]) with⟨j,hj,h3,_⟩|⟨_,h3⟩;·omega
   ·exact absurd h1 (h3 l[k] (by rw[q90];exact⟨k,by omega,rfl⟩))
def Gu (hr:aS l=true) {v:Vn} (hv:v∈l) (hb:bG v≠0):∃w∈l,w.n=bG v/\w.n<v.n:=by obtain⟨i,hi,rfl⟩:=q128 hv;obtain⟨j,hj,_,h1⟩:=uX hr hi hb;exact⟨l[j],q84 _,h1,lh hr hj hi⟩
def Bx (hr:aS l=true) {v w:Vn} (hv:v∈l) (hw:w∈l) (h:v.n=w.n):v=w:=by obtain⟨i,hi,rfl⟩:=q128 hv;obtain⟨j,hj,rfl⟩:=q128 hw;have:=Cc hr hi hj h;subst this;rfl
def AG (hr:aS l=true) (p:Vn->Bool) (hc:∀v∈l,p v=true->bG v≠0->∀w∈l,w.n=bG v->p w=true):aS (l.filter p)=true:=by
 have hpw:l.Pairwise fun a b=>a.n<b.n:=by rw[q147];intro i j hi hj hij;exact lh hr hij hj
 have hpf:=hpw.filter p;rw[q147]at hpf;refine sb (fun i j hij hj=>hpf i j (by omega) hj hij) (fun v hv=>?_) fun v hv hb=>?_;·obtain⟨i,hi,rfl⟩:=q128 (q94.1 hv).1;exact pW hr hi
 ·obtain⟨h1,h2⟩:=q94.1 hv;obtain⟨w,hw,h3,h4⟩:=Gu hr h1 hb;exact⟨w,q94.2 ⟨hw,hc v h1 h2 hb w hw h3⟩,h3,h4⟩
inductive Ch (l:List Vn):Vn->List Vn->Prop|base (v:Vn):bG v=0->Ch l v [v]|step (v w:Vn) (p:List Vn):w∈l->w.n=bG v->bG v≠0->Ch l w p->Ch l v (p++[v])
def Nk (hr:aS l=true):∀(i:Nat) (hi:i<l.length),Ch l l[i] (eb l l.length i):=by intro i;induction i using Nat.strongRecOn with|_ i ih=>
 intro hi;by_cases hb:bG l[i]=0;·rw[pX (by rw[iy hi];exact hb),iy hi];exact .base _ hb
 ·obtain⟨j,hj,hx,hn⟩:=uX hr hi hb;rw[DX hr hi hb hj hx];exact .step _ l[j] _ (q84 _) hn hb (ih j hj (by omega))
def Ch.uniq (hr:aS l=true) {v:Vn}{p q:List Vn} (hp:Ch l v p) (hq:Ch l v q):p=q:=by induction hp generalizing q with
 |base v h=>cases hq with|base _ _=>rfl|step _ _ _ _ _ h' _=>exact absurd h h'
 |step v w p hw hn hb _ ih=>cases hq with|base _ h'=>exact absurd h' hb|step _ w' p' hw' hn' _ h'=>have:w=w':=Bx hr hw hw' (hn.trans hn'.symm);subst this;rw[ih h']
def Ch.mono {l m:List Vn} (hs:∀v∈l,v∈m) {v:Vn}{p:List Vn} (h:Ch l v p):Ch m v p:=by induction h with|base v h=>exact .base v h|step v w p hw hn hb _ ih=>exact .step v w p (hs w hw) hn hb ih
def Ch.map {f:Vn->Vn} (hn:∀v,(f v).n=v.n) (hb:∀v,bG (f v)=bG v) {v:Vn}{p:List Vn} (h:Ch l v p):Ch (l.map f) (f v) (p.map f):=by induction h with|base v h=>exact .base _ ((hb v).trans h)|step v w p hw h1 h2 _ ih=>rw[q162];exact .step _ (f w) _ (q83.2 ⟨w,hw,rfl⟩) (by rw[hn,hb,h1]) (by rw[hb];exact h2) ih
def Ch.mem {v:Vn}{p:List Vn} (h:Ch l v p) (hv:v∈l):∀x∈p,x∈l:=by induction h with|base v h=>intro x hx;rw[q73]at hx;rw[hx];exact hv|step v w p hw _ _ _ ih=>
 intro x hx;rcases q75.1 hx with hx|hx;·exact ih hw x hx
 ·rw[q73]at hx;rw[hx];exact hv
def Ch.self {v:Vn}{p:List Vn} (h:Ch l v p):∃q,p=q++[v]:=by cases h with|base _ _=>exact⟨[],rfl⟩|step _ _ p _ _ _ _=>exact⟨p,rfl⟩
def Ch.closed {v:Vn}{p:List Vn} (h:Ch l v p):∀x∈p,bG x≠0->∃y∈p,y.n=bG x:=by induction h with|base v h=>intro x hx hb;rw[q73]at hx;rw[hx]at hb;exact absurd h hb|step v w p hw hn _ hc ih=>
 intro x hx0 hb;rcases q75.1 hx0 with hx|hx;·obtain⟨y,hy,h⟩:=ih x hx hb;exact⟨y,q75.2 (.inl hy),h⟩
 ·have hxv:=q73.1 hx;obtain⟨q,hq⟩:=hc.self;exact⟨w,by rw[hq];simp,by rw[hxv];exact hn⟩
def Ch.shape {v:Vn}{p:List Vn} (h:Ch l v p):∀(k:Nat) (hk:k<p.length),(bG p[k]=0↔k=0)/\∀h0:0<k,bG p[k]=(p[k-1]'(by omega)).n:=by induction h with
 |base v h=>
  intro k hk;simp only[q135]at hk;have:k=0:=by omega
  subst this;exact⟨by simpa using h,fun h=>by omega⟩|step v w p hw hn hb hc ih=>
  intro k hk;rw[q65,q135]at hk;by_cases hkp:k<p.length;·obtain⟨h1,h2⟩:=ih k hkp;refine⟨by rw[q150 hkp];exact h1,fun h0=>?_⟩;rw[q150 hkp,q150 (show k-1<p.length by omega)];exact h2 h0
  ·have hke:k=p.length:=by omega
   obtain⟨q,rfl⟩:=hc.self;subst hke;refine⟨?_,fun h0=>?_⟩;·rw[q158 (by omega)];simp only[q235,q300,q65,q135];exact⟨fun h=>absurd h hb,fun h=>by omega⟩
   ·rw[q158 (by omega),q150 (by simp)];simp only[q235,q300,q65,q135,q163];rw[q158 (by omega)];simpa using hn.symm
def KZ (hr:aS l=true) {v:Vn} (hv:v∈l) (hh:v.ej=false):iO l v.n=some v:=by
 have hs:v∈aQ l:=by unfold aQ;simp[hv,hh]
 unfold iO;cases hf:(aQ l).find? fun w=>decide (w.n=v.n) with|none=>rw[q183]at hf;exact absurd (decide_eq_true rfl) (hf v hs)|some w=>
  have h1:=q233 hf;have h2:=q295 hf;have hw:w∈l:=by unfold aQ at h1;exact(q94.1 h1).1
  rw[Bx hr hw hv (by simpa using h2)]
def FZ {n:Int}{v:Vn} (h:iO l n=some v):v∈l/\v.n=n/\v.ej=false:=by unfold iO at h;have h1:=q233 h;have h2:=q295 h;unfold aQ at h1;obtain⟨h3,h4⟩:=q94.1 h1;exact⟨h3,by simpa using h2,by simpa using h4⟩
def F9 (hr:aS l=true) {n:Int}{v:Vn} (h:iO l n=some v):(fJ l n).2=0/\Ch l v (fJ l n).1:=by
 obtain⟨h1,h2,h3⟩:=FZ h;obtain⟨i,hi,rfl⟩:=q128 h1;have hp:fJ l n=(eb l l.length i,0):=by simp only[fJ,hr,h];rw[if_neg (by simp),uQ hr hi,q66]
 rw[hp];exact⟨rfl,Nk hr i hi⟩
def Cl {o:List Vn} (hr:aS o=true) {v:Vn} (hv:v∈o):uy o v.n=true↔∃x∈o,x.ej=false/\∃p,Ch o x p/\v∈p:=by
 rw[Df hr];constructor
 ·rintro⟨x,hx,hn⟩;have hx':x∈o/\x.ej=false:=by unfold aQ at hx;simpa using hx
  have hg:=KZ hr hx'.1 hx'.2;obtain⟨_,hc⟩:=F9 hr hg;unfold rO at hn;obtain⟨w,hw,hwn⟩:=q83.1 hn;refine⟨x,hx'.1,hx'.2,_,hc,?_⟩;rw[<-Bx hr (hc.mem hx'.1 w hw) hv hwn];exact hw
 ·rintro⟨x,hx,hh,p,hc,hvp⟩;have hg:=KZ hr hx hh;obtain⟨_,hc'⟩:=F9 hr hg;refine⟨x,by unfold aQ;simp[hx,hh],?_⟩;unfold rO;rw[hc'.uniq hr hc];exact q83.2 ⟨v,hvp,rfl⟩
def zC (hr:aS l=true) (bU:List Int):dR l bU=(pn l bU).filter fun v=>uy (pn l bU) v.n:=by unfold dR;rw[if_neg (by rw[hr];simp)]
def Bs (hr:aS l=true) (bU:List Int):aS (dR l bU)=true:=by rw[zC hr];have hrO:=(zA l bU).trans hr;refine AG hrO _ fun v hv hn hb w hw hwn=>?_;obtain⟨x,hx,hh,p,hc,hvp⟩:=(Cl hrO hv).1 hn;obtain⟨y,hy,hyn⟩:=hc.closed v hvp hb;have:y=w:=Bx hrO (hc.mem hx y hy) hw (hyn.trans hwn.symm);subst this;exact(Cl hrO hw).2 ⟨x,hx,hh,p,hc,hy⟩
def FK (hr:aS l=true) {bU:List Int}{v:Vn} (h:v∈dR l bU):v∈pn l bU/\∃u∈l,v=pP (nC l) bU u:=by rw[zC hr]at h;have h1:=(q94.1 h).1;obtain⟨u,hu,rfl⟩:=q83.1 h1;exact⟨h1,u,hu,rfl⟩
def NY (hr:aS l=true):(aQ l).Pairwise fun a b=>a.n<b.n:=by
 have hpw:l.Pairwise fun a b=>a.n<b.n:=by rw[q147];intro i j hi hj hij;exact lh hr hij hj
 exact hpw.filter _
def xP {v:Vn}:v∈aQ l↔v∈l/\v.ej=false:=by unfold aQ;simp
def BF (l:List Vn) (ts:List (List UInt8)):(bX l ts).1.length<=l.length:=by
 unfold bX;split;·simp
 ·have:=gp (l:=l);simp[gF];omega
def Du (l:List Vn) (bU:List Int):(dR l bU).length<=l.length:=by
 unfold dR;split;·simp
 ·have:=q182 (fun v=>uy (pn l bU) v.n) (pn l bU);rw[Cj]at this;exact this
def Eg (hi:∀v∈l,kr v) (bU:List Int):∀v∈dR l bU,kr v:=by
 intro v hv;unfold dR at hv;split at hv;·cases hv
 ·exact F6 hi bU v (q94.1 hv).1
def Hr (hr:aS l=true) {v:Vn} (hp:0<v.n) (hlt:∀w∈l,w.n<v.n) (hb:bG v≠0->(iO l (bG v)).isSome=true):aS (l++[v])=true:=by
 refine sb ?_ ?_ ?_
 ·intro i j hij hj;rw[q65,q135]at hj;by_cases h:j<l.length;·rw[q150 h,q150 (by omega)];exact lh hr hij h
  ·have:j=l.length:=by omega
   subst this;rw[q150 (by omega),q158 (by omega)];simpa using hlt _ (q84 _)
 ·intro w hw;rcases q75.1 hw with hw|hw;·obtain⟨i,hi,rfl⟩:=q255.1 hw;exact pW hr hi
  ·rw[q73.1 hw];exact hp
 ·intro w hw hbw;rcases q75.1 hw with hw|hw;·obtain⟨u,hu,h1,h2⟩:=Gu hr hw hbw;exact⟨u,q104 _ hu,h1,h2⟩
  ·rw[q73.1 hw]at hbw |-;obtain⟨u,hu⟩:=q124.1 (hb hbw);obtain⟨a,b,c⟩:=FZ hu;exact⟨u,q104 _ a,b,hlt u a⟩
structure FI (j:Nat) (d:Dc):Prop where
 r:aS d.vs=true
 n:∀v∈d.vs,v.n<=j
 o:∀v∈d.vs,kr v
 lv:d.vs.length<=j
 lp:d.ps.length<=j
 p:∀e∈d.ps,iV e
 e:cg d.l.e
 ri:eD d.ps=true
 pi:∀e∈d.ps,e.i<=j
def nP (d:Dc) (r:Rc) (n s:Int):Ap:=⟨d.l,d.ps,d.vs,d.sl,r,n,s⟩
def yo (a:Ap):Dc:=⟨a.l,a.ps,a.vs,a.sl⟩
def FI.zero (j:Nat):FI j ⟨⟨0,0,0,0,false⟩,[],[],false⟩:=⟨rfl,by simp,by simp,by simp,by simp,by simp,by simp[cg],rfl,by simp⟩
def FI.mono {d:Dc} (h:FI j d):FI (j+1) d:=⟨h.r,fun v hv=>by have:=h.n v hv;omega,h.o,by have:=h.lv;omega,by have:=h.lp;omega,h.p,h.e,h.ri,fun v hv=>by have:=h.pi v hv;omega⟩
def FI.ok {d:Dc} (h:FI j d) {r:Rc} (hr:yf r) {s:Int} (hs:cg s) (hj:j<=24):XZ (nP d r ((j:Int)+1) s):=by obtain⟨h1,h2,h3,h4,h5,h6,h7,h8,h9⟩:=hr;have:=h.lv;have:=h.lp;unfold cg at h6;exact⟨h.e,by show d.ps.length<50;omega,by show d.vs.length<=100000;omega,h.p,h.o,h7,hs,by show 0<=(j:Int)+1;omega,by show(j:Int)+1<=_;omega,h6.1,h6.2⟩
def Ko (n:Int):∀(l:List Pn),(AW n l).Sublist l:=by intro l;induction l with|nil=>exact List.Sublist.refl _|cons a l ih=>
 unfold AW;split;·exact List.sublist_cons_self a l
 ·exact ih.cons_cons a
def KB {l m:List Pn} (h:l.Sublist m) (hm:eD m=true):eD l=true:=(rh l).2 (((rh m).1 hm).sublist h)
def H7 {l:List Pn}{e:Pn} (h:eD l=true) (hl:∀x∈l,x.i<e.i):eD (l++[e])=true:=by rw[rh]at h |-;exact q195.2 ⟨h,by simp,fun a ha b hb=>by rw[q73.1 hb];exact hl a ha⟩
def RJ {d:Dc} (h:FI j d) {r:Rc} (hr:yf r) {s:Int} (hs:cg s) (hj:j<=24) {a:Ap}{e:Int} (ha:cL (nP d r ((j:Int)+1) s)=(a,e)):(e=220/\yo a=d)\/(e=0/\FI (j+1) (yo a)):=by
 have hn:∀v∈d.vs,v.n<(j:Int)+1:=fun v hv=>by have:=h.n v hv;omega
 have hm:=h.mono;obtain⟨g1,g2,g3,g4,g5,g6,g7,g8,g9⟩:=h;unfold cL at ha;cases hdo:Wc (nP d r ((j:Int)+1) s) with|none=>rw[hdo]at ha;cases ha;exact Or.inl ⟨rfl,rfl⟩|some x=>
  rw[hdo]at ha;dsimp only at ha;split at ha;case isFalse=>cases ha;exact Or.inl ⟨rfl,rfl⟩
  rename_i hx;cases ha;obtain⟨hR,hx⟩:=hx;unfold Wc at hdo;have hk:(nP d r ((j:Int)+1) s).r.k=r.k:=rfl;rw[hk]at hdo;refine q247 ⟨rfl,?_⟩;by_cases k1:r.k=1
  ·rw[if_pos k1]at hdo;cases hdo;simp only[kN,nP,q71,q125]at hx;obtain⟨⟨hx1,hx2⟩,hx3⟩:=hx;have hx2:(eZ d.l r.p r.i r.u).2=0:=of_decide_eq_true hx2;have hm':d.l.e≠nS:=by intro hm;unfold eZ at hx2;rw[if_pos hm]at hx2;cases hx2
   have hg:eZ d.l r.p r.i r.u=(⟨d.l.e+1,r.p,r.i,r.u,true⟩,0):=by unfold eZ;rw[if_neg hm']
   have hl:(yo (kN (nP d r ((j:Int)+1) s)).1).l=⟨d.l.e+1,r.p,r.i,r.u,true⟩:=by simp only[yo,kN,nP,hg]
   refine⟨hm.r,hm.n,hm.o,hm.lv,hm.lp,hm.p,?_,hm.ri,hm.pi⟩;rw[hl];have:=g7;unfold cg at this |-;unfold nS at hm';show 0<=d.l.e+1/\d.l.e+1<=_;omega
  rw[if_neg k1]at hdo;by_cases k2:r.k=2;·rw[if_pos k2]at hdo;cases hdo;exact⟨hm.r,hm.n,hm.o,hm.lv,hm.lp,hm.p,hm.e,hm.ri,hm.pi⟩
  rw[if_neg k2]at hdo;by_cases k3:r.k=3;·rw[if_pos k3]at hdo;cases hdo;exact⟨hm.r,hm.n,hm.o,hm.lv,hm.lp,hm.p,hm.e,hm.ri,hm.pi⟩
  rw[if_neg k3]at hdo;by_cases k4:r.k=4
  ·rw[if_pos k4]at hdo;cases hdo;simp only[kg,nP,q71,q125]at hx;obtain⟨⟨hx1,hx2⟩,hx3⟩:=hx;have hx3:(gh d.vs (m0 ⟨d.l,d.ps,d.vs,d.sl,r,(j:Int)+1,s⟩)).2=0:=of_decide_eq_true hx3;generalize hw:m0 ⟨d.l,d.ps,d.vs,d.sl,r,(j:Int)+1,s⟩=w at hx3;have wn:w.n=(j:Int)+1:=by rw[<-hw];rfl
   have wo:kr w:=by rw[<-hw];obtain⟨_,_,_,_,_,h6,_⟩:=hr;exact⟨by show 0<=(j:Int)+1;omega,by show(j:Int)+1<=_;omega,h6.1,h6.2⟩
   have hadd:(gh d.vs w).1=d.vs++[w]/\(bG w≠0->(iO d.vs (bG w)).isSome=true):=by
    revert hx3;unfold gh;split;·intro h;cases h
    ·split;·intro h;cases h
     ·rename_i hb;intro _;refine⟨rfl,fun h0=>?_⟩;cases hs:(iO d.vs (bG w)).isSome with|true=>rfl|false=>exact absurd ⟨h0,hs⟩ hb
   have hrw:aS (d.vs++[w])=true:=Hr g1 (by omega) (by rw[wn];exact hn) hadd.2;have hvs:(yo (kg (nP d r ((j:Int)+1) s)).1).vs=d.vs++[w]:=by rw[<-hadd.1,<-hw];rfl
   refine⟨by rw[hvs];exact hrw,?_,?_,?_,hm.lp,hm.p,hm.e,hm.ri,hm.pi⟩
   ·rw[hvs];intro v hv;rcases q75.1 hv with hv|hv;·exact hm.n v hv
    ·rw[q73.1 hv,wn];omega
   ·rw[hvs];intro v hv;rcases q75.1 hv with hv|hv;·exact g3 v hv
    ·rw[q73.1 hv];exact wo
   ·rw[hvs,q65,q135];omega
  rw[if_neg k4]at hdo;by_cases k5:r.k=5
  ·rw[if_pos k5]at hdo;cases hdo;simp only[DI,nP,q71]at hx;obtain⟨hx1,hx2⟩:=hx;have hx2:(yD d.ps ⟨(j:Int)+1,r.v,r.u⟩).2=0:=of_decide_eq_true hx2;have hadd:(yD d.ps ⟨(j:Int)+1,r.v,r.u⟩).1=d.ps++[⟨(j:Int)+1,r.v,r.u⟩]:=by
    revert hx2;unfold yD;split;·intro _;rfl
    ·intro h;cases h
   have hps:(yo (DI (nP d r ((j:Int)+1) s)).1).ps=d.ps++[⟨(j:Int)+1,r.v,r.u⟩]:=hadd;refine⟨hm.r,hm.n,hm.o,hm.lv,?_,?_,hm.e,?_,?_⟩;·rw[hps,q65,q135];omega
   ·rw[hps];intro v hv;rcases q75.1 hv with hv|hv;·exact g6 v hv
    ·rw[q73.1 hv];obtain⟨_,_,_,_,h5,h6,_⟩:=hr;exact⟨⟨by show 0<=(j:Int)+1;omega,by show(j:Int)+1<=_;omega⟩,h6,h5⟩
   ·rw[hps];exact H7 g8 fun x hx=>by have:=g9 x hx;show x.i<(j:Int)+1;omega
   ·rw[hps];intro v hv;rcases q75.1 hv with hv|hv;·exact hm.pi v hv
    ·rw[q73.1 hv];show(j:Int)+1<=((j+1:Nat):Int);omega
  rw[if_neg k5]at hdo;by_cases k6:r.k=6
  ·rw[if_pos k6]at hdo;cases hdo;have hx:(yG d.ps r.v).2=0:=of_decide_eq_true hx;have hrem:(yG d.ps r.v).1=AW r.v d.ps:=by
    revert hx;unfold yG;split;·intro _;rfl
    ·intro h;cases h
   have hps:(yo (qh (nP d r ((j:Int)+1) s)).1).ps=AW r.v d.ps:=hrem;have hsub:=Ko r.v d.ps;have hle:=hsub.length_le;refine⟨hm.r,hm.n,hm.o,hm.lv,?_,?_,hm.e,?_,?_⟩;·rw[hps];omega
   ·rw[hps];exact fun e he=>g6 e (hsub.subset he)
   ·rw[hps];exact KB hsub g8
   ·rw[hps];exact fun e he=>hm.pi e (hsub.subset he)
  rw[if_neg k6]at hdo;by_cases k7:r.k=7;·rw[if_pos k7]at hdo;cases hdo;exact⟨hm.r,hm.n,hm.o,hm.lv,hm.lp,hm.p,hm.e,hm.ri,hm.pi⟩
  rw[if_neg k7]at hdo;by_cases k8:r.k=8
  ·rw[if_pos k8]at hdo;cases hdo;refine⟨Bs g1 _,?_,Eg g3 _,?_,?_,?_,hm.e,?_,?_⟩;·intro v hv;obtain⟨_,u,hu,rfl⟩:=FK g1 hv;have:=hm.n u hu;rw[Uf];exact this
   ·have:=Du d.vs (tT ((iN d.ps r.c s).map Pn.v));show(dR d.vs (tT ((iN d.ps r.c s).map Pn.v))).length<=j+1;omega
   ·have:=q182 (fun e=>!jH r.c s e) d.ps;show(iN d.ps r.c s).length<=j+1;unfold iN;omega
   ·exact fun e he=>g6 e (q94.1 he).1
   ·exact EO _ _ g8
   ·exact fun e he=>hm.pi e (q94.1 he).1
  rw[if_neg k8]at hdo;cases hdo
structure DM (d:Dc):Prop where
 p:cg d.l.p
 i:cg d.l.i
 u:cg d.l.u
 t:∀v∈d.vs,v.t.length<=100
def DM.zero:DM ⟨⟨0,0,0,0,false⟩,[],[],false⟩:=⟨by simp[cg],by simp[cg],by simp[cg],by simp⟩
def Za {a:Ap}{x:Ap×Bool} (h:Wc a=some x) (hd:DM (yo a)) (h1:cg a.r.p) (h2:cg a.r.i) (h3:cg a.r.u):DM (yo x.1):=by
 obtain⟨d1,d2,d3,d4⟩:=hd;have d1:cg a.l.p:=d1;have d2:cg a.l.i:=d2;have d3:cg a.l.u:=d3;have d4:∀v∈a.vs,v.t.length<=100:=d4;have g:cg (eZ a.l a.r.p a.r.i a.r.u).1.p/\cg (eZ a.l a.r.p a.r.i a.r.u).1.i/\cg (eZ a.l a.r.p a.r.i a.r.u).1.u:=by
  unfold eZ;split;·exact⟨d1,d2,d3⟩
  ·exact⟨h1,h2,h3⟩
 have m:cg (max a.l.u a.r.u):=by unfold cg at*;omega
 have v1:∀v∈(gh a.vs (m0 a)).1,v.t.length<=100:=by
  intro v hv;unfold gh at hv;have key:v∈a.vs++[m0 a]->v.t.length<=100:=by
   intro h;rcases q75.1 h with h|h;·exact d4 v h
   ·rw[q73.1 h];exact q95 _
  repeat' split at hv
  all_goals first|exact key hv|exact d4 v hv|exact absurd hv (by simp)
 have v2:∀bU,∀v∈dR a.vs bU,v.t.length<=100:=by
  intro bU v hv;unfold dR at hv;split at hv;·cases hv
  ·have hv:=(q94.1 hv).1;unfold pn at hv;obtain⟨u,hu,rfl⟩:=q83.1 hv;exact d4 u hu
 unfold Wc at h;repeat' split at h
 all_goals first|cases h;exact⟨g.1,g.2.1,g.2.2,d4⟩|cases h;exact⟨d1,d2,m,d4⟩|cases h;exact⟨d1,d2,d3,d4⟩|cases h;exact⟨d1,d2,d3,v1⟩|cases h;exact⟨d1,d2,d3,v2 _⟩|cases h
def TW {d:Dc}{r:Rc}{n s:Int} (hd:DM d) (hr:yf r):DM (yo (cL (nP d r n s)).1):=by
 unfold cL;split;·exact hd
 ·rename_i x hx;split;·exact Za hx hd hr.1 hr.2.1 hr.2.2.2.2.1
  ·exact hd
def MG {d:Dc} (hF:FI j d) (hd:DM d) {ts:List (List UInt8)} (ht:∀t∈ts,t.length<=100):DM (fX d ts).1/\(fX d ts).1.ps.length<=j/\(fX d ts).1.vs.length<=j/\(∀v∈(fX d ts).1.vs,kr v)/\(∀e∈(fX d ts).1.ps,iV e)/\cg (fX d ts).1.l.e:=by
 obtain⟨g1,g2,g3,g4,g5,g6,g7⟩:=hF;unfold fX;split
 ·have hl:=BF d.vs ts;have hm:∀v∈(bX d.vs ts).1,kr v/\v.t.length<=100:=by
   intro v hv;unfold bX at hv;split at hv;·cases hv
   ·unfold gF at hv;obtain⟨k,hk⟩:=List.mem_iff_getElem?.1 hv;rw[List.getElem?_zipWith]at hk;split at hk;·rename_i a b ha hb;cases hk;have ha':=g3 a (xP.1 (List.mem_of_getElem? ha)).1;exact⟨⟨ha'.1,ha'.2.1,by simp[dD],by simp[dD]⟩,ht b (List.mem_of_getElem? hb)⟩
    ·cases hk
  exact⟨⟨hd.p,hd.i,hd.u,fun v hv=>(hm v hv).2⟩,g5,by show(bX d.vs ts).1.length<=j;omega,fun v hv=>(hm v hv).1,g6,g7⟩
 ·exact⟨DM.zero,q95 _,q95 _,by simp,by simp,by simp[cg]⟩
def iW (l:List Pn):Bool:=(List.range (l.length-1)).all fun i=>match l[i]?,l[i+1]? with|some a,some b=>nX a b|_,_=>true
def xq {l:List Pn}:iW l=true↔∀(i:Nat) (h:i+1<l.length),nX l[i] l[i+1]=true:=by
 unfold iW;rw[q85];constructor;·intro h i hi;have:=h i (q142.2 (by omega));rwa[q62 (by omega),q62 hi]at this
 ·intro h i hi;have hi:=q142.1 hi;rw[q62 (by omega),q62 (by omega)];exact h i (by omega)
def JO (a b:Pn):uA a b<0↔nX a b=true:=by
 rw[qW];unfold uA yx;repeat' split
 all_goals omega
@[simp] noncomputable def aaQ:List AV->Option (Prop×AV)|[.agg ys]=>mG ys fun x=>some (x.ws.length<=1000000000,.pv (.bool (iW x.ws)))|_=>none
def Qq:aL Tryz.prog 32 aaQ:=by
 intro ys φ r h hφ;unfold aaQ at h;split at h
 ·obtain⟨x,rfl,h2⟩:=eQ h;clear h;cases h2;obtain⟨c,t,⟨⟨e,p,i,u,h'⟩,ps,vs,sl⟩,cs,ws⟩:=x;have hl:ws.length<=1000000000:=hφ;refine aq (ag EH ah) (by kernel_rfl) (by conv=>lhs;reduce) (by simp) ?_;simp[aZ];refine au (fun k:Nat=>k<=ws.length/\∀(i:Nat) (h:i+1<ws.length),i+1<k->nX ws[i] ws[i+1]=true) (fun k=>⟨[(1,.ptr 1 0),(2,.pv (.bool false)),(6,.pv (.int .i64 ws.length)),(7,.pv (.int .i64 (k:Int)))],[(1,.box (aZ ⟨c,t,⟨⟨e,p,i,u,h'⟩,ps,vs,sl⟩,cs,ws⟩))]⟩) (fun k=>ws.length-k) [] 0 (by simp) ?_ ?_;·simp[aZ]
  ·rintro k ⟨hk,ht⟩;have w2:IntKind.i64.wrap ((k:Int)+1)=(k:Int)+1:=wrap_i64 (by omega);rw[ke];dsimp only;by_cases hlt:k<ws.length;·have r1:=dq hlt;cases k with
    |zero=>
     have r0:rowAt (ay ws) 0=[.int .u64 ws[0].i,.int .u64 ws[0].v,.int .u64 ws[0].u]:=by simpa using r1
     have wm:IntKind.i64.wrap (-1)=-1:=wrap_i64 (by omega);have rm:rowAt (ay ws) (-1)=[.int .u64 ws[0].i,.int .u64 ws[0].v,.int .u64 ws[0].u]:=by simpa[rowAt]using r0
     have w1:IntKind.i64.wrap 1=1:=wrap_i64 (by omega);simp[hlt,r0,rm,wm,w1,aZ];exact⟨1,⟨by omega,fun i hi hik=>by omega⟩,by omega,by omega⟩|succ j=>
     have hj:j<ws.length:=by omega
     have r2:=dq hj;have hlt':(j:Int)+1<ws.length:=by omega
     have hj0:(0:Int)<=(j:Int)+1:=by omega
     rw[q187]at r1 w2;rw[show((1:Nat):Int)=1 from rfl]at r1 w2;have wj:IntKind.i64.wrap (j:Int)=(j:Int):=wrap_i64 (by omega);have hcm:=JO ws[j] ws[j+1];cases hg:nX ws[j] ws[j+1]with
     |true=>
      rw[hg]at hcm;have hc:¬(0:Int)<=uA ws[j] ws[j+1]:=by have:=hcm.2 rfl;omega
      have hc':uA ws[j] ws[j+1]<0:=hcm.2 rfl;simp[hlt',hj,hj0,r1,r2,w2,wj,hc,hc',aZ];exact⟨j+1+1,⟨by omega,fun i hi hik=>by
       by_cases e:i=j;·subst e;exact hg
       ·exact ht i hi (by omega)⟩,by omega,by omega⟩|false=>
      rw[hg]at hcm;have hc:(0:Int)<=uA ws[j] ws[j+1]:=by
       have:¬uA ws[j] ws[j+1]<0:=fun h=>by have:=hcm.1 h;cases this
       omega
      have hw:iW ws=false:=by cases h:iW ws with|false=>rfl|true=>exact absurd (xq.1 h j hlt) (by rw[hg];simp)
      simp[hlt',hj,hj0,r1,r2,w2,wj,hc,hw,aZ]
   ·have hke:k=ws.length:=by omega
    subst hke;have hw:iW ws=true:=xq.2 fun i hi=>ht i hi hi;simp[hlt,hw]
 ·cases h
def gt_trans {a b c:Pn} (h1:nX a b=true) (h2:nX b c=true):nX a c=true:=by rw[qW]at*;omega
def ML (l:List Pn):iW l=true↔l.Pairwise (fun a b=>nX a b=true):=by
 rw[xq,q147];constructor;·intro h i j hi hj hij;obtain⟨k,rfl⟩:∃k,j=i+1+k:=⟨j-(i+1),by omega⟩;clear hij;induction k with|zero=>exact h i hj|succ k ih=>exact gt_trans (ih (by omega)) (h (i+1+k) hj)
 ·intro h k hk;exact h k (k+1) (by omega) hk (by omega)
def zK {l:List Pn}{w:Pn}:∀e∈l.take (Eu l w),kI w e=false:=by intro e he;unfold Eu at he;cases ha:Ii l w with|true=>rw[ha,if_pos rfl]at he;obtain⟨i,hi,rfl⟩:=q90.1 he;have:=List.not_of_lt_findIdx (p:=kI w) (xs:=l) (i:=i) (by omega);simpa using this|false=>have:=q146.1 ha e (q96 he);simpa using this
def HS {l:List Pn}{w:Pn} (h:iW l=true):iW (dY l w).1=true:=by
 rw[ML]at h |-;rw[Ax];have hp:=q147.1 h;have hto:∀a∈l.take (Eu l w),nX a w=true:=by intro e he;have hne:=zK e he;unfold Eu at he;cases ha:Ii l w with
  |true=>
   rw[ha,if_pos rfl]at he;obtain⟨i,hi,rfl⟩:=q90.1 he;have hk:l.findIdx (kI w)<l.length:=by obtain⟨x,hx,hq⟩:=q133.1 ha;exact q201 ⟨x,hx,hq⟩
   have h1:=hp i (l.findIdx (kI w)) (by omega) hk (by omega);have h2:kI w l[l.findIdx (kI w)]=true:=List.findIdx_getElem;rw[jj]at h2;rw[qW]at h1 |-;omega|false=>
   rw[ha,if_neg (by simp)]at he;obtain⟨i,hi,rfl⟩:=q90.1 he;have h3:=List.not_of_lt_findIdx (p:=nX w) (xs:=l) (i:=i) (by omega);have h3:¬nX w l[i]=true:=by simpa using h3
   have hne:¬kI w l[i]=true:=by rw[hne];simp
   rw[qW]at h3 |-;rw[jj]at hne;omega
 have hfrom:∀b∈l.drop (Eu l w+M1 l w),nX w b=true:=by intro e he;cases ha:Ii l w with|true=>
  have hv:Eu l w+M1 l w=l.findIdx (kI w)+1:=by unfold Eu M1;rw[ha];rfl
  rw[hv]at he;obtain⟨i,hi,rfl⟩:=q196.1 he;have hk:l.findIdx (kI w)<l.length:=by omega
  have h1:=hp (l.findIdx (kI w)) (l.findIdx (kI w)+1+i) hk (by omega) (by omega);have h2:kI w l[l.findIdx (kI w)]=true:=List.findIdx_getElem;rw[jj]at h2;rw[qW]at h1 |-;omega|false=>
  have hv:Eu l w+M1 l w=l.findIdx (nX w):=by unfold Eu M1;rw[ha];rfl
  rw[hv]at he;obtain⟨i,hi,rfl⟩:=q196.1 he;have hk:l.findIdx (nX w)<l.length:=by omega
  have h2:nX w l[l.findIdx (nX w)]=true:=List.findIdx_getElem;rcases q154 i with rfl|hi0;·exact h2
  ·exact gt_trans h2 (hp (l.findIdx (nX w)) (l.findIdx (nX w)+i) hk (by omega) (by omega))
 refine q195.2 ⟨h.sublist (List.take_sublist _ _),List.pairwise_cons.2 ⟨hfrom,h.sublist (List.drop_sublist _ _)⟩,fun a ha b hb=>?_⟩;rcases q78.1 hb with rfl|hb;·exact hto a ha
 ·exact gt_trans (hto a ha) (hfrom b hb)
def JW {l:List Pn}{p i s:Int}:lK (dY l ⟨p,i,s⟩).1 p i=(s,true):=by
 have hb:=zK (l:=l) (w:=⟨p,i,s⟩);have hl:=at_le l ⟨p,i,s⟩;rw[Ax];generalize Eu l ⟨p,i,s⟩=k at*;have ht:(l.take k).length=k:=by rw[q68];omega
 have hlt:k<(l.take k++(⟨p,i,s⟩:Pn)::l.drop (k+M1 l ⟨p,i,s⟩)).length:=by simp;omega
 have hk:(l.take k++(⟨p,i,s⟩:Pn)::l.drop (k+M1 l ⟨p,i,s⟩))[k]=⟨p,i,s⟩:=by rw[q158 (by omega)];simp[ht]
 have:=K7 (p:=p) (i:=i) hlt (fun e he h=>?_) (by rw[hk];exact⟨rfl,rfl⟩);·rw[hk]at this;exact this
 ·rw[q111 (by omega),q148,q285]at he;have:=hb e he;rw[(jj _ _).2 h]at this;cases this
def KS {l:List Pn}{w e:Pn} (h:e∈(dY l w).1):e=w\/e∈l:=by
 rw[Ax]at h;rcases q75.1 h with h|h;·exact q247 (q96 h)
 ·rcases q78.1 h with h|h;·exact Or.inl h
  ·exact q247 (q110 h)
def MA {cs:List En}{r:Rc}{n:Int} (hr:aP cs=true) (hi:∀e∈cs,E4 e) (hn:0<=n/\n<=18446744073709551615) (h:(mT cs r n).2=0):aP (mT cs r n).1=true/\(∀e∈(mT cs r n).1,E4 e)/\(mT cs r n).1.length<=cs.length+1:=by
 unfold mT at h |-;split at h
 ·rename_i k;rw[if_pos k];obtain⟨h1,h2,_⟩:=Kl hr h;refine⟨h2,?_,by omega⟩;intro e he;unfold dK at h he;split at h;·simp at h
  ·rename_i a;rw[if_neg a]at he;split at h;·rename_i b;exact absurd h (by simpa using a)
   ·rename_i b;rw[if_neg b]at he;split at h;·simp at h
    ·rename_i c;rw[if_neg c]at he;rcases(iK _ _ _).1 he with rfl|he;·exact hn
     ·exact hi e he
 rename_i k1;rw[if_neg k1];split at h
 ·rename_i k;rw[if_pos k];unfold mM at h |-;split at h;·rename_i a;exact absurd h a
  ·rename_i a;rw[if_neg a];refine⟨iF _ hr,fun e he=>hi e (q94.1 he).1,?_⟩;have:=uf cs r.n;show(bD cs r.n).length<=_;omega
 rename_i k2;rw[if_neg k2];split at h
 ·rename_i k;rw[if_pos k];obtain⟨h1,h2,_,i,_,h3,_⟩:=NF hr h;refine⟨h2,?_,by omega⟩;have hio:E4 ⟨r.t,(ed cs r.n).1⟩:=by
   rcases jK cs r.n with⟨a,b⟩|⟨a,b,c⟩|⟨a,b,c,d⟩|⟨a,b,c,hlt,d,e⟩;·rw[hr]at a;cases a
   ·rw[c];exact⟨q185 _,by show(0:Int)<=_;omega⟩
   ·rw[d];exact⟨q185 _,by show(0:Int)<=_;omega⟩
   ·rw[d];have:=hi _ (q84 hlt);exact this
  intro e he;unfold fA at h he;split at h;·simp at h
  ·rename_i a;rw[if_neg a]at he;split at h;·rename_i b;exact absurd h b
   ·rename_i b;rw[if_neg b]at he;split at h;·simp at h
    ·rename_i c;rw[if_neg c]at he;rcases(iK _ _ _).1 he with rfl|he;·exact hio
     ·exact hi e (q94.1 he).1
 rename_i k3;rw[if_neg k3];split at h;·rename_i k;rw[if_pos k];exact⟨hr,hi,Nat.le_succ _⟩
 ·simp at h
structure SI (ch:Int) (n:Nat) (x:Sc):Prop where
 c:x.c=ch
 t:x.t=n
 rs:iW x.ws=true
 lw:x.ws.length<=n
 ow:∀w∈x.ws,iV w
 cat:x.c=0->x.d=BM/\aP x.cs=true/\(∀e∈x.cs,E4 e)/\x.cs.length<=n
 doc:x.c≠0->x.cs=[]/\FI n x.d/\DM x.d
def SI.zero (ch:Int):SI ch 0 ⟨ch,0,BM,[],[]⟩:=⟨rfl,rfl,rfl,q95 _,by simp,fun _=>⟨rfl,rfl,by simp,q95 _⟩,fun _=>⟨rfl,FI.zero 0,DM.zero⟩⟩
def SI.len {x:Sc} (h:SI ch n x):(x.d.ps.length<=n/\x.d.vs.length<=n)/\x.cs.length<=n/\x.ws.length<=n:=by
 by_cases hc:x.c=0;·obtain⟨h1,h2,h3,h4⟩:=h.cat hc;rw[h1];exact⟨⟨q95 _,q95 _⟩,h4,h.lw⟩
 ·obtain⟨h1,h2,h3⟩:=h.doc hc;rw[h1];exact⟨⟨h2.lp,h2.lv⟩,q95 _,h.lw⟩
def SI.JP {x:Sc} (h:SI ch n x):FI n x.d/\DM x.d:=by
 by_cases hc:x.c=0;·obtain⟨h1,_⟩:=h.cat hc;rw[h1];exact⟨FI.zero n,DM.zero⟩
 ·exact(h.doc hc).2
def SI.ok {x:Sc} (h:SI ch n x) {r:Rc} (hr:yf r) {s:Int} (hs:cg s) (hn:n<=24):uJ x r s:=by obtain⟨⟨l1,l2⟩,l3,l4⟩:=h.len;obtain⟨f,_⟩:=h.JP;obtain⟨h1,h2,h3,h4,h5,h6,h7,h8,h9⟩:=hr;exact⟨by rw[h.t];exact⟨by omega,by omega⟩,by omega,by omega,f.e,by omega,by omega,f.p,f.o,h7,hs,h6⟩
def SI.step {x:Sc} (h:SI ch n x) {r:Rc} (hr:yf r) {s:Int} (hs:cg s) (hn:n<=24):((fF x r s).2=220/\(fF x r s).1=x)\/((fF x r s).2=0/\(fF x r s).1.t=x.t+1/\lK (fF x r s).1.ws r.p r.i=(r.s,true)/\((lK x.ws r.p r.i).2=true->(lK x.ws r.p r.i).1<r.s)/\SI ch (n+1) (fF x r s).1):=by
 unfold fF;split;rotate_left;·exact Or.inl ⟨rfl,rfl⟩
 rename_i hb;refine q247 ⟨rfl,?_⟩;have hw:iV (mJ r):=⟨hr.1,hr.2.1,hr.2.2.1⟩;have hlw:=Ij x.ws (mJ r);have h0:=h.lw;have hrs:=HS (w:=mJ r) h.rs;have how:∀w∈(dY x.ws (mJ r)).1,iV w:=fun w hm=>by
  rcases KS hm with rfl|hm;·exact hw
  ·exact h.ow w hm
 have hsq:lK (dY x.ws (mJ r)).1 r.p r.i=(r.s,true):=JW;have hns:=JZ x.ws r.p r.i r.s;have hlt:(dY x.ws (mJ r)).2=true->(lK x.ws r.p r.i).2=true->(lK x.ws r.p r.i).1<r.s:=by intro h1 h2;have h1:(dY x.ws ⟨r.p,r.i,r.s⟩).2=true:=h1;rw[h1,h2]at hns;simp at hns;omega
 have ht:=h.t;unfold pE at hb |-;split at hb;rotate_left;·cases hb
 rename_i h1;rw[if_pos h1];split at hb;rotate_left;·cases hb
 rename_i h2;rw[if_pos h2];split at hb;·rename_i hc;rw[if_pos hc];obtain⟨c1,c2,c3,c4⟩:=h.cat hc;have hb:(mT x.cs r (x.t+1)).2=0:=of_decide_eq_true hb;obtain⟨d1,d2,d3⟩:=MA c2 c3 (by rw[ht];omega) hb;exact⟨rfl,hsq,hlt h2,⟨h.c,by show x.t+1=_;rw[ht];rfl,hrs,by show(dY x.ws (mJ r)).1.length<=_;omega,how,fun _=>⟨c1,d1,d2,by show(mT x.cs r (x.t+1)).1.length<=_;omega⟩,fun hn=>absurd hc hn⟩⟩
 ·rename_i hc;rw[if_neg hc];obtain⟨c1,c2,c3⟩:=h.doc hc;have e1:(⟨x.d.l,x.d.ps,x.d.vs,x.d.sl,r,x.t+1,s⟩:Ap)=nP x.d r ((n:Int)+1) s:=by rw[ht];rfl
  rw[e1]at hb |-;have hb:(cL (nP x.d r ((n:Int)+1) s)).2=0:=of_decide_eq_true hb;have hdm:=TW (r:=r) (n:=(n:Int)+1) (s:=s) c3 hr;rcases RJ c2 hr hs hn (a:=(cL (nP x.d r ((n:Int)+1) s)).1) (e:=(cL (nP x.d r ((n:Int)+1) s)).2) rfl with⟨g1,_⟩|⟨_,g2⟩;·rw[hb]at g1;cases g1
  ·exact⟨rfl,hsq,hlt h2,⟨h.c,by show x.t+1=_;rw[ht];rfl,hrs,by show(dY x.ws (mJ r)).1.length<=_;omega,how,fun hn=>absurd hn hc,fun _=>⟨c1,g2,hdm⟩⟩⟩
end Go.Proofs.YtifcndkhigakfaaGreat.Ab
