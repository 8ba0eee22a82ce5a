/- Chapter 18: lives: how they are compared, and where one stands. -/
import Derived.Test.YtifcndkhigakfaaGreatX14
import Derived.Shelf.Spec.SlicesInsert
set_option linter.unusedVariables false
set_option linter.unusedSimpArgs false
set_option linter.unnecessarySimpa false
set_option maxHeartbeats 40000000
set_option maxRecDepth 100000
namespace Go.Proofs.YtifcndkhigakfaaGreat.Ab
open Go Go.RowKit R
def vm (a b:Int):Int:=if a<b then-1 else if b<a then 1 else 0
@[simp] def LO:List AV→Option (Prop×AV)|[.pv (.int .u64 _)]=>some (True,.pv (.bool false))|_=>none
theorem NX:aR Tryz.prog 154 LO:=by
 intro ys φ r h hφ;unfold LO at h;split at h;·cases h;refine aq aj (by kernel_rfl) (by conv=>lhs;reduce) (by simp) ?_;simp
 ·cases h
@[simp] def Le:List AV→Option (Prop×AV)|[.pv (.int .u64 a),.pv (.int .u64 b)]=>some (True,.pv (.int .i64 (vm a b)))|_=>none
theorem MP:aR Tryz.prog 114 Le:=by
 intro ys φ r h hφ;unfold Le at h;split at h
 ·rename_i a b;cases h;refine aq (af NX aj) (by kernel_rfl) (by conv=>lhs;reduce) (by simp) ?_;unfold vm;by_cases h1:a<b;·simp[h1]
  ·by_cases h2:b<a<;>simp[h1,h2]
 ·cases h
@[simp] def GOr:List AV→Option (Prop×AV)|[.pv (.ro [[.int .i64 a],[.int .i64 b]])]=>some (True,.pv (.int .i64 (if a=0 then b else a)))|_=>none
theorem c_Or:aR Tryz.prog 113 GOr:=by
 intro ys φ r h hφ;unfold GOr at h;split at h
 ·rename_i a b;cases h;refine aq aj (by kernel_rfl) (by conv=>lhs;reduce) (by simp) ?_;simp;refine au (fun i:Nat=>i≤2∧(1≤i→a=0)∧(2≤i→b=0)) (fun i=>⟨[(0,.pv (.ro [[.int .i64 a],[.int .i64 b]])),(2,.pv (.int .i64 0)),(3,.pv (.int .i64 0)),(6,.pv (.ro [[.int .i64 a],[.int .i64 b]])),(7,.pv (.int .i64 2)),(8,.pv (.int .i64 (i:Int)))],[]⟩) (fun i=>2-i) [] 0 (by simp) ?_ ?_;·simp
  ·rintro i ⟨hi,h1,h2⟩;rcases(show i=0∨i=1∨i=2 by omega) with rfl|rfl|rfl
   ·by_cases ha:a=0;·simp[ha,rowAt];exact⟨1,by simp,rfl,by omega⟩
    ·simp[ha,rowAt]
   ·have ha:=h1 (by omega);by_cases hb:b=0;·simp[ha,hb,rowAt];exact⟨2,by simp,rfl,by omega⟩
    ·simp[ha,hb,rowAt]
   ·simp[h1 (by omega),h2 (by omega)]
 ·cases h
def sa (a b:Pn):Int:=if vm a.i b.i=0 then vm a.v b.v else vm a.i b.i
@[simp] def KK:List AV→Option (Prop×AV)|[.agg [.pv (.int .u64 p),.pv (.int .u64 i),.pv (.int .u64 s)],.agg [.pv (.int .u64 p'),.pv (.int .u64 i'),.pv (.int .u64 s')]]=>some (True,.pv (.int .i64 (sa ⟨p,i,s⟩ ⟨p',i',s'⟩)))|_=>none
theorem BU:aR Tryz.prog 64 KK:=by
 intro ys φ r h hφ;unfold KK at h;split at h;·cases h;refine aq (af c_Or (af MP aj)) (by kernel_rfl) (by conv=>lhs;reduce) (by simp) ?_;simp[sa]
 ·cases h
def rY (w x:Pn):Bool:=decide (sa x w=0)
def sv (w x:Pn):Bool:=decide (0<sa x w)
@[simp] def GW (f:Pn→Pn→Bool):List AV→Option (Prop×AV)|[.agg [.pv (.int .u64 p),.pv (.int .u64 i),.pv (.int .u64 s)],.rp [.int .u64 p',.int .u64 i',.int .u64 s']]=>some (True,.pv (.bool (f ⟨p',i',s'⟩ ⟨p,i,s⟩)))|_=>none
theorem c_W1:aR Tryz.prog 129 (GW rY):=by
 intro ys φ r h hφ;unfold GW at h;split at h;·cases h;refine aq (af BU aj) (by kernel_rfl) (by conv=>lhs;reduce) (by simp) ?_;simp[rY]
 ·cases h
theorem c_W2:aR Tryz.prog 130 (GW sv):=by
 intro ys φ r h hφ;unfold GW at h;split at h;·cases h;refine aq (af BU aj) (by kernel_rfl) (by conv=>lhs;reduce) (by simp) ?_;simp[sv]
 ·cases h
theorem DZ:ib Tryz.prog 129=true:=by kernel_rfl
theorem Dl:ib Tryz.prog 130=true:=by kernel_rfl
def GH (q:Pn→Bool) (l:List Pn):Int:=if l.any q=true then(l.findIdx q:Int) else-1
def U0 (f:FuncId):Option (Pn→Pn→Bool):=if f=129 then some rY else if f=130 then some sv else none
@[simp] noncomputable def T8:List AV→Option (Prop×AV)|[.pv (.ro a),.bZ f [.rp [.int .u64 p,.int .u64 i,.int .u64 s]]]=>(U0 f).bind fun q=>(dec rowP a).map fun l=>(l.length≤1000000000,.pv (.int .i64 (GH (q ⟨p,i,s⟩) l)))|_=>none
theorem YD:aR Tryz.prog 128 T8:=by
 intro ys φ r h hφ;unfold T8 at h;split at h
 ·rename_i ra f p n s;obtain⟨q,hq,h⟩:=Option.bind_eq_some_iff.1 h;obtain⟨a,ha,h⟩:=Option.map_eq_some_iff.1 h;cases h;cases bf ha;have hq:(f=129∧q=rY)∨(f=130∧q=sv):=by
   unfold U0 at hq;split at hq;·rename_i hf;cases hq;exact .inl ⟨hf,rfl⟩
   ·split at hq;·rename_i hf;cases hq;exact .inr ⟨hf,rfl⟩
    ·cases hq
  refine aq (af c_W1 (af c_W2 aj)) (by kernel_rfl) (by conv=>lhs;reduce) (by simp) ?_;simp;refine au (fun i:Nat=>i≤a.length∧∀e∈a.take i,¬q ⟨p,n,s⟩ e=true) (fun i=>⟨[(0,.pv (.ro (aF a))),(1,.bZ f [.rp [.int .u64 p,.int .u64 n,.int .u64 s]]),(7,.pv (.int .i64 a.length)),(8,.pv (.int .i64 i))],[]⟩) (fun i=>a.length-i) [] 0 (by simp) ?_ ?_;·simp
  ·rintro i ⟨hi,ht⟩;have w2:IntKind.i64.wrap ((i:Int)+1)=(i:Int)+1:=wrap_i64 (by omega);by_cases hlt:i<a.length;·have r1:=bM hlt;cases he:q ⟨p,n,s⟩ a[i]with
    |true=>
     have fU:a.any (q ⟨p,n,s⟩)=true:=List.any_eq_true.2 ⟨a[i],List.getElem_mem hlt,he⟩;have hfi:a.findIdx (q ⟨p,n,s⟩)=i:=by rw[List.findIdx_eq hlt];refine⟨he,fun j hj=>?_⟩;have:=ht a[j] (by rw[List.mem_take_iff_getElem];exact⟨j,by omega,rfl⟩);simpa using this
     rcases hq with⟨rfl,rfl⟩|⟨rfl,rfl⟩<;>simp[hlt,r1,DZ,Dl,he,fU,hfi,GH]|false=>
     have hnx:i+1≤a.length∧∀e∈a.take (i+1),¬q ⟨p,n,s⟩ e=true:=by
      refine⟨by omega,fun e hm=>?_⟩;rw[List.take_succ_eq_append_getElem hlt,List.mem_append,List.mem_singleton]at hm;rcases hm with hm|rfl;·exact ht e hm
      ·rw[he];decide
     rcases hq with⟨rfl,rfl⟩|⟨rfl,rfl⟩<;>·simp[hlt,r1,DZ,Dl,he,w2];exact⟨i+1,by simpa using hnx,by omega,by omega⟩
   ·rw[List.take_of_length_le (by omega)]at ht;have fU:a.any (q ⟨p,n,s⟩)=false:=by rw[List.any_eq_false];exact ht
    simp[hlt,fU,GH]
 ·cases h
@[simp] noncomputable def Wh:List AV→Option (Prop×AV)|[.pv (.ro a)]=>(dec rowP a).map fun l=>(l.length≤100000000,.fr 84 (aF l))|_=>none
theorem TF:aR Tryz.prog 91 Wh:=by
 intro ys φ r h hφ;unfold Wh at h;split at h;·rename_i ra;obtain⟨a,ha,h⟩:=Option.map_eq_some_iff.1 h;cases h;cases bf ha;refine aq aj (by kernel_rfl) (by conv=>lhs;reduce) (by simp) ?_;cases a with|nil=>simp[j7]|cons x l=>have hx:aF (x::l)=rowP x::aF l:=rfl;simp[hx,aw];simp only[List.length_cons]at hφ;exact⟨by omega,by omega,rfl,dk l⟩
 ·cases h
theorem oy:∃inf z,Tryz.prog.info? 86=some inf∧inf.zero=some z∧z.cells.size=inf.size∧inf.size=2∧inf.bytes=24:=by refine⟨_,_,rfl,rfl,?_,?_,?_⟩<;>kernel_rfl
theorem CA (w:World) (V:Value) (rows:List (List PV)) (hs2:∀r∈rows,r.length=2) (hp:dx rows) (hsm:rows.length≤1000000) (nm:List UInt8) (id:Int) (hown:w.ownsRow 0 86 2 V rows.length (cellW rows)) (ad:Addr) (c:Nat) (h0:w.cell? (ad.add 0)=some (.string ⟨nm.toArray⟩)) (h1:w.cell? (ad.add 1)=some (.int .u64 id)):Calls Tryz.prog 170 #[V,.int .i64 rows.length,.slice (some ad) 1 c] w fun r w'=>∃V',r=.returned V'∧w'.ownsRow 0 86 2 V' (rows.length+1) (cellW rows++[.string ⟨nm.toArray⟩,.int .u64 id])∧w.grownBy w' V.ownBlock∧(∀b,V'.ownBlock=some b→V.ownBlock=some b∨w.heap.size≤b):=by
 obtain⟨inf,z,hi,hz,hzs,hsz,hby⟩:=oy;have hsrc:Src Tryz.prog inf.size 32 (.slice (some ad) 1 c) 1 [.string ⟨nm.toArray⟩,.int .u64 id] w:=by
  rw[hsz];refine Src.ofSlice w Tryz.underlying32 ad 1 c _ (by simp) (fun j u hj=>?_) (fun u hu=>?_);·match j with|0=>simp at hj;subst hj;exact h0|1=>simp at hj;subst hj;exact h1|j+2=>simp at hj
  ·simp only[List.mem_cons,List.not_mem_nil,or_false]at hu;rcases hu with rfl|rfl<;>rfl
 rw[←hsz]at hown;obtain⟨v',w',hrun,hown',hg,hbl⟩:=pd w 33 32 33 86 inf z Tryz.underlying33 hi hz hzs (by omega) V rows.length (cellW rows) hown (.slice (some ad) 1 c) 1 _ hsrc (by unfold maxLen;omega) (by rw[hby];omega);rw[hsz]at hown' hown;have hfin:∃V',(Ending.returned v':Ending)=.returned V'∧w'.ownsRow 0 86 2 V' (rows.length+1) (cellW rows++[.string ⟨nm.toArray⟩,.int .u64 id])∧w.grownBy w' V.ownBlock∧(∀b,V'.ownBlock=some b→V.ownBlock=some b∨w.heap.size≤b):=⟨v',rfl,hown',hg,fun b hb=>by
  rcases hbl with h|h;·rw[h]at hb;exact .inl hb
  ·rw[h]at hb;injection hb with hb;exact .inr (by omega)⟩;have key:∀Φ:Ending→World→Prop,Φ (.returned v') w'→Calls Tryz.prog 170 #[V,.int .i64 rows.length,.slice (some ad) 1 c] w Φ:=by
  intro Φ hΦ;rcases hown.2 with⟨rfl,hn⟩|⟨g,cap,cur,rfl,hb0,hg0,hnc,hcm,hcs,htk⟩;·obtain rfl:rows=[]:=List.eq_nil_of_length_eq_zero hn;simp only[List.length_nil];clear hown hbl hg hown' hfin;go_enter Tryz.func170,Tryz.ntmps170;go_wp2_with(at_builtin;refine Lib.wpList_append_run _ rfl _ _ _ _ rfl _ _ rfl rfl _ _ hrun ?_);all_goals exact hΦ
  ·generalize hn:rows.length=n at*;have e1:(0:Int)≤(n:Int):=by omega
   have e2:(n:Int)≤(n:Int):=by omega
   clear hown hbl hg hown' hfin;go_enter Tryz.func170,Tryz.ntmps170;go_wp2_with(at_builtin;refine Lib.wpList_append_run _ rfl _ _ _ _ rfl _ _ rfl rfl _ _ hrun ?_);all_goals exact hΦ
 exact key _ hfin
theorem kT {sz:Nat}:∀{rows:List (List PV)} (i:Nat),(∀r∈rows,r.length=sz)→cellW (rows.take i)=(cellW rows).take (i*sz)
 |[],i,_=>by simp[cellW]|r::rows,0,_=>by simp[cellW]|r::rows,i+1,h=>by
  have ih:=kT (rows:=rows) i fun r hr=>h r (by simp[hr]);have h0:=h r (by simp);unfold cellW at ih ⊢;simp only[List.take_succ_cons,List.flatMap_cons,ih];have e1:(i+1)*sz-(r.map Gf).length=i*sz:=by rw[List.length_map,h0,Nat.succ_mul];omega
  have e2:(r.map Gf).take ((i+1)*sz)=r.map Gf:=List.take_of_length_le (by rw[List.length_map,h0,Nat.succ_mul];omega);rw[List.take_append,e1,e2]
theorem sV {sz:Nat}{rows:List (List PV)} (i:Nat) (h:∀r∈rows,r.length=sz):cellW (rows.drop i)=(cellW rows).drop (i*sz):=by
 have h1:=kT i h;have h2:cellW (rows.take i)++cellW (rows.drop i)=cellW rows:=by rw[←fK,List.take_append_drop]
 rw[h1]at h2;have h3:=List.take_append_drop (i*sz) (cellW rows);exact List.append_cancel_left (h2.trans h3.symm)
set_option maxHeartbeats 8000000 in theorem zp (w:World) (rows:List (List PV)) (hs2:∀r∈rows,r.length=2) (hp:dx rows) (i n:Nat) (hn:rows.length=n) (hi:i<n) (hsm:n≤1000000) (nm:List UInt8) (id:Int) (g cap:Nat) (cur:Array Value) (hg0:w.heap[g]?=some (.cells cur 86 (0,0))) (hcm:cap≤maxLen) (hcs:cur.size=cap*2) (htk:cur.toList.take (n*2)=cellW rows) (hroom:n+1≤cap) (ad:Addr) (c:Nat) (hb:ad.block≠g) (h0:w.cell? (ad.add 0)=some (.string ⟨nm.toArray⟩)) (h1:w.cell? (ad.add 1)=some (.int .u64 id)):Calls Tryz.prog 170 #[.slice (some ⟨g,0,none⟩) n cap,.int .i64 i,.slice (some ad) 1 c] w fun r w'=>∃V',r=.returned V'∧w'.ownsRow 0 86 2 V' (n+1) ((cellW rows).take (i*2)++[.string ⟨nm.toArray⟩,.int .u64 id]++(cellW rows).drop (i*2))∧w.grownBy w' (Value.slice (some ⟨g,0,none⟩) n cap).ownBlock∧(∀b,V'.ownBlock=some b→(Value.slice (some ⟨g,0,none⟩) n cap).ownBlock=some b∨w.heap.size≤b):=by
 obtain⟨inf,z,hi',hz,hzs,hsz,hby⟩:=oy;have hszm:(Tryz.prog.info? 86).map (·.size)=some 2:=by rw[hi'];simp[hsz]
 have hcl:(cellW rows).length=n*2:=by rw[fq hs2,hn]
 obtain⟨cs,hcse⟩:∃cs,cs=(cellW rows).drop (i*2):=⟨_,rfl⟩;have hcsl:cs.length=(n-i)*2:=by rw[hcse,List.length_drop,hcl];omega
 have hcur:cur.toList.length=cap*2:=by simpa using hcs
 have hone:=mM hp;obtain⟨X1,hX1⟩:∃X1,X1=(cur.toList.take ((i+1)*2)++cs++cur.toList.drop ((i+1)*2+cs.length)).toArray:=⟨_,rfl⟩;have hX1l:X1.size=cap*2:=by rw[hX1];simp only[List.size_toArray,List.length_append,List.length_take,List.length_drop,hcur,hcsl];omega
 have hcell:∀j v,cs[j]?=some v→w.cell? ((⟨g,i*2,none⟩:Addr).add j)=some v:=by
  intro j v hj;rw[Addr.add_lit];have hjl:j<cs.length:=(List.getElem?_eq_some_iff.1 hj).1;rw[hcse,List.getElem?_drop,←htk,List.getElem?_take]at hj;split at hj;·simp only[World.cell?,hg0];simpa using hj
  ·cases hj
 have hcp1:∀sT ty dc sc,(Builtin.copy_ #[33,sT] ty #[.slice (some ⟨g,(i+1)*2,none⟩) (n-i) dc,.slice (some ⟨g,i*2,none⟩) (n+1-i) sc]).run Tryz.prog w.drew=.ok (goInt (n-i)) (w.drew.setRow g X1):=fun sT ty dc sc=>by have:=dh w.drew 33 sT ty 86 g ((i+1)*2) (n-i) dc ⟨g,i*2,none⟩ (n+1-i) sc 2 cur 86 cs Tryz.underlying33 hszm hg0 (by rw[hcsl];congr 1;simp only[Nat.min_def];split<;>omega) hcell (by rw[hcsl,hcs];omega) (fun v hv=>hone v (by rw[hcse]at hv;exact List.mem_of_mem_drop hv));rw[this,hX1];congr 2;simp only[Nat.min_def];split<;>omega
 obtain⟨X2,hX2⟩:∃X2,X2=(X1.toList.take (i*2)++[Value.string ⟨nm.toArray⟩,Value.int .u64 id]++X1.toList.drop (i*2+2)).toArray:=⟨_,rfl⟩;have hcp2:∀W:World,W.heap=(w.drew.setRow g X1).heap→∀sT ty dc,(Builtin.copy_ #[33,sT] ty #[.slice (some ⟨g,i*2,none⟩) (n+1-i) dc,.slice (some ad) 1 c]).run Tryz.prog W=.ok (goInt 1) (W.setRow g X2):=fun W hW sT ty dc=>by
  have hWg:W.heap[g]?=some (.cells X1 86 (0,0)):=by rw[hW];exact setRow_heap w.drew g cur X1 _ _ hg0
  have hWc:∀x:Addr,x.block≠g→W.cell? x=w.cell? x:=fun x hx=>by have:(w.drew.setRow g X1).cell? x=w.drew.cell? x:=cell_setRow_other w.drew g X1 x hx;unfold World.cell? at this ⊢;rw[hW];exact this
  have:=dh W 33 sT ty 86 g (i*2) (n+1-i) dc ad 1 c 2 X1 86 [.string ⟨nm.toArray⟩,.int .u64 id] Tryz.underlying33 hszm hWg (by simp only[List.length_cons,List.length_nil,Nat.min_def];split<;>omega) (fun j v hj=>by
   have hab:∀j,(ad.add j).block≠g:=fun j=>by rw[bD];exact hb
   match j with|0=>simp at hj;subst hj;rw[hWc _ (hab 0)];exact h0|1=>simp at hj;subst hj;rw[hWc _ (hab 1)];exact h1|j+2=>simp at hj) (by simp only[List.length_cons,List.length_nil,hX1l];omega) (by intro v hv;simp only[List.mem_cons,List.not_mem_nil,or_false]at hv;rcases hv with rfl|rfl<;>rfl);rw[this,hX2];congr 2;simp only[Nat.min_def];split<;>omega
 have hzr:∀w,(Go.sizeOf 86).run Tryz.prog w=.ok 2 w:=fun w=>by rw[qd hi' w,hsz]
 have hov:∀W:World,W.heap=w.heap→∀o lb cb,(callFunc 205 #[.slice (some ad) 1 c,.slice (some ⟨g,o,none⟩) lb cb]).run Tryz.prog W=.ok (.value (.bool false)) W:=fun W hW o lb cb=>by rw[run_callFunc_extern Tryz.func205 (by kernel_rfl) (by kernel_rfl) (by kernel_rfl) (e:=Extern.SlicesOverlaps.overlaps #[32,32] #[4]) (by kernel_rfl),jQ W 32 4 86 Tryz.underlying32 2 hzr ad ⟨g,o,none⟩ 1 c lb cb hb (va:=.string ⟨nm.toArray⟩) (cur:=cur) (tb:=86) (by rw[add_zero']at h0;unfold World.cell? at h0 ⊢;rw[hW];exact h0) (by rw[hW];exact hg0) (by omega)];rfl
 have key:∀Φ:Ending→World→Prop,(∀w',w'.heap=((w.setRow g X1).setRow g X2).heap→w'.os=w.os→w'.tape=w.tape→w'.output=w.output→Φ (.returned (.slice (some ⟨g,0,none⟩) (n+1) cap)) w')→Calls Tryz.prog 170 #[.slice (some ⟨g,0,none⟩) n cap,.int .i64 i,.slice (some ad) 1 c] w Φ:=by
  intro Φ hΦ;have q1:¬((i:Int)=(n:Int)):=by omega
  have q2:¬((cap:Int)<(n:Int)+1):=by omega
  have q3:(i:Int)≤(n:Int):=by omega
  have q4:(n:Int)+1≤(cap:Int):=by omega
  have q5:(0:Int)≤(n:Int)+1:=by omega
  have q6:(i:Int)+1≤(n:Int)+1:=by omega
  have q7:IntKind.i64.wrap ((n:Int)+1)=(n:Int)+1:=by rw[IntKind.wrap_i64];omega
  have q8:IntKind.i64.wrap ((i:Int)+1)=(i:Int)+1:=by rw[IntKind.wrap_i64];omega
  have q9:((n:Int)+1).toNat=n+1:=by omega
  have q10:((i:Int)+1).toNat=i+1:=by omega
  have q11:(0:Int)≤(i:Int)+1:=by omega
  have q12:¬(cap=i+1):=by omega
  have q13:¬(cap=i):=by omega
  have q14:(i:Int)≤(n:Int)+1:=by omega
  have mixed:Tryz.prog.follows .mixedOrders=true:=by kernel_rfl
  clear hcell hone hX1 hX2 htk hcur;go_enter Tryz.func170,Tryz.ntmps170;go_wp2_with(simp only[hov]);go_region_law_o(refine step_copy_runI rfl _ _ 33 33 rfl _ _ (by simp[Act.eval,Act.put]) (by simp[Act.eval,Act.put]) (hcp1 _ _ _ _) ?_);go_wp2_with(at_builtin;refine wpList_copy_runI _ rfl _ _ 33 32 rfl _ _ rfl rfl (hcp2 _ rfl _ _ _) ?_);exact hΦ _ rfl rfl rfl rfl
 have hAt:(cellW rows).take (i*2)=cur.toList.take (i*2):=by rw[←htk,List.take_take,Nat.min_eq_left (by omega)]
 have e1:X1.toList.take (i*2)=(cellW rows).take (i*2):=by rw[hX1,hAt];simp only[List.append_assoc];rw[List.take_append_of_le_length (by rw[List.length_take];omega),List.take_take,Nat.min_eq_left (by omega)]
 have e2:∃rest,X1.toList.drop (i*2+2)=cs++rest:=by refine⟨cur.toList.drop ((i+1)*2+cs.length),?_⟩;rw[hX1];simp only[List.append_assoc];rw[show i*2+2=(cur.toList.take ((i+1)*2)).length from by rw[List.length_take];omega,List.drop_left]
 obtain⟨rest,e2⟩:=e2;have hA2:((cellW rows).take (i*2)).length=i*2:=by rw[List.length_take];omega
 have e3:X2.toList=((cellW rows).take (i*2)++[Value.string ⟨nm.toArray⟩,Value.int .u64 id]++(cellW rows).drop (i*2))++rest:=by rw[hX2,e1,e2,hcse];simp only[List.append_assoc]
 have e4:((cellW rows).take (i*2)++[Value.string ⟨nm.toArray⟩,Value.int .u64 id]++(cellW rows).drop (i*2)).length=(n+1)*2:=by simp only[List.length_append,hA2,List.length_cons,List.length_nil,List.length_drop,hcl];omega
 have hX2l:X2.size=cap*2:=by rw[hX2];simp only[List.size_toArray,List.length_append,List.length_take,List.length_drop,Array.length_toList,hX1l,List.length_cons,List.length_nil];omega
 refine key _ fun w' hh ho ht hou=>⟨_,rfl,⟨e4,.inr ⟨g,cap,X2,rfl,Nat.zero_le _,?_,hroom,hcm,hX2l,?_⟩⟩,⟨ho,ht,hou,?_,?_⟩,fun b hb=>.inl hb⟩;·rw[hh];exact setRow_heap (w.setRow g X1) g X1 X2 _ _ (setRow_heap w g cur X1 _ _ hg0)
 ·rw[e3,←e4];exact List.take_left
 ·rw[hh];simp[World.setRow]
 ·intro k hk hne;have hkg:k≠g:=fun e=>hne (by rw[e];rfl);rw[hh,setRow_other _ g k _ hkg,setRow_other _ g k _ hkg]
theorem oJ:∃inf z,Tryz.prog.info? 84=some inf∧inf.zero=some z∧z.cells.size=inf.size∧inf.size=3∧inf.bytes=24:=by refine⟨_,_,rfl,rfl,?_,?_,?_⟩<;>kernel_rfl
theorem A9 (w:World) (V:Value) (rows:List (List PV)) (hs2:∀r∈rows,r.length=3) (hp:dx rows) (hsm:rows.length≤1000000) (n1 n2 n3:Int) (hown:w.ownsRow 0 84 3 V rows.length (cellW rows)) (ad:Addr) (c:Nat) (h0:w.cell? (ad.add 0)=some (.int .u64 n1)) (h1:w.cell? (ad.add 1)=some (.int .u64 n2)) (h2:w.cell? (ad.add 2)=some (.int .u64 n3)):Calls Tryz.prog 131 #[V,.int .i64 rows.length,.slice (some ad) 1 c] w fun r w'=>∃V',r=.returned V'∧w'.ownsRow 0 84 3 V' (rows.length+1) (cellW rows++[.int .u64 n1,.int .u64 n2,.int .u64 n3])∧w.grownBy w' V.ownBlock∧(∀b,V'.ownBlock=some b→V.ownBlock=some b∨w.heap.size≤b):=by
 obtain⟨inf,z,hi,hz,hzs,hsz,hby⟩:=oJ;have hsrc:Src Tryz.prog inf.size 34 (.slice (some ad) 1 c) 1 [.int .u64 n1,.int .u64 n2,.int .u64 n3] w:=by
  rw[hsz];refine Src.ofSlice w Tryz.underlying34 ad 1 c _ (by simp) (fun j u hj=>?_) (fun u hu=>?_);·match j with|0=>simp at hj;subst hj;exact h0|1=>simp at hj;subst hj;exact h1|2=>simp at hj;subst hj;exact h2|j+3=>simp at hj
  ·simp only[List.mem_cons,List.not_mem_nil,or_false]at hu;rcases hu with rfl|rfl|rfl<;>rfl
 rw[←hsz]at hown;obtain⟨v',w',hrun,hown',hg,hbl⟩:=pd w 34 34 34 84 inf z Tryz.underlying34 hi hz hzs (by omega) V rows.length (cellW rows) hown (.slice (some ad) 1 c) 1 _ hsrc (by unfold maxLen;omega) (by rw[hby];omega);rw[hsz]at hown' hown;have hfin:∃V',(Ending.returned v':Ending)=.returned V'∧w'.ownsRow 0 84 3 V' (rows.length+1) (cellW rows++[.int .u64 n1,.int .u64 n2,.int .u64 n3])∧w.grownBy w' V.ownBlock∧(∀b,V'.ownBlock=some b→V.ownBlock=some b∨w.heap.size≤b):=⟨v',rfl,hown',hg,fun b hb=>by
  rcases hbl with h|h;·rw[h]at hb;exact .inl hb
  ·rw[h]at hb;injection hb with hb;exact .inr (by omega)⟩;have key:∀Φ:Ending→World→Prop,Φ (.returned v') w'→Calls Tryz.prog 131 #[V,.int .i64 rows.length,.slice (some ad) 1 c] w Φ:=by
  intro Φ hΦ;rcases hown.2 with⟨rfl,hn⟩|⟨g,cap,cur,rfl,hb0,hg0,hnc,hcm,hcs,htk⟩;·obtain rfl:rows=[]:=List.eq_nil_of_length_eq_zero hn;simp only[List.length_nil];clear hown hbl hg hown' hfin;go_enter Tryz.func131,Tryz.ntmps131;go_wp2_with(at_builtin;refine Lib.wpList_append_run _ rfl _ _ _ _ rfl _ _ rfl rfl _ _ hrun ?_);all_goals exact hΦ
  ·generalize hn:rows.length=n at*;have e1:(0:Int)≤(n:Int):=by omega
   have e2:(n:Int)≤(n:Int):=by omega
   clear hown hbl hg hown' hfin;go_enter Tryz.func131,Tryz.ntmps131;go_wp2_with(at_builtin;refine Lib.wpList_append_run _ rfl _ _ _ _ rfl _ _ rfl rfl _ _ hrun ?_);all_goals exact hΦ
 exact key _ hfin
set_option maxHeartbeats 8000000 in theorem yA (w:World) (rows:List (List PV)) (hs2:∀r∈rows,r.length=3) (hp:dx rows) (i n:Nat) (hn:rows.length=n) (hi:i<n) (hsm:n≤1000000) (n1 n2 n3:Int) (g cap:Nat) (cur:Array Value) (hg0:w.heap[g]?=some (.cells cur 84 (0,0))) (hcm:cap≤maxLen) (hcs:cur.size=cap*3) (htk:cur.toList.take (n*3)=cellW rows) (hroom:n+1≤cap) (ad:Addr) (c:Nat) (hb:ad.block≠g) (h0:w.cell? (ad.add 0)=some (.int .u64 n1)) (h1:w.cell? (ad.add 1)=some (.int .u64 n2)) (h2:w.cell? (ad.add 2)=some (.int .u64 n3)):Calls Tryz.prog 131 #[.slice (some ⟨g,0,none⟩) n cap,.int .i64 i,.slice (some ad) 1 c] w fun r w'=>∃V',r=.returned V'∧w'.ownsRow 0 84 3 V' (n+1) ((cellW rows).take (i*3)++[.int .u64 n1,.int .u64 n2,.int .u64 n3]++(cellW rows).drop (i*3))∧w.grownBy w' (Value.slice (some ⟨g,0,none⟩) n cap).ownBlock∧(∀b,V'.ownBlock=some b→(Value.slice (some ⟨g,0,none⟩) n cap).ownBlock=some b∨w.heap.size≤b):=by
 obtain⟨inf,z,hi',hz,hzs,hsz,hby⟩:=oJ;have hszm:(Tryz.prog.info? 84).map (·.size)=some 3:=by rw[hi'];simp[hsz]
 have hcl:(cellW rows).length=n*3:=by rw[fq hs2,hn]
 obtain⟨cs,hcse⟩:∃cs,cs=(cellW rows).drop (i*3):=⟨_,rfl⟩;have hcsl:cs.length=(n-i)*3:=by rw[hcse,List.length_drop,hcl];omega
 have hcur:cur.toList.length=cap*3:=by simpa using hcs
 have hone:=mM hp;obtain⟨X1,hX1⟩:∃X1,X1=(cur.toList.take ((i+1)*3)++cs++cur.toList.drop ((i+1)*3+cs.length)).toArray:=⟨_,rfl⟩;have hX1l:X1.size=cap*3:=by rw[hX1];simp only[List.size_toArray,List.length_append,List.length_take,List.length_drop,hcur,hcsl];omega
 have hcell:∀j v,cs[j]?=some v→w.cell? ((⟨g,i*3,none⟩:Addr).add j)=some v:=by
  intro j v hj;rw[Addr.add_lit];have hjl:j<cs.length:=(List.getElem?_eq_some_iff.1 hj).1;rw[hcse,List.getElem?_drop,←htk,List.getElem?_take]at hj;split at hj;·simp only[World.cell?,hg0];simpa using hj
  ·cases hj
 have hcp1:∀sT ty dc sc,(Builtin.copy_ #[34,sT] ty #[.slice (some ⟨g,(i+1)*3,none⟩) (n-i) dc,.slice (some ⟨g,i*3,none⟩) (n+1-i) sc]).run Tryz.prog w.drew=.ok (goInt (n-i)) (w.drew.setRow g X1):=fun sT ty dc sc=>by have:=dh w.drew 34 sT ty 84 g ((i+1)*3) (n-i) dc ⟨g,i*3,none⟩ (n+1-i) sc 3 cur 84 cs Tryz.underlying34 hszm hg0 (by rw[hcsl];congr 1;simp only[Nat.min_def];split<;>omega) hcell (by rw[hcsl,hcs];omega) (fun v hv=>hone v (by rw[hcse]at hv;exact List.mem_of_mem_drop hv));rw[this,hX1];congr 2;simp only[Nat.min_def];split<;>omega
 obtain⟨X2,hX2⟩:∃X2,X2=(X1.toList.take (i*3)++[Value.int .u64 n1,Value.int .u64 n2,Value.int .u64 n3]++X1.toList.drop (i*3+3)).toArray:=⟨_,rfl⟩;have hcp2:∀W:World,W.heap=(w.drew.setRow g X1).heap→∀sT ty dc,(Builtin.copy_ #[34,sT] ty #[.slice (some ⟨g,i*3,none⟩) (n+1-i) dc,.slice (some ad) 1 c]).run Tryz.prog W=.ok (goInt 1) (W.setRow g X2):=fun W hW sT ty dc=>by
  have hWg:W.heap[g]?=some (.cells X1 84 (0,0)):=by rw[hW];exact setRow_heap w.drew g cur X1 _ _ hg0
  have hWc:∀x:Addr,x.block≠g→W.cell? x=w.cell? x:=fun x hx=>by have:(w.drew.setRow g X1).cell? x=w.drew.cell? x:=cell_setRow_other w.drew g X1 x hx;unfold World.cell? at this ⊢;rw[hW];exact this
  have:=dh W 34 sT ty 84 g (i*3) (n+1-i) dc ad 1 c 3 X1 84 [.int .u64 n1,.int .u64 n2,.int .u64 n3] Tryz.underlying34 hszm hWg (by simp only[List.length_cons,List.length_nil,Nat.min_def];split<;>omega) (fun j v hj=>by
   have hab:∀j,(ad.add j).block≠g:=fun j=>by rw[bD];exact hb
   match j with|0=>simp at hj;subst hj;rw[hWc _ (hab 0)];exact h0|1=>simp at hj;subst hj;rw[hWc _ (hab 1)];exact h1|2=>simp at hj;subst hj;rw[hWc _ (hab 2)];exact h2|j+3=>simp at hj) (by simp only[List.length_cons,List.length_nil,hX1l];omega) (by intro v hv;simp only[List.mem_cons,List.not_mem_nil,or_false]at hv;rcases hv with rfl|rfl|rfl<;>rfl);rw[this,hX2];congr 2;simp only[Nat.min_def];split<;>omega
 have hzr:∀w,(Go.sizeOf 84).run Tryz.prog w=.ok 3 w:=fun w=>by rw[qd hi' w,hsz]
 have hov:∀W:World,W.heap=w.heap→∀o lb cb,(callFunc 164 #[.slice (some ad) 1 c,.slice (some ⟨g,o,none⟩) lb cb]).run Tryz.prog W=.ok (.value (.bool false)) W:=fun W hW o lb cb=>by rw[run_callFunc_extern Tryz.func164 (by kernel_rfl) (by kernel_rfl) (by kernel_rfl) (e:=Extern.SlicesOverlaps.overlaps #[34,34] #[4]) (by kernel_rfl),jQ W 34 4 84 Tryz.underlying34 3 hzr ad ⟨g,o,none⟩ 1 c lb cb hb (va:=.int .u64 n1) (cur:=cur) (tb:=84) (by rw[add_zero']at h0;unfold World.cell? at h0 ⊢;rw[hW];exact h0) (by rw[hW];exact hg0) (by omega)];rfl
 have key:∀Φ:Ending→World→Prop,(∀w',w'.heap=((w.setRow g X1).setRow g X2).heap→w'.os=w.os→w'.tape=w.tape→w'.output=w.output→Φ (.returned (.slice (some ⟨g,0,none⟩) (n+1) cap)) w')→Calls Tryz.prog 131 #[.slice (some ⟨g,0,none⟩) n cap,.int .i64 i,.slice (some ad) 1 c] w Φ:=by
  intro Φ hΦ;have q1:¬((i:Int)=(n:Int)):=by omega
  have q2:¬((cap:Int)<(n:Int)+1):=by omega
  have q3:(i:Int)≤(n:Int):=by omega
  have q4:(n:Int)+1≤(cap:Int):=by omega
  have q5:(0:Int)≤(n:Int)+1:=by omega
  have q6:(i:Int)+1≤(n:Int)+1:=by omega
  have q7:IntKind.i64.wrap ((n:Int)+1)=(n:Int)+1:=by rw[IntKind.wrap_i64];omega
  have q8:IntKind.i64.wrap ((i:Int)+1)=(i:Int)+1:=by rw[IntKind.wrap_i64];omega
  have q9:((n:Int)+1).toNat=n+1:=by omega
  have q10:((i:Int)+1).toNat=i+1:=by omega
  have q11:(0:Int)≤(i:Int)+1:=by omega
  have q12:¬(cap=i+1):=by omega
  have q13:¬(cap=i):=by omega
  have q14:(i:Int)≤(n:Int)+1:=by omega
  have mixed:Tryz.prog.follows .mixedOrders=true:=by kernel_rfl
  clear hcell hone hX1 hX2 htk hcur;go_enter Tryz.func131,Tryz.ntmps131;go_wp2_with(simp only[hov]);go_region_law_o(refine step_copy_runI rfl _ _ 34 34 rfl _ _ (by simp[Act.eval,Act.put]) (by simp[Act.eval,Act.put]) (hcp1 _ _ _ _) ?_);go_wp2_with(at_builtin;refine wpList_copy_runI _ rfl _ _ 34 34 rfl _ _ rfl rfl (hcp2 _ rfl _ _ _) ?_);exact hΦ _ rfl rfl rfl rfl
 have hAt:(cellW rows).take (i*3)=cur.toList.take (i*3):=by rw[←htk,List.take_take,Nat.min_eq_left (by omega)]
 have e1:X1.toList.take (i*3)=(cellW rows).take (i*3):=by rw[hX1,hAt];simp only[List.append_assoc];rw[List.take_append_of_le_length (by rw[List.length_take];omega),List.take_take,Nat.min_eq_left (by omega)]
 have e2:∃rest,X1.toList.drop (i*3+3)=cs++rest:=by refine⟨cur.toList.drop ((i+1)*3+cs.length),?_⟩;rw[hX1];simp only[List.append_assoc];rw[show i*3+3=(cur.toList.take ((i+1)*3)).length from by rw[List.length_take];omega,List.drop_left]
 obtain⟨rest,e2⟩:=e2;have hA2:((cellW rows).take (i*3)).length=i*3:=by rw[List.length_take];omega
 have e3:X2.toList=((cellW rows).take (i*3)++[Value.int .u64 n1,Value.int .u64 n2,Value.int .u64 n3]++(cellW rows).drop (i*3))++rest:=by rw[hX2,e1,e2,hcse];simp only[List.append_assoc]
 have e4:((cellW rows).take (i*3)++[Value.int .u64 n1,Value.int .u64 n2,Value.int .u64 n3]++(cellW rows).drop (i*3)).length=(n+1)*3:=by simp only[List.length_append,hA2,List.length_cons,List.length_nil,List.length_drop,hcl];omega
 have hX2l:X2.size=cap*3:=by rw[hX2];simp only[List.size_toArray,List.length_append,List.length_take,List.length_drop,Array.length_toList,hX1l,List.length_cons,List.length_nil];omega
 refine key _ fun w' hh ho ht hou=>⟨_,rfl,⟨e4,.inr ⟨g,cap,X2,rfl,Nat.zero_le _,?_,hroom,hcm,hX2l,?_⟩⟩,⟨ho,ht,hou,?_,?_⟩,fun b hb=>.inl hb⟩;·rw[hh];exact setRow_heap (w.setRow g X1) g X1 X2 _ _ (setRow_heap w g cur X1 _ _ hg0)
 ·rw[e3,←e4];exact List.take_left
 ·rw[hh];simp[World.setRow]
 ·intro k hk hne;have hkg:k≠g:=fun e=>hne (by rw[e];rfl);rw[hh,setRow_other _ g k _ hkg,setRow_other _ g k _ hkg]
set_option maxHeartbeats 8000000 in
theorem xQ (w:World) (rows:List (List PV)) (hs2:∀r∈rows,r.length=3) (hp:dx rows) (i n:Nat) (hn:rows.length=n) (hi:i < n) (hsm:n≤1000000) (n1 n2 n3:Int)
 (g cap:Nat) (cur:Array Value) (hg0:w.heap[g]? = some (.cells cur 84 (0,0))) (hnc:n≤cap) (hcs:cur.size=cap*3) (htk:cur.toList.take (n*3)=cellW rows) (hroom:cap < n+1) (ad:Addr) (c:Nat)
 (h0:w.cell? (ad.add 0)=some (.int .u64 n1)) (h1:w.cell? (ad.add 1)=some (.int .u64 n2)) (h2:w.cell? (ad.add 2)=some (.int .u64 n3)) :
 Calls Tryz.prog 131 #[.slice (some ⟨g,0,none⟩) n cap,.int .i64 i,.slice (some ad) 1 c] w fun r w'=>∃V',r=.returned V' ∧
  w'.ownsRow 0 84 3 V' (n+1) ((cellW rows).take (i*3)++[.int .u64 n1,.int .u64 n2,.int .u64 n3]++(cellW rows).drop (i*3))∧w.grownBy w' (Value.slice (some ⟨g,0,none⟩) n cap).ownBlock∧(∀b,V'.ownBlock=some b→(Value.slice (some ⟨g,0,none⟩) n cap).ownBlock=some b∨w.heap.size≤b):=by
 obtain⟨inf,z,hi',hz,hzs,hsz,hby⟩:=oJ
 have hszm:(Tryz.prog.info? 84).map (·.size)=some 3:=by rw [hi'];simp[hsz]
 have hcl:(cellW rows).length=n*3:=by rw [fq hs2,hn]
 obtain⟨cs,hcse⟩:∃cs,cs=(cellW rows).drop (i*3):=⟨_,rfl⟩
 have hcsl:cs.length=(n - i)*3:=by rw [hcse,List.length_drop,hcl];omega
 have hcur:cur.toList.length=cap*3:=by simpa using hcs
 have hone:=mM hp
 have hgw:g < w.heap.size:=(Array.getElem?_eq_some_iff.1 hg0).1
 have hadw:ad.block < w.heap.size:=by
  have:=h0
  rw [add_zero']at this
  unfold World.cell? at this
  split at this
  ·rename_i hq;exact (Array.getElem?_eq_some_iff.1 hq).1
  ·cases this
 have hcellA:∀j v,(cellW rows)[j]? = some v→w.cell? ⟨g,j,none⟩=some v:=by
  intro j v hj
  rw [←htk,List.getElem?_take]at hj
  split at hj
  ·simp only [World.cell?,hg0]
   simpa using hj
  ·cases hj
 have hold:(Builtin.firstCells inf.size i (.slice (some ⟨g,0,none⟩) i cap)).run Tryz.prog w.drew=.ok ((cellW rows).take (i*3)).toArray w.drew:=by
  rw [hsz]
  exact run_firstCells_some w.drew 3 i ⟨g,0,none⟩ i cap _ (by rw [List.length_take];omega) (fun j v hj=>by
   rw [Addr.add_lit]
   rw [List.getElem?_take]at hj
   split at hj
   ·rw [Nat.zero_add];exact hcellA j v hj
   ·cases hj)
 have hkk:(n:Int)+1 - (i:Int)=((n+1 - i:Nat):Int):=by omega
 have hrz:∀ty,(Builtin.append_ #[34,3] ty #[.slice (some ⟨g,0,none⟩) i cap,.int .i64 ((n:Int)+1 - (i:Int))]).run Tryz.prog w =
  .ok (.slice (some ⟨w.heap.size,0,none⟩) (n+1) (grownCap w (n+1) cap 84)) (w.drew.alloc (.cells (((cellW rows).take (i*3)).toArray++Builtin.zeroCells z.cells (n+1 - i)++Builtin.zeroCells z.cells (grownCap w (n+1) cap 84 - (n+1))) 84)):=fun ty=>by
  have h:=Lib.run_append_grow_zeros w 34 3 ty 84 inf z .i64 .i64 Tryz.underlying34 Tryz.underlying3 hi' hz (some ⟨g,0,none⟩) i cap ((cellW rows).take (i*3)) hold (n+1 - i) (by omega) (by omega) (by omega) (by omega) (by rw [hby];omega) (by rw [hby];exact growslice_fits (by omega) (by omega))
  rw [show i+(n+1 - i)=n+1 from by omega]at h
  rw [hkk]
  exact h
 have hGn:n+1≤grownCap w (n+1) cap 84:=grownCap_ge w _ _ _
 have hGm:grownCap w (n+1) cap 84≤maxLen:=grownCap_le_maxLen w (n+1) cap _ (by unfold maxLen;omega)
 generalize grownCap w (n+1) cap 84=G at hrz hGn hGm
 obtain⟨ROW,hROW⟩:∃ROW,ROW=((cellW rows).take (i*3)).toArray++Builtin.zeroCells z.cells (n+1 - i)++Builtin.zeroCells z.cells (G - (n+1)):=⟨_,rfl⟩
 rw [←hROW]at hrz
 have hRl:ROW.size=G*3:=by
  rw [hROW];simp only [Array.size_append,List.size_toArray,List.length_take,hcl,size_zeroCells,hzs,hsz];omega
 have hRt:ROW.toList.take (i*3)=(cellW rows).take (i*3):=by
  rw [hROW]
  simp only [Array.toList_append,List.append_assoc]
  rw [List.take_append_of_le_length (by rw [List.length_take,hcl];omega),List.take_of_length_le (by rw [List.length_take];omega)]
 obtain⟨N,hN⟩:∃N,N=w.heap.size:=⟨_,rfl⟩
 obtain⟨W1,hW1⟩:∃W1,W1=w.drew.alloc (.cells ROW 84):=⟨_,rfl⟩
 have hW1N:W1.heap[N]? = some (.cells ROW 84 (0,0)):=by rw [hW1,hN];exact heap_alloc_new w.drew _
 have hW1o:∀k,k < w.heap.size→W1.heap[k]? = w.heap[k]?:=fun k hk=>by rw [hW1];exact Below.heap_alloc w.drew _ k hk
 obtain⟨X1,hX1⟩:∃X1,X1=(ROW.toList.take (i*3)++[Value.int .u64 n1,Value.int .u64 n2,Value.int .u64 n3]++ROW.toList.drop (i*3+3)).toArray:=⟨_,rfl⟩
 have hX1l:X1.size=G*3:=by
  rw [hX1];simp only [List.size_toArray,List.length_append,List.length_take,List.length_drop,Array.length_toList,hRl,List.length_cons,List.length_nil];omega
 have hold':∀W:World,(∀k,k < w.heap.size→W.heap[k]? = w.heap[k]?)→∀x:Addr,x.block < w.heap.size→W.cell? x=w.cell? x:=fun W hW x hx=>by
  unfold World.cell?
  rw [hW _ hx]
 have hcpA:∀W:World,W.heap=W1.heap→∀sT ty dc,(Builtin.copy_ #[34,sT] ty #[.slice (some ⟨N,i*3,none⟩) (n+1 - i) dc,.slice (some ad) 1 c]).run Tryz.prog W=.ok (goInt 1) (W.setRow N X1):=fun W hW sT ty dc=>by
  have:=dh W 34 sT ty 84 N (i*3) (n+1 - i) dc ad 1 c 3 ROW 84 [.int .u64 n1,.int .u64 n2,.int .u64 n3] Tryz.underlying34 hszm (by rw [hW];exact hW1N)
   (by simp only [List.length_cons,List.length_nil,Nat.min_def];split<;>omega)
   (fun j v hj=>by
    have hab:∀j,(ad.add j).block < w.heap.size:=fun j=>by rw [bD];exact hadw
    have ho:∀k,k < w.heap.size→W.heap[k]? = w.heap[k]?:=fun k hk=>by rw [hW];exact hW1o k hk
    match j with
    | 0=>simp at hj;subst hj;rw [hold' W ho _ (hab 0)];exact h0
    | 1=>simp at hj;subst hj;rw [hold' W ho _ (hab 1)];exact h1
    | 2=>simp at hj;subst hj;rw [hold' W ho _ (hab 2)];exact h2
    |j+3=>simp at hj)
   (by simp only [List.length_cons,List.length_nil,hRl];omega) (by
    intro v hv
    simp only [List.mem_cons,List.not_mem_nil,or_false]at hv
    rcases hv with rfl | rfl | rfl<;>rfl)
  rw [this,hX1]
  congr 2
  simp only [Nat.min_def];split<;>omega
 obtain⟨X2,hX2⟩:∃X2,X2=(X1.toList.take ((i+1)*3)++cs++X1.toList.drop ((i+1)*3+cs.length)).toArray:=⟨_,rfl⟩
 have hX2l:X2.size=G*3:=by
  rw [hX2];simp only [List.size_toArray,List.length_append,List.length_take,List.length_drop,Array.length_toList,hX1l,hcsl];omega
 have hW2o:∀k,k < w.heap.size→(W1.setRow N X1).heap[k]? = w.heap[k]?:=fun k hk=>by rw [setRow_other _ N k _ (by omega)];exact hW1o k hk
 have hcpB:∀W:World,W.heap=(W1.setRow N X1).heap→∀sT ty dc sc,(Builtin.copy_ #[34,sT] ty #[.slice (some ⟨N,(i+1)*3,none⟩) (n - i) dc,.slice (some ⟨g,i*3,none⟩) (n - i) sc]).run Tryz.prog W=.ok (goInt (n - i)) (W.setRow N X2):=fun W hW sT ty dc sc=>by
  have:=dh W 34 sT ty 84 N ((i+1)*3) (n - i) dc ⟨g,i*3,none⟩ (n - i) sc 3 X1 84 cs Tryz.underlying34 hszm
   (by rw [hW];exact setRow_heap W1 N ROW X1 _ _ hW1N)
   (by rw [hcsl];congr 1;simp only [Nat.min_def];split<;>omega)
   (fun j v hj=>by
    rw [hold' W (fun k hk=>by rw [hW];exact hW2o k hk) _ (by rw [bD];exact hgw),Addr.add_lit]
    rw [hcse,List.getElem?_drop]at hj
    exact hcellA _ v hj)
   (by rw [hcsl,hX1l];omega) (fun v hv=>hone v (by rw [hcse]at hv;exact List.mem_of_mem_drop hv))
  rw [this,hX2]
  congr 2
  simp only [Nat.min_def];split<;>omega
 have key:∀Φ:Ending→World→Prop,(∀w',w'.heap=((W1.setRow N X1).setRow N X2).heap→w'.os=w.os→w'.tape=w.tape→w'.output=w.output→Φ (.returned (.slice (some ⟨N,0,none⟩) (n+1) G)) w') →
  Calls Tryz.prog 131 #[.slice (some ⟨g,0,none⟩) n cap,.int .i64 i,.slice (some ad) 1 c] w Φ:=by
  intro Φ hΦ
  have q1:¬ ((i:Int)=(n:Int)):=by omega
  have q2:(cap:Int) < (n:Int)+1:=by omega
  have q3:(i:Int)≤(n:Int):=by omega
  have q5:(0:Int)≤(n:Int)+1:=by omega
  have q6:(i:Int)+1≤(n:Int)+1:=by omega
  have q7:IntKind.i64.wrap ((n:Int)+1)=(n:Int)+1:=by rw [IntKind.wrap_i64];omega
  have q8:IntKind.i64.wrap ((i:Int)+1)=(i:Int)+1:=by rw [IntKind.wrap_i64];omega
  have q9:IntKind.i64.wrap ((n:Int)+1 - (i:Int))=(n:Int)+1 - (i:Int):=by rw [IntKind.wrap_i64];omega
  have q10:((i:Int)+1).toNat=i+1:=by omega
  have q11:(0:Int)≤(i:Int)+1:=by omega
  have q12:¬ (G=i+1):=by omega
  have q13:¬ (G=i):=by omega
  have q14:(i:Int)≤(n:Int)+1:=by omega
  have q15:¬ (cap=i):=by omega
  have mixed:Tryz.prog.follows .mixedOrders=true:=by kernel_rfl
  have hΦ' : Φ (.returned (.slice (some ⟨N,0,none⟩) (n+1) G)) (((W1.setRow N X1).drew).setRow N X2):=hΦ _ rfl (by rw [hW1];rfl) (by rw [hW1];rfl) (by rw [hW1];rfl)
  rw [←hW1]at hrz
  subst hN
  clear hkk hΦ hold hone hX1 hX2 htk hcur hROW hRt hW1N hW1o hW2o hold' hcellA hW1
  go_enter Tryz.func131,Tryz.ntmps131
  go_wp2_with (first
   | (at_builtin;refine Lib.wpList_append_run _ rfl _ _ _ _ rfl _ _ rfl rfl _ _ (hrz _) ?_)
   | (at_builtin;refine wpList_copy_runI _ rfl _ _ 34 34 rfl _ _ rfl rfl (hcpA _ rfl _ _ _) ?_))
  go_region_law_o (refine step_copy_runI rfl _ _ 34 34 rfl (.slice (some ⟨w.heap.size,(i+1)*3,none⟩) (n - i) (G - (i+1))) (.slice (some ⟨g,i*3,none⟩) (n - i) (cap - i)) (by simp[Act.eval,Act.put]) (by simp[Act.eval,Act.put]) (hcpB (W1.setRow w.heap.size X1).drew rfl 34 3 (G - (i+1)) (cap - i)) ?_)
  go_wp2
  exact hΦ'
 have e1:X1.toList.take ((i+1)*3)=(cellW rows).take (i*3)++[Value.int .u64 n1,Value.int .u64 n2,Value.int .u64 n3]:=by
  rw [hX1,hRt]
  have hl:((cellW rows).take (i*3)++[Value.int .u64 n1,Value.int .u64 n2,Value.int .u64 n3]).length=(i+1)*3:=by
   simp only [List.length_append,List.length_take,hcl,List.length_cons,List.length_nil];omega
  rw [←hl]
  exact List.take_left
 have e3:X2.toList=((cellW rows).take (i*3)++[Value.int .u64 n1,Value.int .u64 n2,Value.int .u64 n3]++(cellW rows).drop (i*3))++X1.toList.drop ((i+1)*3+cs.length):=by
  rw [hX2,e1,hcse]
 have e4:((cellW rows).take (i*3)++[Value.int .u64 n1,Value.int .u64 n2,Value.int .u64 n3]++(cellW rows).drop (i*3)).length=(n+1)*3:=by
  simp only [List.length_append,List.length_take,List.length_cons,List.length_nil,List.length_drop,hcl];omega
 refine key _ fun w' hh ho ht hou=>⟨_,rfl,⟨e4,.inr ⟨N,G,X2,rfl,Nat.zero_le _,?_,hGn,hGm,hX2l,?_⟩⟩,⟨ho,ht,hou,?_,?_⟩,fun b hb=>.inr ?_⟩
 ·rw [hh]
  exact setRow_heap (W1.setRow N X1) N X1 X2 _ _ (setRow_heap W1 N ROW X1 _ _ hW1N)
 ·rw [e3,←e4];exact List.take_left
 ·rw [hh,hW1];simp[World.setRow]
 ·intro k hk hne
  rw [hh,setRow_other _ N k _ (by omega)]
  exact hW2o k hk
 ·simp[Value.ownBlock]at hb;omega
theorem gT (l:List Pn):dx (aF l):=by intro r hr p hp;simp only[aF,List.mem_map]at hr;obtain⟨e,_,rfl⟩:=hr;simp only[rowP,List.mem_cons,List.not_mem_nil,or_false]at hp;rcases hp with rfl|rfl|rfl<;>rfl
def AG (l:List Pn) (i:Nat) (e:Pn):List Pn:=l.take i++e::l.drop i
theorem CK (l:List Pn) (i:Nat) (e:Pn):cellW (aF (AG l i e))=(cellW (aF l)).take (i*3)++[Value.int .u64 e.i,Value.int .u64 e.v,Value.int .u64 e.u]++(cellW (aF l)).drop (i*3):=by
 unfold AG;have h1:aF (l.take i)=(aF l).take i:=by simp[aF,List.map_take]
 have h2:aF (l.drop i)=(aF l).drop i:=by simp[aF,List.map_drop]
 rw[show l.take i++e::l.drop i=l.take i++([e]++l.drop i) from rfl,eH,eH,fK,fK,h1,h2,kT i (dk l),sV i (dk l),List.append_assoc];rfl
@[simp] noncomputable def KT:List AV→Option (Prop×AV)|[.fr e a,.pv (.int .i64 i),.pv (.ro [[.int .u64 x,.int .u64 y,.int .u64 z]])]=>if e=84 then(dec rowP a).map fun l=>(0≤i∧i≤l.length∧l.length≤1000000,.fr 84 (aF (AG l i.toNat ⟨x,y,z⟩))) else none|_=>none
theorem NL:Du Tryz.prog 131 KT:=by
 intro ys φ r h hφ;unfold KT at h;split at h
 ·rename_i e ra i n1 n2 n3;split at h
  ·rename_i hef;subst hef;obtain⟨l,hl,h⟩:=Option.map_eq_some_iff.1 h;cases h;cases bf hl;obtain⟨h0,h1,h2⟩:=hφ;obtain⟨k,rfl⟩:∃k:Nat,i=(k:Int):=⟨i.toNat,by omega⟩;simp only[Int.toNat_natCast];obtain⟨inf,z,hi,hz,hzs,hsz,hby⟩:=oJ;have hins:(AG l k ⟨n1,n2,n3⟩).length=l.length+1:=by unfold AG;simp;omega
   refine AH hi (rows:=aF l) (rows':=aF (AG l k ⟨n1,n2,n3⟩)) (by rw[hsz];exact dk l) (gT l) (by rw[hsz];exact dk _) (gT _) [.int .i64 (k:Int),.ro [[.int .u64 n1,.int .u64 n2,.int .u64 n3]]] ?_;intro w S V vals hown hS hlen hv;rw[hsz]at hown ⊢;match vals,hlen with
   |[v1,v2],_=>
    have e1:=(hv 0 v1 _ rfl rfl).aI;subst e1;obtain⟨A,c,rfl,hc,hne⟩:=(hv 1 v2 _ rfl rfl).fM;obtain⟨ad,sz,us,rfl,g1,g2,g3,g4,g5⟩:=hne (by simp);have hs2:sz=3:=(g2 [.int .u64 n1,.int .u64 n2,.int .u64 n3] (by simp)).symm;subst hs2;have k0:w.cell? (ad.add 0)=some (.int .u64 n1):=by rw[←(g5 0 0 _ _ rfl rfl).aI];exact g3 0 0 (by simp) (by omega)
    have k1:w.cell? (ad.add 1)=some (.int .u64 n2):=by rw[←(g5 0 1 _ _ rfl rfl).aI];exact g3 0 1 (by simp) (by omega)
    have k2:w.cell? (ad.add 2)=some (.int .u64 n3):=by rw[←(g5 0 2 _ _ rfl rfl).aI];exact g3 0 2 (by simp) (by omega)
    have hb:=(hS _ g1).2;rw[cL,hins,CK];rw[cL]at hown;rcases Nat.lt_or_ge k l.length with hk|hk
    ·rcases hown.2 with⟨_,hn⟩|⟨g,cap,cur,rfl,hb0,hg0,hnc,hcm,hcs,htk⟩;·omega
     ·have hbg:ad.block≠g:=fun e=>hb (by rw[e];rfl);rcases Nat.lt_or_ge cap (l.length+1) with hr|hr;·exact xQ w (aF l) (dk l) (gT l) k l.length (cL l) hk h2 n1 n2 n3 g cap cur hg0 hnc hcs htk hr ad c k0 k1 k2
      ·exact yA w (aF l) (dk l) (gT l) k l.length (cL l) hk h2 n1 n2 n3 g cap cur hg0 hcm hcs htk hr ad c hbg k0 k1 k2
    ·have hkl:k=l.length:=by omega
     subst hkl;have hcl:(cellW (aF l)).length=l.length*3:=by rw[fq (dk l),cL]
     rw[List.take_of_length_le (by omega),List.drop_of_length_le (by omega),List.append_nil];have:=A9 w V (aF l) (dk l) (gT l) (by simpa using h2) n1 n2 n3 (by rw[cL];exact hown) ad c k0 k1 k2;rw[cL]at this;exact this
  ·cases h
 ·cases h
theorem jW:∀a:List UInt8,Op.bytesLess a a=false|[]=>rfl|a::x=>by simp[Op.bytesLess,jW x]
theorem lL:∀a b c:List UInt8,Op.bytesLess a b=true→Op.bytesLess b c=true→Op.bytesLess a c=true
 |_,[],_,h,_=>by simp[Op.bytesLess]at h|_,_::_,[],_,h=>by simp[Op.bytesLess]at h|[],_::_,_::_,_,_=>rfl|a::x,b::y,c::z,h1,h2=>by
  simp only[Op.bytesLess,Bool.or_eq_true,decide_eq_true_eq,Bool.and_eq_true,beq_iff_eq]at h1 h2 ⊢;rcases h1 with h1|⟨rfl,h1⟩
  ·rcases h2 with h2|⟨rfl,h2⟩;·exact .inl (UInt8.lt_trans h1 h2)
   ·exact .inl h1
  ·rcases h2 with h2|⟨rfl,h2⟩;·exact .inl h2
   ·exact .inr ⟨rfl,lL x y z h1 h2⟩
theorem B4:∀a b:List UInt8,Op.bytesLess a b=false→Op.bytesLess b a=false→a=b
 |[],[],_,_=>rfl|[],_::_,h,_=>by simp[Op.bytesLess]at h|_::_,[],_,h=>by simp[Op.bytesLess]at h|a::x,b::y,h1,h2=>by
  simp only[Op.bytesLess,Bool.or_eq_false_iff,decide_eq_false_iff_not,Bool.and_eq_false_iff,beq_eq_false_iff_ne]at h1 h2;have hab:a=b:=by apply UInt8.toNat_inj.1;have h3:¬a.toNat<b.toNat:=h1.1;have h4:¬b.toNat<a.toNat:=h2.1;omega
  subst hab;have h3:=h1.2.resolve_left (fun h=>h rfl);have h4:=h2.2.resolve_left (fun h=>h rfl);rw[B4 x y h3 h4]
theorem GY {a b:List UInt8} (h:Op.bytesLess a b=true):Op.bytesLess b a=false:=by cases hb:Op.bytesLess b a with|false=>rfl|true=>have:=lL a b a h hb;rw[jW]at this;cases this
theorem DS {a b:List UInt8} (h:Op.bytesLess a b=true):a≠b:=by rintro rfl;rw[jW]at h;cases h
structure En where
 n:List UInt8
 i:Int deriving DecidableEq
def fc (e:En):List PV:=[.str e.n,.int .u64 e.i]
theorem AN:∀a b,fc a=fc b→a=b:=by rintro⟨k,n⟩ ⟨k',n'⟩ h;simp only[fc,List.cons.injEq,PV.int.injEq,PV.str.injEq,true_and,and_true]at h;rw[h.1,h.2]
def aW (l:List En):List (List PV):=l.map fc
@[simp] theorem QB:aW []=[]:=rfl
@[simp] theorem dW (l:List En):(aW l).length=l.length:=by simp[aW]
theorem eK (l m:List En):aW (l++m)=aW l++aW m:=by simp[aW]
theorem eI (l:List En):∀r∈aW l,r.length=2:=by intro r hr;simp only[aW,List.mem_map]at hr;obtain⟨c,_,rfl⟩:=hr;rfl
theorem dE {l:List En}{i:Nat} (h:i<l.length):rowAt (aW l) (i:Int)=[.str l[i].n,.int .u64 l[i].i]:=by simp[rowAt,aW,h,fc]
@[simp] theorem SH (l:List En):dec fc (aW l)=some l:=ld AN l
theorem bQ {rows:List (List PV)}{l:List En} (h:dec fc rows=some l):rows=aW l:=kF h
theorem bh (l:List En):cT (aW l):=by intro r hr p hp;simp only[aW,List.mem_map]at hr;obtain⟨c,_,rfl⟩:=hr;simp only[fc,List.mem_cons,List.not_mem_nil,or_false]at hp;rcases hp with rfl|rfl<;>rfl
def vf (s:List UInt8):List PV:=[.str s]
theorem FN:∀a b,vf a=vf b→a=b:=by intro a b h;simpa[vf]using h
def m9 (l:List (List UInt8)):List (List PV):=l.map vf
@[simp] theorem QD:m9 []=[]:=rfl
@[simp] theorem JE (l:List (List UInt8)):(m9 l).length=l.length:=by simp[m9]
theorem FG {l:List (List UInt8)}{i:Nat} (h:i<l.length):rowAt (m9 l) (i:Int)=[.str l[i]]:=by simp[rowAt,m9,h,vf]
@[simp] theorem EU (l:List (List UInt8)):dec vf (m9 l)=some l:=ld FN l
theorem nb {rows:List (List PV)}{l:List (List UInt8)} (h:dec vf rows=some l):rows=m9 l:=kF h
@[simp] theorem dec_s1 (a:List UInt8):dec vf [[.str a]]=some [a]:=EU [a]
def eW (s:List UInt8):Bool:=decide (s≠[])&&decide (s.length≤64)
@[simp] noncomputable def GNm:List AV→Option (Prop×AV)|[.pv (.ro a)]=>(dec vf a).map fun l=>(l.length≤1000000000,.pv (.bool (l.all eW)))|_=>none
theorem Wg:aR Tryz.prog 120 GNm:=by
 intro ys φ r h hφ;unfold GNm at h;split at h
 ·rename_i ra;obtain⟨a,ha,h⟩:=Option.map_eq_some_iff.1 h;cases h;cases nb ha;refine aq aj (by kernel_rfl) (by conv=>lhs;reduce) (by simp) ?_;simp;refine au (fun i:Nat=>i≤a.length∧(a.take i).all eW=true) (fun i=>⟨[(0,.pv (.ro (m9 a))),(2,.pv (.bool false)),(5,.pv (.ro (m9 a))),(6,.pv (.int .i64 a.length)),(7,.pv (.int .i64 i))],[]⟩) (fun i=>a.length-i) [] 0 (by simp) ?_ ?_;·simp
  ·rintro i ⟨hi,ht⟩;have w2:IntKind.i64.wrap ((i:Int)+1)=(i:Int)+1:=wrap_i64 (by omega);by_cases hlt:i<a.length
   ·have r1:=FG hlt;have hno:eW a[i]=false→a.all eW=false:=by intro h0;rw[List.all_eq_false];exact⟨a[i],List.getElem_mem hlt,by simp[h0]⟩
    have hyes:eW a[i]=true→(a.take (i+1)).all eW=true:=by intro h0;rw[List.take_succ_eq_append_getElem hlt,List.all_append,ht];simp[h0]
    by_cases hz:a[i]=[];·have hf:=hno (by simp[eW,hz]);simp[w2,hlt,r1,hz,hf]
    ·by_cases hl:a[i].length≤64
     ·have hl':(a[i].length:Int)≤64:=by omega
      simp[w2,hlt,r1,hz,hl,hl'];exact⟨i+1,⟨by omega,by simpa using hyes (by simp[eW,hz,hl])⟩,by omega,by omega⟩
     ·have hl':¬(a[i].length:Int)≤64:=by omega
      have hf:=hno (by simp[eW,hl]);simp[w2,hlt,r1,hz,hl,hl',hf]
   ·rw[List.take_of_length_le (by omega)]at ht;simp[hlt,ht]
 ·cases h
@[simp] noncomputable def XJ:List AV→Option (Prop×AV)|[.pv (.str s)]=>some (True,.pv (.bool (eW s)))|_=>none
theorem YA:aR Tryz.prog 117 XJ:=by
 intro ys φ r h hφ;unfold XJ at h;split at h
 ·rename_i s;cases h;refine aq aj (by kernel_rfl) (by conv=>lhs;reduce) (by simp) ?_;by_cases hz:s=[];·subst hz;simp[eW]
  ·have h1:(1:Int)≤s.length:=by have:=List.length_pos_iff.2 hz;omega
   have hd:decide ((s.length:Int)≤64)=decide (s.length≤64):=by
    by_cases h:s.length≤64;·simp[h];omega
    ·simp[h];omega
   simp[eW,hz,h1,hd]
 ·cases h
def bk (l:List En):Bool:=l.all (fun e=>eW e.n&&decide (e.i≠0))&&decide (l.Pairwise fun a b=>Op.bytesLess a.n b.n=true∧a.i≠b.i)
theorem kJ (l:List En):bk l=true↔(∀e∈l,eW e.n=true∧e.i≠0)∧l.Pairwise fun a b=>Op.bytesLess a.n b.n=true∧a.i≠b.i:=by simp only[bk,Bool.and_eq_true,List.all_eq_true,decide_eq_true_eq]
theorem lF (l:List En) (e:En):bk (l++[e])=true↔bk l=true∧eW e.n=true∧e.i≠0∧∀x∈l,Op.bytesLess x.n e.n=true∧x.i≠e.i:=by
 simp only[kJ,List.pairwise_append,List.mem_append,List.mem_singleton,List.pairwise_singleton,true_and];constructor;·rintro⟨h1,h2,h3⟩;exact⟨⟨fun x hx=>h1 x (.inl hx),h2⟩,(h1 e (.inr rfl)).1,(h1 e (.inr rfl)).2,fun x hx=>h3 x hx e rfl⟩
 ·rintro⟨⟨h1,h2⟩,h3,h4,h5⟩;refine⟨?_,h2,?_⟩
  ·rintro x (hx|rfl);·exact h1 x hx
   ·exact⟨h3,h4⟩
  ·rintro x hx _ rfl;exact h5 x hx
theorem AT {l:List En} (k:Nat) (h:bk l=true):bk (l.take k)=true:=by rw[kJ]at h ⊢;exact⟨fun e he=>h.1 e (List.mem_of_mem_take he),h.2.sublist (List.take_sublist k l)⟩
theorem rj {l:List En}{i:Nat} (hlt:i<l.length) (h:¬(eW l[i].n=true∧l[i].i≠0∧∀x∈l.take i,Op.bytesLess x.n l[i].n=true∧x.i≠l[i].i)):bk l=false:=by cases hr:bk l with|false=>rfl|true=>have:=AT (i+1) hr;rw[List.take_succ_eq_append_getElem hlt,lF]at this;exact absurd this.2 h
theorem lT {l:List En}{i:Nat} (hlt:i<l.length) (h0:bk (l.take i)=true) (h1:eW l[i].n=true) (h2:l[i].i≠0) (h3:∀x∈l.take i,Op.bytesLess x.n l[i].n=true∧x.i≠l[i].i):bk (l.take (i+1))=true:=by rw[List.take_succ_eq_append_getElem hlt,lF];exact⟨h0,h1,h2,h3⟩
theorem yP {l:List En}{k:Nat} (hlt:k+1<l.length) (h0:bk (l.take (k+1))=true) (h:Op.bytesLess l[k].n l[k+1].n=true):∀x∈l.take (k+1),Op.bytesLess x.n l[k+1].n=true:=by
 have hk:k<l.length:=by omega
 intro x hx;rw[List.take_succ_eq_append_getElem hk,lF]at h0;rw[List.take_succ_eq_append_getElem hk,List.mem_append,List.mem_singleton]at hx;rcases hx with hx|rfl;·exact lL _ _ _ (h0.2.2.2 x hx).1 h
 ·exact h
def kk (l:List En):List (PV×AV):=(.int .u64 0,.agg [])::l.map fun e=>(.int .u64 e.i,.agg [])
theorem Et (l:List En) (n:Int):(getM (.int .u64 n) (kk l)).isSome=(decide (n=0)||l.any fun e=>decide (n=e.i)):=by
 unfold kk;have:∀l:List En,(getM (.int .u64 n) (l.map fun e=>(PV.int .u64 e.i,AV.agg []))).isSome=l.any fun e=>decide (n=e.i):=by intro l;induction l with|nil=>rfl|cons e l ih=>
  simp only[List.map_cons,getM,m8,List.any_cons];by_cases h:n=e.i;·simp[h]
  ·simp[h,ih]
 simp only[getM,m8];by_cases h:n=0;·simp[h]
 ·simp[h,this]
theorem Fi (l:List En) (k:PV):(getM k (kk l)).getD (.agg [])=.agg []:=by
 unfold kk;have:∀l:List En,(getM k (l.map fun e=>(PV.int .u64 e.i,AV.agg []))).getD (.agg [])=.agg []:=by intro l;induction l with|nil=>rfl|cons e l ih=>
  simp only[List.map_cons,getM];split;·rfl
  ·exact ih
 simp only[getM];split;·rfl
 ·exact this l
theorem yV:∀(es:List (PV×AV)) (k:PV) (v:AV),(getM k es).isSome=false→kO k v es=es++[(k,v)]
 |[],k,v,_=>rfl|e::es,k,v,h=>by
  unfold getM at h;unfold kO;split at h;·cases h
  ·rename_i h1;rw[if_neg h1,yV es k v h];rfl
theorem Fk (l:List En) (e:En):kk l++[(.int .u64 e.i,.agg [])]=kk (l++[e]):=by simp[kk]
theorem Ak (l:List En):gY 9 (kk l)=True:=by simp only[eq_iff_iff,iff_true];intro e he;simp only[kk,List.mem_cons,List.mem_map]at he;rcases he with rfl|⟨x,_,rfl⟩<;>rfl
@[simp] noncomputable def GRt:List AV→Option (Prop×AV)|[.pv (.ro a)]=>(dec fc a).map fun l=>(l.length≤1000000000,.pv (.bool (bk l)))|_=>none
theorem N2:aR Tryz.prog 81 GRt:=by
 intro ys φ r h hφ;unfold GRt at h;split at h
 ·rename_i ra;obtain⟨a,ha,h⟩:=Option.map_eq_some_iff.1 h;cases h;cases bQ ha;refine aq (af Wg aj) (by kernel_rfl) (by conv=>lhs;reduce) (by simp) ?_;simp;refine au (fun i:Nat=>i≤a.length∧bk (a.take i)=true) (fun i=>⟨[(0,.pv (.ro (aW a))),(2,.pv (.bool false)),(3,.own 8),(11,.pv (.ro (aW a))),(12,.pv (.int .i64 a.length)),(13,.pv (.int .i64 i))],[(8,.map (kk (a.take i)))]⟩) (fun i=>a.length-i) [] 0 (by simp[bk]) ?_ ?_;·simp[kk,kO]
  ·rintro i ⟨hi,ht⟩;have w2:IntKind.i64.wrap ((i:Int)+1)=(i:Int)+1:=wrap_i64 (by omega);by_cases hlt:i<a.length
   ·have r1:=dE hlt;have hk:=Ak (a.take i);have hd:=Fi (a.take i);have hg:=Et (a.take i) a[i].i;have hf:=fun h=>rj hlt h;have htwF:(getM (.int .u64 a[i].i) (kk (a.take i))).isSome=true→bk a=false:=fun htw=>by
     apply hf;rintro⟨_,h2,h3⟩;rw[hg,Bool.or_eq_true,decide_eq_true_eq,List.any_eq_true]at htw;rcases htw with h|⟨x,hx,h⟩;·exact h2 h
     ·exact(h3 x hx).2 (by simpa using(of_decide_eq_true h).symm)
    have hids:(getM (.int .u64 a[i].i) (kk (a.take i))).isSome=false→a[i].i≠0∧∀x∈a.take i,x.i≠a[i].i:=fun htw'=>by rw[hg,Bool.or_eq_false_iff,decide_eq_false_iff_not,List.any_eq_false]at htw';exact⟨htw'.1,fun x hx h=>htw'.2 x hx (by simpa using h.symm)⟩
    have hpm:(getM (.int .u64 a[i].i) (kk (a.take i))).isSome=false→kO (.int .u64 a[i].i) (.agg []) (kk (a.take i))=kk (a.take (i+1)):=fun htw'=>by have:=yV (kk (a.take i)) (.int .u64 a[i].i) (.agg []) htw';rwa[Fk,←List.take_succ_eq_append_getElem hlt]at this
    by_cases h0:i=0;·subst h0;have wm:IntKind.i64.wrap (-1)=-1:=wrap_i64 (by omega);have rm:rowAt (aW a) (-1)=[.str a[0].n,.int .u64 a[0].i]:=r1;have rz:rowAt (aW a) 0=[.str a[0].n,.int .u64 a[0].i]:=r1;simp only[List.take_zero]at hk hd htwF hids hpm;cases htw:(getM (.int .u64 a[0].i) (kk [])).isSome with|true=>have hf':=htwF htw;simp[hlt,rm,rz,wm,hk,hd,htw,hf']|false=>cases hnm:eW a[0].n with|true=>have hq:=hpm htw;simp[hlt,rm,rz,wm,hk,hd,htw,hnm,hq];exact⟨1,⟨by omega,lT hlt ht hnm (hids htw).1 (by simp)⟩,⟨by rw[wrap_i64 (by omega)];rfl,rfl⟩,by omega⟩|false=>
     have hf':bk a=false:=hf fun h=>by rw[hnm]at h;cases h.1
     simp[hlt,rm,rz,wm,hk,hd,htw,hnm,hf']
    ·obtain⟨k,rfl⟩:∃k,i=k+1:=⟨i-1,by omega⟩;have hk2:k<a.length:=by omega
     have r2:=dE hk2;have w3:IntKind.i64.wrap (((k+1:Nat):Int)-1)=(k:Int):=by rw[wrap_i64 (by omega)];omega
     have hp:(0:Int)<((k+1:Nat):Int):=by omega
     have hlti:((k+1:Nat):Int)<a.length:=by omega
     have hlti2:(k:Int)<a.length:=by omega
     have hb0:(0:Int)≤((k+1:Nat):Int):=by omega
     generalize hgen:((k+1:Nat):Int)=I at*;cases htw:(getM (.int .u64 a[k+1].i) (kk (a.take (k+1)))).isSome with|true=>have hf':=htwF htw;simp[hlti,hlti2,hb0,r1,r2,w3,hp,hk,hd,htw,hf']|false=>cases hnm:eW a[k+1].n with
      |true=>have hq:=hpm htw;cases hb:Op.bytesLess a[k].n a[k+1].n with|true=>simp[hlti,hlti2,hb0,r1,r2,w3,w2,hp,hk,hd,htw,hnm,hq,hb];have h1:=yP hlt ht hb;have h2:=hids htw;exact⟨k+2,⟨by omega,lT hlt ht hnm h2.1 fun x hx=>⟨h1 x hx,h2.2 x hx⟩⟩,⟨by omega,rfl⟩,by omega⟩|false=>
        have hf':bk a=false:=hf fun h=>by have:=(h.2.2 a[k] (by rw[List.mem_take_iff_getElem];exact⟨k,by omega,rfl⟩)).1;rw[hb]at this;cases this
        simp[hlti,hlti2,hb0,r1,r2,w3,hp,hk,hd,htw,hnm,hb,hf']|false=>
       have hf':bk a=false:=hf fun h=>by rw[hnm]at h;cases h.1
       simp[hlti,hlti2,hb0,r1,r2,w3,hp,hk,hd,htw,hnm,hf']
   ·rw[List.take_of_length_le (by omega)]at ht;simp[hlt,ht]
 ·cases h
theorem Mn:aR Tryz.prog 69 GRt:=by
 intro ys φ r h hφ;unfold GRt at h;split at h
 ·rename_i ra;obtain⟨a,ha,h⟩:=Option.map_eq_some_iff.1 h;cases h;cases bQ ha;refine aq (af YA aj) (by kernel_rfl) (by conv=>lhs;reduce) (by simp) ?_;simp;refine au (fun i:Nat=>i≤a.length∧bk (a.take i)=true) (fun i=>⟨[(0,.pv (.ro (aW a))),(2,.pv (.bool false)),(3,.pv (.int .i64 i))],[]⟩) (fun i=>a.length-i) [] 0 (by simp[bk]) ?_ ?_;·simp
  ·rintro i ⟨hi,ht⟩;have w2:IntKind.i64.wrap ((i:Int)+1)=(i:Int)+1:=wrap_i64 (by omega);by_cases hlt:i<a.length;·have r1:=dE hlt;have hf:=fun h=>rj hlt h;cases hnm:eW a[i].n with
    |false=>
     have hf':bk a=false:=hf fun h=>by rw[hnm]at h;cases h.1
     simp[hlt,r1,hnm,hf']|true=>
     by_cases fU:a[i].i=0;·have hf':bk a=false:=hf fun h=>h.2.1 fU;simp[hlt,r1,hnm,fU,hf']
     ·simp[hlt,r1,hnm,fU];refine au (fun k:Nat=>k≤i∧∀x∈a.take k,Op.bytesLess x.n a[i].n=true∧x.i≠a[i].i) (fun k=>⟨[(0,.pv (.ro (aW a))),(2,.pv (.bool false)),(3,.pv (.int .i64 i)),(4,.pv (.int .i64 k))],[]⟩) (fun k=>i-k) [] 0 (by simp) ?_ ?_;·simp
      ·rintro k ⟨hk,hq⟩;have w3:IntKind.i64.wrap ((k:Int)+1)=(k:Int)+1:=wrap_i64 (by omega);by_cases hki:k<i
       ·have hkl:k<a.length:=by omega
        have r2:=dE hkl;have hmem:a[k]∈a.take i:=by rw[List.mem_take_iff_getElem];exact⟨k,by omega,rfl⟩
        cases hb:Op.bytesLess a[k].n a[i].n with
        |false=>
         have hf':bk a=false:=hf fun h=>by have:=(h.2.2 _ hmem).1;rw[hb]at this;cases this
         simp[hki,hkl,hlt,r1,r2,hb,hf']|true=>
         by_cases he:a[k].i=a[i].i;·have hf':bk a=false:=hf fun h=>(h.2.2 _ hmem).2 he;simp[hki,hkl,hlt,r1,r2,hb,he,hf']
         ·simp[hki,hkl,hlt,r1,r2,hb,he,w3];refine⟨k+1,⟨by omega,fun x hx=>?_⟩,by omega,by omega⟩;rw[List.take_succ_eq_append_getElem hkl,List.mem_append,List.mem_singleton]at hx;rcases hx with hx|rfl;·exact hq x hx
          ·exact⟨hb,he⟩
       ·have hki':k=i:=by omega
        subst hki';simp[w2];exact⟨k+1,⟨by omega,lT hlt ht hnm fU hq⟩,by omega,by omega⟩
   ·rw[List.take_of_length_le (by omega)]at ht;simp[hlt,ht]
 ·cases h
@[simp] noncomputable def LR:List AV→Option (Prop×AV)|[.pv (.str a)]=>some (True,.pv (.bool false))|_=>none
theorem Na:aR Tryz.prog 227 LR:=by
 intro ys φ r h hφ;unfold LR at h;split at h;·cases h;refine aq aj (by kernel_rfl) (by conv=>lhs;reduce) (by simp) ?_;simp
 ·cases h
def vh (a b:List UInt8):Int:=if Op.bytesLess a b=true then-1 else if Op.bytesLess b a=true then 1 else 0
theorem AF (a b:List UInt8):(vh a b<0)=(Op.bytesLess a b=true):=by
 unfold vh;by_cases h:Op.bytesLess a b=true;·simp[h]
 ·by_cases h2:Op.bytesLess b a=true<;>simp[h,h2]
theorem vS (a b:List UInt8):(vh a b=0)=(a=b):=by
 unfold vh;apply propext;by_cases h:Op.bytesLess a b=true;·simp only[h,if_true];exact⟨fun h=>by omega,fun e=>absurd e (DS h)⟩
 ·by_cases h2:Op.bytesLess b a=true;·simp only[h,h2,if_true,if_false];exact⟨fun h=>by simp at h,fun e=>absurd e.symm (DS h2)⟩
  ·simp only[h,h2,if_false,true_iff];exact⟨fun _=>B4 a b (by simpa using h) (by simpa using h2),fun _=>rfl⟩
@[simp] noncomputable def Lh:List AV→Option (Prop×AV)|[.pv (.str a),.pv (.str b)]=>some (True,.pv (.int .i64 (vh a b)))|_=>none
theorem Pz:aR Tryz.prog 203 Lh:=by
 intro ys φ r h hφ;unfold Lh at h;split at h;·rename_i a b;cases h;refine aq (af Na aj) (by kernel_rfl) (by conv=>lhs;reduce) (by simp) ?_;unfold vh;cases h1:Op.bytesLess a b with|true=>simp[h1]|false=>cases h2:Op.bytesLess b a with|true=>have hne:¬a=b:=fun e=>DS h2 e.symm;simp[h1,h2,hne]|false=>have he:=B4 a b h1 h2;subst he;simp[jW]
 ·cases h
@[simp] noncomputable def Ue:List AV→Option (Prop×AV)|[.agg [.pv (.str a),.pv (.int .u64 n)],.pv (.str b)]=>some (True,.pv (.int .i64 (vh a b)))|_=>none
theorem TO:aR Tryz.prog 202 Ue:=by
 intro ys φ r h hφ;unfold Ue at h;split at h;·cases h;refine aq (af Pz aj) (by kernel_rfl) (by conv=>lhs;reduce) (by simp) ?_;simp
 ·cases h
def lb (l:List En) (s:List UInt8):Nat:=l.findIdx fun e=>!Op.bytesLess e.n s
def fO (l:List En) (s:List UInt8):Bool:=match l[lb l s]? with|some e=>decide (e.n=s)|none=>false
theorem Mo (l:List En) (s:List UInt8):lb l s≤l.length:=List.findIdx_le_length
theorem LV {l:List En}{s:List UInt8}{i:Nat} (hi:i≤l.length) (h1:∀(k:Nat) (h:k<l.length),k<i→Op.bytesLess l[k].n s=true) (h2:∀(k:Nat) (h:k<l.length),i≤k→Op.bytesLess l[k].n s=false):lb l s=i:=by
 unfold lb;by_cases hlt:i<l.length;·rw[List.findIdx_eq hlt];refine⟨by simp[h2 i hlt (Nat.le_refl _)],fun j hj=>?_⟩;simp[h1 j (by omega) hj]
 ·have:i=l.length:=by omega
  subst this;rw[List.findIdx_eq_length];intro e he;obtain⟨k,hk,rfl⟩:=List.getElem_of_mem he;simp[h1 k hk hk]
theorem TV {l:List En}{s:List UInt8}{k:Nat} (h:k<lb l s):Op.bytesLess (l[k]'(Nat.lt_of_lt_of_le h (Mo l s))).n s=true:=by have:=List.not_of_lt_findIdx h;simpa using this
theorem pn {l:List En} (hr:bk l=true) {i j:Nat} (hj:j<l.length) (hij:i<j):Op.bytesLess (l[i]'(Nat.lt_trans hij hj)).n l[j].n=true∧(l[i]'(Nat.lt_trans hij hj)).i≠l[j].i:=by rw[kJ,List.pairwise_iff_getElem]at hr;exact hr.2 i j (Nat.lt_trans hij hj) hj hij
theorem Ej {l:List En}{s:List UInt8} (hr:bk l=true):fO l s=true↔∃e∈l,e.n=s:=by
 unfold fO;constructor
 ·intro h;split at h;·rename_i e he;exact⟨e,List.mem_of_getElem? he,by simpa using h⟩
  ·cases h
 ·rintro⟨e,he,rfl⟩;obtain⟨k,hk,rfl⟩:=List.getElem_of_mem he;have hkl:lb l l[k].n=k:=by
   apply LV (by omega);·intro j hj hjk;exact(pn hr hk hjk).1
   ·intro j hj hjk;rcases Nat.eq_or_lt_of_le hjk with h|h;·subst h;exact jW _
    ·exact GY (pn hr hj h).1
  rw[hkl,List.getElem?_eq_getElem hk];simp
theorem u4:ib Tryz.prog 202=true:=by kernel_rfl
@[simp] noncomputable def GBs:List AV→Option (Prop×AV)|[.pv (.ro a),.pv (.str s),.bZ f []]=>if f=202 then(dec fc a).map fun l=>(l.length≤1000000000∧bk l=true,.aS [.pv (.int .i64 (lb l s)),.pv (.bool (fO l s))]) else none|_=>none
theorem c_Bs:aR Tryz.prog 201 GBs:=by
 intro ys φ r h hφ;unfold GBs at h;split at h
 ·rename_i ra s f;split at h
  ·rename_i hf;subst hf;obtain⟨a,ha,h⟩:=Option.map_eq_some_iff.1 h;cases h;cases bQ ha;obtain⟨hl9,hr⟩:=hφ;refine aq (af TO aj) (by kernel_rfl) (by conv=>lhs;reduce) (by simp) ?_;simp;refine au (fun q:Nat×Nat=>q.1≤q.2∧q.2≤a.length∧(∀(k:Nat) (h:k<a.length),k<q.1→Op.bytesLess a[k].n s=true)∧(∀(k:Nat) (h:k<a.length),q.2≤k→Op.bytesLess a[k].n s=false)) (fun q=>⟨[(0,.pv (.ro (aW a))),(1,.pv (.str s)),(2,.bZ 202 []),(8,.pv (.int .i64 a.length)),(9,.pv (.int .i64 q.1)),(10,.pv (.int .i64 q.2))],[]⟩) (fun q=>q.2-q.1) [] (0,a.length) ?_ ?_ ?_;·exact⟨Nat.zero_le _,Nat.le_refl _,fun k h h2=>absurd h2 (Nat.not_lt_zero k),fun k h h2=>absurd h2 (Nat.not_le.2 h)⟩
   ·simp
   ·rintro⟨i,j⟩ ⟨hij,hj,h1,h2⟩;simp only at hij hj h1 h2;by_cases hlt:i<j
    ·have hlti:(i:Int)<(j:Int):=by omega
     have w1:IntKind.i64.wrap ((i:Int)+(j:Int))=(i:Int)+(j:Int):=wrap_i64 (by omega);have w2:IntKind.u64.wrap ((i:Int)+(j:Int))=(i:Int)+(j:Int):=wrap_u64 (by omega);have hm:(i+j)/2<a.length:=by omega
     obtain⟨m,hmd⟩:∃m,m=(i+j)/2:=⟨_,rfl⟩;rw[←hmd]at hm;have hsh:((i:Int)+(j:Int)).fdiv (2^min 1 IntKind.u64.bits)=(m:Int):=by show((i:Int)+(j:Int)).fdiv 2=(m:Int);rw[Int.fdiv_eq_ediv_of_nonneg _ (by omega)];omega
     have w3:IntKind.i64.wrap (m:Int)=(m:Int):=wrap_i64 (by omega);have w4:IntKind.i64.wrap ((m:Int)+1)=(m:Int)+1:=wrap_i64 (by omega);have r1:=dE hm;have hm0:(0:Int)≤(m:Int):=by omega
     have hm1:(m:Int)<(a.length:Int):=by omega
     cases hb:Op.bytesLess a[m].n s with
     |true=>
      have hneg:vh a[m].n s<0:=by rw[AF];exact hb
      simp[hlt,w1,w2,hsh,w3,w4,r1,hm,hneg,u4];refine⟨m+1,j,⟨by omega,hj,fun k hk hkm=>?_,h2⟩,⟨by omega,rfl⟩,by omega⟩;rcases Nat.lt_or_ge k m with h|h;·exact lL _ _ _ (pn hr hm h).1 hb
      ·have:k=m:=by omega
       subst this;exact hb|false=>
      have hneg:¬vh a[m].n s<0:=by rw[AF,hb];simp
      simp[hlt,w1,w2,hsh,w3,w4,r1,hm,hneg,u4];refine⟨i,m,⟨by omega,by omega,h1,fun k hk hkm=>?_⟩,⟨rfl,rfl⟩,by omega⟩;rcases Nat.lt_or_ge m k with h|h;·cases hq:Op.bytesLess a[k].n s with|false=>rfl|true=>have:=lL _ _ _ (pn hr hk h).1 hq;rw[hb]at this;cases this
      ·have:k=m:=by omega
       subst this;exact hb
    ·have hij':i=j:=by omega
     subst hij';have hlb:lb a s=i:=LV hj h1 h2;have hfd:fO a s=(match a[i]? with|some e=>decide (e.n=s)|none=>false):=by unfold fO;rw[hlb]
     by_cases hil:i<a.length
     ·have r1:=dE hil;rw[List.getElem?_eq_getElem hil]at hfd;simp only at hfd;have hz:decide (vh a[i].n s=0)=decide (a[i].n=s):=by simp only[vS]
      simp[hil,r1,u4,hlb,hfd,vS]
     ·rw[List.getElem?_eq_none (by omega)]at hfd;have r0:rowAt (aW a) (i:Int)=[]:=by simp[rowAt,aW,hil]
      simp[hil,hlb,hfd,r0]
  ·cases h
 ·cases h
@[simp] noncomputable def Vo:List AV→Option (Prop×AV)|[.pv (.ro a),.pv (.str s)]=>(dec fc a).map fun l=>(l.length≤1000000000∧bk l=true,.aS [.pv (.int .i64 (lb l s)),.pv (.bool (fO l s))])|_=>none
theorem aak:aR Tryz.prog 167 Vo:=by
 intro ys φ r h hφ;unfold Vo at h;split at h;·rename_i ra s;obtain⟨a,ha,h⟩:=Option.map_eq_some_iff.1 h;cases h;cases bQ ha;obtain⟨hl9,hr⟩:=hφ;refine aq (af c_Bs aj) (by kernel_rfl) (by conv=>lhs;reduce) (by simp) ?_;simp[hl9,hr]
 ·cases h
def zB (l:List En) (s:List (List UInt8)):Int:=if bk l=true then if s.all eW=true then 0 else 170 else 2
@[simp] noncomputable def aam:List AV→Option (Prop×AV)|[.pv (.ro a),.pv (.ro b)]=>(dec fc a).bind fun l=>(dec vf b).map fun s=>(l.length≤1000000000∧s.length≤1000000000,.pv (.int .i64 (zB l s)))|_=>none
theorem Uk:aR Tryz.prog 166 aam:=by
 intro ys φ r h hφ;unfold aam at h;split at h;·rename_i ra rb;obtain⟨a,ha,h⟩:=Option.bind_eq_some_iff.1 h;obtain⟨b,hb,h⟩:=Option.map_eq_some_iff.1 h;cases h;cases bQ ha;cases nb hb;obtain⟨hl9,hs9⟩:=hφ;refine aq (af N2 (af Wg aj)) (by kernel_rfl) (by conv=>lhs;reduce) (by simp) ?_;unfold zB;cases hr:bk a with|false=>simp[hl9,hr]|true=>generalize hq:b.all eW=q;cases q<;>simp[hl9,hs9,hr,hq]
 ·cases h
def jF (l:List En) (s:List UInt8):Int×Int:=if bk l=true then if eW s=true then match l.find? (fun e=>decide (e.n=s)) with|some e=>(e.i,0)|none=>(0,80) else(0,170) else(0,2)
theorem BA {l:List En}{s:List UInt8} (hr:bk l=true) (hn:eW s=true) (hf:fO l s=true):∃h:lb l s<l.length,jF l s=(l[lb l s].i,0)∧l[lb l s].n=s:=by
 have hlt:lb l s<l.length:=by
  unfold fO at hf;split at hf;·rename_i e he;exact(List.getElem?_eq_some_iff.1 he).1
  ·cases hf
 have hs:l[lb l s].n=s:=by unfold fO at hf;rw[List.getElem?_eq_getElem hlt]at hf;simpa using hf
 refine⟨hlt,?_,hs⟩;have hfind:l.find? (fun e=>decide (e.n=s))=some l[lb l s]:=by rw[List.find?_eq_some_iff_getElem];refine⟨by simp[hs],lb l s,hlt,rfl,fun j hj=>?_⟩;have:=DS (TV hj);simpa using this
 unfold jF;rw[if_pos hr,if_pos hn,hfind]
theorem D9 {l:List En}{s:List UInt8} (hr:bk l=true) (hn:eW s=true) (hf:fO l s=false):jF l s=(0,80):=by
 have hfind:l.find? (fun e=>decide (e.n=s))=none:=by rw[List.find?_eq_none];intro e he hh;have:=(Ej (s:=s) hr).2 ⟨e,he,by simpa using hh⟩;rw[hf]at this;cases this
 unfold jF;rw[if_pos hr,if_pos hn,hfind]
@[simp] noncomputable def GGet:List AV→Option (Prop×AV)|[.pv (.ro a),.pv (.str s)]=>(dec fc a).map fun l=>(l.length≤1000000000,.aS [.pv (.int .u64 (jF l s).1),.pv (.int .i64 (jF l s).2)])|_=>none
@[simp] noncomputable def GNames:List AV→Option (Prop×AV)|[.pv (.ro a)]=>(dec fc a).map fun l=>(l.length≤100000000,.fr 9 (m9 (l.map En.n)))|_=>none
set_option maxHeartbeats 8000000 in theorem zZ (w:World) (rows:List (List PV)) (hs2:∀r∈rows,r.length=2) (hp:dx rows) (i n:Nat) (hn:rows.length=n) (hi:i<n) (hsm:n≤1000000) (nm:List UInt8) (id:Int) (g cap:Nat) (cur:Array Value) (hg0:w.heap[g]?=some (.cells cur 86 (0,0))) (hnc:n≤cap) (hcs:cur.size=cap*2) (htk:cur.toList.take (n*2)=cellW rows) (hroom:cap<n+1) (ad:Addr) (c:Nat) (h0:w.cell? (ad.add 0)=some (.string ⟨nm.toArray⟩)) (h1:w.cell? (ad.add 1)=some (.int .u64 id)):Calls Tryz.prog 170 #[.slice (some ⟨g,0,none⟩) n cap,.int .i64 i,.slice (some ad) 1 c] w fun r w'=>∃V',r=.returned V'∧w'.ownsRow 0 86 2 V' (n+1) ((cellW rows).take (i*2)++[.string ⟨nm.toArray⟩,.int .u64 id]++(cellW rows).drop (i*2))∧w.grownBy w' (Value.slice (some ⟨g,0,none⟩) n cap).ownBlock∧(∀b,V'.ownBlock=some b→(Value.slice (some ⟨g,0,none⟩) n cap).ownBlock=some b∨w.heap.size≤b):=by
 obtain⟨inf,z,hi',hz,hzs,hsz,hby⟩:=oy;have hszm:(Tryz.prog.info? 86).map (·.size)=some 2:=by rw[hi'];simp[hsz]
 have hcl:(cellW rows).length=n*2:=by rw[fq hs2,hn]
 obtain⟨cs,hcse⟩:∃cs,cs=(cellW rows).drop (i*2):=⟨_,rfl⟩;have hcsl:cs.length=(n-i)*2:=by rw[hcse,List.length_drop,hcl];omega
 have hcur:cur.toList.length=cap*2:=by simpa using hcs
 have hone:=mM hp;have hgw:g<w.heap.size:=(Array.getElem?_eq_some_iff.1 hg0).1;have hadw:ad.block<w.heap.size:=by
  have:=h0;rw[add_zero']at this;unfold World.cell? at this;split at this;·rename_i hq;exact(Array.getElem?_eq_some_iff.1 hq).1
  ·cases this
 have hcellA:∀j v,(cellW rows)[j]?=some v→w.cell? ⟨g,j,none⟩=some v:=by
  intro j v hj;rw[←htk,List.getElem?_take]at hj;split at hj;·simp only[World.cell?,hg0];simpa using hj
  ·cases hj
 have hold:(Builtin.firstCells inf.size i (.slice (some ⟨g,0,none⟩) i cap)).run Tryz.prog w.drew=.ok ((cellW rows).take (i*2)).toArray w.drew:=by rw[hsz];exact run_firstCells_some w.drew 2 i ⟨g,0,none⟩ i cap _ (by rw[List.length_take];omega) (fun j v hj=>by
  rw[Addr.add_lit];rw[List.getElem?_take]at hj;split at hj;·rw[Nat.zero_add];exact hcellA j v hj
  ·cases hj)
 have hkk:(n:Int)+1-(i:Int)=((n+1-i:Nat):Int):=by omega
 have hrz:∀ty,(Builtin.append_ #[33,3] ty #[.slice (some ⟨g,0,none⟩) i cap,.int .i64 ((n:Int)+1-(i:Int))]).run Tryz.prog w=.ok (.slice (some ⟨w.heap.size,0,none⟩) (n+1) (grownCap w (n+1) cap 86)) (w.drew.alloc (.cells (((cellW rows).take (i*2)).toArray++Builtin.zeroCells z.cells (n+1-i)++Builtin.zeroCells z.cells (grownCap w (n+1) cap 86-(n+1))) 86)):=fun ty=>by have h:=Lib.run_append_grow_zeros w 33 3 ty 86 inf z .i64 .i64 Tryz.underlying33 Tryz.underlying3 hi' hz (some ⟨g,0,none⟩) i cap ((cellW rows).take (i*2)) hold (n+1-i) (by omega) (by omega) (by omega) (by omega) (by rw[hby];omega) (by rw[hby];exact growslice_fits (by omega) (by omega));rw[show i+(n+1-i)=n+1 from by omega]at h;rw[hkk];exact h
 have hGn:n+1≤grownCap w (n+1) cap 86:=grownCap_ge w _ _ _;have hGm:grownCap w (n+1) cap 86≤maxLen:=grownCap_le_maxLen w (n+1) cap _ (by unfold maxLen;omega);generalize grownCap w (n+1) cap 86=G at hrz hGn hGm;obtain⟨ROW,hROW⟩:∃ROW,ROW=((cellW rows).take (i*2)).toArray++Builtin.zeroCells z.cells (n+1-i)++Builtin.zeroCells z.cells (G-(n+1)):=⟨_,rfl⟩;rw[←hROW]at hrz;have hRl:ROW.size=G*2:=by rw[hROW];simp only[Array.size_append,List.size_toArray,List.length_take,hcl,size_zeroCells,hzs,hsz];omega
 have hRt:ROW.toList.take (i*2)=(cellW rows).take (i*2):=by rw[hROW];simp only[Array.toList_append,List.append_assoc];rw[List.take_append_of_le_length (by rw[List.length_take,hcl];omega),List.take_of_length_le (by rw[List.length_take];omega)]
 obtain⟨N,hN⟩:∃N,N=w.heap.size:=⟨_,rfl⟩;obtain⟨W1,hW1⟩:∃W1,W1=w.drew.alloc (.cells ROW 86):=⟨_,rfl⟩;have hW1N:W1.heap[N]?=some (.cells ROW 86 (0,0)):=by rw[hW1,hN];exact heap_alloc_new w.drew _
 have hW1o:∀k,k<w.heap.size→W1.heap[k]?=w.heap[k]?:=fun k hk=>by rw[hW1];exact Below.heap_alloc w.drew _ k hk
 obtain⟨X1,hX1⟩:∃X1,X1=(ROW.toList.take (i*2)++[Value.string ⟨nm.toArray⟩,Value.int .u64 id]++ROW.toList.drop (i*2+2)).toArray:=⟨_,rfl⟩;have hX1l:X1.size=G*2:=by rw[hX1];simp only[List.size_toArray,List.length_append,List.length_take,List.length_drop,Array.length_toList,hRl,List.length_cons,List.length_nil];omega
 have hold':∀W:World,(∀k,k<w.heap.size→W.heap[k]?=w.heap[k]?)→∀x:Addr,x.block<w.heap.size→W.cell? x=w.cell? x:=fun W hW x hx=>by unfold World.cell?;rw[hW _ hx]
 have hcpA:∀W:World,W.heap=W1.heap→∀sT ty dc,(Builtin.copy_ #[33,sT] ty #[.slice (some ⟨N,i*2,none⟩) (n+1-i) dc,.slice (some ad) 1 c]).run Tryz.prog W=.ok (goInt 1) (W.setRow N X1):=fun W hW sT ty dc=>by
  have:=dh W 33 sT ty 86 N (i*2) (n+1-i) dc ad 1 c 2 ROW 86 [.string ⟨nm.toArray⟩,.int .u64 id] Tryz.underlying33 hszm (by rw[hW];exact hW1N) (by simp only[List.length_cons,List.length_nil,Nat.min_def];split<;>omega) (fun j v hj=>by
   have hab:∀j,(ad.add j).block<w.heap.size:=fun j=>by rw[bD];exact hadw
   have ho:∀k,k<w.heap.size→W.heap[k]?=w.heap[k]?:=fun k hk=>by rw[hW];exact hW1o k hk
   match j with|0=>simp at hj;subst hj;rw[hold' W ho _ (hab 0)];exact h0|1=>simp at hj;subst hj;rw[hold' W ho _ (hab 1)];exact h1|j+2=>simp at hj) (by simp only[List.length_cons,List.length_nil,hRl];omega) (by intro v hv;simp only[List.mem_cons,List.not_mem_nil,or_false]at hv;rcases hv with rfl|rfl<;>rfl);rw[this,hX1];congr 2;simp only[Nat.min_def];split<;>omega
 obtain⟨X2,hX2⟩:∃X2,X2=(X1.toList.take ((i+1)*2)++cs++X1.toList.drop ((i+1)*2+cs.length)).toArray:=⟨_,rfl⟩;have hX2l:X2.size=G*2:=by rw[hX2];simp only[List.size_toArray,List.length_append,List.length_take,List.length_drop,Array.length_toList,hX1l,hcsl];omega
 have hW2o:∀k,k<w.heap.size→(W1.setRow N X1).heap[k]?=w.heap[k]?:=fun k hk=>by rw[setRow_other _ N k _ (by omega)];exact hW1o k hk
 have hcpB:∀W:World,W.heap=(W1.setRow N X1).heap→∀sT ty dc sc,(Builtin.copy_ #[33,sT] ty #[.slice (some ⟨N,(i+1)*2,none⟩) (n-i) dc,.slice (some ⟨g,i*2,none⟩) (n-i) sc]).run Tryz.prog W=.ok (goInt (n-i)) (W.setRow N X2):=fun W hW sT ty dc sc=>by have:=dh W 33 sT ty 86 N ((i+1)*2) (n-i) dc ⟨g,i*2,none⟩ (n-i) sc 2 X1 86 cs Tryz.underlying33 hszm (by rw[hW];exact setRow_heap W1 N ROW X1 _ _ hW1N) (by rw[hcsl];congr 1;simp only[Nat.min_def];split<;>omega) (fun j v hj=>by rw[hold' W (fun k hk=>by rw[hW];exact hW2o k hk) _ (by rw[bD];exact hgw),Addr.add_lit];rw[hcse,List.getElem?_drop]at hj;exact hcellA _ v hj) (by rw[hcsl,hX1l];omega) (fun v hv=>hone v (by rw[hcse]at hv;exact List.mem_of_mem_drop hv));rw[this,hX2];congr 2;simp only[Nat.min_def];split<;>omega
 have key:∀Φ:Ending→World→Prop,(∀w',w'.heap=((W1.setRow N X1).setRow N X2).heap→w'.os=w.os→w'.tape=w.tape→w'.output=w.output→Φ (.returned (.slice (some ⟨N,0,none⟩) (n+1) G)) w')→Calls Tryz.prog 170 #[.slice (some ⟨g,0,none⟩) n cap,.int .i64 i,.slice (some ad) 1 c] w Φ:=by
  intro Φ hΦ;have q1:¬((i:Int)=(n:Int)):=by omega
  have q2:(cap:Int)<(n:Int)+1:=by omega
  have q3:(i:Int)≤(n:Int):=by omega
  have q5:(0:Int)≤(n:Int)+1:=by omega
  have q6:(i:Int)+1≤(n:Int)+1:=by omega
  have q7:IntKind.i64.wrap ((n:Int)+1)=(n:Int)+1:=by rw[IntKind.wrap_i64];omega
  have q8:IntKind.i64.wrap ((i:Int)+1)=(i:Int)+1:=by rw[IntKind.wrap_i64];omega
  have q9:IntKind.i64.wrap ((n:Int)+1-(i:Int))=(n:Int)+1-(i:Int):=by rw[IntKind.wrap_i64];omega
  have q10:((i:Int)+1).toNat=i+1:=by omega
  have q11:(0:Int)≤(i:Int)+1:=by omega
  have q12:¬(G=i+1):=by omega
  have q13:¬(G=i):=by omega
  have q14:(i:Int)≤(n:Int)+1:=by omega
  have q15:¬(cap=i):=by omega
  have mixed:Tryz.prog.follows .mixedOrders=true:=by kernel_rfl
  have hΦ':Φ (.returned (.slice (some ⟨N,0,none⟩) (n+1) G)) (((W1.setRow N X1).drew).setRow N X2):=hΦ _ rfl (by rw[hW1];rfl) (by rw[hW1];rfl) (by rw[hW1];rfl);rw[←hW1]at hrz;subst hN;clear hkk hΦ hold hone hX1 hX2 htk hcur hROW hRt hW1N hW1o hW2o hold' hcellA hW1;go_enter Tryz.func170,Tryz.ntmps170;go_wp2_with(first|(at_builtin;refine Lib.wpList_append_run _ rfl _ _ _ _ rfl _ _ rfl rfl _ _ (hrz _) ?_)|(at_builtin;refine wpList_copy_runI _ rfl _ _ 33 32 rfl _ _ rfl rfl (hcpA _ rfl _ _ _) ?_));go_region_law_o(refine step_copy_runI rfl _ _ 33 33 rfl (.slice (some ⟨w.heap.size,(i+1)*2,none⟩) (n-i) (G-(i+1))) (.slice (some ⟨g,i*2,none⟩) (n-i) (cap-i)) (by simp[Act.eval,Act.put]) (by simp[Act.eval,Act.put]) (hcpB (W1.setRow w.heap.size X1).drew rfl 33 3 (G-(i+1)) (cap-i)) ?_);go_wp2;exact hΦ'
 have e1:X1.toList.take ((i+1)*2)=(cellW rows).take (i*2)++[Value.string ⟨nm.toArray⟩,Value.int .u64 id]:=by
  rw[hX1,hRt];have hl:((cellW rows).take (i*2)++[Value.string ⟨nm.toArray⟩,Value.int .u64 id]).length=(i+1)*2:=by simp only[List.length_append,List.length_take,hcl,List.length_cons,List.length_nil];omega
  rw[←hl];exact List.take_left
 have e3:X2.toList=((cellW rows).take (i*2)++[Value.string ⟨nm.toArray⟩,Value.int .u64 id]++(cellW rows).drop (i*2))++X1.toList.drop ((i+1)*2+cs.length):=by rw[hX2,e1,hcse]
 have e4:((cellW rows).take (i*2)++[Value.string ⟨nm.toArray⟩,Value.int .u64 id]++(cellW rows).drop (i*2)).length=(n+1)*2:=by simp only[List.length_append,List.length_take,List.length_cons,List.length_nil,List.length_drop,hcl];omega
 refine key _ fun w' hh ho ht hou=>⟨_,rfl,⟨e4,.inr ⟨N,G,X2,rfl,Nat.zero_le _,?_,hGn,hGm,hX2l,?_⟩⟩,⟨ho,ht,hou,?_,?_⟩,fun b hb=>.inr ?_⟩;·rw[hh];exact setRow_heap (W1.setRow N X1) N X1 X2 _ _ (setRow_heap W1 N ROW X1 _ _ hW1N)
 ·rw[e3,←e4];exact List.take_left
 ·rw[hh,hW1];simp[World.setRow]
 ·intro k hk hne;rw[hh,setRow_other _ N k _ (by omega)];exact hW2o k hk
 ·simp[Value.ownBlock]at hb;omega
theorem gI (l:List En):dx (aW l):=by intro r hr p hp;simp only[aW,List.mem_map]at hr;obtain⟨e,_,rfl⟩:=hr;simp only[fc,List.mem_cons,List.not_mem_nil,or_false]at hp;rcases hp with rfl|rfl<;>rfl
theorem CD (l:List En) (i:Nat):aW (l.take i)=(aW l).take i:=by simp[aW,List.map_take]
theorem BT (l:List En) (i:Nat):aW (l.drop i)=(aW l).drop i:=by simp[aW,List.map_drop]
def zw (l:List En) (i:Nat) (e:En):List En:=l.take i++e::l.drop i
theorem ER (l:List En) (i:Nat) (e:En):cellW (aW (zw l i e))=(cellW (aW l)).take (i*2)++[Value.string ⟨e.n.toArray⟩,Value.int .u64 e.i]++(cellW (aW l)).drop (i*2):=by unfold zw;rw[show l.take i++e::l.drop i=l.take i++([e]++l.drop i) from rfl,eK,eK,fK,fK,CD,BT,kT i (eI l),sV i (eI l),List.append_assoc];rfl
@[simp] noncomputable def WN:List AV→Option (Prop×AV)|[.fr e a,.pv (.int .i64 i),.pv (.ro [[.str nm,.int .u64 id]])]=>if e=86 then(dec fc a).map fun l=>(0≤i∧i≤l.length∧l.length≤1000000,.fr 86 (aW (zw l i.toNat ⟨nm,id⟩))) else none|_=>none
theorem Xu:Du Tryz.prog 170 WN:=by
 intro ys φ r h hφ;unfold WN at h;split at h
 ·rename_i e ra i nm id;split at h
  ·rename_i hef;subst hef;obtain⟨l,hl,h⟩:=Option.map_eq_some_iff.1 h;cases h;cases bQ hl;obtain⟨h0,h1,h2⟩:=hφ;obtain⟨k,rfl⟩:∃k:Nat,i=(k:Int):=⟨i.toNat,by omega⟩;simp only[Int.toNat_natCast];obtain⟨inf,z,hi,hz,hzs,hsz,hby⟩:=oy;have hins:(zw l k ⟨nm,id⟩).length=l.length+1:=by unfold zw;simp;omega
   refine AH hi (rows:=aW l) (rows':=aW (zw l k ⟨nm,id⟩)) (by rw[hsz];exact eI l) (gI l) (by rw[hsz];exact eI _) (gI _) [.int .i64 (k:Int),.ro [[.str nm,.int .u64 id]]] ?_;intro w S V vals hown hS hlen hv;rw[hsz]at hown ⊢;match vals,hlen with
   |[v1,v2],_=>
    have e1:=(hv 0 v1 _ rfl rfl).aI;subst e1;obtain⟨A,c,rfl,hc,hne⟩:=(hv 1 v2 _ rfl rfl).fM;obtain⟨ad,sz,us,rfl,g1,g2,g3,g4,g5⟩:=hne (by simp);have hs2:sz=2:=(g2 [.str nm,.int .u64 id] (by simp)).symm;subst hs2;have u0:us 0 0=.string ⟨nm.toArray⟩:=(g5 0 0 _ _ rfl rfl).eL;have u1:us 0 1=.int .u64 id:=(g5 0 1 _ _ rfl rfl).aI;have k0:w.cell? (ad.add 0)=some (.string ⟨nm.toArray⟩):=by rw[←u0];exact g3 0 0 (by simp) (by omega)
    have k1:w.cell? (ad.add 1)=some (.int .u64 id):=by rw[←u1];exact g3 0 1 (by simp) (by omega)
    have hb:=(hS _ g1).2;rw[dW,hins,ER];rw[dW]at hown;rcases Nat.lt_or_ge k l.length with hk|hk
    ·rcases hown.2 with⟨_,hn⟩|⟨g,cap,cur,rfl,hb0,hg0,hnc,hcm,hcs,htk⟩;·omega
     ·have hbg:ad.block≠g:=fun e=>hb (by rw[e];rfl);rcases Nat.lt_or_ge cap (l.length+1) with hr|hr;·exact zZ w (aW l) (eI l) (gI l) k l.length (dW l) hk h2 nm id g cap cur hg0 hnc hcs htk hr ad c k0 k1
      ·exact zp w (aW l) (eI l) (gI l) k l.length (dW l) hk h2 nm id g cap cur hg0 hcm hcs htk hr ad c hbg k0 k1
    ·have hkl:k=l.length:=by omega
     subst hkl;have hcl:(cellW (aW l)).length=l.length*2:=by rw[fq (eI l),dW]
     rw[List.take_of_length_le (by omega),List.drop_of_length_le (by omega),List.append_nil];have:=CA w V (aW l) (eI l) (gI l) (by simpa using h2) nm id (by rw[dW];exact hown) ad c k0 k1;rw[dW]at this;exact this
  ·cases h
 ·cases h
@[simp] noncomputable def GDel:List AV→Option (Prop×AV)|[.fr e a,.pv (.int .i64 i),.pv (.int .i64 j)]=>if e=86 then(dec fc a).map fun l=>(0≤i∧i<l.length∧j=i+1∧l.length≤1000000,.fr 86 (aW (l.take i.toNat++l.drop (i.toNat+1)))) else none|_=>none
@[simp] noncomputable def GCl:List AV→Option (Prop×AV)|[.pv (.ro a)]=>(dec fc a).map fun l=>(l.length≤100000000,.fr 86 (aW l))|_=>none
theorem Vq:aR Tryz.prog 90 GCl:=by
 intro ys φ r h hφ;unfold GCl at h;split at h;·rename_i ra;obtain⟨a,ha,h⟩:=Option.map_eq_some_iff.1 h;cases h;cases bQ ha;refine aq aj (by kernel_rfl) (by conv=>lhs;reduce) (by simp) ?_;cases a with|nil=>simp[j7]|cons x l=>have hx:aW (x::l)=fc x::aW l:=rfl;simp[hx,aw];simp only[List.length_cons]at hφ;exact⟨by omega,by omega,rfl,eI l⟩
 ·cases h
@[simp] noncomputable def GB1:List AV→Option (Prop×AV)|[.agg [.pv (.str a),.pv (.int .u64 b)],.rp [.int .u64 n]]=>some (True,.pv (.bool (decide (b=n))))|_=>none
theorem c_B1:aR Tryz.prog 169 GB1:=by
 intro ys φ r h hφ;unfold GB1 at h;split at h;·cases h;refine aq aj (by kernel_rfl) (by conv=>lhs;reduce) (by simp) ?_;simp
 ·cases h
theorem C2:ib Tryz.prog 169=true:=by kernel_rfl
def Jk (l:List En) (n:Int):Bool:=l.any fun e=>decide (e.i=n)
@[simp] noncomputable def VG:List AV→Option (Prop×AV)|[.pv (.ro a),.bZ f [.rp [.int .u64 n]]]=>if f=169 then(dec fc a).map fun l=>(l.length≤1000000000,.pv (.int .i64 (if Jk l n=true then((l.findIdx fun e=>decide (e.i=n):Nat):Int) else-1))) else none|_=>none
theorem XG:aR Tryz.prog 204 VG:=by
 intro ys φ r h hφ;unfold VG at h;split at h
 ·rename_i ra f n;split at h
  ·rename_i hf;subst hf;obtain⟨a,ha,h⟩:=Option.map_eq_some_iff.1 h;cases h;cases bQ ha;refine aq (af c_B1 aj) (by kernel_rfl) (by conv=>lhs;reduce) (by simp) ?_;simp;refine au (fun i:Nat=>i≤a.length∧∀e∈a.take i,¬e.i=n) (fun i=>⟨[(0,.pv (.ro (aW a))),(1,.bZ 169 [.rp [.int .u64 n]]),(7,.pv (.int .i64 a.length)),(8,.pv (.int .i64 i))],[]⟩) (fun i=>a.length-i) [] 0 (by simp) ?_ ?_;·simp
   ·rintro i ⟨hi,ht⟩;have w2:IntKind.i64.wrap ((i:Int)+1)=(i:Int)+1:=wrap_i64 (by omega);by_cases hlt:i<a.length
    ·have r1:=dE hlt;by_cases he:a[i].i=n
     ·have fU:Jk a n=true:=by unfold Jk;rw[List.any_eq_true];exact⟨a[i],List.getElem_mem hlt,by simpa using he⟩
      have hfi:a.findIdx (fun e=>decide (e.i=n))=i:=by rw[List.findIdx_eq hlt];refine⟨by simpa using he,fun j hj=>?_⟩;have:=ht a[j] (by rw[List.mem_take_iff_getElem];exact⟨j,by omega,rfl⟩);simpa using this
      simp[hlt,r1,C2,he,fU,hfi]
     ·simp[hlt,r1,C2,he,w2];refine⟨i+1,⟨by omega,fun e hm=>?_⟩,by omega,by omega⟩;rw[List.take_succ_eq_append_getElem hlt,List.mem_append,List.mem_singleton]at hm;rcases hm with hm|rfl;·exact ht e hm
      ·exact he
    ·rw[List.take_of_length_le (by omega)]at ht;have fU:Jk a n=false:=by unfold Jk;rw[List.any_eq_false];intro e he;simpa using ht e he
     simp[hlt,fU]
  ·cases h
 ·cases h
@[simp] noncomputable def YX:List AV→Option (Prop×AV)|[.pv (.ro a),.bZ f [.rp [.int .u64 n]]]=>if f=169 then(dec fc a).map fun l=>(l.length≤1000000000,.pv (.bool (Jk l n))) else none|_=>none
theorem Uh:aR Tryz.prog 168 YX:=by
 intro ys φ r h hφ;unfold YX at h;split at h
 ·rename_i ra f n;split at h;·rename_i hf;subst hf;obtain⟨a,ha,h⟩:=Option.map_eq_some_iff.1 h;cases h;cases bQ ha;refine aq (af XG aj) (by kernel_rfl) (by conv=>lhs;reduce) (by simp) ?_;cases fU:Jk a n with|true=>simp[hφ,fU]|false=>simp[hφ,fU]
  ·cases h
 ·cases h
def IX (l:List En) (e:En):List En:=zw l (lb l e.n) e
def gQ (l:List En) (s:List UInt8) (n:Int):List En×Int:=if(jF l s).2=0 then([],81) else if(jF l s).2≠80 then([],(jF l s).2) else if n=0∨Jk l n=true then([],2) else(IX l ⟨s,n⟩,0)
theorem CF (l:List En) (s:List UInt8):(bk l=false∧jF l s=(0,2))∨(bk l=true∧eW s=false∧jF l s=(0,170))∨(bk l=true∧eW s=true∧fO l s=false∧jF l s=(0,80))∨(bk l=true∧eW s=true∧fO l s=true∧∃h:lb l s<l.length,jF l s=(l[lb l s].i,0)∧l[lb l s].n=s):=by cases hr:bk l with|false=>left;exact⟨rfl,by unfold jF;rw[if_neg (by simp[hr])]⟩|true=>right;cases hn:eW s with|false=>left;exact⟨rfl,rfl,by unfold jF;rw[if_pos hr,if_neg (by simp[hn])]⟩|true=>right;cases hf:fO l s with|false=>left;exact⟨rfl,rfl,rfl,D9 hr hn hf⟩|true=>right;exact⟨rfl,rfl,rfl,BA hr hn hf⟩
@[simp] noncomputable def Mz:List AV→Option (Prop×AV)|[.pv (.ro a),.pv (.str s),.pv (.int .u64 n)]=>(dec fc a).map fun l=>(l.length≤100000,.aS [.fr 86 (aW (gQ l s n).1),.pv (.int .i64 (gQ l s n).2)])|_=>none
theorem O7:aR Tryz.prog 132 Mz:=by
 intro ys φ r h hφ;unfold Mz at h;split at h
 ·rename_i ra s n;obtain⟨a,ha,h⟩:=Option.map_eq_some_iff.1 h;cases h;cases bQ ha;have hl9:a.length≤1000000000:=by omega
  have hl8:a.length≤100000000:=by omega
  have hl6:a.length≤1000000:=by omega
  have hinf:(Tryz.prog.info? 86).isSome=true:=by kernel_rfl
  refine aq (af Uk (af aak (af Uh (af Vq (qj (p:=0) (k:=998) Xu (by kernel_rfl) aj))))) (by kernel_rfl) (by conv=>lhs;reduce) (by simp) ?_;rcases CF a s with⟨hr,hg⟩|⟨hr,hn,hg⟩|⟨hr,hn,hf,hg⟩|⟨hr,hn,hf,hlt,hg,_⟩
  ·have hb:gQ a s n=([],2):=by unfold gQ;rw[hg];simp
   simp[hl9,zB,hr,hb,hinf]
  ·have hb:gQ a s n=([],170):=by unfold gQ;rw[hg];simp
   simp[hl9,zB,hr,hn,hb,hinf]
  ·by_cases h0:n=0
   ·have hb:gQ a s n=([],2):=by unfold gQ;rw[hg];simp[h0]
    simp[hl9,zB,hr,hn,hf,h0,hb,hinf];try simp[←h0,hb]
   ·cases fU:Jk a n with|true=>
     have hb:gQ a s n=([],2):=by unfold gQ;rw[hg];simp[fU]
     simp[hl9,zB,hr,hn,hf,h0,fU,hb,hinf]|false=>
     have hb:gQ a s n=(zw a (lb a s) ⟨s,n⟩,0):=by unfold gQ;rw[hg];simp[fU,h0,IX]
     have hlb:=Mo a s;simp[hl9,hl8,hl6,zB,hr,hn,hf,h0,fU,hb,hinf,hlb];exact bh _
  ·have hb:gQ a s n=([],81):=by unfold gQ;rw[hg];simp
   simp[hl9,zB,hr,hn,hf,hb,hinf]
 ·cases h
@[simp] noncomputable def GrPutE:List AV→Option (Prop×AV)|[.pv (.ro a),.agg [.pv (.str s),.pv (.int .u64 n)]]=>(dec fc a).map fun l=>(l.length≤1000000∧bk l=true∧fO l s=false,.fr 107 (aW (IX l ⟨s,n⟩)))|_=>none
@[simp] noncomputable def GrBind:List AV→Option (Prop×AV)|[.pv (.ro a),.pv (.str s),.pv (.int .u64 n)]=>(dec fc a).map fun l=>(l.length≤100000,.aS [.fr 107 (aW (gQ l s n).1),.pv (.int .i64 (gQ l s n).2)])|_=>none
def ux (l:List En) (s:List UInt8):List En:=l.filter fun e=>!decide (e.n=s)
def IW (l:List En) (s:List UInt8):List En×Int:=if(jF l s).2≠0 then([],(jF l s).2) else(ux l s,0)
@[simp] noncomputable def GUnb:List AV→Option (Prop×AV)|[.pv (.ro a),.pv (.str s)]=>(dec fc a).map fun l=>(l.length≤100000,.aS [.fr 86 (aW (IW l s).1),.pv (.int .i64 (IW l s).2)])|_=>none
@[simp] noncomputable def GrWo:List AV→Option (Prop×AV)|[.pv (.ro a),.pv (.str s)]=>(dec fc a).map fun l=>(l.length≤1000000,.fr 107 (aW (ux l s)))|_=>none
@[simp] noncomputable def GrUnb:List AV→Option (Prop×AV)|[.pv (.ro a),.pv (.str s)]=>(dec fc a).map fun l=>(l.length≤100000,.aS [.fr 107 (aW (IW l s).1),.pv (.int .i64 (IW l s).2)])|_=>none
def Js (l:List En) (s t:List UInt8):List En×Int:=if bk l=true∧(eW s=false∨eW t=false) then([],170) else if(jF l s).2≠0 then([],(jF l s).2) else if(jF l t).2=0 then([],81) else(IX (ux l s) ⟨t,(jF l s).1⟩,0)
@[simp] noncomputable def GRen:List AV→Option (Prop×AV)|[.pv (.ro a),.pv (.str s),.pv (.str t)]=>(dec fc a).map fun l=>(l.length≤100000,.aS [.fr 86 (aW (Js l s t).1),.pv (.int .i64 (Js l s t).2)])|_=>none
@[simp] noncomputable def GrRen:List AV→Option (Prop×AV)|[.pv (.ro a),.pv (.str s),.pv (.str t)]=>(dec fc a).map fun l=>(l.length≤100000,.aS [.fr 107 (aW (Js l s t).1),.pv (.int .i64 (Js l s t).2)])|_=>none
end Go.Proofs.YtifcndkhigakfaaGreat.Ab
