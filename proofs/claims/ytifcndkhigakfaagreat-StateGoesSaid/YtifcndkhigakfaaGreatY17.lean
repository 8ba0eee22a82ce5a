/- slices.Insert of one entry where there is no room, walked at the machine. -/
import Derived.Test.YtifcndkhigakfaaGreatY14
import Derived.Test.YtifcndkhigakfaaGreatY16
import Derived.WalkKit
set_option linter.unusedVariables false
set_option linter.unusedSimpArgs false
set_option linter.unnecessarySimpa false
set_option maxHeartbeats 40000000
set_option maxRecDepth 100000
set_option linter.defProp false
namespace Go.Proofs.YtifcndkhigakfaaGreat.Ab
open Go Go.RowKit
def q149:=@Lib.cell_of_heap
def q190:=@Array.getElem?_push
def q196:=@List.mem_drop_iff_getElem
def q223:=@Below.refl
def q240:=@Nat.lt_trichotomy
end Go.Proofs.YtifcndkhigakfaaGreat.Ab
namespace Go.Proofs.YtifcndkhigakfaaGreat.Ab
open Go Go.RowKit R
variable {P:Program}{Q:Exit->Act->World->Prop}{ops:Array Oper}{o:Oper}{i br bt:Nat}{W w':World}{v':Value}{bad:Bool}
set_option maxHeartbeats 8000000 in def C7 (w:World) (rows:List (List PV)) (hs2:∀r∈rows,r.length=2) (hp:dI rows) (i n:Nat) (hn:rows.length=n) (hi:i<n) (hsm:n<=1000000) (nm:List UInt8) (id:Int) (g cap:Nat) (cur:Array Value) (hg0:w.heap[g]?=some (.cells cur 86 (0,0))) (hnc:n<=cap) (hcs:cur.size=cap*2) (htk:cur.toList.take (n*2)=cellW rows) (hroom:cap<n+1) (ad:Addr) (c:Nat) (h0:w.cell? (ad.add 0)=some (.string ⟨nm.toArray⟩)) (h1:w.cell? (ad.add 1)=some (.int .u64 id)):Calls Tryz.prog 170 #[.slice (some ⟨g,0,none⟩) n cap,.int .i64 i,.slice (some ad) 1 c] w fun r w'=>∃V',r=.returned V'/\w'.ownsRow 0 86 2 V' (n+1) ((cellW rows).take (i*2)++[.string ⟨nm.toArray⟩,.int .u64 id]++(cellW rows).drop (i*2))/\w.grownBy w' (Value.slice (some ⟨g,0,none⟩) n cap).ownBlock/\(∀b,V'.ownBlock=some b->(Value.slice (some ⟨g,0,none⟩) n cap).ownBlock=some b\/w.heap.size<=b):=by
 obtain⟨inf,z,hi',hz,hzs,hsz,hby⟩:=lx;have hszm:(Tryz.prog.info? 86).map (·.size)=some 2:=by rw[hi'];simp[hsz]
 have hcl:(cellW rows).length=n*2:=by rw[fv hs2,hn]
 obtain⟨cs,hcse⟩:∃cs,cs=(cellW rows).drop (i*2):=⟨_,rfl⟩;have hcsl:cs.length=(n-i)*2:=by rw[hcse,q88,hcl];omega
 have hcur:cur.toList.length=cap*2:=by simpa using hcs
 have hone:=lE hp;have hgw:g<w.heap.size:=(q67.1 hg0).1;have hadw:ad.block<w.heap.size:=by
  have:=h0;rw[add_zero']at this;unfold World.cell? at this;split at this;·rename_i hq;exact(q67.1 hq).1
  ·cases this
 have hcellA:∀j v,(cellW rows)[j]?=some v->w.cell? ⟨g,j,none⟩=some v:=by
  intro j v hj;rw[<-htk,q81]at hj;split at hj;·simp only[World.cell?,hg0];simpa using hj
  ·cases hj
 have hold:(Builtin.firstCells inf.size i (.slice (some ⟨g,0,none⟩) i cap)).run Tryz.prog w.drew=.ok ((cellW rows).take (i*2)).toArray w.drew:=by rw[hsz];exact run_firstCells_some w.drew 2 i ⟨g,0,none⟩ i cap _ (by rw[q68];omega) (fun j v hj=>by
  rw[q100];rw[q81]at hj;split at hj;·rw[q126];exact hcellA j v hj
  ·cases hj)
 have hkk:(n:Int)+1-(i:Int)=((n+1-i:Nat):Int):=by omega
 have hrz:∀ty,(Builtin.append_ #[33,3] ty #[.slice (some ⟨g,0,none⟩) i cap,.int .i64 ((n:Int)+1-(i:Int))]).run Tryz.prog w=.ok (.slice (some ⟨w.heap.size,0,none⟩) (n+1) (grownCap w (n+1) cap 86)) (w.drew.alloc (.cells (((cellW rows).take (i*2)).toArray++Builtin.zeroCells z.cells (n+1-i)++Builtin.zeroCells z.cells (grownCap w (n+1) cap 86-(n+1))) 86)):=fun ty=>by have h:=q279 w 33 3 ty 86 inf z .i64 .i64 Tryz.underlying33 Tryz.underlying3 hi' hz (some ⟨g,0,none⟩) i cap ((cellW rows).take (i*2)) hold (n+1-i) (by omega) (by omega) (by omega) (by omega) (by rw[hby];omega) (by rw[hby];exact growslice_fits (by omega) (by omega));rw[show i+(n+1-i)=n+1 from by omega]at h;rw[hkk];exact h
 have hGn:n+1<=grownCap w (n+1) cap 86:=grownCap_ge w _ _ _;have hGm:grownCap w (n+1) cap 86<=maxLen:=grownCap_le_maxLen w (n+1) cap _ (by unfold maxLen;omega);generalize grownCap w (n+1) cap 86=G at hrz hGn hGm;obtain⟨ROW,hROW⟩:∃ROW,ROW=((cellW rows).take (i*2)).toArray++Builtin.zeroCells z.cells (n+1-i)++Builtin.zeroCells z.cells (G-(n+1)):=⟨_,rfl⟩;rw[<-hROW]at hrz;have hRl:ROW.size=G*2:=by rw[hROW];simp only[q239,q107,q68,hcl,size_zeroCells,hzs,hsz];omega
 have hRt:ROW.toList.take (i*2)=(cellW rows).take (i*2):=by rw[hROW];simp only[q230,q77];rw[q111 (by rw[q68,hcl];omega),List.take_of_length_le (by rw[q68];omega)]
 obtain⟨N,hN⟩:∃N,N=w.heap.size:=⟨_,rfl⟩;obtain⟨W1,hW1⟩:∃W1,W1=w.drew.alloc (.cells ROW 86):=⟨_,rfl⟩;have hW1N:W1.heap[N]?=some (.cells ROW 86 (0,0)):=by rw[hW1,hN];exact heap_alloc_new w.drew _
 have hW1o:∀k,k<w.heap.size->W1.heap[k]?=w.heap[k]?:=fun k hk=>by rw[hW1];exact q197 w.drew _ k hk
 obtain⟨X1,hX1⟩:∃X1,X1=(ROW.toList.take (i*2)++[Value.string ⟨nm.toArray⟩,Value.int .u64 id]++ROW.toList.drop (i*2+2)).toArray:=⟨_,rfl⟩;have hX1l:X1.size=G*2:=by rw[hX1];simp only[q107,q65,q68,q88,q87,hRl,q70,q91];omega
 have hold':∀W:World,(∀k,k<w.heap.size->W.heap[k]?=w.heap[k]?)->∀x:Addr,x.block<w.heap.size->W.cell? x=w.cell? x:=fun W hW x hx=>by unfold World.cell?;rw[hW _ hx]
 have hcpA:∀W:World,W.heap=W1.heap->∀sT ty dc,(Builtin.copy_ #[33,sT] ty #[.slice (some ⟨N,i*2,none⟩) (n+1-i) dc,.slice (some ad) 1 c]).run Tryz.prog W=.ok (goInt 1) (W.setRow N X1):=fun W hW sT ty dc=>by
  have:=dG W 33 sT ty 86 N (i*2) (n+1-i) dc ad 1 c 2 ROW 86 [.string ⟨nm.toArray⟩,.int .u64 id] Tryz.underlying33 hszm (by rw[hW];exact hW1N) (by simp only[q70,q91,q156];split<;>omega) (fun j v hj=>by
   have hab:∀j,(ad.add j).block<w.heap.size:=fun j=>by rw[bN];exact hadw
   have ho:∀k,k<w.heap.size->W.heap[k]?=w.heap[k]?:=fun k hk=>by rw[hW];exact hW1o k hk
   match j with|0=>simp at hj;subst hj;rw[hold' W ho _ (hab 0)];exact h0|1=>simp at hj;subst hj;rw[hold' W ho _ (hab 1)];exact h1|j+2=>simp at hj) (by simp only[q70,q91,hRl];omega) (by intro v hv;simp only[q78,q102,or_false]at hv;rcases hv with rfl|rfl<;>rfl);rw[this,hX1];congr 2;simp only[q156];split<;>omega
 obtain⟨X2,hX2⟩:∃X2,X2=(X1.toList.take ((i+1)*2)++cs++X1.toList.drop ((i+1)*2+cs.length)).toArray:=⟨_,rfl⟩;have hX2l:X2.size=G*2:=by rw[hX2];simp only[q107,q65,q68,q88,q87,hX1l,hcsl];omega
 have hW2o:∀k,k<w.heap.size->(W1.setRow N X1).heap[k]?=w.heap[k]?:=fun k hk=>by rw[setRow_other _ N k _ (by omega)];exact hW1o k hk
 have hcpB:∀W:World,W.heap=(W1.setRow N X1).heap->∀sT ty dc sc,(Builtin.copy_ #[33,sT] ty #[.slice (some ⟨N,(i+1)*2,none⟩) (n-i) dc,.slice (some ⟨g,i*2,none⟩) (n-i) sc]).run Tryz.prog W=.ok (goInt (n-i)) (W.setRow N X2):=fun W hW sT ty dc sc=>by have:=dG W 33 sT ty 86 N ((i+1)*2) (n-i) dc ⟨g,i*2,none⟩ (n-i) sc 2 X1 86 cs Tryz.underlying33 hszm (by rw[hW];exact setRow_heap W1 N ROW X1 _ _ hW1N) (by rw[hcsl];congr 1;simp only[q156];split<;>omega) (fun j v hj=>by rw[hold' W (fun k hk=>by rw[hW];exact hW2o k hk) _ (by rw[bN];exact hgw),q100];rw[hcse,q89]at hj;exact hcellA _ v hj) (by rw[hcsl,hX1l];omega) (fun v hv=>hone v (by rw[hcse]at hv;exact q110 hv));rw[this,hX2];congr 2;simp only[q156];split<;>omega
 have key:∀Φ:Ending->World->Prop,(∀w',w'.heap=((W1.setRow N X1).setRow N X2).heap->w'.os=w.os->w'.tape=w.tape->w'.output=w.output->Φ (.returned (.slice (some ⟨N,0,none⟩) (n+1) G)) w')->Calls Tryz.prog 170 #[.slice (some ⟨g,0,none⟩) n cap,.int .i64 i,.slice (some ad) 1 c] w Φ:=by
  intro Φ hΦ;have q1:¬((i:Int)=(n:Int)):=by omega
  have q2:(cap:Int)<(n:Int)+1:=by omega
  have q3:(i:Int)<=(n:Int):=by omega
  have q5:(0:Int)<=(n:Int)+1:=by omega
  have q6:(i:Int)+1<=(n:Int)+1:=by omega
  have q7:IntKind.i64.wrap ((n:Int)+1)=(n:Int)+1:=by rw[q166];omega
  have q8:IntKind.i64.wrap ((i:Int)+1)=(i:Int)+1:=by rw[q166];omega
  have q9:IntKind.i64.wrap ((n:Int)+1-(i:Int))=(n:Int)+1-(i:Int):=by rw[q166];omega
  have q10:((i:Int)+1).toNat=i+1:=by omega
  have q11:(0:Int)<=(i:Int)+1:=by omega
  have q12:¬(G=i+1):=by omega
  have q13:¬(G=i):=by omega
  have q14:(i:Int)<=(n:Int)+1:=by omega
  have q15:¬(cap=i):=by omega
  have mixed:Tryz.prog.follows .mixedOrders=true:=by kernel_rfl
  have hΦ':Φ (.returned (.slice (some ⟨N,0,none⟩) (n+1) G)) (((W1.setRow N X1).drew).setRow N X2):=hΦ _ rfl (by rw[hW1];rfl) (by rw[hW1];rfl) (by rw[hW1];rfl);rw[<-hW1]at hrz;subst hN;clear hkk hΦ hold hone hX1 hX2 htk hcur hROW hRt hW1N hW1o hW2o hold' hcellA hW1;go_enter Tryz.func170,Tryz.ntmps170;go_wp2_with(first|(at_builtin;refine q184 _ rfl _ _ _ _ rfl _ _ rfl rfl _ _ (hrz _) ?_)|(at_builtin;refine wpList_copy_runI _ rfl _ _ 33 32 rfl _ _ rfl rfl (hcpA _ rfl _ _ _) ?_));go_region_law_o(refine step_copy_runI rfl _ _ 33 33 rfl (.slice (some ⟨w.heap.size,(i+1)*2,none⟩) (n-i) (G-(i+1))) (.slice (some ⟨g,i*2,none⟩) (n-i) (cap-i)) (by simp[Act.eval,Act.put]) (by simp[Act.eval,Act.put]) (hcpB (W1.setRow w.heap.size X1).drew rfl 33 3 (G-(i+1)) (cap-i)) ?_);go_wp2;exact hΦ'
 have e1:X1.toList.take ((i+1)*2)=(cellW rows).take (i*2)++[Value.string ⟨nm.toArray⟩,Value.int .u64 id]:=by
  rw[hX1,hRt];have hl:((cellW rows).take (i*2)++[Value.string ⟨nm.toArray⟩,Value.int .u64 id]).length=(i+1)*2:=by simp only[q65,q68,hcl,q70,q91];omega
  rw[<-hl];exact q138
 have e3:X2.toList=((cellW rows).take (i*2)++[Value.string ⟨nm.toArray⟩,Value.int .u64 id]++(cellW rows).drop (i*2))++X1.toList.drop ((i+1)*2+cs.length):=by rw[hX2,e1,hcse]
 have e4:((cellW rows).take (i*2)++[Value.string ⟨nm.toArray⟩,Value.int .u64 id]++(cellW rows).drop (i*2)).length=(n+1)*2:=by simp only[q65,q68,q70,q91,q88,hcl];omega
 refine key _ fun w' hh ho ht hou=>⟨_,rfl,⟨e4,.inr ⟨N,G,X2,rfl,q95 _,?_,hGn,hGm,hX2l,?_⟩⟩,⟨ho,ht,hou,?_,?_⟩,fun b hb=>.inr ?_⟩;·rw[hh];exact setRow_heap (W1.setRow N X1) N X1 X2 _ _ (setRow_heap W1 N ROW X1 _ _ hW1N)
 ·rw[e3,<-e4];exact q138
 ·rw[hh,hW1];simp[World.setRow]
 ·intro k hk hne;rw[hh,setRow_other _ N k _ (by omega)];exact hW2o k hk
 ·simp[Value.ownBlock]at hb;omega
def kT {a:Act}{w:World}{K:Act->World->Prop}{E:Prop} (hg:o.guard=none) (d x:Operand) (dT sT:TypeId) (hop:o.op=Op.call {callee:=Callee.builtin Builtin.append,args:=#[d,x],argTypes:=#[dT,sT]}) (v u:Value) (hd:a.eval d=v) (hx:a.eval x=u)  (hr:(Builtin.append_ #[dT,sT] o.type #[v,u]).run P w=.ok v' w') (hK:K (a.put o.dst v') w'):if Region.wanted o (yielded ops a.tmps)=true then Oper.wp P o a w K Q else E:=by
 have hw:Region.wanted o (yielded ops a.tmps)=true:=by simp[Region.wanted,hg]
 rw[if_pos hw];unfold Oper.wp;simp[execOp,hop,resolve,invoke,builtin,hd,hx,hr,Result.andThen];exact hK
def lF (w:World) {rest:List Oper}{a:Act} (hgd:o.guard=none) (x:Operand) (t:TypeId) (ho:o.op=.call {callee:=.builtin .clear,args:=#[x],argTypes:=#[t]}) (v:Value) (hx:a.eval x=v)  (hr:(Builtin.clear_ #[t] o.type #[v]).run P w=.ok v' w') (h:wpList P ops Q rest (a.put o.dst v') w'):wpList P ops Q (o::rest) a w:=wpList_plain hgd fun _ hK=>by unfold Oper.wp execOp;simp only[ho,resolve,invoke,builtin,q186,q198,q160,List.map_toArray,q74,q119,hx,hr];exact hK _ _ h
def KC {inf:TypeInfo}{z:Value} (hi:Tryz.prog.info? 86=some inf) (hz:inf.zero=some z):∀v∈z.cells.toList,v.oneCell'=true:=by
 have key:((Tryz.prog.info? 86).bind fun i=>i.zero.map fun z=>z.cells.toList.all (·.oneCell'))=some true:=by kernel_rfl
 rw[hi]at key;simp only[q131,hz,q121,qr]at key;exact q85.1 key
def Cw (w:World) (rows:List (List PV)) (hs2:∀r∈rows,r.length=2) (hp:dI rows) (i n:Nat) (hn:rows.length=n) (hi:i<n) (hsm:n<=1000000) (g cap:Nat) (cur:Array Value) (hg0:w.heap[g]?=some (.cells cur 86 (0,0))) (hnc:n<=cap) (hcm:cap<=maxLen) (hcs:cur.size=cap*2) (htk:cur.toList.take (n*2)=cellW rows):Calls Tryz.prog 172 #[.slice (some ⟨g,0,none⟩) n cap,.int .i64 i,.int .i64 ((i:Int)+1)] w fun r w'=>∃V',r=.returned V'/\w'.ownsRow 0 86 2 V' (n-1) ((cellW rows).take (i*2)++(cellW rows).drop ((i+1)*2))/\w.grownBy w' (Value.slice (some ⟨g,0,none⟩) n cap).ownBlock/\(∀b,V'.ownBlock=some b->(Value.slice (some ⟨g,0,none⟩) n cap).ownBlock=some b\/w.heap.size<=b):=by
 obtain⟨inf,z,hi',hz,hzs,hsz,hby⟩:=lx;have hzone:=KC hi' hz;have hcl:(cellW rows).length=n*2:=by rw[fv hs2,hn]
 obtain⟨cs,hcse⟩:∃cs,cs=(cellW rows).drop ((i+1)*2):=⟨_,rfl⟩;have hcsl:cs.length=(n-(i+1))*2:=by rw[hcse,q88,hcl];omega
 have hcur:cur.toList.length=cap*2:=by simpa using hcs
 have hone:=lE hp;obtain⟨X1,hX1⟩:∃X1,X1=(cur.toList.take (i*2)++cs++cur.toList.drop (i*2+cs.length)).toArray:=⟨_,rfl⟩;have hX1l:X1.size=cap*2:=by rw[hX1];simp only[q107,q65,q68,q88,hcur,hcsl];omega
 have hcell:∀j v,cs[j]?=some v->w.drew.cell? ((⟨g,(i+1)*2,none⟩:Addr).add j)=some v:=by
  intro j v hj;rw[q100];rw[hcse,q89,<-htk,q81]at hj;split at hj;·simp only[World.cell?,World.drew,hg0];simpa using hj
  ·cases hj
 have hap:∀ty (a:Addr) c',(n-(i+1)≠0->a=⟨g,(i+1)*2,none⟩)->(Builtin.append_ #[33,33] ty #[.slice (some ⟨g,0,none⟩) i cap,.slice (some a) (n-(i+1)) c']).run Tryz.prog w.drew=.ok (.slice (some ⟨g,0,none⟩) (n-1) cap) (w.drew.setRow g X1):=by
  intro ty a c' ha;have hfc:(Builtin.firstCells inf.size (n-(i+1)) (.slice (some a) (n-(i+1)) c')).run Tryz.prog w.drew=.ok cs.toArray w.drew:=by rw[hsz];refine run_firstCells_some w.drew 2 (n-(i+1)) a (n-(i+1)) c' cs hcsl fun j v hj=>?_;rw[ha (fun h0=>by rw[h0]at hcsl;have:=(q63.1 hj).1;omega)];exact hcell j v hj
  have hst:=run_storeCells_at Tryz.prog g (i*2) 86 cs 0 cur w.drew hg0 (by rw[hcsl,hcs];omega) (fun v hv=>hone v (by rw[hcse]at hv;exact q110 hv));simp only[q167]at hst;rw[<-hX1]at hst;have hlen:∀W:World,(Builtin.lenOf (.slice (some a) (n-(i+1)) c')).run Tryz.prog W=.ok (n-(i+1)) W:=fun W=>rfl;have hroom:n-1<=cap:=by omega
  rw[hsz]at hfc;have hsum:i+(n-(i+1))=n-1:=by omega
  simp[Builtin.append_,run_underlying Tryz.underlying33,sizeOf,typeInfo,hi',hlen,hroom,hfc,q100,hsz,hst,hsum]
 obtain⟨zc,hzc⟩:∃zc,zc=(Builtin.zeroCells z.cells 1).toList:=⟨_,rfl⟩;have hzl:zc.length=2:=by rw[hzc,q87,size_zeroCells,hzs,hsz]
 obtain⟨X2,hX2⟩:∃X2,X2=(X1.toList.take ((n-1)*2)++zc++X1.toList.drop ((n-1)*2+zc.length)).toArray:=⟨_,rfl⟩;have hX2l:X2.size=cap*2:=by rw[hX2];simp only[q107,q65,q68,q88,q87,hX1l,hzl];omega
 have hclr:∀W:World,W.heap=(w.drew.setRow g X1).heap->∀ty c',(Builtin.clear_ #[33] ty #[.slice (some ⟨g,(n-1)*2,none⟩) 1 c']).run Tryz.prog W=.ok (.tuple #[]) (W.setRow g X2):=by
  intro W hW ty c';have hWg:W.heap[g]?=some (.cells X1 86 (0,0)):=by rw[hW];exact setRow_heap w.drew g cur X1 _ _ hg0
  have hst:=run_storeCells_at Tryz.prog g ((n-1)*2) 86 zc 0 X1 W hWg (by rw[hzl,hX1l];omega) (fun v hv=>hzone v (by rw[hzc]at hv;exact pr _ _ _ hv));simp only[q167]at hst;rw[<-hX2,hzc]at hst;have hzr:(zeroValue 86).run Tryz.prog W=.ok z W:=by simp[zeroValue,typeInfo,hi',hz]
  simp[Builtin.clear_,run_underlying Tryz.underlying33,hzr,hst]
 have key:∀Φ:Ending->World->Prop,(∀w',w'.heap=((w.setRow g X1).setRow g X2).heap->w'.os=w.os->w'.tape=w.tape->w'.output=w.output->Φ (.returned (.slice (some ⟨g,0,none⟩) (n-1) cap)) w')->Calls Tryz.prog 172 #[.slice (some ⟨g,0,none⟩) n cap,.int .i64 i,.int .i64 ((i:Int)+1)] w Φ:=by
  intro Φ hΦ;have q1:¬((i:Int)=(i:Int)+1):=by omega
  have q3:(i:Int)<=(n:Int):=by omega
  have q4:(n:Int)<=(cap:Int):=by omega
  have q5:(0:Int)<=(i:Int)+1:=by omega
  have q6:(i:Int)+1<=(n:Int):=by omega
  have q7:(i:Int)<=(i:Int)+1:=by omega
  have q10:((i:Int)+1).toNat=i+1:=by omega
  have q11:((n-1:Nat):Int)<=(n:Int):=by omega
  have q12:¬(cap=n-1):=by omega
  have q13:n-(n-1)=1:=by omega
  have q14:(i:Int)<=(cap:Int):=by omega
  have q15:(i:Int)+1<=(cap:Int):=by omega
  have mixed:Tryz.prog.follows .mixedOrders=true:=by kernel_rfl
  by_cases hcap:cap=i+1
  ·have hap':∀ty,(Builtin.append_ #[33,33] ty #[.slice (some ⟨g,0,none⟩) i cap,.slice (some ⟨g,0,none⟩) 0 0]).run Tryz.prog w.drew=.ok (.slice (some ⟨g,0,none⟩) (n-1) cap) (w.drew.setRow g X1):=fun ty=>by have:=hap ty ⟨g,0,none⟩ 0 (fun h=>by omega);rwa[show n-(i+1)=0 from by omega]at this
   subst hcap;clear hcell hone hX1 hX2 htk hcur hzc hap;go_enter Tryz.func172,Tryz.ntmps172;go_wp2;go_region_law_o(refine kT rfl _ _ 33 33 rfl (.slice (some ⟨g,0,none⟩) i (i+1)) (.slice (some ⟨g,0,none⟩) 0 0) (by simp[Act.eval,Act.put]) (by simp[Act.eval,Act.put]) (hap' 33) ?_);go_wp2_with(at_builtin;refine lF _ rfl _ 33 rfl _ rfl (hclr _ rfl _ _) ?_);exact hΦ _ rfl rfl rfl rfl
  ·have hap':=fun ty c'=>hap ty ⟨g,(i+1)*2,none⟩ c' (fun _=>rfl);clear hcell hone hX1 hX2 htk hcur hzc hap;go_enter Tryz.func172,Tryz.ntmps172;go_wp2;go_region_law_o(refine kT rfl _ _ 33 33 rfl (.slice (some ⟨g,0,none⟩) i cap) (.slice (some ⟨g,(i+1)*2,none⟩) (n-(i+1)) (cap-(i+1))) (by simp[Act.eval,Act.put]) (by simp[Act.eval,Act.put]) (hap' 33 (cap-(i+1))) ?_);go_wp2_with(at_builtin;refine lF _ rfl _ 33 rfl _ rfl (hclr _ rfl _ _) ?_);exact hΦ _ rfl rfl rfl rfl
 have hAt:(cellW rows).take (i*2)=cur.toList.take (i*2):=by rw[<-htk,q148,q103 (by omega)]
 have hA2:((cellW rows).take (i*2)).length=i*2:=by rw[q68];omega
 have e4:((cellW rows).take (i*2)++(cellW rows).drop ((i+1)*2)).length=(n-1)*2:=by rw[q65,hA2,<-hcse,hcsl];omega
 have e3:X2.toList.take ((n-1)*2)=(cellW rows).take (i*2)++(cellW rows).drop ((i+1)*2):=by
  have hl:(X1.toList.take ((n-1)*2)).length=(n-1)*2:=by rw[q68,q87,hX1l];omega
  have h1:X2.toList.take ((n-1)*2)=X1.toList.take ((n-1)*2):=by rw[hX2];simp only[q77];rw[q111 (by omega),List.take_of_length_le (by omega)]
  rw[h1,hX1,<-hAt,hcse,<-e4];exact q138
 refine key _ fun w' hh ho ht hou=>⟨_,rfl,⟨e4,.inr ⟨g,cap,X2,rfl,q95 _,?_,by omega,hcm,hX2l,e3⟩⟩,⟨ho,ht,hou,?_,?_⟩,fun b hb=>.inl hb⟩;·rw[hh];exact setRow_heap (w.setRow g X1) g X1 X2 _ _ (setRow_heap w g cur X1 _ _ hg0)
 ·rw[hh];simp[World.setRow]
 ·intro k hk hne;have hkg:k≠g:=fun e=>hne (by rw[e];rfl);rw[hh,setRow_other _ g k _ hkg,setRow_other _ g k _ hkg]
def eC (l:List En):dI (bg l):=by intro r hr p hp;simp only[bg,q83]at hr;obtain⟨e,_,rfl⟩:=hr;simp only[fH,q78,q102,or_false]at hp;rcases hp with rfl|rfl<;>rfl
def vF (l:List En) (i:Nat):bg (l.take i)=(bg l).take i:=by simp[bg,q161]
def uZ (l:List En) (i:Nat):bg (l.drop i)=(bg l).drop i:=by simp[bg,q189]
def tr (l:List En) (i:Nat) (e:En):List En:=l.take i++e::l.drop i
def Hn (l:List En) (i:Nat) (e:En):cellW (bg (tr l i e))=(cellW (bg l)).take (i*2)++[Value.string ⟨e.n.toArray⟩,Value.int .u64 e.i]++(cellW (bg l)).drop (i*2):=by unfold tr;rw[show l.take i++e::l.drop i=l.take i++([e]++l.drop i) from rfl,fu,fu,fy,fy,vF,uZ,jL i (dw l),pT i (dw l),q77];rfl
def HF (l:List En) (i:Nat):cellW (bg (l.take i++l.drop (i+1)))=(cellW (bg l)).take (i*2)++(cellW (bg l)).drop ((i+1)*2):=by rw[fu,fy,vF,uZ,jL i (dw l),pT (i+1) (dw l)]
@[simp] noncomputable def GIns:List AV->Option (Prop×AV)|[.fr e a,.pv (.int .i64 i),.pv (.ro [[.str nm,.int .u64 id]])]=>if e=86 then(dec fH a).map fun l=>(0<=i/\i<=l.length/\l.length<=1000000,.fr 86 (bg (tr l i.toNat ⟨nm,id⟩))) else none|_=>none
def c_Ins:pL Tryz.prog 170 GIns:=by
 intro ys φ r h hφ;unfold GIns at h;split at h
 ·rename_i e ra i nm id;split at h
  ·rename_i hef;subst hef;obtain⟨l,hl,h⟩:=q900.1 h;cases h;cases bm hl;obtain⟨h0,h1,h2⟩:=hφ;obtain⟨k,rfl⟩:∃k:Nat,i=(k:Int):=⟨i.toNat,by omega⟩;simp only[q66];obtain⟨inf,z,hi,hz,hzs,hsz,hby⟩:=lx;have hins:(tr l k ⟨nm,id⟩).length=l.length+1:=by unfold tr;simp;omega
   refine vC hi (rows:=bg l) (rows':=bg (tr l k ⟨nm,id⟩)) (by rw[hsz];exact dw l) (eC l) (by rw[hsz];exact dw _) (eC _) [.int .i64 (k:Int),.ro [[.str nm,.int .u64 id]]] ?_;intro w S V vals hown hS hlen hv;rw[hsz]at hown |-;match vals,hlen with
   |[v1,v2],_=>
    have e1:=(hv 0 v1 _ rfl rfl).aG;subst e1;obtain⟨A,c,rfl,hc,hne⟩:=(hv 1 v2 _ rfl rfl).gJ;obtain⟨ad,sz,us,rfl,g1,g2,g3,g4,g5⟩:=hne (by simp);have hs2:sz=2:=(g2 [.str nm,.int .u64 id] (by simp)).symm;subst hs2;have u0:us 0 0=.string ⟨nm.toArray⟩:=(g5 0 0 _ _ rfl rfl).fx;have u1:us 0 1=.int .u64 id:=(g5 0 1 _ _ rfl rfl).aG;have k0:w.cell? (ad.add 0)=some (.string ⟨nm.toArray⟩):=by rw[<-u0];exact g3 0 0 (by simp) (by omega)
    have k1:w.cell? (ad.add 1)=some (.int .u64 id):=by rw[<-u1];exact g3 0 1 (by simp) (by omega)
    have hb:=(hS _ g1).2;rw[db,hins,Hn];rw[db]at hown;rcases q141 k l.length with hk|hk
    ·rcases hown.2 with⟨_,hn⟩|⟨g,cap,cur,rfl,hb0,hg0,hnc,hcm,hcs,htk⟩;·omega
     ·have hbg:ad.block≠g:=fun e=>hb (by rw[e];rfl);rcases q141 cap (l.length+1) with hr|hr;·exact C7 w (bg l) (dw l) (eC l) k l.length (db l) hk h2 nm id g cap cur hg0 hnc hcs htk hr ad c k0 k1
      ·exact DL w (bg l) (dw l) (eC l) k l.length (db l) hk h2 nm id g cap cur hg0 hcm hcs htk hr ad c hbg k0 k1
    ·have hkl:k=l.length:=by omega
     subst hkl;have hcl:(cellW (bg l)).length=l.length*2:=by rw[fv (dw l),db]
     rw[List.take_of_length_le (by omega),q298 (by omega),q130];have:=Es w V (bg l) (dw l) (eC l) (by simpa using h2) nm id (by rw[db];exact hown) ad c k0 k1;rw[db]at this;exact this
  ·cases h
 ·cases h
@[simp] noncomputable def ZC:List AV->Option (Prop×AV)|[.fr e a,.pv (.int .i64 i),.pv (.int .i64 j)]=>if e=86 then(dec fH a).map fun l=>(0<=i/\i<l.length/\j=i+1/\l.length<=1000000,.fr 86 (bg (l.take i.toNat++l.drop (i.toNat+1)))) else none|_=>none
def c_Del:pL Tryz.prog 172 ZC:=by
 intro ys φ r h hφ;unfold ZC at h;split at h
 ·rename_i e ra i j;split at h
  ·rename_i hef;subst hef;obtain⟨l,hl,h⟩:=q900.1 h;cases h;cases bm hl;obtain⟨h0,h1,hj,h2⟩:=hφ;subst hj;obtain⟨k,rfl⟩:∃k:Nat,i=(k:Int):=⟨i.toNat,by omega⟩;simp only[q66];obtain⟨inf,z,hi,hz,hzs,hsz,hby⟩:=lx;have hins:(l.take k++l.drop (k+1)).length=l.length-1:=by simp;omega
   refine vC hi (rows:=bg l) (rows':=bg (l.take k++l.drop (k+1))) (by rw[hsz];exact dw l) (eC l) (by rw[hsz];exact dw _) (eC _) [.int .i64 (k:Int),.int .i64 ((k:Int)+1)] ?_;intro w S V vals hown hS hlen hv;rw[hsz]at hown |-;match vals,hlen with
   |[v1,v2],_=>
    have e1:=(hv 0 v1 _ rfl rfl).aG;have e2:=(hv 1 v2 _ rfl rfl).aG;subst e1 e2;rw[db,hins,HF];rw[db]at hown;rcases hown.2 with⟨_,hn⟩|⟨g,cap,cur,rfl,hb0,hg0,hnc,hcm,hcs,htk⟩;·omega
    ·exact Cw w (bg l) (dw l) (eC l) k l.length (db l) (by omega) h2 g cap cur hg0 hnc hcm hcs htk
  ·cases h
 ·cases h
@[simp] noncomputable def GCl:List AV->Option (Prop×AV)|[.pv (.ro a)]=>(dec fH a).map fun l=>(l.length<=100000000,.fr 86 (bg l))|_=>none
def Tk:aL Tryz.prog 90 GCl:=by
 intro ys φ r h hφ;unfold GCl at h;split at h;·rename_i ra;obtain⟨a,ha,h⟩:=q900.1 h;cases h;cases bm ha;refine aq ah (by kernel_rfl) (by conv=>lhs;reduce) (by simp) ?_;cases a with|nil=>simp[kP]|cons x l=>have hx:bg (x::l)=fH x::bg l:=rfl;simp[hx,aF];simp only[q70]at hφ;exact⟨by omega,by omega,rfl,dw l⟩
 ·cases h
@[simp] noncomputable def GB1:List AV->Option (Prop×AV)|[.agg [.pv (.str a),.pv (.int .u64 b)],.rp [.int .u64 n]]=>some (True,.pv (.bool (decide (b=n))))|_=>none
def c_B1:aL Tryz.prog 169 GB1:=by
 intro ys φ r h hφ;unfold GB1 at h;split at h;·cases h;refine aq ah (by kernel_rfl) (by conv=>lhs;reduce) (by simp) ?_;simp
 ·cases h
def F0:gz Tryz.prog 169=true:=by kernel_rfl
def DV (l:List En) (n:Int):Bool:=l.any fun e=>decide (e.i=n)
@[simp] noncomputable def GIxC:List AV->Option (Prop×AV)|[.pv (.ro a),.bI f [.rp [.int .u64 n]]]=>if f=169 then(dec fH a).map fun l=>(l.length<=1000000000,.pv (.int .i64 (if DV l n=true then((l.findIdx fun e=>decide (e.i=n):Nat):Int) else-1))) else none|_=>none
def Zd:aL Tryz.prog 204 GIxC:=by
 intro ys φ r h hφ;unfold GIxC at h;split at h
 ·rename_i ra f n;split at h
  ·rename_i hf;subst hf;obtain⟨a,ha,h⟩:=q900.1 h;cases h;cases bm ha;refine aq (ag c_B1 ah) (by kernel_rfl) (by conv=>lhs;reduce) (by simp) ?_;simp;refine au (fun i:Nat=>i<=a.length/\∀e∈a.take i,¬e.i=n) (fun i=>⟨[(0,.pv (.ro (bg a))),(1,.bI 169 [.rp [.int .u64 n]]),(7,.pv (.int .i64 a.length)),(8,.pv (.int .i64 i))],[]⟩) (fun i=>a.length-i) [] 0 (by simp) ?_ ?_;·simp
   ·rintro i ⟨hi,ht⟩;have w2:IntKind.i64.wrap ((i:Int)+1)=(i:Int)+1:=wrap_i64 (by omega);by_cases hlt:i<a.length
    ·have r1:=fg hlt;by_cases he:a[i].i=n
     ·have ej:DV a n=true:=by unfold DV;rw[q133];exact⟨a[i],q84 hlt,by simpa using he⟩
      have hfi:a.findIdx (fun e=>decide (e.i=n))=i:=by rw[q173 hlt];refine⟨by simpa using he,fun j hj=>?_⟩;have:=ht a[j] (by rw[q90];exact⟨j,by omega,rfl⟩);simpa using this
      simp[hlt,r1,F0,he,ej,hfi]
     ·simp[hlt,r1,F0,he,w2];refine⟨i+1,⟨by omega,fun e hm=>?_⟩,by omega,by omega⟩;rw[q64 hlt,q75,q73]at hm;rcases hm with hm|rfl;·exact ht e hm
      ·exact he
    ·rw[List.take_of_length_le (by omega)]at ht;have ej:DV a n=false:=by unfold DV;rw[q146];intro e he;simpa using ht e he
     simp[hlt,ej]
  ·cases h
 ·cases h
@[simp] noncomputable def GCfC:List AV->Option (Prop×AV)|[.pv (.ro a),.bI f [.rp [.int .u64 n]]]=>if f=169 then(dec fH a).map fun l=>(l.length<=1000000000,.pv (.bool (DV l n))) else none|_=>none
def c_CfC:aL Tryz.prog 168 GCfC:=by
 intro ys φ r h hφ;unfold GCfC at h;split at h
 ·rename_i ra f n;split at h;·rename_i hf;subst hf;obtain⟨a,ha,h⟩:=q900.1 h;cases h;cases bm ha;refine aq (ag Zd ah) (by kernel_rfl) (by conv=>lhs;reduce) (by simp) ?_;cases ej:DV a n with|true=>simp[hφ,ej]|false=>simp[hφ,ej]
  ·cases h
 ·cases h
def j9 (l:List En) (e:En):List En:=tr l (lb l e.n) e
def dK (l:List En) (s:List UInt8) (n:Int):List En×Int:=if(ed l s).2=0 then([],81) else if(ed l s).2≠80 then([],(ed l s).2) else if n=0\/DV l n=true then([],2) else(j9 l ⟨s,n⟩,0)
def jK (l:List En) (s:List UInt8):(aP l=false/\ed l s=(0,2))\/(aP l=true/\dL s=false/\ed l s=(0,170))\/(aP l=true/\dL s=true/\dB l s=false/\ed l s=(0,80))\/(aP l=true/\dL s=true/\dB l s=true/\∃h:lb l s<l.length,ed l s=(l[lb l s].i,0)/\l[lb l s].n=s):=by cases hr:aP l with|false=>left;exact⟨rfl,by unfold ed;rw[if_neg (by simp[hr])]⟩|true=>right;cases hn:dL s with|false=>left;exact⟨rfl,rfl,by unfold ed;rw[if_pos hr,if_neg (by simp[hn])]⟩|true=>right;cases hf:dB l s with|false=>left;exact⟨rfl,rfl,rfl,ir hr hn hf⟩|true=>right;exact⟨rfl,rfl,rfl,gT hr hn hf⟩
@[simp] noncomputable def QE:List AV->Option (Prop×AV)|[.pv (.ro a),.pv (.str s),.pv (.int .u64 n)]=>(dec fH a).map fun l=>(l.length<=100000,.aN [.fr 86 (bg (dK l s n).1),.pv (.int .i64 (dK l s n).2)])|_=>none
def Ll:aL Tryz.prog 132 QE:=by
 intro ys φ r h hφ;unfold QE at h;split at h
 ·rename_i ra s n;obtain⟨a,ha,h⟩:=q900.1 h;cases h;cases bm ha;have hl9:a.length<=1000000000:=by omega
  have hl8:a.length<=100000000:=by omega
  have hl6:a.length<=1000000:=by omega
  have hinf:(Tryz.prog.info? 86).isSome=true:=by kernel_rfl
  refine aq (ag I7 (ag GP (ag c_CfC (ag Tk (ft (p:=0) (k:=998) c_Ins (by kernel_rfl) ah))))) (by kernel_rfl) (by conv=>lhs;reduce) (by simp) ?_;rcases jK a s with⟨hr,hg⟩|⟨hr,hn,hg⟩|⟨hr,hn,hf,hg⟩|⟨hr,hn,hf,hlt,hg,_⟩
  ·have hb:dK a s n=([],2):=by unfold dK;rw[hg];simp
   simp[hl9,mj,hr,hb,hinf]
  ·have hb:dK a s n=([],170):=by unfold dK;rw[hg];simp
   simp[hl9,mj,hr,hn,hb,hinf]
  ·by_cases h0:n=0
   ·have hb:dK a s n=([],2):=by unfold dK;rw[hg];simp[h0]
    simp[hl9,mj,hr,hn,hf,h0,hb,hinf];try simp[<-h0,hb]
   ·cases ej:DV a n with|true=>
     have hb:dK a s n=([],2):=by unfold dK;rw[hg];simp[ej]
     simp[hl9,mj,hr,hn,hf,h0,ej,hb,hinf]|false=>
     have hb:dK a s n=(tr a (lb a s) ⟨s,n⟩,0):=by unfold dK;rw[hg];simp[ej,h0,j9]
     have hlb:=Kp a s;simp[hl9,hl8,hl6,mj,hr,hn,hf,h0,ej,hb,hinf,hlb];exact aW _
  ·have hb:dK a s n=([],81):=by unfold dK;rw[hg];simp
   simp[hl9,mj,hr,hn,hf,hb,hinf]
 ·cases h
@[simp] noncomputable def GrPutE:List AV->Option (Prop×AV)|[.pv (.ro a),.agg [.pv (.str s),.pv (.int .u64 n)]]=>(dec fH a).map fun l=>(l.length<=1000000/\aP l=true/\dB l s=false,.fr 107 (bg (j9 l ⟨s,n⟩)))|_=>none
def Dn (l:List En) (e:En):(j9 l e).length=l.length+1:=by have:=Kp l e.n;unfold j9 tr;simp;omega
@[simp] noncomputable def GrBind:List AV->Option (Prop×AV)|[.pv (.ro a),.pv (.str s),.pv (.int .u64 n)]=>(dec fH a).map fun l=>(l.length<=100000,.aN [.fr 107 (bg (dK l s n).1),.pv (.int .i64 (dK l s n).2)])|_=>none
def bD (l:List En) (s:List UInt8):List En:=l.filter fun e=>!decide (e.n=s)
def mM (l:List En) (s:List UInt8):List En×Int:=if(ed l s).2≠0 then([],(ed l s).2) else(bD l s,0)
def qv {l:List En}{s:List UInt8} (hr:aP l=true) (h:lb l s<l.length) (hs:l[lb l s].n=s):bD l s=l.take (lb l s)++l.drop (lb l s+1):=by
 have h1:l=l.take (lb l s)++l[lb l s]::l.drop (lb l s+1):=by rw[<-q93 h,q127]
 have ha:(l.take (lb l s)).filter (fun e=>!decide (e.n=s))=l.take (lb l s):=by rw[q171];intro e he;rw[q90]at he;obtain⟨j,hj,rfl⟩:=he;have:=tJ (FY (l:=l) (s:=s) (k:=j) (by omega));simpa using this
 have hd:(l.drop (lb l s+1)).filter (fun e=>!decide (e.n=s))=l.drop (lb l s+1):=by rw[q171];intro e he;rw[q196]at he;obtain⟨j,hj,rfl⟩:=he;have:=tJ (fO hr (i:=lb l s) (j:=lb l s+1+j) (by omega) (by omega)).1;rw[hs]at this;simpa using fun e=>this e.symm
 unfold bD;conv=>lhs;rw[h1]
 rw[q165,ha,List.filter_cons,hd];simp[hs]
@[simp] noncomputable def aaf:List AV->Option (Prop×AV)|[.pv (.ro a),.pv (.str s)]=>(dec fH a).map fun l=>(l.length<=100000,.aN [.fr 86 (bg (mM l s).1),.pv (.int .i64 (mM l s).2)])|_=>none
def Qu:aL Tryz.prog 133 aaf:=by
 intro ys φ r h hφ;unfold aaf at h;split at h
 ·rename_i ra s;obtain⟨a,ha,h⟩:=q900.1 h;cases h;cases bm ha;have hl9:a.length<=1000000000:=by omega
  have hl8:a.length<=100000000:=by omega
  have hl6:a.length<=1000000:=by omega
  have hinf:(Tryz.prog.info? 86).isSome=true:=by kernel_rfl
  refine aq (ag OL (ag GP (ag Tk (ft (p:=0) (k:=998) c_Del (by kernel_rfl) ah)))) (by kernel_rfl) (by conv=>lhs;reduce) (by simp) ?_;rcases jK a s with⟨hr,hg⟩|⟨hr,hn,hg⟩|⟨hr,hn,hf,hg⟩|⟨hr,hn,hf,hlt,hg,hs⟩
  ·have hb:mM a s=([],2):=by unfold mM;rw[hg];simp
   simp[hl9,hg,hb,hinf]
  ·have hb:mM a s=([],170):=by unfold mM;rw[hg];simp
   simp[hl9,hg,hb,hinf]
  ·have hb:mM a s=([],80):=by unfold mM;rw[hg];simp
   simp[hl9,hg,hb,hinf]
  ·have hb:mM a s=(a.take (lb a s)++a.drop (lb a s+1),0):=by unfold mM;rw[hg];simp[qv hr hlt hs]
   have w1:IntKind.i64.wrap ((lb a s:Int)+1)=(lb a s:Int)+1:=wrap_i64 (by omega);simp[hl9,hl8,hl6,hg,hr,hf,hb,hinf,hlt,w1]
 ·cases h
@[simp] noncomputable def GrWo:List AV->Option (Prop×AV)|[.pv (.ro a),.pv (.str s)]=>(dec fH a).map fun l=>(l.length<=1000000,.fr 107 (bg (bD l s)))|_=>none
def uf (l:List En) (s:List UInt8):(bD l s).length<=l.length:=q182 _ _
@[simp] noncomputable def GrUnb:List AV->Option (Prop×AV)|[.pv (.ro a),.pv (.str s)]=>(dec fH a).map fun l=>(l.length<=100000,.aN [.fr 107 (bg (mM l s).1),.pv (.int .i64 (mM l s).2)])|_=>none
def iF {l:List En} (s:List UInt8) (hr:aP l=true):aP (bD l s)=true:=by rw[eH]at hr |-;exact⟨fun e he=>hr.1 e (q94.1 he).1,hr.2.filter _⟩
def pz {l:List En}{s t:List UInt8} (hr:aP l=true) (h:dB l t=false):dB (bD l s) t=false:=by cases hf:dB (bD l s) t with|false=>rfl|true=>obtain⟨e,he,hn⟩:=(gv (iF s hr)).1 hf;have:=(gv (s:=t) hr).2 ⟨e,(q94.1 he).1,hn⟩;rw[h]at this;cases this
def xE {l:List En}{s:List UInt8} (hr:aP l=true) {e:En} (he:e∈l) (hs:e.n=s):DV (bD l s) e.i=false:=by
 unfold DV;rw[q146];intro x hx hi;have hxl:=(q94.1 hx).1;have hxn:¬x.n=s:=by simpa using(q94.1 hx).2
 have hi':x.i=e.i:=by simpa using hi
 obtain⟨j,hj,rfl⟩:=q128 hxl;obtain⟨k,hk,rfl⟩:=q128 he;rcases q240 j k with h|h|h;·exact(fO hr hk h).2 hi'
 ·subst h;exact hxn hs
 ·exact(fO hr hj h).2 hi'.symm
def Bp {l:List En}{s t:List UInt8} (hr:aP l=true) (hlt:lb l s<l.length) (hs:l[lb l s].n=s) (ht:dL t=true) (hf:dB l t=false):dK (bD l s) t l[lb l s].i=(j9 (bD l s) ⟨t,l[lb l s].i⟩,0):=by have hg:=ir (iF s hr) ht (pz (s:=s) hr hf);have ej:=xE hr (q84 hlt) hs;have h0:l[lb l s].i≠0:=((eH l).1 hr).1 _ (q84 hlt)|>.2;unfold dK;rw[hg,if_neg (by simp),if_neg (by simp),if_neg (by simp[ej,h0])]
def fA (l:List En) (s t:List UInt8):List En×Int:=if aP l=true/\(dL s=false\/dL t=false) then([],170) else if(ed l s).2≠0 then([],(ed l s).2) else if(ed l t).2=0 then([],81) else(j9 (bD l s) ⟨t,(ed l s).1⟩,0)
@[simp] noncomputable def GRen:List AV->Option (Prop×AV)|[.pv (.ro a),.pv (.str s),.pv (.str t)]=>(dec fH a).map fun l=>(l.length<=100000,.aN [.fr 86 (bg (fA l s t).1),.pv (.int .i64 (fA l s t).2)])|_=>none
@[simp] noncomputable def GrRen:List AV->Option (Prop×AV)|[.pv (.ro a),.pv (.str s),.pv (.str t)]=>(dec fH a).map fun l=>(l.length<=100000,.aN [.fr 107 (bg (fA l s t).1),.pv (.int .i64 (fA l s t).2)])|_=>none
def ZT:aL Tryz.prog 134 GRen:=by
 intro ys φ r h hφ;unfold GRen at h;split at h
 ·rename_i ra s t;obtain⟨a,ha,h⟩:=q900.1 h;cases h;cases bm ha;have hl9:a.length<=1000000000:=by omega
  have hl5:a.length<=100000:=hφ;have hw5:(bD a s).length<=100000:=by have:=uf a s;omega
  have hinf:(Tryz.prog.info? 86).isSome=true:=by kernel_rfl
  have fl:∀l,bP (bg l):=aW;refine aq (ag I7 (ag OL (ag GP (ag Qu (ag Ll ah))))) (by kernel_rfl) (by conv=>lhs;reduce) (by simp) ?_;apply ae;·simp;exact⟨rfl,rfl⟩
  rcases jK a s with⟨hr,hg⟩|⟨hr,hn,hg⟩|⟨hr,hn,hf,hg⟩|⟨hr,hn,hf,hlt,hg,hs⟩
  ·have hb:fA a s t=([],2):=by unfold fA;rw[hg];simp[hr]
   refine bB (fun _=>False) ?_ (fun _ h=>h.elim);apply ae;·simp[hl9,mj,hr];exact⟨rfl,rfl⟩
   apply ae;·simp[];exact⟨rfl,rfl⟩
   apply cm rfl;simp[hb,hinf]
  ·have hb:fA a s t=([],170):=by unfold fA;simp[hr,hn]
   refine bB (fun _=>False) ?_ (fun _ h=>h.elim);apply ae;·simp[hl9,mj,hr,hn];exact⟨rfl,rfl⟩
   apply ae;·simp[];exact⟨rfl,rfl⟩
   apply cm rfl;simp[hb,hinf]
  ·cases ht:dL t with|false=>
    have hb:fA a s t=([],170):=by unfold fA;simp[hr,ht]
    refine bB (fun _=>False) ?_ (fun _ h=>h.elim);apply ae;·simp[hl9,mj,hr,hn,ht];exact⟨rfl,rfl⟩
    apply ae;·simp[];exact⟨rfl,rfl⟩
    apply cm rfl;simp[hb,hinf]|true=>
    have hb:fA a s t=([],80):=by unfold fA;rw[hg];simp[hr,hn,ht]
    rw[bh];apply ae;·simp[hl9,mj,hr,hn,ht];exact⟨rfl,rfl⟩
    apply ae;·simp;exact⟨rfl,rfl⟩
    apply cr rfl;apply ae;·simp[hl9,hg];exact⟨rfl,rfl⟩
    refine bB (fun _=>False) ?_ (fun _ h=>h.elim);apply ae;·simp[];exact⟨rfl,rfl⟩
    apply cm rfl;simp[hb,hinf]
  ·cases ht:dL t with|false=>
    have hb:fA a s t=([],170):=by unfold fA;simp[hr,ht]
    refine bB (fun _=>False) ?_ (fun _ h=>h.elim);apply ae;·simp[hl9,mj,hr,hn,ht];exact⟨rfl,rfl⟩
    apply ae;·simp[];exact⟨rfl,rfl⟩
    apply cm rfl;simp[hb,hinf]|true=>cases hft:dB a t with
    |true=>
     have hgt:=(gT hr ht hft).2.1;have hb:fA a s t=([],81):=by unfold fA;rw[hg,hgt];simp[hr,hn,ht]
     rw[bh];apply ae;·simp[hl9,mj,hr,hn,ht];exact⟨rfl,rfl⟩
     apply ae;·simp;exact⟨rfl,rfl⟩
     apply cr rfl;apply ae;·simp[hl9,hg];exact⟨rfl,rfl⟩
     rw[bh];apply ae;·simp;exact⟨rfl,rfl⟩
     apply cr rfl;refine bB (fun _=>False) ?_ (fun _ h=>h.elim);apply ae;·simp[hl9,hr,hft];exact⟨rfl,rfl⟩
     apply ae;·simp[];exact⟨rfl,rfl⟩
     apply cm rfl;simp[hb,hinf]|false=>
     have hgt:=ir hr ht hft;have hb:fA a s t=(j9 (bD a s) ⟨t,a[lb a s].i⟩,0):=by unfold fA;rw[hg,hgt];simp[hr,hn,ht]
     have hu:mM a s=(bD a s,0):=by unfold mM;rw[hg];simp
     have hbw:=Bp hr hlt hs ht hft;rw[bh];apply ae;·simp[hl9,mj,hr,hn,ht];exact⟨rfl,rfl⟩
     apply ae;·simp;exact⟨rfl,rfl⟩
     apply cr rfl;apply ae;·simp[hl9,hg];exact⟨rfl,rfl⟩
     rw[bh];apply ae;·simp;exact⟨rfl,rfl⟩
     apply cr rfl;rw[nY];rw[bh];apply ae;·simp[hl9,hr,hft];exact⟨rfl,rfl⟩
     apply ae;·simp;exact⟨rfl,rfl⟩
     apply cr rfl;apply ae;·simp[hl5,hu,fl];exact⟨rfl,rfl⟩
     simp[hw5,hbw,hb,fl]
 ·cases h
structure Wr (w w':World) (b:Nat) (us:Array Value) (ty:TypeId):Prop where
 os:w'.os=w.os
 tape:w'.tape=w.tape
 output:w'.output=w.output
 size:w'.heap.size=w.heap.size
 here:w'.heap[b]?=some (.cells us ty (0,0))
 block:∀k,k≠b->w'.heap[k]?=w.heap[k]?
def xB {w:World}{b:Nat}{us:Array Value}{ty:TypeId} (h:w.heap[b]?=some (.cells us ty (0,0))) (o:Nat) (v:Value):Wr w (w.setCell ⟨b,o,none⟩ v) b (us.setIfInBounds o v) ty:=by
 refine⟨rfl,rfl,rfl,by simp[World.setCell],?_,fun k hk=>?_⟩;·simp[World.setCell,q218,h]
 ·simp[World.setCell,q218,q260 hk]
def gO (a:Value) (b o:Nat) (x:Int) (us:Array Value) (ty:TypeId) (w:World) (h:w.heap[b]?=some (.cells us ty (0,0))) (hx:us[o]?=some (.int .u64 x)):Calls Tryz.prog 285 #[a,.pointer (some ⟨b,o,none⟩)] w fun e w'=>e=.returned (.tuple #[])/\Wr w w' b (us.setIfInBounds o (.int .u64 0)) ty:=by
 have hc:w.cell? ⟨b,o,none⟩=some (.int .u64 x):=by rw[q149 h];exact hx
 have hf:w.frozen? ⟨b,o,none⟩=false:=by simp[World.frozen?,h]
 go_enter Tryz.func285,Tryz.ntmps285;go_wp2;exact⟨rfl,_,by kernel_rfl,rfl,xB h o _⟩
def Dy (b o bt:Nat) (n:List UInt8) (bad:Bool) (us:Array Value) (ty tt:TypeId) (w:World) (hne:b≠bt) (h:w.heap[b]?=some (.cells us ty (0,0))) (hx:us[o]?=some (.string ⟨n.toArray⟩)) (ht:w.heap[bt]?=some (.cells #[.bool bad] tt (0,0))):Calls Tryz.prog 286 #[.pointer (some ⟨bt,0,none⟩),.pointer (some ⟨b,o,none⟩)] w fun e w'=>e=.returned (.tuple #[])/\∃w1,Wr w w1 bt #[.bool (bad||decide (n=[])||decide (64<n.length))] tt/\Wr w1 w' b (us.setIfInBounds o (.string ⟨#[]⟩)) ty:=by
 have hc:w.cell? ⟨b,o,none⟩=some (.string ⟨n.toArray⟩):=by rw[q149 h];exact hx
 have hb:w.cell? ⟨bt,0,none⟩=some (.bool bad):=by rw[q149 ht];rfl
 have hf:w.frozen? ⟨b,o,none⟩=false:=by simp[World.frozen?,h]
 have hg:w.frozen? ⟨bt,0,none⟩=false:=by simp[World.frozen?,ht]
 have hd:∀v,(w.setCell ⟨bt,0,none⟩ v).cell? ⟨b,o,none⟩=some (.string ⟨n.toArray⟩):=fun v=>by rw[q149 (((xB ht 0 v).block b hne).trans h)];exact hx
 have fin:∀v,v=(bad||decide (n=[])||decide (64<n.length))->∃w1,Wr w w1 bt #[.bool (bad||decide (n=[])||decide (64<n.length))] tt/\Wr w1 ((w.setCell ⟨bt,0,none⟩ (.bool v)).setCell ⟨b,o,none⟩ (.string ⟨#[]⟩)) b (us.setIfInBounds o (.string ⟨#[]⟩)) ty:=by rintro v rfl;exact⟨_,xB ht 0 _,xB (((xB ht 0 _).block b hne).trans h) o _⟩
 go_enter Tryz.func286,Tryz.ntmps286;have hd1:=hd (.bool true);have hd2:=hd (.bool false);clear hd;cases bad with|true=>go_wp2;exact⟨rfl,_,by kernel_rfl,rfl,fin _ rfl⟩|false=>
  by_cases h1:n=[];·subst h1;go_wp2;exact⟨rfl,_,by kernel_rfl,rfl,fin _ rfl⟩
  ·go_wp2;refine⟨rfl,_,by kernel_rfl,rfl,fin _ ?_⟩;have:(n.isEmpty||decide (64<(n.length:Int)))=(decide (n=[])||decide (64<n.length)):=by cases n with|nil=>rfl|cons x l=>simp only[List.isEmpty_cons,q266,reduceCtorEq,decide_false];exact decide_eq_decide.2 (by omega)
   rw[this,q266]
def recC (r:Rc):Array Value:=#[.int .u8 r.k,.int .u64 r.p,.int .u64 r.i,.int .u64 r.s,.int .u64 r.e,.int .u64 r.u,.int .u64 r.v,.int .u64 r.c,.int .u64 r.z,.int .u64 r.m,.string ⟨r.n.toArray⟩,.string ⟨r.t.toArray⟩]
def BB:Nat->Rc->Rc|0,r=>{r with e:=0}|1,r=>{r with u:=0}|2,r=>{r with v:=0}|3,r=>{r with c:=0}|4,r=>{r with z:=0}|5,r=>{r with m:=0}|6,r=>{r with n:=[]}|7,r=>{r with t:=[]}|_,r=>r
def badR:Nat->Rc->Bool->Bool|6,r,b=>b||decide (r.n=[])||decide (64<r.n.length)|7,r,b=>b||decide (r.t=[])||decide (64<r.t.length)|_,_,b=>b
def vU:List Nat->Rc×Bool->Rc×Bool|[],x=>x|q::l,x=>vU l (BB q x.1,badR q x.1 x.2)
def aay (a b c:Value) (w:World):(Instr.index 268 (.agg #[a,b,c]) (.int .i64 0)).run Tryz.prog w=.ok a w:=by kernel_rfl
def Yo (a b c:Value) (w:World):(Instr.index 268 (.agg #[a,b,c]) (.int .i64 1)).run Tryz.prog w=.ok b w:=by kernel_rfl
def aap (a b c:Value) (w:World):(Instr.index 268 (.agg #[a,b,c]) (.int .i64 2)).run Tryz.prog w=.ok c w:=by kernel_rfl
def PK (n:Nat) (a:Addr) (w:World):(method (n+1) 220 (.pointer (some a)) "chartroom/record.number").run Tryz.prog w=.ok (285,.pointer (some a)) w:=by kernel_rfl
def m_txt (n:Nat) (a:Addr) (w:World):(method (n+1) 220 (.pointer (some a)) "chartroom/record.text").run Tryz.prog w=.ok (286,.pointer (some a)) w:=by kernel_rfl
def a_num (n:Nat) (a:Addr) (w:World):(nilAhead (n+1) 220 (.pointer (some a)) "chartroom/record.number").run Tryz.prog w=.ok (some false) w:=by kernel_rfl
def ZI (n:Nat) (a:Addr) (w:World):(nilAhead (n+1) 220 (.pointer (some a)) "chartroom/record.text").run Tryz.prog w=.ok (some false) w:=by kernel_rfl
def iOf:Value->Nat|.int _ n=>n.toNat|_=>0
structure Vs (w0 w:World) (br bt:Nat) (r:Rc) (bad:Bool):Prop where
 os:w.os=w0.os
 tape:w.tape=w0.tape
 output:w.output=w0.output
 size:w0.heap.size<w.heap.size
 hr:w.heap[br]?=some (.cells (recC r) 71 (0,0))
 ht:w.heap[bt]?=some (.cells #[.bool bad] 222 (0,0))
 ha:w.heap[w0.heap.size]?=some (.cells #[.pointer (some ⟨br,4,none⟩),.pointer (some ⟨br,5,none⟩),.pointer (some ⟨br,6,none⟩),.pointer (some ⟨br,7,none⟩),.pointer (some ⟨br,8,none⟩),.pointer (some ⟨br,9,none⟩)] 267 (0,0))
 block:∀k,k<w0.heap.size->k≠br->k≠bt->w.heap[k]?=w0.heap[k]?
def Vs.drew {w0 w:World}{r:Rc} (h:Vs w0 w br bt r bad):Vs w0 w.drew br bt r bad:=⟨h.os,h.tape,h.output,h.size,h.hr,h.ht,h.ha,h.block⟩
def Vs.num {w0 w w':World}{r r':Rc} (h:Vs w0 w br bt r bad) (hlr:br<w0.heap.size) (hlt:bt<w0.heap.size) (hne:br≠bt) {us:Array Value} (hw:Wr w w' br us 71) (hu:us=recC r'):Vs w0 w' br bt r' bad:=⟨hw.os.trans h.os,hw.tape.trans h.tape,hw.output.trans h.output,by rw[hw.size];exact h.size,by rw[hw.here,hu],(hw.block bt (q260 hne)).trans h.ht,(hw.block _ (by omega)).trans h.ha,fun k h1 h2 h3=>(hw.block k h2).trans (h.block k h1 h2 h3)⟩
def Vs.tak {w0 w w':World}{r:Rc}{bad bad':Bool} (h:Vs w0 w br bt r bad) (hlr:br<w0.heap.size) (hlt:bt<w0.heap.size) (hne:br≠bt) (hw:Wr w w' bt #[.bool bad'] 222):Vs w0 w' br bt r bad':=⟨hw.os.trans h.os,hw.tape.trans h.tape,hw.output.trans h.output,by rw[hw.size];exact h.size,(hw.block br hne).trans h.hr,hw.here,(hw.block _ (by omega)).trans h.ha,fun k h1 h2 h3=>(hw.block k h3).trans (h.block k h1 h2 h3)⟩
def SU (r:Rc) (bad:Bool) (ps:List Nat) (hps:∀q∈ps,q<8) (hlen:ps.length<=8) (w:World) (br bt:Nat) (hne:br≠bt) (hlr:br<w.heap.size) (hlt:bt<w.heap.size) (A:Option Addr) (c:Nat) (hc:ps.length<=c) (hA:0<ps.length->∃b o,A=some ⟨b,o,none⟩/\b≠br/\b≠bt/\b<w.heap.size/\∀i (h:i<ps.length),w.cell? ⟨b,o+i,none⟩=some (.int .u8 ps[i])) (h1:w.heap[br]?=some (.cells (recC r) 71 (0,0))) (h2:w.heap[bt]?=some (.cells #[.bool bad] 222 (0,0))):Calls Tryz.prog 127 #[.pointer (some ⟨br,0,none⟩),.iface 220 (.pointer (some ⟨bt,0,none⟩)),.slice A ps.length c] w fun e w'=>e=.returned (.tuple #[])/\Vs w w' br bt (vU ps ({r with p:=0,i:=0,s:=0},bad)).1 (vU ps ({r with p:=0,i:=0,s:=0},bad)).2:=by
 go_enter Tryz.func127,Tryz.ntmps127;go_wp2;go_region;have hv0:Vs w ((w.alloc (Obj.cells #[.pointer (some ⟨br,4,none⟩),.pointer (some ⟨br,5,none⟩),.pointer (some ⟨br,6,none⟩),.pointer (some ⟨br,7,none⟩),.pointer (some ⟨br,8,none⟩),.pointer (some ⟨br,9,none⟩)] 267)).drew) br bt r bad:=by
  have g:∀k,k<w.heap.size->((w.alloc (Obj.cells #[.pointer (some ⟨br,4,none⟩),.pointer (some ⟨br,5,none⟩),.pointer (some ⟨br,6,none⟩),.pointer (some ⟨br,7,none⟩),.pointer (some ⟨br,8,none⟩),.pointer (some ⟨br,9,none⟩)] 267)).drew).heap[k]?=w.heap[k]?:=fun k hk=>by show(w.heap.push _)[k]?=_;rw[q190,if_neg (by omega)]
  refine⟨rfl,rfl,rfl,?_,(g br hlr).trans h1,(g bt hlt).trans h2,?_,fun k hk _ _=>g k hk⟩;·show w.heap.size<(w.heap.push _).size;simp
  ·show(w.heap.push _)[w.heap.size]?=_;simp
 generalize((w.alloc (Obj.cells #[.pointer (some ⟨br,4,none⟩),.pointer (some ⟨br,5,none⟩),.pointer (some ⟨br,6,none⟩),.pointer (some ⟨br,7,none⟩),.pointer (some ⟨br,8,none⟩),.pointer (some ⟨br,9,none⟩)] 267)).drew)=W0 at hv0 |-;go_wp2;go_region;replace hv0:=hv0.drew;generalize W0.drew=W1 at hv0 |-;go_wp2;have j0:=aay;have j1:=Yo;have j2:=aap;have j3:=PK;refine wp_loop_rounds 4 ?_;rw[rounds_succ];go_wp2_with(go_at_call 285;refine(gO _ br 1 r.p (recC r) _ _ hv0.hr rfl).mono ?_);rintro e W2 ⟨rfl,hw⟩;replace hv0:=hv0.num hlr hlt hne hw (r':={r with p:=0}) rfl;clear hw;go_wp2;rw[rounds_succ];go_wp2_with(go_at_call 285;refine(gO _ br 2 r.i _ _ _ hv0.hr rfl).mono ?_);rintro e W3 ⟨rfl,hw⟩;replace hv0:=hv0.num hlr hlt hne hw (r':={r with p:=0,i:=0}) rfl;clear hw;go_wp2;rw[rounds_succ];go_wp2_with(go_at_call 285;refine(gO _ br 3 r.s _ _ _ hv0.hr rfl).mono ?_);rintro e W4 ⟨rfl,hw⟩;replace hv0:=hv0.num hlr hlt hne hw (r':={r with p:=0,i:=0,s:=0}) rfl;clear hw;go_wp2;rw[rounds_succ];go_wp2;clear j0 j1 j2;go_loopw[49] (fun vi wr=>∃(i:Nat) (x:Rc×Bool),i<=ps.length/\vi=.int .i64 i/\Vs w wr br bt x.1 x.2/\vU (ps.drop i) x=vU ps ({r with p:=0,i:=0,s:=0},bad)) (fun vi _=>ps.length-iOf vi);case atStart=>exact⟨0,({r with p:=0,i:=0,s:=0},bad),by omega,rfl,hv0,rfl⟩
 case round=>
  obtain⟨i,⟨x,bx⟩,hi,rfl,hv,hvis⟩:=hrel;by_cases hlt':i<ps.length
  ·have hli:(i:Int)<(ps.length:Int):=by omega
   obtain⟨b,o,rfl,hb1,hb2,hb3,hcell⟩:=hA (by omega);have hq:=hps _ (q84 hlt');have hcc:=hcell i hlt';have hcw:wr.cell? ⟨b,o+i,none⟩=some (.int .u8 ps[i]):=by rw[<-hcc];unfold World.cell?;rw[hv.block b hb3 hb1 hb2]
   rw[q93 hlt']at hvis;clear hcc hcell hv0 hps;revert hvis hcw hq;generalize ps[i]=q;intro hvis hcw hq;have hq8:q=0\/q=1\/q=2\/q=3\/q=4\/q=5\/q=6\/q=7:=by omega
   have hme:ps.length-iOf (.int .i64 ((i+1:Nat):Int))<ps.length-iOf (.int .i64 (i:Int)):=by show ps.length-(((i+1:Nat):Int)).toNat<ps.length-((i:Int)).toNat;omega
   have k1:=PK;have k2:=a_num;have k3:=m_txt;have k4:=ZI;rcases hq8 with rfl|rfl|rfl|rfl|rfl|rfl|rfl|rfl
   ·have hp:wr.cell? ⟨w.heap.size,0,none⟩=some (.pointer (some ⟨br,4,none⟩)):=by rw[q149 hv.ha];rfl
    go_wp2;go_region_with(go_at_call 285;refine(gO _ br 4 x.e _ _ _ hv.drew.hr rfl).mono ?_;rintro e W2 ⟨rfl,hw⟩);all_goals replace hv:=hv.drew.num hlr hlt hne hw (r':=BB 0 x) rfl;go_wp2;refine⟨⟨i+1,(_,_),hlt',congrArg (Value.int .i64) (by omega),hv,hvis⟩,hme⟩
   ·have hp:wr.cell? ⟨w.heap.size,1,none⟩=some (.pointer (some ⟨br,5,none⟩)):=by rw[q149 hv.ha];rfl
    go_wp2;go_region_with(go_at_call 285;refine(gO _ br 5 x.u _ _ _ hv.drew.hr rfl).mono ?_;rintro e W2 ⟨rfl,hw⟩);all_goals replace hv:=hv.drew.num hlr hlt hne hw (r':=BB 1 x) rfl;go_wp2;refine⟨⟨i+1,(_,_),hlt',congrArg (Value.int .i64) (by omega),hv,hvis⟩,hme⟩
   ·have hp:wr.cell? ⟨w.heap.size,2,none⟩=some (.pointer (some ⟨br,6,none⟩)):=by rw[q149 hv.ha];rfl
    go_wp2;go_region_with(go_at_call 285;refine(gO _ br 6 x.v _ _ _ hv.drew.hr rfl).mono ?_;rintro e W2 ⟨rfl,hw⟩);all_goals replace hv:=hv.drew.num hlr hlt hne hw (r':=BB 2 x) rfl;go_wp2;refine⟨⟨i+1,(_,_),hlt',congrArg (Value.int .i64) (by omega),hv,hvis⟩,hme⟩
   ·have hp:wr.cell? ⟨w.heap.size,3,none⟩=some (.pointer (some ⟨br,7,none⟩)):=by rw[q149 hv.ha];rfl
    go_wp2;go_region_with(go_at_call 285;refine(gO _ br 7 x.c _ _ _ hv.drew.hr rfl).mono ?_;rintro e W2 ⟨rfl,hw⟩);all_goals replace hv:=hv.drew.num hlr hlt hne hw (r':=BB 3 x) rfl;go_wp2;refine⟨⟨i+1,(_,_),hlt',congrArg (Value.int .i64) (by omega),hv,hvis⟩,hme⟩
   ·have hp:wr.cell? ⟨w.heap.size,4,none⟩=some (.pointer (some ⟨br,8,none⟩)):=by rw[q149 hv.ha];rfl
    go_wp2;go_region_with(go_at_call 285;refine(gO _ br 8 x.z _ _ _ hv.drew.hr rfl).mono ?_;rintro e W2 ⟨rfl,hw⟩);all_goals replace hv:=hv.drew.num hlr hlt hne hw (r':=BB 4 x) rfl;go_wp2;refine⟨⟨i+1,(_,_),hlt',congrArg (Value.int .i64) (by omega),hv,hvis⟩,hme⟩
   ·have hp:wr.cell? ⟨w.heap.size,5,none⟩=some (.pointer (some ⟨br,9,none⟩)):=by rw[q149 hv.ha];rfl
    go_wp2;go_region_with(go_at_call 285;refine(gO _ br 9 x.m _ _ _ hv.drew.hr rfl).mono ?_;rintro e W2 ⟨rfl,hw⟩);all_goals replace hv:=hv.drew.num hlr hlt hne hw (r':=BB 5 x) rfl;go_wp2;refine⟨⟨i+1,(_,_),hlt',congrArg (Value.int .i64) (by omega),hv,hvis⟩,hme⟩
   ·go_wp2;go_region_with(go_at_call 286;refine(Dy br 10 bt x.n bx _ _ _ _ hne hv.drew.hr rfl hv.drew.ht).mono ?_;rintro e W2 ⟨rfl,W3,hw,hw2⟩);all_goals replace hv:=(hv.drew.tak hlr hlt hne hw).num hlr hlt hne hw2 (r':=BB 6 x) rfl;go_wp2;refine⟨⟨i+1,(_,_),hlt',congrArg (Value.int .i64) (by omega),hv,hvis⟩,hme⟩
   ·go_wp2;go_region_with(go_at_call 286;refine(Dy br 11 bt x.t bx _ _ _ _ hne hv.drew.hr rfl hv.drew.ht).mono ?_;rintro e W2 ⟨rfl,W3,hw,hw2⟩);all_goals replace hv:=(hv.drew.tak hlr hlt hne hw).num hlr hlt hne hw2 (r':=BB 7 x) rfl;go_wp2;refine⟨⟨i+1,(_,_),hlt',congrArg (Value.int .i64) (by omega),hv,hvis⟩,hme⟩
  ·have hia:i=ps.length:=by omega
   subst hia;rw[q212 (q92 ps.length)]at hvis;go_wp2;refine⟨rfl,_,by kernel_rfl,rfl,?_⟩;rw[<-hvis];exact hv
def kG:List (Int×List Nat):=[(1,[0,1]),(2,[0,1]),(3,[0]),(4,[0,2,4,5]),(5,[2,1]),(6,[2]),(7,[]),(8,[3]),(9,[6]),(10,[6]),(11,[6,7])]
def mC (k:Int):List (Int×List Nat)->Option (List Nat)|[]=>none|x::l=>if k=x.1 then some x.2 else mC k l
def cF (r:Rc):Bool:=match mC r.k kG with|none=>false|some ps=>!decide (65535<r.z)&&!decide (4294967295<r.m)&&!(vU ps ({r with p:=0,i:=0,s:=0},false)).2&&decide ((vU ps ({r with p:=0,i:=0,s:=0},false)).1=⟨r.k,0,0,0,0,0,0,0,0,0,[],[]⟩)
def getK (k:Int):mS (.int .u8 k) lS=(mC k kG).map fun l=>iI (l.map fun n:Nat=>(n:Int)):=by
 have:∀l:List (Int×List Nat),mS (.int .u8 k) (l.map fun x=>(PV.int .u8 x.1,iI (x.2.map fun n:Nat=>(n:Int))))=(mC k l).map fun l=>iI (l.map fun n:Nat=>(n:Int)):=by intro l;induction l with|nil=>rfl|cons x l ih=>rw[q74,KF,ih,mC];split<;>rfl
 exact this kG
def mi {S:Nat->Prop}{w w':World}{v:Value} (h:dA S w v (.mv lS)) (k:Int) (hw:w'.heap=w.heap):∃u,(Instr.lookup 218 v (.int .u8 k) true).run Tryz.prog w'=.ok (.tuple #[u,.bool (mC k kG).isSome]) w'/\dA S w u (((mC k kG).map fun l=>iI (l.map fun n:Nat=>(n:Int))).getD .nil):=by cases h with|mv b us c es g1 g2 g3 g4 g5 g6=>
 have hm:mP Tryz.prog 218=some (5,216):=by kernel_rfl
 have hsrt:mR Tryz.prog 5=some 6:=by kernel_rfl
 have hz:zeroV Tryz.prog 216=some (.slice none 0 0):=by kernel_rfl
 have hmt:=jT hm;obtain⟨d,hdk,hkey⟩:=jF hsrt;have hp:dP (.int .u8 k)=6:=rfl;have hks:iP 6 lS:=by simp[lS,FJ,dP,pq]
 have hzr:(zeroValue 216).run Tryz.prog w'=.ok (.slice none 0 0) w':=by unfold zeroV at hz;obtain⟨i,hi,hz⟩:=qB.1 hz;simp[zeroValue,typeInfo,hi,hz]
 have hh:w'.heap[b]?=some (.map us c):=by rw[hw];exact g2
 have hfind:=lD hkey hp (by decide) us.toList lS 0 hks g4 fun i e u h1 h2=>(g5 i e u h1 h2).1;have gk:=getK k;rcases hfind with⟨h1,h2,_⟩|⟨j,e,u,h1,h2,h3,h4,h5,_⟩;·rw[h2]at gk;cases hf:mC k kG with|some l=>rw[hf]at gk;cases gk|none=>refine⟨.slice none 0 0,?_,.nil⟩;show(Instr.lookup 218 (.map (some b)) (Ab.ct (.int .u8 k)) true).run Tryz.prog w'=_;simp[Instr.lookup,run_underlying hmt,q114 hh,q118 hdk (hkey _ hp),q123 hdk h1,hzr,Result.andThen]
 ·rw[h5]at gk;cases hf:mC k kG with|none=>rw[hf]at gk;cases gk|some l=>
   rw[hf]at gk;refine⟨u.val,?_,?_⟩;·show(Instr.lookup 218 (.map (some b)) (Ab.ct (.int .u8 k)) true).run Tryz.prog w'=_;simp[Instr.lookup,run_underlying hmt,q114 hh,q118 hdk (hkey _ hp),q123 hdk h1,Result.andThen]
   ·simp only[q121,qr]at gk;rw[q121,q101,<-gk];exact g6 j e u h2 h3
def ko (w:World):Calls Tryz.prog 126 #[] w fun e w'=>∃v,e=.returned v/\dA (fun b=>w.heap.size<=b/\b<w'.heap.size) w' v (.mv lS)/\Below w.heap.size w w':=by
 have hc:=Mt [] True _ rfl trivial;have h:=hc w (fun _=>False) (fun _=>.nilIface) [] (fun b hb=>hb.elim) (fun t b ⟨o,ho⟩=>by simp[ab]at ho) ⟨fun t o ho=>by simp[ab]at ho,fun t t' b ⟨o,ho⟩=>by simp[ab]at ho⟩ rfl fun i v x hi=>by simp at hi
 refine h.mono ?_;rintro e w' ⟨v,β',rfl,hf,_,_,hv⟩;exact⟨v,rfl,hv.bL.mono fun b hb=>⟨⟨hb.1.elim False.elim id,hb.2.1⟩,rfl⟩,hf.os,hf.tape,hf.output,hf.size,fun k hk=>hf.block k hk fun⟨t,o,ho,_⟩=>by simp[ab]at ho⟩
def jM {b:Nat}{r:Rc} (h:W.heap[b]?=some (.cells (recC r) 71 (0,0))):W.cell? ⟨b,0,none⟩=some (.int .u8 r.k)/\W.cell? ⟨b,1,none⟩=some (.int .u64 r.p)/\W.cell? ⟨b,2,none⟩=some (.int .u64 r.i)/\W.cell? ⟨b,3,none⟩=some (.int .u64 r.s)/\W.cell? ⟨b,4,none⟩=some (.int .u64 r.e)/\W.cell? ⟨b,5,none⟩=some (.int .u64 r.u)/\W.cell? ⟨b,6,none⟩=some (.int .u64 r.v)/\W.cell? ⟨b,7,none⟩=some (.int .u64 r.c)/\W.cell? ⟨b,8,none⟩=some (.int .u64 r.z)/\W.cell? ⟨b,9,none⟩=some (.int .u64 r.m)/\W.cell? ⟨b,10,none⟩=some (.string ⟨r.n.toArray⟩)/\W.cell? ⟨b,11,none⟩=some (.string ⟨r.t.toArray⟩):=by
 have g:∀i v,(recC r)[i]?=some v->W.cell? ⟨b,i,none⟩=some v:=fun i v hv=>by rw[q149 h];exact hv
 exact⟨g 0 _ rfl,g 1 _ rfl,g 2 _ rfl,g 3 _ rfl,g 4 _ rfl,g 5 _ rfl,g 6 _ rfl,g 7 _ rfl,g 8 _ rfl,g 9 _ rfl,g 10 _ rfl,g 11 _ rfl⟩
def Eh {n:Nat}{u:Value}{ps:List Nat} (h:dA (fun b=>n<=b/\b<W.heap.size) W u (iI (ps.map fun n:Nat=>(n:Int)))):∃A c,u=.slice A ps.length c/\ps.length<=c/\(0<ps.length->∃b o,A=some ⟨b,o,none⟩/\n<=b/\b<W.heap.size/\∀i (h:i<ps.length),W.cell? ⟨b,o+i,none⟩=some (.int .u8 ps[i])):=by
 obtain⟨A,c,hv,hc,hne⟩:=dA.gJ h;simp only[List.length_map]at hv hc;refine⟨A,c,hv,hc,fun hp=>?_⟩;obtain⟨ad,sz,us,rfl,g1,g2,g3,g4,g5⟩:=hne (by intro e;have:=congrArg List.length e;simp only[List.length_map,q91]at this;omega);have hsz:sz=1:=by rw[<-g2 [.int .u8 ((ps[0]:Nat):Int)] (by simp only[List.map_map,q83];exact⟨ps[0],q84 hp,rfl⟩)];rfl
 subst hsz;have hcl:∀i (h:i<ps.length),W.cell? (ad.add i)=some (.int .u8 ps[i]):=by
  intro i hi;have hr:((ps.map fun n:Nat=>(n:Int)).map fun n=>[PV.int .u8 n])[i]?=some [.int .u8 ps[i]]:=by simp[hi]
  have h1:=g3 i 0 (by simpa using hi) (by omega);have h2:=(g5 i 0 _ _ hr rfl).aG;rw[h2]at h1;simpa using h1
 obtain⟨b,o,sp⟩:=ad;have hsp:sp=none:=by have hx:=hcl 0 hp;cases sp with|none=>rfl|some s=>exfalso;simp[Addr.add,World.cell?]at hx;try(split at hx<;>simp at hx)
 subst hsp;exact⟨b,o,rfl,g1.1,g1.2,fun i hi=>by have:=hcl i hi;rw[q100]at this;exact this⟩
def lj (W:World) (o1 o2:Obj):((W.alloc o1).alloc o2).heap.size=W.heap.size+2:=by show((W.heap.push _).push _).size=_;simp
def two_1 (W:World) (o1 o2:Obj):((W.alloc o1).alloc o2).heap[W.heap.size+1]?=some o2:=by show((W.heap.push _).push _)[W.heap.size+1]?=_;rw[q190,if_pos (by simp)]
def aaI (W:World) (o1 o2:Obj):((W.alloc o1).alloc o2).heap[W.heap.size]?=some o1:=by show((W.heap.push _).push _)[W.heap.size]?=_;rw[q190,if_neg (by simp),q190,if_pos rfl]
def Oh (W:World) (o1 o2:Obj) (k:Nat) (hk:k<W.heap.size):((W.alloc o1).alloc o2).heap[k]?=W.heap[k]?:=by show((W.heap.push _).push _)[k]?=_;rw[q190,if_neg (by simp;omega),q190,if_neg (by omega)]
def Np {k:Int}{ps:List Nat} (h:mC k kG=some ps):ps.length<=8/\∀q∈ps,q<8:=by
 simp only[kG,mC]at h;repeat' split at h
 all_goals first|cases h;decide|cases h
def Fx (r:Rc) (w:World):Calls Tryz.prog 92 #[.agg (recC r)] w fun e w'=>e=.returned (.bool (cF r))/\Below w.heap.size w w':=by
 go_enter Tryz.func92,Tryz.ntmps92;have hrec:recC r=#[.int .u8 r.k,.int .u64 r.p,.int .u64 r.i,.int .u64 r.s,.int .u64 r.e,.int .u64 r.u,.int .u64 r.v,.int .u64 r.c,.int .u64 r.z,.int .u64 r.m,.string ⟨r.n.toArray⟩,.string ⟨r.t.toArray⟩]:=rfl;go_wp2;have h0:(w.alloc (Obj.cells (recC r) 71)).heap[w.heap.size]?=some (.cells (recC r) 71 (0,0)):=by show(w.heap.push _)[w.heap.size]?=_;simp
 have hb0:Below w.heap.size w (w.alloc (Obj.cells (recC r) 71)):=(q223 _ w).alloc (q92 _) _;rw[hrec]at h0 hb0;revert h0 hb0;generalize w.alloc (Obj.cells #[.int .u8 r.k,.int .u64 r.p,.int .u64 r.i,.int .u64 r.s,.int .u64 r.e,.int .u64 r.u,.int .u64 r.v,.int .u64 r.c,.int .u64 r.z,.int .u64 r.m,.string ⟨r.n.toArray⟩,.string ⟨r.t.toArray⟩] 71)=W0;intro h0 hb0;rw[<-hrec]at h0;have c1:=(jM h0).1;clear hrec;generalize hbb:w.heap.size=b at h0 hb0 c1 |-;have bel:∀W1:World,Below W0.heap.size W0 W1->Below b w W1:=fun W1 hb=>⟨hb.os.trans hb0.os,hb.tape.trans hb0.tape,hb.output.trans hb0.output,q113 hb0.size hb.size,fun k hk=>(hb.block k (q97 (hbb▸hk) hb0.size)).trans (hb0.block k hk)⟩;cases hf:mC r.k kG with
 |none=>
  have hR:cF r=false:=by simp[cF,hf]
  go_region_with(go_at_call 126;refine(ko _).mono ?_;rintro e W1 ⟨v,rfl,hv,hb⟩;obtain⟨u,hl,hu⟩:=mi hv r.k (w':=W1) rfl;replace hb:Below W0.heap.size W0 W1:=⟨hb.os,hb.tape,hb.output,hb.size,hb.block⟩;have h1:W1.heap[b]?=some (.cells (recC r) 71 (0,0)):=(hb.block b (q67.1 h0).1).trans h0;have c2:=(jM h1).1;rw[hf]at hl);all_goals go_wp2;go_ret;exact⟨by rw[hR];rfl,hbb▸bel _ hb⟩|some ps=>
  obtain⟨hl8,hq8⟩:=Np hf;by_cases hz:65535<r.z
  ·have hR:cF r=false:=by simp[cF,hf,hz]
   go_region_with(go_at_call 126;refine(ko _).mono ?_;rintro e W1 ⟨v,rfl,hv,hb⟩;obtain⟨u,hl,hu⟩:=mi hv r.k (w':=W1) rfl;replace hb:Below W0.heap.size W0 W1:=⟨hb.os,hb.tape,hb.output,hb.size,hb.block⟩;have h1:W1.heap[b]?=some (.cells (recC r) 71 (0,0)):=(hb.block b (q67.1 h0).1).trans h0;have hlt:=(q67.1 h1).1;obtain⟨c2,d1,d2,d3,d4,d5,d6,d7,c3,c4,d8,d9⟩:=jM h1;rw[hf]at hl);all_goals go_wp2;go_ret;exact⟨by rw[hR];rfl,hbb▸bel _ hb⟩
  by_cases hm:4294967295<r.m
  ·have hR:cF r=false:=by simp[cF,hf,hm]
   go_region_with(go_at_call 126;refine(ko _).mono ?_;rintro e W1 ⟨v,rfl,hv,hb⟩;obtain⟨u,hl,hu⟩:=mi hv r.k (w':=W1) rfl;replace hb:Below W0.heap.size W0 W1:=⟨hb.os,hb.tape,hb.output,hb.size,hb.block⟩;have h1:W1.heap[b]?=some (.cells (recC r) 71 (0,0)):=(hb.block b (q67.1 h0).1).trans h0;have hlt:=(q67.1 h1).1;obtain⟨c2,d1,d2,d3,d4,d5,d6,d7,c3,c4,d8,d9⟩:=jM h1;rw[hf]at hl);all_goals go_wp2;go_ret;exact⟨by rw[hR];rfl,hbb▸bel _ hb⟩
  have hR:cF r=(!(vU ps ({r with p:=0,i:=0,s:=0},false)).2&&decide ((vU ps ({r with p:=0,i:=0,s:=0},false)).1=⟨r.k,0,0,0,0,0,0,0,0,0,[],[]⟩)):=by unfold cF;rw[hf];dsimp only;rw[decide_eq_false hz,decide_eq_false hm];rfl
  go_region_with(go_at_call 126;refine(ko _).mono ?_;rintro e W1 ⟨v,rfl,hv,hb⟩;obtain⟨u,hl,hu⟩:=mi hv r.k (w':=W1) rfl;replace hb:Below W0.heap.size W0 W1:=⟨hb.os,hb.tape,hb.output,hb.size,hb.block⟩;have h1:W1.heap[b]?=some (.cells (recC r) 71 (0,0)):=(hb.block b (q67.1 h0).1).trans h0;have hlt:=(q67.1 h1).1;obtain⟨c2,d1,d2,d3,d4,d5,d6,d7,c3,c4,d8,d9⟩:=jM h1;rw[hf]at hl);all_goals
   rw[hf]at hu;obtain⟨A,c,rfl,hc,hA⟩:=Eh hu;have t2:=Oh W1 (Obj.cells #[.bool false] 222) (Obj.cells (recC r) 71);go_wp2_with(go_at_call 127;refine(SU r false ps hq8 hl8 _ (W1.heap.size+1) W1.heap.size (by omega) ?hlr ?hlt A c hc ?hA ?h1 ?h2).mono ?_);case hlr=>rw[lj];omega
   case hlt=>rw[lj];omega
   case hA=>
    intro hp;obtain⟨bb,o,rfl,e1,e2,e3⟩:=hA hp;refine⟨bb,o,rfl,by omega,by omega,?_,fun i hi=>?_⟩;·rw[lj];omega
    ·rw[<-e3 i hi];unfold World.cell?;rw[<-t2 bb e2];rfl
   case h1=>exact two_1 _ _ _
   case h2=>exact aaI _ _ _
   rintro e W2 ⟨rfl,hV⟩;have s1:W2.heap[b]?=some (.cells (recC r) 71 (0,0)):=by rw[hV.block b (by rw[lj];omega) (by omega) (by omega)];exact(t2 b hlt).trans h1
   have s2:W2.cell? ⟨W1.heap.size,0,none⟩=some (.bool (vU ps ({r with p:=0,i:=0,s:=0},false)).2):=by rw[q149 hV.ht];rfl
   have B1:=bel _ hb;have bel2:Below b w W2:=⟨hV.os.trans B1.os,hV.tape.trans B1.tape,hV.output.trans B1.output,by have:=hV.size;rw[lj]at this;omega,fun k hk=>(hV.block k (by rw[lj];omega) (by omega) (by omega)).trans ((t2 k (by omega)).trans (B1.block k hk))⟩;have hr2:=hV.hr;clear hV t2 d1 d2 d3 d4 d5 d6 d7 d8 d9 hA c2 c3 c4 c1 hv hl hu h1;revert hR s2 hr2;generalize vU ps ({r with p:=0,i:=0,s:=0},false)=x;obtain⟨⟨xk,xp,xi,xs,xe,xu,xv,xc,xz,xm,xn,xt⟩,bx⟩:=x;intro hR s2 hr2;have c1:=(jM s1).1;obtain⟨d0,d1,d2,d3,d4,d5,d6,d7,d8,d9,d10,d11⟩:=jM hr2;cases bx with|true=>go_wp2;go_ret;exact⟨by rw[hR];rfl,hbb▸bel2⟩|false=>
    go_wp2;all_goals go_ret
    all_goals refine⟨?_,hbb▸bel2⟩
    all_goals rw[hR]
    all_goals simp[*]
def Nx {f:FuncId}{args:List AV}{p:PV}{u:Value} (h:∀(w:World) (S:Nat->Prop) (vals:List Value),vals.length=args.length->(∀(i:Nat) (x:Value) (y:AV),vals[i]?=some x->args[i]?=some y->RV P S w (fun _=>.nilIface) (fun _=>False) x y)->Calls P f vals.toArray w fun e w'=>e=.returned u/\Below w.heap.size w w') (hu:∀S w,dA S w u p):yA P f [] args [] (.pv p):=by
 intro w S0 β vals hS0 hlt hheap hvl hvr;have hno:∀t,bF (ab []) (fun t=>dO (cellAt (.pv p) t)) t=none:=by
  intro t;show dO (cellAt (.pv p) t)=none;simp only[cellAt,bS];split;·split<;>rfl
  ·rfl
 refine(h w (bn S0 w.heap.size β (ab []) w) vals hvl fun i x y hx hy=>?_).mono ?_;·exact(hvr i x y hx hy).mono (fun b hb=>⟨hb,rfl⟩) (fun t ⟨o,ho⟩=>by simp[ab]at ho)
 ·rintro e w' ⟨rfl,hb⟩;refine⟨_,fun _=>.nilIface,rfl,⟨hb.os,hb.tape,hb.output,hb.size,fun k hk _=>hb.block k hk⟩,⟨fun t o ho=>?_,fun t t' b ⟨o,ho⟩=>?_⟩,fun t b ⟨o,ho⟩=>?_,.pv _ _ (hu _ _)⟩;·rw[hno]at ho;cases ho
  ·rw[hno]at ho;cases ho
  ·rw[hno]at ho;cases ho
def gG (r:Rc):List AV:=[.pv (.int .u8 r.k),.pv (.int .u64 r.p),.pv (.int .u64 r.i),.pv (.int .u64 r.s),.pv (.int .u64 r.e),.pv (.int .u64 r.u),.pv (.int .u64 r.v),.pv (.int .u64 r.c),.pv (.int .u64 r.z),.pv (.int .u64 r.m),.pv (.str r.n),.pv (.str r.t)]
@[simp] def Jd:List AV->Option (Prop×AV)|[.agg [.pv (.int .u8 k),.pv (.int .u64 p),.pv (.int .u64 i),.pv (.int .u64 s),.pv (.int .u64 e),.pv (.int .u64 u),.pv (.int .u64 v),.pv (.int .u64 c),.pv (.int .u64 z),.pv (.int .u64 m),.pv (.str n),.pv (.str t)]]=>some (True,.pv (.bool (cF ⟨k,p,i,s,e,u,v,c,z,m,n,t⟩)))|_=>none
def F8:aL Tryz.prog 92 Jd:=by
 intro ys φ r h hφ;unfold Jd at h;split at h;·rename_i k p i s e u v c z m n t;cases h;refine Nx (u:=.bool (cF ⟨k,p,i,s,e,u,v,c,z,m,n,t⟩)) (fun w S vals hvl hvr=>?_) fun S w=>.bool _;match vals,hvl with|[v0],_=>obtain⟨us,rfl,hl,hus⟩:=(hvr 0 v0 _ rfl rfl).dg;match us,hl with|[a0,a1,a2,a3,a4,a5,a6,a7,a8,a9,a10,a11],_=>cases(hus 0 _ a0 rfl rfl).aG;cases(hus 1 _ a1 rfl rfl).aG;cases(hus 2 _ a2 rfl rfl).aG;cases(hus 3 _ a3 rfl rfl).aG;cases(hus 4 _ a4 rfl rfl).aG;cases(hus 5 _ a5 rfl rfl).aG;cases(hus 6 _ a6 rfl rfl).aG;cases(hus 7 _ a7 rfl rfl).aG;cases(hus 8 _ a8 rfl rfl).aG;cases(hus 9 _ a9 rfl rfl).aG;cases(hus 10 _ a10 rfl rfl).fx;cases(hus 11 _ a11 rfl rfl).fx;exact Fx ⟨k,p,i,s,e,u,v,c,z,m,n,t⟩ w
 ·cases h
@[simp] def vu (ys:List AV) (K:Rc->Option (Prop×AV)):Option (Prop×AV):=match ys with|[.pv (.int .u8 k),.pv (.int .u64 p),.pv (.int .u64 i),.pv (.int .u64 s),.pv (.int .u64 e),.pv (.int .u64 u),.pv (.int .u64 v),.pv (.int .u64 c),.pv (.int .u64 z),.pv (.int .u64 m),.pv (.str n),.pv (.str t)]=>K ⟨k,p,i,s,e,u,v,c,z,m,n,t⟩|_=>none
def pO {ys:List AV}{K:Rc->Option (Prop×AV)}{x:Prop×AV} (h:vu ys K=some x):∃r,ys=gG r/\K r=some x:=by
 unfold vu at h;split at h;·exact⟨_,rfl,h⟩
 ·cases h
def BK (f:Nat):PV:=.val (.func (.func f) #[] #[])
def mH:List (PV×PV):=[(.int .u8 1,BK 173),(.int .u8 2,BK 174),(.int .u8 3,BK 175),(.int .u8 4,BK 176),(.int .u8 5,BK 177),(.int .u8 6,BK 178),(.int .u8 7,BK 179),(.int .u8 8,BK 180)]
def Jg:List AV->Option (Prop×AV)|[]=>some (True,.pv (.mv mH))|_=>none
@[simp] def GDoes_eq:Jg []=some (True,.pv (.mv mH)):=rfl
def Rz:aL Tryz.prog 135 Jg:=by
 intro ys φ r h hφ;unfold Jg at h;split at h;·cases h;refine aq ah (by kernel_rfl) (by conv=>lhs;reduce) (by simp) ?_;simp[mH,BK]
 ·cases h
def Kq (acc:List Int) (x:Int):List Int:=if acc.getLast?=some x then acc else acc++[x]
def mN (l:List Int):List Int:=l.foldl Kq []
def IF (l:List Int) (x:Int):mN (l++[x])=Kq (mN l) x:=by simp[mN,List.foldl_append]
def KK (acc:List Int) (x:Int):(Kq acc x).getLast?=some x:=by
 unfold Kq;split;·assumption
 ·simp
def lG {l:List Int} (h:i<l.length):mN (l.take (i+1))=Kq (mN (l.take i)) l[i]:=by rw[q64 h,IF]
def zp {l:List Int} (h:i<l.length):(mN (l.take (i+1))).getLast?=some l[i]:=by rw[lG h,KK]
def MY (acc:List Int) (x:Int):(Kq acc x).length<=acc.length+1:=by unfold Kq;split<;>simp
def wg (l:List Int):∀i,(mN (l.take i)).length<=i
 |0=>by simp[mN]|i+1=>by
  by_cases h:i<l.length;·rw[lG h];have:=MY (mN (l.take i)) l[i];have:=wg l i;omega
  ·rw[List.take_of_length_le (by omega)];have:=wg l i;rw[List.take_of_length_le (by omega)]at this;omega
def BI (l:List Int):List Int:=l.mergeSort fun x y=>decide (x<=y)
def tT (l:List Int):List Int:=mN (BI l)
def Iu (l:List Int):(tT l).length<=l.length:=by have:=wg (BI l) (BI l).length;rw[List.take_of_length_le (q92 _)]at this;unfold tT;simpa[BI]using this
def IB (l:List Int) (i:Nat) (x:Int):(b6 l).set i [.int .u64 x]=b6 (l.set i x):=by unfold b6;rw[q219];rfl
def zn (l:List Int):∀r∈b6 l,r.length=1:=by intro r hr;simp only[b6,q83]at hr;obtain⟨c,_,rfl⟩:=hr;rfl
@[simp] noncomputable def GCmp:List AV->Option (Prop×AV)|[.fr e a]=>if e=22 then(dec ez a).map fun l=>(l.length<=1000000,.fr 22 (b6 (mN l))) else none|_=>none
def aax:pL Tryz.prog 243 GCmp:=by
 intro ys φ r h hφ;unfold GCmp at h;split at h
 ·rename_i e ra;split at h
  ·rename_i he;subst he;obtain⟨a,ha,h⟩:=q900.1 h;cases h;cases eg ha;have hl6:a.length<=1000000:=hφ;refine oL ah (by kernel_rfl) (by conv=>lhs;reduce) (by simp) (by simp[dv,nL,j5]) (by simp) ?_;by_cases h2:a.length<2
   ·have h2':(a.length:Int)<2:=by omega
    have hc:mN a=a:=by match a,h2 with|[],_=>rfl|[x],_=>rfl
    simp[h2,h2',hc]
   ·have h2':¬(a.length:Int)<2:=by omega
    have w1:IntKind.i64.wrap 1=1:=wrap_i64 (by omega);apply ae;·simp;exact⟨rfl,rfl⟩
    apply ae;·simp[h2,h2'];exact⟨rfl,rfl⟩
    rw[bh];simp;refine au (fun i:Nat=>1<=i/\i<=a.length/\mN (a.take i)=a.take i) (fun i=>⟨[(0,.own 998),(3,.pv (.int .i64 i))],[(998,.arr 22 (b6 a))]⟩) (fun i=>a.length-i) [] 1 ⟨by omega,by omega,by cases a with|nil=>rfl|cons x a=>rfl⟩ ?_ ?_;·simp[w1]
    ·rintro i ⟨hi1,hi2,hi3⟩;have w2:IntKind.i64.wrap ((i:Int)+1)=(i:Int)+1:=wrap_i64 (by omega);by_cases hlt:i<a.length
     ·obtain⟨p,rfl⟩:∃p,i=p+1:=⟨i-1,by omega⟩;have hpl:p<a.length:=by omega
      have w3:IntKind.i64.wrap (p:Int)=(p:Int):=wrap_i64 (by omega);have r1:rowAt (b6 a) ((p:Int)+1)=[.int .u64 a[p+1]]:=by have:=jE hlt;simpa using this
      have r2:=jE hpl;have q1:(0:Int)<=(p:Int)+1:=by omega
      have q2:(p:Int)+1<a.length:=by omega
      have q3:(p:Int)<a.length:=by omega
      have hla:=zp hpl;by_cases hq:a[p+1]=a[p]
      ·apply ae;·simp[hlt,q2];exact⟨rfl,rfl⟩
       rw[bh];rw[aR];apply ae;·simp[w3,r1,r2,q1,q2,q3,hq];exact⟨hpl,rfl,rfl⟩
       apply cm rfl;apply ae;·simp[q1,q2];exact⟨⟨by omega,zn a⟩,rfl,rfl⟩
       rw[bh];apply ae;·simp;exact⟨rfl,rfl⟩
       rw[aR];obtain⟨i,hi⟩:∃i,i=p+1:=⟨_,rfl⟩;have hst:mN (a.take (i+1))=a.take i:=by subst hi;rw[lG hlt,Kq,if_pos (by rw[hla,hq]),hi3]
       refine au (fun x:Nat×Nat×List Int=>1<=x.2.1/\x.1<i+x.2.1/\i+x.2.1<=a.length/\x.2.2.length=a.length/\x.2.2.take x.1=mN (a.take (i+x.2.1))/\x.2.2.drop (i+x.2.1-1)=a.drop (i+x.2.1-1)) (fun x=>⟨[(0,.own 998),(3,.pv (.int .i64 x.1)),(4,.sub 998 22 i a.length),(5,.pv (.int .i64 x.2.1))],[(998,.arr 22 (b6 x.2.2))]⟩) (fun x=>a.length-x.2.1) [] (i,1,a) ?_ ?_ ?_;·exact⟨q92 _,by show i<i+1;omega,by show i+1<=a.length;omega,rfl,hst.symm,rfl⟩
       ·simp;omega
       ·rintro⟨k,j,b⟩ ⟨h1,h3,h4,h5,h6,h7⟩;dsimp only at h1 h3 h4 h5 h6 h7;obtain⟨m,hm⟩:∃m,m=i+j-1:=⟨_,rfl⟩;rw[<-hm]at h7;have hm1:i+j=m+1:=by omega
        rw[hm1]at h6;have u2:IntKind.i64.wrap ((j:Int)+1)=(j:Int)+1:=wrap_i64 (by omega);have u3:IntKind.i64.wrap ((k:Int)+1)=(k:Int)+1:=wrap_i64 (by omega);have u4:IntKind.i64.wrap ((j:Int)-1)=(j:Int)-1:=wrap_i64 (by omega);have u5:(i:Int)+((j:Int)-1)=(m:Int):=by omega
        obtain⟨n,hn⟩:∃n,n=m+1:=⟨_,rfl⟩;have u6:(i:Int)+(j:Int)=(n:Int):=by omega
        rw[<-hn]at h6;by_cases hjl:(j:Int)<(a.length:Int)-(i:Int)
        ·have hna:n<a.length:=by omega
         have hma:m<a.length:=by omega
         have hnb:n<b.length:=by omega
         have hmb:m<b.length:=by omega
         have hkb:k<b.length:=by omega
         have e1:=q93 hmb;have e2:=q93 hma;have e3:b[m]=a[m]/\b.drop n=a.drop n:=by rw[h7,e2]at e1;injection e1 with e1 e4;exact⟨e1.symm,by rw[hn];exact e4.symm⟩
         have e4:b[n]=a[n]:=by have e5:=q93 hnb;have e6:=q93 hna;rw[e3.2,e6]at e5;injection e5 with e5 _;exact e5.symm
         have r3:=jE hnb;have r4:=jE hmb;have r5:=jE hkb;rw[e4]at r3;rw[e3.1]at r4;have hla:(mN (a.take n)).getLast?=some a[m]:=by rw[hn];exact zp hma
         have hstep:=lG hna;have hin:i+(j+1)=n+1:=by omega
         have j1:(0:Int)<=(j:Int)-1:=by omega
         have j2:(j:Int)-1<(a.length:Int)-(i:Int):=by omega
         have j3:(k:Int)<(b.length:Int):=by omega
         by_cases hq2:a[n]=a[m];·rw[Kq,if_pos (by rw[hla,hq2])]at hstep;simp[hjl,u2,u3,u4,u5,u6,r3,r4,j1,j2,j3,hq2];exact⟨hnb,by omega,hmb,k,j+1,b,⟨by omega,by omega,by omega,h5,by rw[hin,hstep,h6],by rw[hin];exact e3.2⟩,⟨⟨rfl,by omega⟩,rfl⟩,by omega⟩
         ·rw[Kq,if_neg (by rw[hla];simp;exact fun h=>hq2 h.symm)]at hstep;simp[hjl,u2,u3,u4,u5,u6,r3,r4,j1,j2,j3,hq2,IB,r5];refine⟨hnb,by omega,hmb,hnb,hkb,k+1,j+1,b.set k a[n],⟨by omega,by omega,by omega,by rw[q291];exact h5,?_,?_⟩,⟨⟨by omega,by omega⟩,rfl⟩,by omega⟩;·rw[hin,hstep,<-h6,q64 (by simp;omega)];simp[q258]
          ·rw[hin,q163,q257 (by omega)];exact e3.2
        ·have hma:m+1=a.length:=by omega
         have h6:b.take k=mN a:=by rw[h6,hn,hma,q155]
         have h3r:=zn b;simp[hjl];refine⟨⟨by omega,h3r⟩,⟨by omega,?_⟩,?_⟩
         ·rintro x (hx|⟨_,rfl⟩|hx);·exact h3r x (q96 hx)
          ·rfl
          ·exact h3r x (q110 hx)
         ·rw[q111 (by simp;omega),q148,q285,<-h6];simp[b6,q161]
      ·have hst:mN (a.take (p+1+1))=a.take (p+1+1):=by rw[lG hlt,Kq,if_neg (by rw[hla];simp;exact fun h=>hq h.symm),hi3,<-q64 hlt]
       simp[w2,w3,r1,r2,q1,q2,q3,hq];exact⟨hpl,p+2,⟨by omega,by omega,hst⟩,by rw[wrap_i64 (by omega)];omega,by omega⟩
     ·have hia:i=a.length:=by omega
      subst hia;rw[q155]at hi3;simp[hi3]
  ·cases h
 ·cases h
@[simp] noncomputable def Gnums:List AV->Option (Prop×AV)|[.pv (.ro a),.pv (.ro b)]=>(dec ez a).bind fun la=>(dec ez b).map fun lb=>(la.length<=1000000000,.pv (.bool (decide (la=lb))))|_=>none
@[simp] noncomputable def GrV:List AV->Option (Prop×AV)|[.pv (.ro a)]=>(dec rowP a).map fun l=>(l.length<=1000000,.fr 22 (b6 (tT (l.map Pn.v))))|_=>none
@[simp] noncomputable def GSp:List AV->Option (Prop×AV)|[.aN [.agg [.fr e a]]]=>if e=177 then(dec rowP a).map fun l=>(l.length<=1000000,.bI 0 [.aN [],.agg [.fr 177 (ay (l.map fun _=>⟨77,77,0⟩))]]) else none|_=>none
end Go.Proofs.YtifcndkhigakfaaGreat.Ab
