/- slices.Insert of one life where there is no room, walked at the machine. -/
import Derived.Test.YtlicclncicbajaaGreatX10
import Derived.WalkKit
set_option linter.unusedVariables false
set_option linter.unusedSimpArgs false
set_option linter.unnecessarySimpa false
set_option maxHeartbeats 40000000
set_option maxRecDepth 100000
set_option linter.defProp false
namespace Go.Proofs.YtlicclncicbajaaGreat.Ab
open Go Go.RowKit
def q143:=@Lib.cell_of_heap
def q163:=@List.drop_eq_nil_of_le
def q177:=@List.drop_of_length_le
def q190:=@List.drop_append_of_le_length
def q192:=@List.getElem_of_mem
def q193:=@Array.getElem?_push
def q199:=@List.pairwise_append
def q212:=@Nat.lt_trichotomy
def q231:=@List.all_eq_false
def q274:=@Lib.run_append_grow_zeros
def q275:=@List.pairwise_iff_getElem
def q294:=@List.findIdx_le_length
end Go.Proofs.YtlicclncicbajaaGreat.Ab
namespace Go.Proofs.YtlicclncicbajaaGreat.Ab
open Go Go.RowKit R
variable {P:Program}{o:Oper}{k i br bt:Nat}{rows:List (List PV)}{ops:Array Oper}{Q:Exit→Act→World→Prop}{v':Value}{w':World}{bad:Bool}
set_option maxHeartbeats 8000000 in
theorem yb (w:World) (rows:List (List PV)) (hs2:∀r∈rows,r.length=3) (hp:dy rows) (i n:Nat) (hn:rows.length=n) (hi:i < n) (hsm:n≤1000000) (n1 n2 n3:Int)
 (g cap:Nat) (cur:Array Value) (hg0:w.heap[g]? = some (.cells cur 84 (0,0))) (hnc:n≤cap) (hcs:cur.size=cap*3) (htk:cur.toList.take (n*3)=cellW rows) (hroom:cap < n+1) (ad:Addr) (c:Nat)
 (h0:w.cell? (ad.add 0)=some (.int .u64 n1)) (h1:w.cell? (ad.add 1)=some (.int .u64 n2)) (h2:w.cell? (ad.add 2)=some (.int .u64 n3)) :
 Calls Tryz.prog 100 #[.slice (some ⟨g,0,none⟩) n cap,.int .i64 i,.slice (some ad) 1 c] w fun r w'=>∃V',r=.returned V' ∧
  w'.ownsRow 0 84 3 V' (n+1) ((cellW rows).take (i*3)++[.int .u64 n1,.int .u64 n2,.int .u64 n3]++(cellW rows).drop (i*3))∧w.grownBy w' (Value.slice (some ⟨g,0,none⟩) n cap).ownBlock∧(∀b,V'.ownBlock=some b→(Value.slice (some ⟨g,0,none⟩) n cap).ownBlock=some b∨w.heap.size≤b):=by
 obtain⟨inf,z,hi',hz,hzs,hsz,hby⟩:=oS
 have hszm:(Tryz.prog.info? 84).map (·.size)=some 3:=by rw [hi'];simp [hsz]
 have hcl:(cellW rows).length=n*3:=by rw [eK hs2,hn]
 obtain⟨cs,hcse⟩:∃cs,cs=(cellW rows).drop (i*3):=⟨_,rfl⟩
 have hcsl:cs.length=(n - i)*3:=by rw [hcse,q94,hcl];omega
 have hcur:cur.toList.length=cap*3:=by simpa using hcs
 have hone:=kz hp
 have hgw:g < w.heap.size:=(q66.1 hg0).1
 have hadw:ad.block < w.heap.size:=by
  have:=h0
  rw [add_zero']at this
  unfold World.cell? at this
  split at this
  ·rename_i hq;exact (q66.1 hq).1
  ·cases this
 have hcellA:∀j v,(cellW rows)[j]? = some v→w.cell? ⟨g,j,none⟩=some v:=by
  intro j v hj
  rw [←htk,q81]at hj
  split at hj
  ·simp only [World.cell?,hg0]
   simpa using hj
  ·cases hj
 have hold:(Builtin.firstCells inf.size i (.slice (some ⟨g,0,none⟩) i cap)).run Tryz.prog w.drew=.ok ((cellW rows).take (i*3)).toArray w.drew:=by
  rw [hsz]
  exact run_firstCells_some w.drew 3 i ⟨g,0,none⟩ i cap _ (by rw [q67];omega) (fun j v hj=>by
   rw [q100]
   rw [q81]at hj
   split at hj
   ·rw [q133];exact hcellA j v hj
   ·cases hj)
 have hkk:(n:Int)+1 - (i:Int)=((n+1 - i:Nat):Int):=by omega
 have hrz:∀ty,(Builtin.append_ #[34,3] ty #[.slice (some ⟨g,0,none⟩) i cap,.int .i64 ((n:Int)+1 - (i:Int))]).run Tryz.prog w =
  .ok (.slice (some ⟨w.heap.size,0,none⟩) (n+1) (grownCap w (n+1) cap 84)) (w.drew.alloc (.cells (((cellW rows).take (i*3)).toArray++Builtin.zeroCells z.cells (n+1 - i)++Builtin.zeroCells z.cells (grownCap w (n+1) cap 84 - (n+1))) 84)):=fun ty=>by
  have h:=q274 w 34 3 ty 84 inf z .i64 .i64 Tryz.underlying34 Tryz.underlying3 hi' hz (some ⟨g,0,none⟩) i cap ((cellW rows).take (i*3)) hold (n+1 - i) (by omega) (by omega) (by omega) (by omega) (by rw [hby];omega) (by rw [hby];exact growslice_fits (by omega) (by omega))
  rw [show i+(n+1 - i)=n+1 from by omega]at h
  rw [hkk]
  exact h
 have hGn:n+1≤grownCap w (n+1) cap 84:=grownCap_ge w _ _ _
 have hGm:grownCap w (n+1) cap 84≤maxLen:=grownCap_le_maxLen w (n+1) cap _ (by unfold maxLen;omega)
 generalize grownCap w (n+1) cap 84=G at hrz hGn hGm
 obtain⟨ROW,hROW⟩:∃ROW,ROW=((cellW rows).take (i*3)).toArray++Builtin.zeroCells z.cells (n+1 - i)++Builtin.zeroCells z.cells (G - (n+1)):=⟨_,rfl⟩
 rw [←hROW]at hrz
 have hRl:ROW.size=G*3:=by
  rw [hROW];simp only [q230,q105,q67,hcl,size_zeroCells,hzs,hsz];omega
 have hRt:ROW.toList.take (i*3)=(cellW rows).take (i*3):=by
  rw [hROW]
  simp only [q224,q96]
  rw [q122 (by rw [q67,hcl];omega),List.take_of_length_le (by rw [q67];omega)]
 obtain⟨N,hN⟩:∃N,N=w.heap.size:=⟨_,rfl⟩
 obtain⟨W1,hW1⟩:∃W1,W1=w.drew.alloc (.cells ROW 84):=⟨_,rfl⟩
 have hW1N:W1.heap[N]? = some (.cells ROW 84 (0,0)):=by rw [hW1,hN];exact heap_alloc_new w.drew _
 have hW1o:∀k,k < w.heap.size→W1.heap[k]? = w.heap[k]?:=fun k hk=>by rw [hW1];exact q201 w.drew _ k hk
 obtain⟨X1,hX1⟩:∃X1,X1=(ROW.toList.take (i*3)++[Value.int .u64 n1,Value.int .u64 n2,Value.int .u64 n3]++ROW.toList.drop (i*3+3)).toArray:=⟨_,rfl⟩
 have hX1l:X1.size=G*3:=by
  rw [hX1];simp only [q105,q74,q67,q94,q83,hRl,q79,q87];omega
 have hold':∀W:World,(∀k,k < w.heap.size→W.heap[k]? = w.heap[k]?)→∀x:Addr,x.block < w.heap.size→W.cell? x=w.cell? x:=fun W hW x hx=>by
  unfold World.cell?
  rw [hW _ hx]
 have hcpA:∀W:World,W.heap=W1.heap→∀sT ty dc,(Builtin.copy_ #[34,sT] ty #[.slice (some ⟨N,i*3,none⟩) (n+1 - i) dc,.slice (some ad) 1 c]).run Tryz.prog W=.ok (goInt 1) (W.setRow N X1):=fun W hW sT ty dc=>by
  have:=dw W 34 sT ty 84 N (i*3) (n+1 - i) dc ad 1 c 3 ROW 84 [.int .u64 n1,.int .u64 n2,.int .u64 n3] Tryz.underlying34 hszm (by rw [hW];exact hW1N)
   (by simp only [q79,q87,q151];split<;>omega)
   (fun j v hj=>by
    have hab:∀j,(ad.add j).block < w.heap.size:=fun j=>by rw [bW];exact hadw
    have ho:∀k,k < w.heap.size→W.heap[k]? = w.heap[k]?:=fun k hk=>by rw [hW];exact hW1o k hk
    match j with
    | 0=>simp at hj;subst hj;rw [hold' W ho _ (hab 0)];exact h0
    | 1=>simp at hj;subst hj;rw [hold' W ho _ (hab 1)];exact h1
    | 2=>simp at hj;subst hj;rw [hold' W ho _ (hab 2)];exact h2
    |j+3=>simp at hj)
   (by simp only [q79,q87,hRl];omega) (by
    intro v hv
    simp only [q76,q92,or_false]at hv
    rcases hv with rfl | rfl | rfl<;>rfl)
  rw [this,hX1]
  congr 2
  simp only [q151];split<;>omega
 obtain⟨X2,hX2⟩:∃X2,X2=(X1.toList.take ((i+1)*3)++cs++X1.toList.drop ((i+1)*3+cs.length)).toArray:=⟨_,rfl⟩
 have hX2l:X2.size=G*3:=by
  rw [hX2];simp only [q105,q74,q67,q94,q83,hX1l,hcsl];omega
 have hW2o:∀k,k < w.heap.size→(W1.setRow N X1).heap[k]? = w.heap[k]?:=fun k hk=>by rw [setRow_other _ N k _ (by omega)];exact hW1o k hk
 have hcpB:∀W:World,W.heap=(W1.setRow N X1).heap→∀sT ty dc sc,(Builtin.copy_ #[34,sT] ty #[.slice (some ⟨N,(i+1)*3,none⟩) (n - i) dc,.slice (some ⟨g,i*3,none⟩) (n - i) sc]).run Tryz.prog W=.ok (goInt (n - i)) (W.setRow N X2):=fun W hW sT ty dc sc=>by
  have:=dw W 34 sT ty 84 N ((i+1)*3) (n - i) dc ⟨g,i*3,none⟩ (n - i) sc 3 X1 84 cs Tryz.underlying34 hszm
   (by rw [hW];exact setRow_heap W1 N ROW X1 _ _ hW1N)
   (by rw [hcsl];congr 1;simp only [q151];split<;>omega)
   (fun j v hj=>by
    rw [hold' W (fun k hk=>by rw [hW];exact hW2o k hk) _ (by rw [bW];exact hgw),q100]
    rw [hcse,q89]at hj
    exact hcellA _ v hj)
   (by rw [hcsl,hX1l];omega) (fun v hv=>hone v (by rw [hcse]at hv;exact q123 hv))
  rw [this,hX2]
  congr 2
  simp only [q151];split<;>omega
 have key:∀Φ:Ending→World→Prop,(∀w',w'.heap=((W1.setRow N X1).setRow N X2).heap→w'.os=w.os→w'.tape=w.tape→w'.output=w.output→Φ (.returned (.slice (some ⟨N,0,none⟩) (n+1) G)) w') →
  Calls Tryz.prog 100 #[.slice (some ⟨g,0,none⟩) n cap,.int .i64 i,.slice (some ad) 1 c] w Φ:=by
  intro Φ hΦ
  have q1:¬ ((i:Int)=(n:Int)):=by omega
  have q2:(cap:Int) < (n:Int)+1:=by omega
  have q3:(i:Int)≤(n:Int):=by omega
  have q5:(0:Int)≤(n:Int)+1:=by omega
  have q6:(i:Int)+1≤(n:Int)+1:=by omega
  have q7:IntKind.i64.wrap ((n:Int)+1)=(n:Int)+1:=by rw [q161];omega
  have q8:IntKind.i64.wrap ((i:Int)+1)=(i:Int)+1:=by rw [q161];omega
  have q9:IntKind.i64.wrap ((n:Int)+1 - (i:Int))=(n:Int)+1 - (i:Int):=by rw [q161];omega
  have q10:((i:Int)+1).toNat=i+1:=by omega
  have q11:(0:Int)≤(i:Int)+1:=by omega
  have q12:¬ (G=i+1):=by omega
  have q13:¬ (G=i):=by omega
  have q14:(i:Int)≤(n:Int)+1:=by omega
  have q15:¬ (cap=i):=by omega
  have mixed:Tryz.prog.follows .mixedOrders=true:=by kernel_rfl
  have hΦ' : Φ (.returned (.slice (some ⟨N,0,none⟩) (n+1) G)) (((W1.setRow N X1).drew).setRow N X2):=hΦ _ rfl (by rw [hW1];rfl) (by rw [hW1];rfl) (by rw [hW1];rfl)
  rw [←hW1]at hrz
  subst hN
  clear hkk hΦ hold hone hX1 hX2 htk hcur hROW hRt hW1N hW1o hW2o hold' hcellA hW1
  go_enter Tryz.func100,Tryz.ntmps100
  go_wp2_with (first
   | (at_builtin;refine q182 _ rfl _ _ _ _ rfl _ _ rfl rfl _ _ (hrz _) ?_)
   | (at_builtin;refine wpList_copy_runI _ rfl _ _ 34 34 rfl _ _ rfl rfl (hcpA _ rfl _ _ _) ?_))
  go_region_law_o (refine step_copy_runI rfl _ _ 34 34 rfl (.slice (some ⟨w.heap.size,(i+1)*3,none⟩) (n - i) (G - (i+1))) (.slice (some ⟨g,i*3,none⟩) (n - i) (cap - i)) (by simp [Act.eval,Act.put]) (by simp [Act.eval,Act.put]) (hcpB (W1.setRow w.heap.size X1).drew rfl 34 3 (G - (i+1)) (cap - i)) ?_)
  go_wp2
  exact hΦ'
 have e1:X1.toList.take ((i+1)*3)=(cellW rows).take (i*3)++[Value.int .u64 n1,Value.int .u64 n2,Value.int .u64 n3]:=by
  rw [hX1,hRt]
  have hl:((cellW rows).take (i*3)++[Value.int .u64 n1,Value.int .u64 n2,Value.int .u64 n3]).length=(i+1)*3:=by
   simp only [q74,q67,hcl,q79,q87];omega
  rw [←hl]
  exact q154
 have e3:X2.toList=((cellW rows).take (i*3)++[Value.int .u64 n1,Value.int .u64 n2,Value.int .u64 n3]++(cellW rows).drop (i*3))++X1.toList.drop ((i+1)*3+cs.length):=by
  rw [hX2,e1,hcse]
 have e4:((cellW rows).take (i*3)++[Value.int .u64 n1,Value.int .u64 n2,Value.int .u64 n3]++(cellW rows).drop (i*3)).length=(n+1)*3:=by
  simp only [q74,q67,q79,q87,q94,hcl];omega
 refine key _ fun w' hh ho ht hou=>⟨_,rfl,⟨e4,.inr ⟨N,G,X2,rfl,q126 _,?_,hGn,hGm,hX2l,?_⟩⟩,⟨ho,ht,hou,?_,?_⟩,fun b hb=>.inr ?_⟩
 ·rw [hh]
  exact setRow_heap (W1.setRow N X1) N X1 X2 _ _ (setRow_heap W1 N ROW X1 _ _ hW1N)
 ·rw [e3,←e4];exact q154
 ·rw [hh,hW1];simp [World.setRow]
 ·intro k hk hne
  rw [hh,setRow_other _ N k _ (by omega)]
  exact hW2o k hk
 ·simp [Value.ownBlock]at hb;omega
theorem gO (l:List Pn):dy (au l):=by intro r hr p hp;simp only[au,q84]at hr;obtain⟨e,_,rfl⟩:=hr;simp only[rowP,q76,q92,or_false]at hp;rcases hp with rfl|rfl|rfl<;>rfl
def yB (l:List Pn) (i:Nat) (e:Pn):List Pn:=l.take i++e::l.drop i
theorem CQ (l:List Pn) (i:Nat) (e:Pn):cellW (au (yB l i e))=(cellW (au l)).take (i*3)++[Value.int .u64 e.i,Value.int .u64 e.v,Value.int .u64 e.u]++(cellW (au l)).drop (i*3):=by
 unfold yB;have h1:au (l.take i)=(au l).take i:=by simp[au,q124]
 have h2:au (l.drop i)=(au l).drop i:=by simp[au,q233]
 rw[show l.take i++e::l.drop i=l.take i++([e]++l.drop i) from rfl,bQ,bQ,eO,eO,h1,h2,iO i (bH l),nW i (bH l),q96];rfl
@[simp] noncomputable def Na:List AV→Option (Prop×AV)|[.fr e a,.pv (.int .i64 i),.pv (.ro [[.int .u64 x,.int .u64 y,.int .u64 z]])]=>if e=84 then(dec rowP a).map fun l=>(0≤i∧i≤l.length∧l.length≤1000000,.fr 84 (au (yB l i.toNat ⟨x,y,z⟩))) else none|_=>none
theorem Qi:nM Tryz.prog 100 Na:=by
 intro ys φ r h hφ;unfold Na at h;split at h
 ·rename_i e ra i n1 n2 n3;split at h
  ·rename_i hef;subst hef;obtain⟨l,hl,h⟩:=q0.1 h;cases h;cases az hl;obtain⟨h0,h1,h2⟩:=hφ;obtain⟨k,rfl⟩:∃k:Nat,i=(k:Int):=⟨i.toNat,by omega⟩;simp only[q68];obtain⟨inf,z,hi,hz,hzs,hsz,hby⟩:=oS;have hins:(yB l k ⟨n1,n2,n3⟩).length=l.length+1:=by unfold yB;simp;omega
   refine tj hi (rows:=au l) (rows':=au (yB l k ⟨n1,n2,n3⟩)) (by rw[hsz];exact bH l) (gO l) (by rw[hsz];exact bH _) (gO _) [.int .i64 (k:Int),.ro [[.int .u64 n1,.int .u64 n2,.int .u64 n3]]] ?_;intro w S V vals hown hS hlen hv;rw[hsz]at hown ⊢;match vals,hlen with
   |[v1,v2],_=>
    have e1:=(hv 0 v1 _ rfl rfl).aN;subst e1;obtain⟨A,c,rfl,hc,hne⟩:=(hv 1 v2 _ rfl rfl).gq;obtain⟨ad,sz,us,rfl,g1,g2,g3,g4,g5⟩:=hne (by simp);have hs2:sz=3:=(g2 [.int .u64 n1,.int .u64 n2,.int .u64 n3] (by simp)).symm;subst hs2;have k0:w.cell? (ad.add 0)=some (.int .u64 n1):=by rw[←(g5 0 0 _ _ rfl rfl).aN];exact g3 0 0 (by simp) (by omega)
    have k1:w.cell? (ad.add 1)=some (.int .u64 n2):=by rw[←(g5 0 1 _ _ rfl rfl).aN];exact g3 0 1 (by simp) (by omega)
    have k2:w.cell? (ad.add 2)=some (.int .u64 n3):=by rw[←(g5 0 2 _ _ rfl rfl).aN];exact g3 0 2 (by simp) (by omega)
    have hb:=(hS _ g1).2;rw[ec,hins,CQ];rw[ec]at hown;rcases q137 k l.length with hk|hk
    ·rcases hown.2 with⟨_,hn⟩|⟨g,cap,cur,rfl,hb0,hg0,hnc,hcm,hcs,htk⟩;·omega
     ·have hbg:ad.block≠g:=fun e=>hb (by rw[e];rfl);rcases q137 cap (l.length+1) with hr|hr;·exact yb w (au l) (bH l) (gO l) k l.length (ec l) hk h2 n1 n2 n3 g cap cur hg0 hnc hcs htk hr ad c k0 k1 k2
      ·exact yx w (au l) (bH l) (gO l) k l.length (ec l) hk h2 n1 n2 n3 g cap cur hg0 hcm hcs htk hr ad c hbg k0 k1 k2
    ·have hkl:k=l.length:=by omega
     subst hkl;have hcl:(cellW (au l)).length=l.length*3:=by rw[eK (bH l),ec]
     rw[List.take_of_length_le (by omega),q177 (by omega),q147];have:=Bi w V (au l) (bH l) (gO l) (by simpa using h2) n1 n2 n3 (by rw[ec];exact hown) ad c k0 k1 k2;rw[ec]at this;exact this
  ·cases h
 ·cases h
theorem j6:∀a:List UInt8,Op.bytesLess a a=false|[]=>rfl|a::x=>by simp[Op.bytesLess,j6 x]
theorem jW:∀a b c:List UInt8,Op.bytesLess a b=true→Op.bytesLess b c=true→Op.bytesLess a c=true
 |_,[],_,h,_=>by simp[Op.bytesLess]at h|_,_::_,[],_,h=>by simp[Op.bytesLess]at h|[],_::_,_::_,_,_=>rfl|a::x,b::y,c::z,h1,h2=>by
  simp only[Op.bytesLess,q134,decide_eq_true_eq,q73,beq_iff_eq]at h1 h2 ⊢;rcases h1 with h1|⟨rfl,h1⟩
  ·rcases h2 with h2|⟨rfl,h2⟩;·exact .inl (UInt8.lt_trans h1 h2)
   ·exact .inl h1
  ·rcases h2 with h2|⟨rfl,h2⟩;·exact .inl h2
   ·exact .inr ⟨rfl,jW x y z h1 h2⟩
theorem Cs:∀a b:List UInt8,Op.bytesLess a b=false→Op.bytesLess b a=false→a=b
 |[],[],_,_=>rfl|[],_::_,h,_=>by simp[Op.bytesLess]at h|_::_,[],_,h=>by simp[Op.bytesLess]at h|a::x,b::y,h1,h2=>by
  simp only[Op.bytesLess,q197,decide_eq_false_iff_not,q218,beq_eq_false_iff_ne]at h1 h2;have hab:a=b:=by apply q244.1;have h3:¬a.toNat<b.toNat:=h1.1;have h4:¬b.toNat<a.toNat:=h2.1;omega
  subst hab;have h3:=h1.2.resolve_left (fun h=>h rfl);have h4:=h2.2.resolve_left (fun h=>h rfl);rw[Cs x y h3 h4]
theorem Ig {a b:List UInt8} (h:Op.bytesLess a b=true):Op.bytesLess b a=false:=by cases hb:Op.bytesLess b a with|false=>rfl|true=>have:=jW a b a h hb;rw[j6]at this;cases this
theorem vV {a b:List UInt8} (h:Op.bytesLess a b=true):a≠b:=by rintro rfl;rw[j6]at h;cases h
structure En where
 n:List UInt8
 i:Int deriving DecidableEq
def ff (e:En):List PV:=[.str e.n,.int .u64 e.i]
theorem zo:∀a b,ff a=ff b→a=b:=by rintro⟨k,n⟩ ⟨k',n'⟩ h;simp only[ff,q110,PV.int.injEq,PV.str.injEq,true_and,and_true]at h;rw[h.1,h.2]
def aM (l:List En):List (List PV):=l.map ff
@[simp] theorem Sn:aM []=[]:=rfl
@[simp] theorem cQ (l:List En):(aM l).length=l.length:=by simp[aM]
theorem dr (l m:List En):aM (l++m)=aM l++aM m:=by simp[aM]
theorem cZ (l:List En):∀r∈aM l,r.length=2:=by intro r hr;simp only[aM,q84]at hr;obtain⟨c,_,rfl⟩:=hr;rfl
theorem cA {l:List En} (h:i<l.length):rowAt (aM l) (i:Int)=[.str l[i].n,.int .u64 l[i].i]:=by simp[rowAt,aM,h,ff]
@[simp] theorem Vh (l:List En):dec ff (aM l)=some l:=jH zo l
theorem aV {l:List En} (h:dec ff rows=some l):rows=aM l:=jz h
theorem aU (l:List En):bp (aM l):=by intro r hr p hp;simp only[aM,q84]at hr;obtain⟨c,_,rfl⟩:=hr;simp only[ff,q76,q92,or_false]at hp;rcases hp with rfl|rfl<;>rfl
def uJ (s:List UInt8):List PV:=[.str s]
theorem IU:∀a b,uJ a=uJ b→a=b:=by intro a b h;simpa[uJ]using h
def nz (l:List (List UInt8)):List (List PV):=l.map uJ
@[simp] theorem UM:nz []=[]:=rfl
@[simp] theorem Kb (l:List (List UInt8)):(nz l).length=l.length:=by simp[nz]
theorem HF {l:List (List UInt8)} (h:i<l.length):rowAt (nz l) (i:Int)=[.str l[i]]:=by simp[rowAt,nz,h,uJ]
@[simp] theorem wy (l:List (List UInt8)):dec uJ (nz l)=some l:=jH IU l
theorem nE {l:List (List UInt8)} (h:dec uJ rows=some l):rows=nz l:=jz h
@[simp] theorem dec_s1 (a:List UInt8):dec uJ [[.str a]]=some [a]:=wy [a]
@[simp] theorem dec_s2 (a b:List UInt8):dec uJ [[.str a],[.str b]]=some [a,b]:=wy [a,b]
def eh (s:List UInt8):Bool:=decide (s≠[])&&decide (s.length≤64)
@[simp] noncomputable def GNm:List AV→Option (Prop×AV)|[.pv (.ro a)]=>(dec uJ a).map fun l=>(l.length≤1000000000,.pv (.bool (l.all eh)))|_=>none
theorem Xa:aJ Tryz.prog 152 GNm:=by
 intro ys φ r h hφ;unfold GNm at h;split at h
 ·rename_i ra;obtain⟨a,ha,h⟩:=q0.1 h;cases h;cases nE ha;refine ak ah (by kernel_rfl) (by conv=>lhs;reduce) (by simp) ?_;simp(config := { maxSteps := 3000000 });refine aj (fun i:Nat=>i≤a.length∧(a.take i).all eh=true) (fun i=>⟨[(0,.pv (.ro (nz a))),(2,.pv (.bool false)),(5,.pv (.ro (nz a))),(6,.pv (.int .i64 a.length)),(7,.pv (.int .i64 i))],[]⟩) (fun i=>a.length-i) [] 0 (by simp) ?_ ?_;·simp
  ·rintro i ⟨hi,ht⟩;have w2:IntKind.i64.wrap ((i:Int)+1)=(i:Int)+1:=wrap_i64 (by omega);by_cases hlt:i<a.length
   ·have r1:=HF hlt;have hno:eh a[i]=false→a.all eh=false:=by intro h0;rw[q231];exact⟨a[i],q82 hlt,by simp[h0]⟩
    have hyes:eh a[i]=true→(a.take (i+1)).all eh=true:=by intro h0;rw[q62 hlt,List.all_append,ht];simp[h0]
    by_cases hz:a[i]=[];·have hf:=hno (by simp[eh,hz]);simp(config := { maxSteps := 3000000 }) [w2,hlt,r1,hz,hf]
    ·by_cases hl:a[i].length≤64
     ·have hl':(a[i].length:Int)≤64:=by omega
      simp(config := { maxSteps := 3000000 }) [w2,hlt,r1,hz,hl,hl'];exact⟨i+1,⟨by omega,by simpa using hyes (by simp[eh,hz,hl])⟩,by omega,by omega⟩
     ·have hl':¬(a[i].length:Int)≤64:=by omega
      have hf:=hno (by simp[eh,hl]);simp(config := { maxSteps := 3000000 }) [w2,hlt,r1,hz,hl,hl',hf]
   ·rw[List.take_of_length_le (by omega)]at ht;simp(config := { maxSteps := 3000000 }) [hlt,ht]
 ·cases h
@[simp] noncomputable def GrNm:List AV→Option (Prop×AV)|[.pv (.str s)]=>some (True,.pv (.bool (eh s)))|_=>none
theorem GX:aJ Tryz.prog 83 GrNm:=by
 intro ys φ r h hφ;unfold GrNm at h;split at h
 ·rename_i s;cases h;refine ak ah (by kernel_rfl) (by conv=>lhs;reduce) (by simp) ?_;by_cases hz:s=[];·subst hz;simp(config := { maxSteps := 3000000 }) [eh]
  ·have h1:(1:Int)≤s.length:=by have:=q164.2 hz;omega
   have hd:decide ((s.length:Int)≤64)=decide (s.length≤64):=by
    by_cases h:s.length≤64;·simp[h];omega
    ·simp[h];omega
   simp(config := { maxSteps := 3000000 }) [eh,hz,h1,hd]
 ·cases h
def bk (l:List En):Bool:=l.all (fun e=>eh e.n&&decide (e.i≠0))&&decide (l.Pairwise fun a b=>Op.bytesLess a.n b.n=true∧a.i≠b.i)
theorem iX (l:List En):bk l=true↔(∀e∈l,eh e.n=true∧e.i≠0)∧l.Pairwise fun a b=>Op.bytesLess a.n b.n=true∧a.i≠b.i:=by simp only[bk,q73,q90,decide_eq_true_eq]
theorem mj (l:List En) (e:En):bk (l++[e])=true↔bk l=true∧eh e.n=true∧e.i≠0∧∀x∈l,Op.bytesLess x.n e.n=true∧x.i≠e.i:=by
 simp only[iX,q199,q80,q75,List.pairwise_singleton,true_and];constructor;·rintro⟨h1,h2,h3⟩;exact⟨⟨fun x hx=>h1 x (.inl hx),h2⟩,(h1 e (.inr rfl)).1,(h1 e (.inr rfl)).2,fun x hx=>h3 x hx e rfl⟩
 ·rintro⟨⟨h1,h2⟩,h3,h4,h5⟩;refine⟨?_,h2,?_⟩
  ·rintro x (hx|rfl);·exact h1 x hx
   ·exact⟨h3,h4⟩
  ·rintro x hx _ rfl;exact h5 x hx
theorem A0 {l:List En} (k:Nat) (h:bk l=true):bk (l.take k)=true:=by rw[iX]at h ⊢;exact⟨fun e he=>h.1 e (q107 he),h.2.sublist (List.take_sublist k l)⟩
theorem rR {l:List En} (hlt:i<l.length) (h:¬(eh l[i].n=true∧l[i].i≠0∧∀x∈l.take i,Op.bytesLess x.n l[i].n=true∧x.i≠l[i].i)):bk l=false:=by cases hr:bk l with|false=>rfl|true=>have:=A0 (i+1) hr;rw[q62 hlt,mj]at this;exact absurd this.2 h
theorem mz {l:List En} (hlt:i<l.length) (h0:bk (l.take i)=true) (h1:eh l[i].n=true) (h2:l[i].i≠0) (h3:∀x∈l.take i,Op.bytesLess x.n l[i].n=true∧x.i≠l[i].i):bk (l.take (i+1))=true:=by rw[q62 hlt,mj];exact⟨h0,h1,h2,h3⟩
theorem AR {l:List En} (hlt:k+1<l.length) (h0:bk (l.take (k+1))=true) (h:Op.bytesLess l[k].n l[k+1].n=true):∀x∈l.take (k+1),Op.bytesLess x.n l[k+1].n=true:=by
 have hk:k<l.length:=by omega
 intro x hx;rw[q62 hk,mj]at h0;rw[q62 hk,q80,q75]at hx;rcases hx with hx|rfl;·exact jW _ _ _ (h0.2.2.2 x hx).1 h
 ·exact h
def kE (l:List En):List (PV×AV):=(.int .u64 0,.agg [])::l.map fun e=>(.int .u64 e.i,.agg [])
theorem FM (l:List En) (n:Int):(getM (.int .u64 n) (kE l)).isSome=(decide (n=0)||l.any fun e=>decide (n=e.i)):=by
 unfold kE;have:∀l:List En,(getM (.int .u64 n) (l.map fun e=>(PV.int .u64 e.i,AV.agg []))).isSome=l.any fun e=>decide (n=e.i):=by intro l;induction l with|nil=>rfl|cons e l ih=>
  simp only[q71,getM,mU,q222];by_cases h:n=e.i;·simp[h]
  ·simp[h,ih]
 simp only[getM,mU];by_cases h:n=0;·simp[h]
 ·simp[h,this]
theorem Fi (l:List En) (k:PV):(getM k (kE l)).getD (.agg [])=.agg []:=by
 unfold kE;have:∀l:List En,(getM k (l.map fun e=>(PV.int .u64 e.i,AV.agg []))).getD (.agg [])=.agg []:=by intro l;induction l with|nil=>rfl|cons e l ih=>
  simp only[q71,getM];split;·rfl
  ·exact ih
 simp only[getM];split;·rfl
 ·exact this l
theorem AX:∀(es:List (PV×AV)) (k:PV) (v:AV),(getM k es).isSome=false→jv k v es=es++[(k,v)]
 |[],k,v,_=>rfl|e::es,k,v,h=>by
  unfold getM at h;unfold jv;split at h;·cases h
  ·rename_i h1;rw[if_neg h1,AX es k v h];rfl
theorem Es (l:List En) (e:En):kE l++[(.int .u64 e.i,.agg [])]=kE (l++[e]):=by simp[kE]
theorem Aq (l:List En):gu 9 (kE l)=True:=by simp only[eq_iff_iff,iff_true];intro e he;simp only[kE,q76,q84]at he;rcases he with rfl|⟨x,_,rfl⟩<;>rfl
@[simp] noncomputable def GRt:List AV→Option (Prop×AV)|[.pv (.ro a)]=>(dec ff a).map fun l=>(l.length≤1000000000,.pv (.bool (bk l)))|_=>none
theorem c_Rt:aJ Tryz.prog 112 GRt:=by
 intro ys φ r h hφ;unfold GRt at h;split at h
 ·rename_i ra;obtain⟨a,ha,h⟩:=q0.1 h;cases h;cases aV ha;refine ak (ag Xa ah) (by kernel_rfl) (by conv=>lhs;reduce) (by simp) ?_;simp(config := { maxSteps := 3000000 });refine aj (fun i:Nat=>i≤a.length∧bk (a.take i)=true) (fun i=>⟨[(0,.pv (.ro (aM a))),(2,.pv (.bool false)),(3,.own 8),(11,.pv (.ro (aM a))),(12,.pv (.int .i64 a.length)),(13,.pv (.int .i64 i))],[(8,.map (kE (a.take i)))]⟩) (fun i=>a.length-i) [] 0 (by simp[bk]) ?_ ?_;·simp[kE,jv]
  ·rintro i ⟨hi,ht⟩;have w2:IntKind.i64.wrap ((i:Int)+1)=(i:Int)+1:=wrap_i64 (by omega);by_cases hlt:i<a.length
   ·have r1:=cA hlt;have hk:=Aq (a.take i);have hd:=Fi (a.take i);have hg:=FM (a.take i) a[i].i;have hf:=fun h=>rR hlt h;have htwF:(getM (.int .u64 a[i].i) (kE (a.take i))).isSome=true→bk a=false:=fun htw=>by
     apply hf;rintro⟨_,h2,h3⟩;rw[hg,q134,decide_eq_true_eq,q112]at htw;rcases htw with h|⟨x,hx,h⟩;·exact h2 h
     ·exact(h3 x hx).2 (by simpa using(of_decide_eq_true h).symm)
    have hids:(getM (.int .u64 a[i].i) (kE (a.take i))).isSome=false→a[i].i≠0∧∀x∈a.take i,x.i≠a[i].i:=fun htw'=>by rw[hg,q197,decide_eq_false_iff_not,q141]at htw';exact⟨htw'.1,fun x hx h=>htw'.2 x hx (by simpa using h.symm)⟩
    have hpm:(getM (.int .u64 a[i].i) (kE (a.take i))).isSome=false→jv (.int .u64 a[i].i) (.agg []) (kE (a.take i))=kE (a.take (i+1)):=fun htw'=>by have:=AX (kE (a.take i)) (.int .u64 a[i].i) (.agg []) htw';rwa[Es,←q62 hlt]at this
    by_cases h0:i=0;·subst h0;have wm:IntKind.i64.wrap (-1)=-1:=wrap_i64 (by omega);have rm:rowAt (aM a) (-1)=[.str a[0].n,.int .u64 a[0].i]:=r1;have rz:rowAt (aM a) 0=[.str a[0].n,.int .u64 a[0].i]:=r1;simp only[List.take_zero]at hk hd htwF hids hpm;cases htw:(getM (.int .u64 a[0].i) (kE [])).isSome with|true=>have hf':=htwF htw;simp(config := { maxSteps := 3000000 }) [hlt,rm,rz,wm,hk,hd,htw,hf']|false=>cases hnm:eh a[0].n with|true=>have hq:=hpm htw;simp(config := { maxSteps := 3000000 }) [hlt,rm,rz,wm,hk,hd,htw,hnm,hq];exact⟨1,⟨by omega,mz hlt ht hnm (hids htw).1 (by simp)⟩,⟨by rw[wrap_i64 (by omega)];rfl,rfl⟩,by omega⟩|false=>
     have hf':bk a=false:=hf fun h=>by rw[hnm]at h;cases h.1
     simp(config := { maxSteps := 3000000 }) [hlt,rm,rz,wm,hk,hd,htw,hnm,hf']
    ·obtain⟨k,rfl⟩:∃k,i=k+1:=⟨i-1,by omega⟩;have hk2:k<a.length:=by omega
     have r2:=cA hk2;have w3:IntKind.i64.wrap (((k+1:Nat):Int)-1)=(k:Int):=by rw[wrap_i64 (by omega)];omega
     have hp:(0:Int)<((k+1:Nat):Int):=by omega
     have hlti:((k+1:Nat):Int)<a.length:=by omega
     have hlti2:(k:Int)<a.length:=by omega
     have hb0:(0:Int)≤((k+1:Nat):Int):=by omega
     generalize hgen:((k+1:Nat):Int)=I at*;cases htw:(getM (.int .u64 a[k+1].i) (kE (a.take (k+1)))).isSome with|true=>have hf':=htwF htw;simp(config := { maxSteps := 3000000 }) [hlti,hlti2,hb0,r1,r2,w3,hp,hk,hd,htw,hf']|false=>cases hnm:eh a[k+1].n with
      |true=>have hq:=hpm htw;cases hb:Op.bytesLess a[k].n a[k+1].n with|true=>simp(config := { maxSteps := 3000000 }) [hlti,hlti2,hb0,r1,r2,w3,w2,hp,hk,hd,htw,hnm,hq,hb];have h1:=AR hlt ht hb;have h2:=hids htw;exact⟨k+2,⟨by omega,mz hlt ht hnm h2.1 fun x hx=>⟨h1 x hx,h2.2 x hx⟩⟩,⟨by omega,rfl⟩,by omega⟩|false=>
        have hf':bk a=false:=hf fun h=>by have:=(h.2.2 a[k] (by rw[q91];exact⟨k,by omega,rfl⟩)).1;rw[hb]at this;cases this
        simp(config := { maxSteps := 3000000 }) [hlti,hlti2,hb0,r1,r2,w3,hp,hk,hd,htw,hnm,hb,hf']
      |false=>
       have hf':bk a=false:=hf fun h=>by rw[hnm]at h;cases h.1
       simp(config := { maxSteps := 3000000 }) [hlti,hlti2,hb0,r1,r2,w3,hp,hk,hd,htw,hnm,hf']
   ·rw[List.take_of_length_le (by omega)]at ht;simp(config := { maxSteps := 3000000 }) [hlt,ht]
 ·cases h
theorem NC:aJ Tryz.prog 82 GRt:=by
 intro ys φ r h hφ;unfold GRt at h;split at h
 ·rename_i ra;obtain⟨a,ha,h⟩:=q0.1 h;cases h;cases aV ha;refine ak (ag GX ah) (by kernel_rfl) (by conv=>lhs;reduce) (by simp) ?_;simp(config := { maxSteps := 3000000 });refine aj (fun i:Nat=>i≤a.length∧bk (a.take i)=true) (fun i=>⟨[(0,.pv (.ro (aM a))),(2,.pv (.bool false)),(3,.pv (.int .i64 i))],[]⟩) (fun i=>a.length-i) [] 0 (by simp[bk]) ?_ ?_;·simp
  ·rintro i ⟨hi,ht⟩;have w2:IntKind.i64.wrap ((i:Int)+1)=(i:Int)+1:=wrap_i64 (by omega);by_cases hlt:i<a.length;·have r1:=cA hlt;have hf:=fun h=>rR hlt h;cases hnm:eh a[i].n with
    |false=>
     have hf':bk a=false:=hf fun h=>by rw[hnm]at h;cases h.1
     simp(config := { maxSteps := 3000000 }) [hlt,r1,hnm,hf']|true=>
     by_cases dm:a[i].i=0;·have hf':bk a=false:=hf fun h=>h.2.1 dm;simp(config := { maxSteps := 3000000 }) [hlt,r1,hnm,dm,hf']
     ·simp(config := { maxSteps := 3000000 }) [hlt,r1,hnm,dm];refine aj (fun k:Nat=>k≤i∧∀x∈a.take k,Op.bytesLess x.n a[i].n=true∧x.i≠a[i].i) (fun k=>⟨[(0,.pv (.ro (aM a))),(2,.pv (.bool false)),(3,.pv (.int .i64 i)),(4,.pv (.int .i64 k))],[]⟩) (fun k=>i-k) [] 0 (by simp) ?_ ?_;·simp
      ·rintro k ⟨hk,hq⟩;have w3:IntKind.i64.wrap ((k:Int)+1)=(k:Int)+1:=wrap_i64 (by omega);by_cases hki:k<i
       ·have hkl:k<a.length:=by omega
        have r2:=cA hkl;have hmem:a[k]∈a.take i:=by rw[q91];exact⟨k,by omega,rfl⟩
        cases hb:Op.bytesLess a[k].n a[i].n with|false=>
         have hf':bk a=false:=hf fun h=>by have:=(h.2.2 _ hmem).1;rw[hb]at this;cases this
         simp(config := { maxSteps := 3000000 }) [hki,hkl,hlt,r1,r2,hb,hf']|true=>
         by_cases he:a[k].i=a[i].i;·have hf':bk a=false:=hf fun h=>(h.2.2 _ hmem).2 he;simp(config := { maxSteps := 3000000 }) [hki,hkl,hlt,r1,r2,hb,he,hf']
         ·simp(config := { maxSteps := 3000000 }) [hki,hkl,hlt,r1,r2,hb,he,w3];refine⟨k+1,⟨by omega,fun x hx=>?_⟩,by omega,by omega⟩;rw[q62 hkl,q80,q75]at hx;rcases hx with hx|rfl;·exact hq x hx
          ·exact⟨hb,he⟩
       ·have hki':k=i:=by omega
        subst hki';simp(config := { maxSteps := 3000000 }) [w2];exact⟨k+1,⟨by omega,mz hlt ht hnm dm hq⟩,by omega,by omega⟩
   ·rw[List.take_of_length_le (by omega)]at ht;simp(config := { maxSteps := 3000000 }) [hlt,ht]
 ·cases h
@[simp] noncomputable def Ny:List AV→Option (Prop×AV)|[.pv (.str a)]=>some (True,.pv (.bool false))|_=>none
theorem OQ:aJ Tryz.prog 182 Ny:=by
 intro ys φ r h hφ;unfold Ny at h;split at h;·cases h;refine ak ah (by kernel_rfl) (by conv=>lhs;reduce) (by simp) ?_;simp(config := { maxSteps := 3000000 })
 ·cases h
def vA (a b:List UInt8):Int:=if Op.bytesLess a b=true then-1 else if Op.bytesLess b a=true then 1 else 0
theorem A6 (a b:List UInt8):(vA a b<0)=(Op.bytesLess a b=true):=by
 unfold vA;by_cases h:Op.bytesLess a b=true;·simp[h]
 ·by_cases h2:Op.bytesLess b a=true<;>simp[h,h2]
theorem wE (a b:List UInt8):(vA a b=0)=(a=b):=by
 unfold vA;apply propext;by_cases h:Op.bytesLess a b=true;·simp only[h,if_true];exact⟨fun h=>by omega,fun e=>absurd e (vV h)⟩
 ·by_cases h2:Op.bytesLess b a=true;·simp only[h,h2,if_true,if_false];exact⟨fun h=>by simp at h,fun e=>absurd e.symm (vV h2)⟩
  ·simp only[h,h2,if_false,true_iff];exact⟨fun _=>Cs a b (by simpa using h) (by simpa using h2),fun _=>rfl⟩
@[simp] noncomputable def N6:List AV→Option (Prop×AV)|[.pv (.str a),.pv (.str b)]=>some (True,.pv (.int .i64 (vA a b)))|_=>none
theorem R7:aJ Tryz.prog 163 N6:=by
 intro ys φ r h hφ;unfold N6 at h;split at h;·rename_i a b;cases h;refine ak (ag OQ ah) (by kernel_rfl) (by conv=>lhs;reduce) (by simp) ?_;unfold vA;cases h1:Op.bytesLess a b with|true=>simp(config := { maxSteps := 3000000 }) [h1]|false=>cases h2:Op.bytesLess b a with|true=>have hne:¬a=b:=fun e=>vV h2 e.symm;simp(config := { maxSteps := 3000000 }) [h1,h2,hne]|false=>have he:=Cs a b h1 h2;subst he;simp(config := { maxSteps := 3000000 }) [j6]
 ·cases h
@[simp] noncomputable def WJ:List AV→Option (Prop×AV)|[.agg [.pv (.str a),.pv (.int .u64 n)],.pv (.str b)]=>some (True,.pv (.int .i64 (vA a b)))|_=>none
theorem c_pl1:aJ Tryz.prog 162 WJ:=by
 intro ys φ r h hφ;unfold WJ at h;split at h;·cases h;refine ak (ag R7 ah) (by kernel_rfl) (by conv=>lhs;reduce) (by simp) ?_;simp(config := { maxSteps := 3000000 })
 ·cases h
def lb (l:List En) (s:List UInt8):Nat:=l.findIdx fun e=>!Op.bytesLess e.n s
def dO (l:List En) (s:List UInt8):Bool:=match l[lb l s]? with|some e=>decide (e.n=s)|none=>false
theorem Dl (l:List En) (s:List UInt8):lb l s≤l.length:=q294
theorem Nj {l:List En}{s:List UInt8} (hi:i≤l.length) (h1:∀(k:Nat) (h:k<l.length),k<i→Op.bytesLess l[k].n s=true) (h2:∀(k:Nat) (h:k<l.length),i≤k→Op.bytesLess l[k].n s=false):lb l s=i:=by
 unfold lb;by_cases hlt:i<l.length;·rw[q166 hlt];refine⟨by simp[h2 i hlt (q93 _)],fun j hj=>?_⟩;simp[h1 j (by omega) hj]
 ·have:i=l.length:=by omega
  subst this;rw[q208];intro e he;obtain⟨k,hk,rfl⟩:=q192 he;simp[h1 k hk hk]
theorem Gb {l:List En}{s:List UInt8} (h:k<lb l s):Op.bytesLess (l[k]'(q95 h (Dl l s))).n s=true:=by have:=q210 h;simpa using this
theorem Xh {l:List En}{s:List UInt8} (h:lb l s<l.length):Op.bytesLess l[lb l s].n s=false:=by have:=List.findIdx_getElem (w:=h);unfold lb;simpa using this
theorem gM {l:List En} (hr:bk l=true) {i j:Nat} (hj:j<l.length) (hij:i<j):Op.bytesLess (l[i]'(Nat.lt_trans hij hj)).n l[j].n=true∧(l[i]'(Nat.lt_trans hij hj)).i≠l[j].i:=by rw[iX,q275]at hr;exact hr.2 i j (Nat.lt_trans hij hj) hj hij
theorem Yf {l:List En}{s:List UInt8} (hr:bk l=true) (hk:k<l.length) (h:lb l s≤k):Op.bytesLess l[k].n s=false:=by
 have h0:=Xh (l:=l) (s:=s) (by omega);rcases Nat.eq_or_lt_of_le h with h|h;·subst h;exact h0
 ·cases hb:Op.bytesLess l[k].n s with|false=>rfl|true=>have:=jW _ _ _ (gM hr hk h).1 hb;rw[this]at h0;cases h0
theorem ng {l:List En}{s:List UInt8} (hr:bk l=true):dO l s=true↔∃e∈l,e.n=s:=by
 unfold dO;constructor
 ·intro h;split at h;·rename_i e he;exact⟨e,List.mem_of_getElem? he,by simpa using h⟩
  ·cases h
 ·rintro⟨e,he,rfl⟩;obtain⟨k,hk,rfl⟩:=q192 he;have hkl:lb l l[k].n=k:=by
   apply Nj (by omega);·intro j hj hjk;exact(gM hr hk hjk).1
   ·intro j hj hjk;rcases Nat.eq_or_lt_of_le hjk with h|h;·subst h;exact j6 _
    ·exact Ig (gM hr hj h).1
  rw[hkl,q64 hk];simp
theorem uk:fF Tryz.prog 162=true:=by kernel_rfl
@[simp] noncomputable def GBs:List AV→Option (Prop×AV)|[.pv (.ro a),.pv (.str s),.bE f []]=>if f=162 then(dec ff a).map fun l=>(l.length≤1000000000∧bk l=true,.aO [.pv (.int .i64 (lb l s)),.pv (.bool (dO l s))]) else none|_=>none
theorem c_Bs:aJ Tryz.prog 161 GBs:=by
 intro ys φ r h hφ;unfold GBs at h;split at h
 ·rename_i ra s f;split at h
  ·rename_i hf;subst hf;obtain⟨a,ha,h⟩:=q0.1 h;cases h;cases aV ha;obtain⟨hl9,hr⟩:=hφ;refine ak (ag c_pl1 ah) (by kernel_rfl) (by conv=>lhs;reduce) (by simp) ?_;simp(config := { maxSteps := 3000000 });refine aj (fun q:Nat×Nat=>q.1≤q.2∧q.2≤a.length∧(∀(k:Nat) (h:k<a.length),k<q.1→Op.bytesLess a[k].n s=true)∧(∀(k:Nat) (h:k<a.length),q.2≤k→Op.bytesLess a[k].n s=false)) (fun q=>⟨[(0,.pv (.ro (aM a))),(1,.pv (.str s)),(2,.bE 162 []),(8,.pv (.int .i64 a.length)),(9,.pv (.int .i64 q.1)),(10,.pv (.int .i64 q.2))],[]⟩) (fun q=>q.2-q.1) [] (0,a.length) ?_ ?_ ?_;·exact⟨q126 _,q93 _,fun k h h2=>absurd h2 (Nat.not_lt_zero k),fun k h h2=>absurd h2 (Nat.not_le.2 h)⟩
   ·simp
   ·rintro⟨i,j⟩ ⟨hij,hj,h1,h2⟩;simp only at hij hj h1 h2;by_cases hlt:i<j
    ·have hlti:(i:Int)<(j:Int):=by omega
     have w1:IntKind.i64.wrap ((i:Int)+(j:Int))=(i:Int)+(j:Int):=wrap_i64 (by omega);have w2:IntKind.u64.wrap ((i:Int)+(j:Int))=(i:Int)+(j:Int):=wrap_u64 (by omega);have hm:(i+j)/2<a.length:=by omega
     obtain⟨m,hmd⟩:∃m,m=(i+j)/2:=⟨_,rfl⟩;rw[←hmd]at hm;have hsh:((i:Int)+(j:Int)).fdiv (2^min 1 IntKind.u64.bits)=(m:Int):=by show((i:Int)+(j:Int)).fdiv 2=(m:Int);rw[q139 _ (by omega)];omega
     have w3:IntKind.i64.wrap (m:Int)=(m:Int):=wrap_i64 (by omega);have w4:IntKind.i64.wrap ((m:Int)+1)=(m:Int)+1:=wrap_i64 (by omega);have r1:=cA hm;have hm0:(0:Int)≤(m:Int):=by omega
     have hm1:(m:Int)<(a.length:Int):=by omega
     cases hb:Op.bytesLess a[m].n s with
     |true=>
      have hneg:vA a[m].n s<0:=by rw[A6];exact hb
      simp(config := { maxSteps := 3000000 }) [hlt,w1,w2,hsh,w3,w4,r1,hm,hneg,uk];refine⟨m+1,j,⟨by omega,hj,fun k hk hkm=>?_,h2⟩,⟨by omega,rfl⟩,by omega⟩;rcases q137 k m with h|h;·exact jW _ _ _ (gM hr hm h).1 hb
      ·have:k=m:=by omega
       subst this;exact hb|false=>
      have hneg:¬vA a[m].n s<0:=by rw[A6,hb];simp
      simp(config := { maxSteps := 3000000 }) [hlt,w1,w2,hsh,w3,w4,r1,hm,hneg,uk];refine⟨i,m,⟨by omega,by omega,h1,fun k hk hkm=>?_⟩,⟨rfl,rfl⟩,by omega⟩;rcases q137 m k with h|h;·cases hq:Op.bytesLess a[k].n s with|false=>rfl|true=>have:=jW _ _ _ (gM hr hk h).1 hq;rw[hb]at this;cases this
      ·have:k=m:=by omega
       subst this;exact hb
    ·have hij':i=j:=by omega
     subst hij';have hlb:lb a s=i:=Nj hj h1 h2;have hfd:dO a s=(match a[i]? with|some e=>decide (e.n=s)|none=>false):=by unfold dO;rw[hlb]
     by_cases hil:i<a.length
     ·have r1:=cA hil;rw[q64 hil]at hfd;simp only at hfd;have hz:decide (vA a[i].n s=0)=decide (a[i].n=s):=by simp only[wE]
      simp(config := { maxSteps := 3000000 }) [hil,r1,uk,hlb,hfd,wE]
     ·rw[q132 (by omega)]at hfd;have r0:rowAt (aM a) (i:Int)=[]:=by simp[rowAt,aM,hil]
      simp(config := { maxSteps := 3000000 }) [hil,hlb,hfd,r0]
  ·cases h
 ·cases h
@[simp] noncomputable def Gplc:List AV→Option (Prop×AV)|[.pv (.ro a),.pv (.str s)]=>(dec ff a).map fun l=>(l.length≤1000000000∧bk l=true,.aO [.pv (.int .i64 (lb l s)),.pv (.bool (dO l s))])|_=>none
theorem Eh:aJ Tryz.prog 136 Gplc:=by
 intro ys φ r h hφ;unfold Gplc at h;split at h;·rename_i ra s;obtain⟨a,ha,h⟩:=q0.1 h;cases h;cases aV ha;obtain⟨hl9,hr⟩:=hφ;refine ak (ag c_Bs ah) (by kernel_rfl) (by conv=>lhs;reduce) (by simp) ?_;simp(config := { maxSteps := 3000000 }) [hl9,hr]
 ·cases h
def kJ (l:List En) (s:List (List UInt8)):Int:=if bk l=true then if s.all eh=true then 0 else 170 else 2
@[simp] noncomputable def GMay:List AV→Option (Prop×AV)|[.pv (.ro a),.pv (.ro b)]=>(dec ff a).bind fun l=>(dec uJ b).map fun s=>(l.length≤1000000000∧s.length≤1000000000,.pv (.int .i64 (kJ l s)))|_=>none
theorem Gj:aJ Tryz.prog 135 GMay:=by
 intro ys φ r h hφ;unfold GMay at h;split at h;·rename_i ra rb;obtain⟨a,ha,h⟩:=q63.1 h;obtain⟨b,hb,h⟩:=q0.1 h;cases h;cases aV ha;cases nE hb;obtain⟨hl9,hs9⟩:=hφ;refine ak (ag c_Rt (ag Xa ah)) (by kernel_rfl) (by conv=>lhs;reduce) (by simp) ?_;unfold kJ;cases hr:bk a with|false=>simp(config := { maxSteps := 3000000 }) [hl9,hr]|true=>generalize hq:b.all eh=q;cases q<;>simp(config := { maxSteps := 3000000 }) [hl9,hs9,hr,hq]
 ·cases h
def eP (l:List En) (s:List UInt8):Int×Int:=if bk l=true then if eh s=true then match l.find? (fun e=>decide (e.n=s)) with|some e=>(e.i,0)|none=>(0,80) else(0,170) else(0,2)
theorem kL {l:List En}{s:List UInt8} (hr:bk l=true) (hn:eh s=true) (hf:dO l s=true):∃h:lb l s<l.length,eP l s=(l[lb l s].i,0)∧l[lb l s].n=s:=by
 have hlt:lb l s<l.length:=by
  unfold dO at hf;split at hf;·rename_i e he;exact(q65.1 he).1
  ·cases hf
 have hs:l[lb l s].n=s:=by unfold dO at hf;rw[q64 hlt]at hf;simpa using hf
 refine⟨hlt,?_,hs⟩;have hfind:l.find? (fun e=>decide (e.n=s))=some l[lb l s]:=by rw[q167];refine⟨by simp[hs],lb l s,hlt,rfl,fun j hj=>?_⟩;have:=vV (Gb hj);simpa using this
 unfold eP;rw[if_pos hr,if_pos hn,hfind]
theorem j9 {l:List En}{s:List UInt8} (hr:bk l=true) (hn:eh s=true) (hf:dO l s=false):eP l s=(0,80):=by
 have hfind:l.find? (fun e=>decide (e.n=s))=none:=by rw[q181];intro e he hh;have:=(ng (s:=s) hr).2 ⟨e,he,by simpa using hh⟩;rw[hf]at this;cases this
 unfold eP;rw[if_pos hr,if_pos hn,hfind]
@[simp] noncomputable def JM:List AV→Option (Prop×AV)|[.pv (.ro a),.pv (.str s)]=>(dec ff a).map fun l=>(l.length≤1000000000,.aO [.pv (.int .u64 (eP l s).1),.pv (.int .i64 (eP l s).2)])|_=>none
theorem LW:aJ Tryz.prog 140 JM:=by
 intro ys φ r h hφ;unfold JM at h;split at h;·rename_i ra s;obtain⟨a,ha,h⟩:=q0.1 h;cases h;cases aV ha;refine ak (ag Gj (ag Eh ah)) (by kernel_rfl) (by conv=>lhs;reduce) (by simp) ?_;cases hr:bk a with
  |false=>
   have hg:eP a s=(0,2):=by unfold eP;rw[if_neg (by simp[hr])]
   simp(config := { maxSteps := 3000000 }) [hφ,kJ,hr,hg]|true=>cases hn:eh s with
   |false=>
    have hg:eP a s=(0,170):=by unfold eP;rw[if_pos hr,if_neg (by simp[hn])]
    simp(config := { maxSteps := 3000000 }) [hφ,kJ,hr,hn,hg]|true=>cases hf:dO a s with|false=>have hg:=j9 hr hn hf;simp(config := { maxSteps := 3000000 }) [hφ,kJ,hr,hn,hf,hg]|true=>obtain⟨hlt,hg,_⟩:=kL hr hn hf;have r1:=cA hlt;simp(config := { maxSteps := 3000000 }) [hφ,kJ,hr,hn,hf,hg,r1,hlt]
 ·cases h
theorem B4:aJ Tryz.prog 79 JM:=by
 intro ys φ r h hφ;unfold JM at h;split at h;·rename_i ra s;obtain⟨a,ha,h⟩:=q0.1 h;cases h;cases aV ha;refine ak (ag NC (ag GX ah)) (by kernel_rfl) (by conv=>lhs;reduce) (by simp) ?_;cases hr:bk a with
  |false=>
   have hg:eP a s=(0,2):=by unfold eP;rw[if_neg (by simp[hr])]
   simp(config := { maxSteps := 3000000 }) [hφ,hr,hg]|true=>cases hn:eh s with
   |false=>
    have hg:eP a s=(0,170):=by unfold eP;rw[if_pos hr,if_neg (by simp[hn])]
    simp(config := { maxSteps := 3000000 }) [hφ,hr,hn,hg]|true=>
    have hgf:eP a s=match a.find? (fun e=>decide (e.n=s)) with|some e=>(e.i,0)|none=>(0,80):=by unfold eP;rw[if_pos hr,if_pos hn]
    simp(config := { maxSteps := 3000000 }) [hφ,hr,hn];refine aj (fun i:Nat=>i≤a.length∧∀e∈a.take i,¬e.n=s) (fun i=>⟨[(0,.pv (.ro (aM a))),(1,.pv (.str s)),(4,.pv (.int .u64 0)),(5,.pv (.int .i64 0)),(6,.pv (.int .i64 i))],[]⟩) (fun i=>a.length-i) [] 0 (by simp) ?_ ?_;·simp
    ·rintro i ⟨hi,ht⟩;have w2:IntKind.i64.wrap ((i:Int)+1)=(i:Int)+1:=wrap_i64 (by omega);by_cases hlt:i<a.length
     ·have r1:=cA hlt;by_cases he:a[i].n=s
      ·have hfind:a.find? (fun e=>decide (e.n=s))=some a[i]:=by rw[q167];refine⟨by simp[he],i,hlt,rfl,fun j hj=>?_⟩;have:=ht a[j] (by rw[q91];exact⟨j,by omega,rfl⟩);simpa using this
       rw[hfind]at hgf;simp only at hgf;simp(config := { maxSteps := 3000000 }) [hlt,r1,he,hgf]
      ·simp(config := { maxSteps := 3000000 }) [hlt,r1,he,w2];refine⟨i+1,⟨by omega,fun e hm=>?_⟩,by omega,by omega⟩;rw[q62 hlt,q80,q75]at hm;rcases hm with hm|rfl;·exact ht e hm
       ·exact he
     ·rw[List.take_of_length_le (by omega)]at ht;have hfind:a.find? (fun e=>decide (e.n=s))=none:=by rw[q181];intro e he hh;exact ht e he (by simpa using hh)
      rw[hfind]at hgf;simp only at hgf;simp(config := { maxSteps := 3000000 }) [hlt,hgf]
 ·cases h
@[simp] noncomputable def GNames:List AV→Option (Prop×AV)|[.pv (.ro a)]=>(dec ff a).map fun l=>(l.length≤100000000,.fr 9 (nz (l.map En.n)))|_=>none
set_option maxHeartbeats 8000000 in theorem Be (w:World) (rows:List (List PV)) (hs2:∀r∈rows,r.length=2) (hp:dy rows) (i n:Nat) (hn:rows.length=n) (hi:i<n) (hsm:n≤1000000) (nm:List UInt8) (id:Int) (g cap:Nat) (cur:Array Value) (hg0:w.heap[g]?=some (.cells cur 71 (0,0))) (hnc:n≤cap) (hcs:cur.size=cap*2) (htk:cur.toList.take (n*2)=cellW rows) (hroom:cap<n+1) (ad:Addr) (c:Nat) (h0:w.cell? (ad.add 0)=some (.string ⟨nm.toArray⟩)) (h1:w.cell? (ad.add 1)=some (.int .u64 id)):Calls Tryz.prog 139 #[.slice (some ⟨g,0,none⟩) n cap,.int .i64 i,.slice (some ad) 1 c] w fun r w'=>∃V',r=.returned V'∧w'.ownsRow 0 71 2 V' (n+1) ((cellW rows).take (i*2)++[.string ⟨nm.toArray⟩,.int .u64 id]++(cellW rows).drop (i*2))∧w.grownBy w' (Value.slice (some ⟨g,0,none⟩) n cap).ownBlock∧(∀b,V'.ownBlock=some b→(Value.slice (some ⟨g,0,none⟩) n cap).ownBlock=some b∨w.heap.size≤b):=by
 obtain⟨inf,z,hi',hz,hzs,hsz,hby⟩:=jX;have hszm:(Tryz.prog.info? 71).map (·.size)=some 2:=by rw[hi'];simp[hsz]
 have hcl:(cellW rows).length=n*2:=by rw[eK hs2,hn]
 obtain⟨cs,hcse⟩:∃cs,cs=(cellW rows).drop (i*2):=⟨_,rfl⟩;have hcsl:cs.length=(n-i)*2:=by rw[hcse,q94,hcl];omega
 have hcur:cur.toList.length=cap*2:=by simpa using hcs
 have hone:=kz hp;have hgw:g<w.heap.size:=(q66.1 hg0).1;have hadw:ad.block<w.heap.size:=by
  have:=h0;rw[add_zero']at this;unfold World.cell? at this;split at this;·rename_i hq;exact(q66.1 hq).1
  ·cases this
 have hcellA:∀j v,(cellW rows)[j]?=some v→w.cell? ⟨g,j,none⟩=some v:=by
  intro j v hj;rw[←htk,q81]at hj;split at hj;·simp only[World.cell?,hg0];simpa using hj
  ·cases hj
 have hold:(Builtin.firstCells inf.size i (.slice (some ⟨g,0,none⟩) i cap)).run Tryz.prog w.drew=.ok ((cellW rows).take (i*2)).toArray w.drew:=by rw[hsz];exact run_firstCells_some w.drew 2 i ⟨g,0,none⟩ i cap _ (by rw[q67];omega) (fun j v hj=>by
  rw[q100];rw[q81]at hj;split at hj;·rw[q133];exact hcellA j v hj
  ·cases hj)
 have hkk:(n:Int)+1-(i:Int)=((n+1-i:Nat):Int):=by omega
 have hrz:∀ty,(Builtin.append_ #[33,3] ty #[.slice (some ⟨g,0,none⟩) i cap,.int .i64 ((n:Int)+1-(i:Int))]).run Tryz.prog w=.ok (.slice (some ⟨w.heap.size,0,none⟩) (n+1) (grownCap w (n+1) cap 71)) (w.drew.alloc (.cells (((cellW rows).take (i*2)).toArray++Builtin.zeroCells z.cells (n+1-i)++Builtin.zeroCells z.cells (grownCap w (n+1) cap 71-(n+1))) 71)):=fun ty=>by have h:=q274 w 33 3 ty 71 inf z .i64 .i64 Tryz.underlying33 Tryz.underlying3 hi' hz (some ⟨g,0,none⟩) i cap ((cellW rows).take (i*2)) hold (n+1-i) (by omega) (by omega) (by omega) (by omega) (by rw[hby];omega) (by rw[hby];exact growslice_fits (by omega) (by omega));rw[show i+(n+1-i)=n+1 from by omega]at h;rw[hkk];exact h
 have hGn:n+1≤grownCap w (n+1) cap 71:=grownCap_ge w _ _ _;have hGm:grownCap w (n+1) cap 71≤maxLen:=grownCap_le_maxLen w (n+1) cap _ (by unfold maxLen;omega);generalize grownCap w (n+1) cap 71=G at hrz hGn hGm;obtain⟨ROW,hROW⟩:∃ROW,ROW=((cellW rows).take (i*2)).toArray++Builtin.zeroCells z.cells (n+1-i)++Builtin.zeroCells z.cells (G-(n+1)):=⟨_,rfl⟩;rw[←hROW]at hrz;have hRl:ROW.size=G*2:=by rw[hROW];simp only[q230,q105,q67,hcl,size_zeroCells,hzs,hsz];omega
 have hRt:ROW.toList.take (i*2)=(cellW rows).take (i*2):=by rw[hROW];simp only[q224,q96];rw[q122 (by rw[q67,hcl];omega),List.take_of_length_le (by rw[q67];omega)]
 obtain⟨N,hN⟩:∃N,N=w.heap.size:=⟨_,rfl⟩;obtain⟨W1,hW1⟩:∃W1,W1=w.drew.alloc (.cells ROW 71):=⟨_,rfl⟩;have hW1N:W1.heap[N]?=some (.cells ROW 71 (0,0)):=by rw[hW1,hN];exact heap_alloc_new w.drew _
 have hW1o:∀k,k<w.heap.size→W1.heap[k]?=w.heap[k]?:=fun k hk=>by rw[hW1];exact q201 w.drew _ k hk
 obtain⟨X1,hX1⟩:∃X1,X1=(ROW.toList.take (i*2)++[Value.string ⟨nm.toArray⟩,Value.int .u64 id]++ROW.toList.drop (i*2+2)).toArray:=⟨_,rfl⟩;have hX1l:X1.size=G*2:=by rw[hX1];simp only[q105,q74,q67,q94,q83,hRl,q79,q87];omega
 have hold':∀W:World,(∀k,k<w.heap.size→W.heap[k]?=w.heap[k]?)→∀x:Addr,x.block<w.heap.size→W.cell? x=w.cell? x:=fun W hW x hx=>by unfold World.cell?;rw[hW _ hx]
 have hcpA:∀W:World,W.heap=W1.heap→∀sT ty dc,(Builtin.copy_ #[33,sT] ty #[.slice (some ⟨N,i*2,none⟩) (n+1-i) dc,.slice (some ad) 1 c]).run Tryz.prog W=.ok (goInt 1) (W.setRow N X1):=fun W hW sT ty dc=>by
  have:=dw W 33 sT ty 71 N (i*2) (n+1-i) dc ad 1 c 2 ROW 71 [.string ⟨nm.toArray⟩,.int .u64 id] Tryz.underlying33 hszm (by rw[hW];exact hW1N) (by simp only[q79,q87,q151];split<;>omega) (fun j v hj=>by
   have hab:∀j,(ad.add j).block<w.heap.size:=fun j=>by rw[bW];exact hadw
   have ho:∀k,k<w.heap.size→W.heap[k]?=w.heap[k]?:=fun k hk=>by rw[hW];exact hW1o k hk
   match j with|0=>simp at hj;subst hj;rw[hold' W ho _ (hab 0)];exact h0|1=>simp at hj;subst hj;rw[hold' W ho _ (hab 1)];exact h1|j+2=>simp at hj) (by simp only[q79,q87,hRl];omega) (by intro v hv;simp only[q76,q92,or_false]at hv;rcases hv with rfl|rfl<;>rfl);rw[this,hX1];congr 2;simp only[q151];split<;>omega
 obtain⟨X2,hX2⟩:∃X2,X2=(X1.toList.take ((i+1)*2)++cs++X1.toList.drop ((i+1)*2+cs.length)).toArray:=⟨_,rfl⟩;have hX2l:X2.size=G*2:=by rw[hX2];simp only[q105,q74,q67,q94,q83,hX1l,hcsl];omega
 have hW2o:∀k,k<w.heap.size→(W1.setRow N X1).heap[k]?=w.heap[k]?:=fun k hk=>by rw[setRow_other _ N k _ (by omega)];exact hW1o k hk
 have hcpB:∀W:World,W.heap=(W1.setRow N X1).heap→∀sT ty dc sc,(Builtin.copy_ #[33,sT] ty #[.slice (some ⟨N,(i+1)*2,none⟩) (n-i) dc,.slice (some ⟨g,i*2,none⟩) (n-i) sc]).run Tryz.prog W=.ok (goInt (n-i)) (W.setRow N X2):=fun W hW sT ty dc sc=>by have:=dw W 33 sT ty 71 N ((i+1)*2) (n-i) dc ⟨g,i*2,none⟩ (n-i) sc 2 X1 71 cs Tryz.underlying33 hszm (by rw[hW];exact setRow_heap W1 N ROW X1 _ _ hW1N) (by rw[hcsl];congr 1;simp only[q151];split<;>omega) (fun j v hj=>by rw[hold' W (fun k hk=>by rw[hW];exact hW2o k hk) _ (by rw[bW];exact hgw),q100];rw[hcse,q89]at hj;exact hcellA _ v hj) (by rw[hcsl,hX1l];omega) (fun v hv=>hone v (by rw[hcse]at hv;exact q123 hv));rw[this,hX2];congr 2;simp only[q151];split<;>omega
 have key:∀Φ:Ending→World→Prop,(∀w',w'.heap=((W1.setRow N X1).setRow N X2).heap→w'.os=w.os→w'.tape=w.tape→w'.output=w.output→Φ (.returned (.slice (some ⟨N,0,none⟩) (n+1) G)) w')→Calls Tryz.prog 139 #[.slice (some ⟨g,0,none⟩) n cap,.int .i64 i,.slice (some ad) 1 c] w Φ:=by
  intro Φ hΦ;have q1:¬((i:Int)=(n:Int)):=by omega
  have q2:(cap:Int)<(n:Int)+1:=by omega
  have q3:(i:Int)≤(n:Int):=by omega
  have q5:(0:Int)≤(n:Int)+1:=by omega
  have q6:(i:Int)+1≤(n:Int)+1:=by omega
  have q7:IntKind.i64.wrap ((n:Int)+1)=(n:Int)+1:=by rw[q161];omega
  have q8:IntKind.i64.wrap ((i:Int)+1)=(i:Int)+1:=by rw[q161];omega
  have q9:IntKind.i64.wrap ((n:Int)+1-(i:Int))=(n:Int)+1-(i:Int):=by rw[q161];omega
  have q10:((i:Int)+1).toNat=i+1:=by omega
  have q11:(0:Int)≤(i:Int)+1:=by omega
  have q12:¬(G=i+1):=by omega
  have q13:¬(G=i):=by omega
  have q14:(i:Int)≤(n:Int)+1:=by omega
  have q15:¬(cap=i):=by omega
  have mixed:Tryz.prog.follows .mixedOrders=true:=by kernel_rfl
  have hΦ':Φ (.returned (.slice (some ⟨N,0,none⟩) (n+1) G)) (((W1.setRow N X1).drew).setRow N X2):=hΦ _ rfl (by rw[hW1];rfl) (by rw[hW1];rfl) (by rw[hW1];rfl);rw[←hW1]at hrz;subst hN;clear hkk hΦ hold hone hX1 hX2 htk hcur hROW hRt hW1N hW1o hW2o hold' hcellA hW1;go_enter Tryz.func139,Tryz.ntmps139;go_wp2_with(first|(at_builtin;refine q182 _ rfl _ _ _ _ rfl _ _ rfl rfl _ _ (hrz _) ?_)|(at_builtin;refine wpList_copy_runI _ rfl _ _ 33 32 rfl _ _ rfl rfl (hcpA _ rfl _ _ _) ?_));go_region_law_o(refine step_copy_runI rfl _ _ 33 33 rfl (.slice (some ⟨w.heap.size,(i+1)*2,none⟩) (n-i) (G-(i+1))) (.slice (some ⟨g,i*2,none⟩) (n-i) (cap-i)) (by simp[Act.eval,Act.put]) (by simp[Act.eval,Act.put]) (hcpB (W1.setRow w.heap.size X1).drew rfl 33 3 (G-(i+1)) (cap-i)) ?_);go_wp2;exact hΦ'
 have e1:X1.toList.take ((i+1)*2)=(cellW rows).take (i*2)++[Value.string ⟨nm.toArray⟩,Value.int .u64 id]:=by
  rw[hX1,hRt];have hl:((cellW rows).take (i*2)++[Value.string ⟨nm.toArray⟩,Value.int .u64 id]).length=(i+1)*2:=by simp only[q74,q67,hcl,q79,q87];omega
  rw[←hl];exact q154
 have e3:X2.toList=((cellW rows).take (i*2)++[Value.string ⟨nm.toArray⟩,Value.int .u64 id]++(cellW rows).drop (i*2))++X1.toList.drop ((i+1)*2+cs.length):=by rw[hX2,e1,hcse]
 have e4:((cellW rows).take (i*2)++[Value.string ⟨nm.toArray⟩,Value.int .u64 id]++(cellW rows).drop (i*2)).length=(n+1)*2:=by simp only[q74,q67,q79,q87,q94,hcl];omega
 refine key _ fun w' hh ho ht hou=>⟨_,rfl,⟨e4,.inr ⟨N,G,X2,rfl,q126 _,?_,hGn,hGm,hX2l,?_⟩⟩,⟨ho,ht,hou,?_,?_⟩,fun b hb=>.inr ?_⟩;·rw[hh];exact setRow_heap (W1.setRow N X1) N X1 X2 _ _ (setRow_heap W1 N ROW X1 _ _ hW1N)
 ·rw[e3,←e4];exact q154
 ·rw[hh,hW1];simp[World.setRow]
 ·intro k hk hne;rw[hh,setRow_other _ N k _ (by omega)];exact hW2o k hk
 ·simp[Value.ownBlock]at hb;omega
theorem jV {a:Act}{w:World}{K:Act→World→Prop}{E:Prop} (hg:o.guard=none) (d x:Operand) (dT sT:TypeId) (hop:o.op=Op.call {callee:=Callee.builtin Builtin.append,args:=#[d,x],argTypes:=#[dT,sT]}) (v u:Value) (hd:a.eval d=v) (hx:a.eval x=u)  (hr:(Builtin.append_ #[dT,sT] o.type #[v,u]).run P w=.ok v' w') (hK:K (a.put o.dst v') w'):if Region.wanted o (yielded ops a.tmps)=true then Oper.wp P o a w K Q else E:=by
 have hw:Region.wanted o (yielded ops a.tmps)=true:=by simp[Region.wanted,hg]
 rw[if_pos hw];unfold Oper.wp;simp[execOp,hop,resolve,invoke,builtin,hd,hx,hr,Result.andThen];exact hK
theorem kh (w:World) {rest:List Oper}{a:Act} (hgd:o.guard=none) (x:Operand) (t:TypeId) (ho:o.op=.call {callee:=.builtin .clear,args:=#[x],argTypes:=#[t]}) (v:Value) (hx:a.eval x=v)  (hr:(Builtin.clear_ #[t] o.type #[v]).run P w=.ok v' w') (h:wpList P ops Q rest (a.put o.dst v') w'):wpList P ops Q (o::rest) a w:=wpList_plain hgd fun _ hK=>by unfold Oper.wp execOp;simp only[ho,resolve,invoke,builtin,q185,q213,q153,List.map_toArray,q71,q117,hx,hr];exact hK _ _ h
theorem G4 {inf:TypeInfo}{z:Value} (hi:Tryz.prog.info? 71=some inf) (hz:inf.zero=some z):∀v∈z.cells.toList,v.oneCell'=true:=by
 have key:((Tryz.prog.info? 71).bind fun i=>i.zero.map fun z=>z.cells.toList.all (·.oneCell'))=some true:=by kernel_rfl
 rw[hi]at key;simp only[q130,hz,q116,qr]at key;exact q90.1 key
theorem Ai (w:World) (rows:List (List PV)) (hs2:∀r∈rows,r.length=2) (hp:dy rows) (i n:Nat) (hn:rows.length=n) (hi:i<n) (hsm:n≤1000000) (g cap:Nat) (cur:Array Value) (hg0:w.heap[g]?=some (.cells cur 71 (0,0))) (hnc:n≤cap) (hcm:cap≤maxLen) (hcs:cur.size=cap*2) (htk:cur.toList.take (n*2)=cellW rows):Calls Tryz.prog 141 #[.slice (some ⟨g,0,none⟩) n cap,.int .i64 i,.int .i64 ((i:Int)+1)] w fun r w'=>∃V',r=.returned V'∧w'.ownsRow 0 71 2 V' (n-1) ((cellW rows).take (i*2)++(cellW rows).drop ((i+1)*2))∧w.grownBy w' (Value.slice (some ⟨g,0,none⟩) n cap).ownBlock∧(∀b,V'.ownBlock=some b→(Value.slice (some ⟨g,0,none⟩) n cap).ownBlock=some b∨w.heap.size≤b):=by
 obtain⟨inf,z,hi',hz,hzs,hsz,hby⟩:=jX;have hzone:=G4 hi' hz;have hcl:(cellW rows).length=n*2:=by rw[eK hs2,hn]
 obtain⟨cs,hcse⟩:∃cs,cs=(cellW rows).drop ((i+1)*2):=⟨_,rfl⟩;have hcsl:cs.length=(n-(i+1))*2:=by rw[hcse,q94,hcl];omega
 have hcur:cur.toList.length=cap*2:=by simpa using hcs
 have hone:=kz hp;obtain⟨X1,hX1⟩:∃X1,X1=(cur.toList.take (i*2)++cs++cur.toList.drop (i*2+cs.length)).toArray:=⟨_,rfl⟩;have hX1l:X1.size=cap*2:=by rw[hX1];simp only[q105,q74,q67,q94,hcur,hcsl];omega
 have hcell:∀j v,cs[j]?=some v→w.drew.cell? ((⟨g,(i+1)*2,none⟩:Addr).add j)=some v:=by
  intro j v hj;rw[q100];rw[hcse,q89,←htk,q81]at hj;split at hj;·simp only[World.cell?,World.drew,hg0];simpa using hj
  ·cases hj
 have hap:∀ty (a:Addr) c',(n-(i+1)≠0→a=⟨g,(i+1)*2,none⟩)→(Builtin.append_ #[33,33] ty #[.slice (some ⟨g,0,none⟩) i cap,.slice (some a) (n-(i+1)) c']).run Tryz.prog w.drew=.ok (.slice (some ⟨g,0,none⟩) (n-1) cap) (w.drew.setRow g X1):=by
  intro ty a c' ha;have hfc:(Builtin.firstCells inf.size (n-(i+1)) (.slice (some a) (n-(i+1)) c')).run Tryz.prog w.drew=.ok cs.toArray w.drew:=by rw[hsz];refine run_firstCells_some w.drew 2 (n-(i+1)) a (n-(i+1)) c' cs hcsl fun j v hj=>?_;rw[ha (fun h0=>by rw[h0]at hcsl;have:=(q65.1 hj).1;omega)];exact hcell j v hj
  have hst:=run_storeCells_at Tryz.prog g (i*2) 71 cs 0 cur w.drew hg0 (by rw[hcsl,hcs];omega) (fun v hv=>hone v (by rw[hcse]at hv;exact q123 hv));simp only[q155]at hst;rw[←hX1]at hst;have hlen:∀W:World,(Builtin.lenOf (.slice (some a) (n-(i+1)) c')).run Tryz.prog W=.ok (n-(i+1)) W:=fun W=>rfl;have hroom:n-1≤cap:=by omega
  rw[hsz]at hfc;have hsum:i+(n-(i+1))=n-1:=by omega
  simp[Builtin.append_,run_underlying Tryz.underlying33,sizeOf,typeInfo,hi',hlen,hroom,hfc,q100,hsz,hst,hsum]
 obtain⟨zc,hzc⟩:∃zc,zc=(Builtin.zeroCells z.cells 1).toList:=⟨_,rfl⟩;have hzl:zc.length=2:=by rw[hzc,q83,size_zeroCells,hzs,hsz]
 obtain⟨X2,hX2⟩:∃X2,X2=(X1.toList.take ((n-1)*2)++zc++X1.toList.drop ((n-1)*2+zc.length)).toArray:=⟨_,rfl⟩;have hX2l:X2.size=cap*2:=by rw[hX2];simp only[q105,q74,q67,q94,q83,hX1l,hzl];omega
 have hclr:∀W:World,W.heap=(w.drew.setRow g X1).heap→∀ty c',(Builtin.clear_ #[33] ty #[.slice (some ⟨g,(n-1)*2,none⟩) 1 c']).run Tryz.prog W=.ok (.tuple #[]) (W.setRow g X2):=by
  intro W hW ty c';have hWg:W.heap[g]?=some (.cells X1 71 (0,0)):=by rw[hW];exact setRow_heap w.drew g cur X1 _ _ hg0
  have hst:=run_storeCells_at Tryz.prog g ((n-1)*2) 71 zc 0 X1 W hWg (by rw[hzl,hX1l];omega) (fun v hv=>hzone v (by rw[hzc]at hv;exact nD _ _ _ hv));simp only[q155]at hst;rw[←hX2,hzc]at hst;have hzr:(zeroValue 71).run Tryz.prog W=.ok z W:=by simp[zeroValue,typeInfo,hi',hz]
  simp[Builtin.clear_,run_underlying Tryz.underlying33,hzr,hst]
 have key:∀Φ:Ending→World→Prop,(∀w',w'.heap=((w.setRow g X1).setRow g X2).heap→w'.os=w.os→w'.tape=w.tape→w'.output=w.output→Φ (.returned (.slice (some ⟨g,0,none⟩) (n-1) cap)) w')→Calls Tryz.prog 141 #[.slice (some ⟨g,0,none⟩) n cap,.int .i64 i,.int .i64 ((i:Int)+1)] w Φ:=by
  intro Φ hΦ;have q1:¬((i:Int)=(i:Int)+1):=by omega
  have q3:(i:Int)≤(n:Int):=by omega
  have q4:(n:Int)≤(cap:Int):=by omega
  have q5:(0:Int)≤(i:Int)+1:=by omega
  have q6:(i:Int)+1≤(n:Int):=by omega
  have q7:(i:Int)≤(i:Int)+1:=by omega
  have q10:((i:Int)+1).toNat=i+1:=by omega
  have q11:((n-1:Nat):Int)≤(n:Int):=by omega
  have q12:¬(cap=n-1):=by omega
  have q13:n-(n-1)=1:=by omega
  have q14:(i:Int)≤(cap:Int):=by omega
  have q15:(i:Int)+1≤(cap:Int):=by omega
  have mixed:Tryz.prog.follows .mixedOrders=true:=by kernel_rfl
  by_cases hcap:cap=i+1
  ·have hap':∀ty,(Builtin.append_ #[33,33] ty #[.slice (some ⟨g,0,none⟩) i cap,.slice (some ⟨g,0,none⟩) 0 0]).run Tryz.prog w.drew=.ok (.slice (some ⟨g,0,none⟩) (n-1) cap) (w.drew.setRow g X1):=fun ty=>by have:=hap ty ⟨g,0,none⟩ 0 (fun h=>by omega);rwa[show n-(i+1)=0 from by omega]at this
   subst hcap;clear hcell hone hX1 hX2 htk hcur hzc hap;go_enter Tryz.func141,Tryz.ntmps141;go_wp2;go_region_law_o(refine jV rfl _ _ 33 33 rfl (.slice (some ⟨g,0,none⟩) i (i+1)) (.slice (some ⟨g,0,none⟩) 0 0) (by simp[Act.eval,Act.put]) (by simp[Act.eval,Act.put]) (hap' 33) ?_);go_wp2_with(at_builtin;refine kh _ rfl _ 33 rfl _ rfl (hclr _ rfl _ _) ?_);exact hΦ _ rfl rfl rfl rfl
  ·have hap':=fun ty c'=>hap ty ⟨g,(i+1)*2,none⟩ c' (fun _=>rfl);clear hcell hone hX1 hX2 htk hcur hzc hap;go_enter Tryz.func141,Tryz.ntmps141;go_wp2;go_region_law_o(refine jV rfl _ _ 33 33 rfl (.slice (some ⟨g,0,none⟩) i cap) (.slice (some ⟨g,(i+1)*2,none⟩) (n-(i+1)) (cap-(i+1))) (by simp[Act.eval,Act.put]) (by simp[Act.eval,Act.put]) (hap' 33 (cap-(i+1))) ?_);go_wp2_with(at_builtin;refine kh _ rfl _ 33 rfl _ rfl (hclr _ rfl _ _) ?_);exact hΦ _ rfl rfl rfl rfl
 have hAt:(cellW rows).take (i*2)=cur.toList.take (i*2):=by rw[←htk,q145,q120 (by omega)]
 have hA2:((cellW rows).take (i*2)).length=i*2:=by rw[q67];omega
 have e4:((cellW rows).take (i*2)++(cellW rows).drop ((i+1)*2)).length=(n-1)*2:=by rw[q74,hA2,←hcse,hcsl];omega
 have e3:X2.toList.take ((n-1)*2)=(cellW rows).take (i*2)++(cellW rows).drop ((i+1)*2):=by
  have hl:(X1.toList.take ((n-1)*2)).length=(n-1)*2:=by rw[q67,q83,hX1l];omega
  have h1:X2.toList.take ((n-1)*2)=X1.toList.take ((n-1)*2):=by rw[hX2];simp only[q96];rw[q122 (by omega),List.take_of_length_le (by omega)]
  rw[h1,hX1,←hAt,hcse,←e4];exact q154
 refine key _ fun w' hh ho ht hou=>⟨_,rfl,⟨e4,.inr ⟨g,cap,X2,rfl,q126 _,?_,by omega,hcm,hX2l,e3⟩⟩,⟨ho,ht,hou,?_,?_⟩,fun b hb=>.inl hb⟩;·rw[hh];exact setRow_heap (w.setRow g X1) g X1 X2 _ _ (setRow_heap w g cur X1 _ _ hg0)
 ·rw[hh];simp[World.setRow]
 ·intro k hk hne;have hkg:k≠g:=fun e=>hne (by rw[e];rfl);rw[hh,setRow_other _ g k _ hkg,setRow_other _ g k _ hkg]
theorem dZ (l:List En):dy (aM l):=by intro r hr p hp;simp only[aM,q84]at hr;obtain⟨e,_,rfl⟩:=hr;simp only[ff,q76,q92,or_false]at hp;rcases hp with rfl|rfl<;>rfl
theorem th (l:List En) (i:Nat):aM (l.take i)=(aM l).take i:=by simp[aM,q124]
theorem vt (l:List En) (i:Nat):aM (l.drop i)=(aM l).drop i:=by simp[aM,q233]
def vG (l:List En) (i:Nat) (e:En):List En:=l.take i++e::l.drop i
theorem EI (l:List En) (i:Nat) (e:En):cellW (aM (vG l i e))=(cellW (aM l)).take (i*2)++[Value.string ⟨e.n.toArray⟩,Value.int .u64 e.i]++(cellW (aM l)).drop (i*2):=by unfold vG;rw[show l.take i++e::l.drop i=l.take i++([e]++l.drop i) from rfl,dr,dr,eO,eO,th,vt,iO i (cZ l),nW i (cZ l),q96];rfl
theorem FI (l:List En) (i:Nat):cellW (aM (l.take i++l.drop (i+1)))=(cellW (aM l)).take (i*2)++(cellW (aM l)).drop ((i+1)*2):=by rw[dr,eO,th,vt,iO i (cZ l),nW (i+1) (cZ l)]
@[simp] noncomputable def GIns:List AV→Option (Prop×AV)|[.fr e a,.pv (.int .i64 i),.pv (.ro [[.str nm,.int .u64 id]])]=>if e=71 then(dec ff a).map fun l=>(0≤i∧i≤l.length∧l.length≤1000000,.fr 71 (aM (vG l i.toNat ⟨nm,id⟩))) else none|_=>none
theorem YP:nM Tryz.prog 139 GIns:=by
 intro ys φ r h hφ;unfold GIns at h;split at h
 ·rename_i e ra i nm id;split at h
  ·rename_i hef;subst hef;obtain⟨l,hl,h⟩:=q0.1 h;cases h;cases aV hl;obtain⟨h0,h1,h2⟩:=hφ;obtain⟨k,rfl⟩:∃k:Nat,i=(k:Int):=⟨i.toNat,by omega⟩;simp only[q68];obtain⟨inf,z,hi,hz,hzs,hsz,hby⟩:=jX;have hins:(vG l k ⟨nm,id⟩).length=l.length+1:=by unfold vG;simp;omega
   refine tj hi (rows:=aM l) (rows':=aM (vG l k ⟨nm,id⟩)) (by rw[hsz];exact cZ l) (dZ l) (by rw[hsz];exact cZ _) (dZ _) [.int .i64 (k:Int),.ro [[.str nm,.int .u64 id]]] ?_;intro w S V vals hown hS hlen hv;rw[hsz]at hown ⊢;match vals,hlen with
   |[v1,v2],_=>
    have e1:=(hv 0 v1 _ rfl rfl).aN;subst e1;obtain⟨A,c,rfl,hc,hne⟩:=(hv 1 v2 _ rfl rfl).gq;obtain⟨ad,sz,us,rfl,g1,g2,g3,g4,g5⟩:=hne (by simp);have hs2:sz=2:=(g2 [.str nm,.int .u64 id] (by simp)).symm;subst hs2;have u0:us 0 0=.string ⟨nm.toArray⟩:=(g5 0 0 _ _ rfl rfl).eS;have u1:us 0 1=.int .u64 id:=(g5 0 1 _ _ rfl rfl).aN;have k0:w.cell? (ad.add 0)=some (.string ⟨nm.toArray⟩):=by rw[←u0];exact g3 0 0 (by simp) (by omega)
    have k1:w.cell? (ad.add 1)=some (.int .u64 id):=by rw[←u1];exact g3 0 1 (by simp) (by omega)
    have hb:=(hS _ g1).2;rw[cQ,hins,EI];rw[cQ]at hown;rcases q137 k l.length with hk|hk
    ·rcases hown.2 with⟨_,hn⟩|⟨g,cap,cur,rfl,hb0,hg0,hnc,hcm,hcs,htk⟩;·omega
     ·have hbg:ad.block≠g:=fun e=>hb (by rw[e];rfl);rcases q137 cap (l.length+1) with hr|hr;·exact Be w (aM l) (cZ l) (dZ l) k l.length (cQ l) hk h2 nm id g cap cur hg0 hnc hcs htk hr ad c k0 k1
      ·exact A7 w (aM l) (cZ l) (dZ l) k l.length (cQ l) hk h2 nm id g cap cur hg0 hcm hcs htk hr ad c hbg k0 k1
    ·have hkl:k=l.length:=by omega
     subst hkl;have hcl:(cellW (aM l)).length=l.length*2:=by rw[eK (cZ l),cQ]
     rw[List.take_of_length_le (by omega),q177 (by omega),q147];have:=BU w V (aM l) (cZ l) (dZ l) (by simpa using h2) nm id (by rw[cQ];exact hown) ad c k0 k1;rw[cQ]at this;exact this
  ·cases h
 ·cases h
@[simp] noncomputable def Wb:List AV→Option (Prop×AV)|[.fr e a,.pv (.int .i64 i),.pv (.int .i64 j)]=>if e=71 then(dec ff a).map fun l=>(0≤i∧i<l.length∧j=i+1∧l.length≤1000000,.fr 71 (aM (l.take i.toNat++l.drop (i.toNat+1)))) else none|_=>none
theorem c_Del:nM Tryz.prog 141 Wb:=by
 intro ys φ r h hφ;unfold Wb at h;split at h
 ·rename_i e ra i j;split at h
  ·rename_i hef;subst hef;obtain⟨l,hl,h⟩:=q0.1 h;cases h;cases aV hl;obtain⟨h0,h1,hj,h2⟩:=hφ;subst hj;obtain⟨k,rfl⟩:∃k:Nat,i=(k:Int):=⟨i.toNat,by omega⟩;simp only[q68];obtain⟨inf,z,hi,hz,hzs,hsz,hby⟩:=jX;have hins:(l.take k++l.drop (k+1)).length=l.length-1:=by simp;omega
   refine tj hi (rows:=aM l) (rows':=aM (l.take k++l.drop (k+1))) (by rw[hsz];exact cZ l) (dZ l) (by rw[hsz];exact cZ _) (dZ _) [.int .i64 (k:Int),.int .i64 ((k:Int)+1)] ?_;intro w S V vals hown hS hlen hv;rw[hsz]at hown ⊢;match vals,hlen with
   |[v1,v2],_=>
    have e1:=(hv 0 v1 _ rfl rfl).aN;have e2:=(hv 1 v2 _ rfl rfl).aN;subst e1 e2;rw[cQ,hins,FI];rw[cQ]at hown;rcases hown.2 with⟨_,hn⟩|⟨g,cap,cur,rfl,hb0,hg0,hnc,hcm,hcs,htk⟩;·omega
    ·exact Ai w (aM l) (cZ l) (dZ l) k l.length (cQ l) (by omega) h2 g cap cur hg0 hnc hcm hcs htk
  ·cases h
 ·cases h
@[simp] noncomputable def GCl:List AV→Option (Prop×AV)|[.pv (.ro a)]=>(dec ff a).map fun l=>(l.length≤100000000,.fr 71 (aM l))|_=>none
theorem PL:aJ Tryz.prog 59 GCl:=by
 intro ys φ r h hφ;unfold GCl at h;split at h;·rename_i ra;obtain⟨a,ha,h⟩:=q0.1 h;cases h;cases aV ha;refine ak ah (by kernel_rfl) (by conv=>lhs;reduce) (by simp) ?_;cases a with|nil=>simp(config := { maxSteps := 3000000 }) [mD]|cons x l=>have hx:aM (x::l)=ff x::aM l:=rfl;simp(config := { maxSteps := 3000000 }) [hx,ax];simp only[q79]at hφ;exact⟨by omega,by omega,rfl,cZ l⟩
 ·cases h
@[simp] noncomputable def GB1:List AV→Option (Prop×AV)|[.agg [.pv (.str a),.pv (.int .u64 b)],.rp [.int .u64 n]]=>some (True,.pv (.bool (decide (b=n))))|_=>none
theorem c_B1:aJ Tryz.prog 138 GB1:=by
 intro ys φ r h hφ;unfold GB1 at h;split at h;·cases h;refine ak ah (by kernel_rfl) (by conv=>lhs;reduce) (by simp) ?_;simp(config := { maxSteps := 3000000 })
 ·cases h
theorem DH:fF Tryz.prog 138=true:=by kernel_rfl
def BA (l:List En) (n:Int):Bool:=l.any fun e=>decide (e.i=n)
@[simp] noncomputable def Xy:List AV→Option (Prop×AV)|[.pv (.ro a),.bE f [.rp [.int .u64 n]]]=>if f=138 then(dec ff a).map fun l=>(l.length≤1000000000,.pv (.int .i64 (if BA l n=true then((l.findIdx fun e=>decide (e.i=n):Nat):Int) else-1))) else none|_=>none
theorem c_IxC:aJ Tryz.prog 164 Xy:=by
 intro ys φ r h hφ;unfold Xy at h;split at h
 ·rename_i ra f n;split at h
  ·rename_i hf;subst hf;obtain⟨a,ha,h⟩:=q0.1 h;cases h;cases aV ha;refine ak (ag c_B1 ah) (by kernel_rfl) (by conv=>lhs;reduce) (by simp) ?_;simp(config := { maxSteps := 3000000 });refine aj (fun i:Nat=>i≤a.length∧∀e∈a.take i,¬e.i=n) (fun i=>⟨[(0,.pv (.ro (aM a))),(1,.bE 138 [.rp [.int .u64 n]]),(7,.pv (.int .i64 a.length)),(8,.pv (.int .i64 i))],[]⟩) (fun i=>a.length-i) [] 0 (by simp) ?_ ?_;·simp
   ·rintro i ⟨hi,ht⟩;have w2:IntKind.i64.wrap ((i:Int)+1)=(i:Int)+1:=wrap_i64 (by omega);by_cases hlt:i<a.length
    ·have r1:=cA hlt;by_cases he:a[i].i=n
     ·have dm:BA a n=true:=by unfold BA;rw[q112];exact⟨a[i],q82 hlt,by simpa using he⟩
      have hfi:a.findIdx (fun e=>decide (e.i=n))=i:=by rw[q166 hlt];refine⟨by simpa using he,fun j hj=>?_⟩;have:=ht a[j] (by rw[q91];exact⟨j,by omega,rfl⟩);simpa using this
      simp(config := { maxSteps := 3000000 }) [hlt,r1,DH,he,dm,hfi]
     ·simp(config := { maxSteps := 3000000 }) [hlt,r1,DH,he,w2];refine⟨i+1,⟨by omega,fun e hm=>?_⟩,by omega,by omega⟩;rw[q62 hlt,q80,q75]at hm;rcases hm with hm|rfl;·exact ht e hm
      ·exact he
    ·rw[List.take_of_length_le (by omega)]at ht;have dm:BA a n=false:=by unfold BA;rw[q141];intro e he;simpa using ht e he
     simp(config := { maxSteps := 3000000 }) [hlt,dm]
  ·cases h
 ·cases h
@[simp] noncomputable def Yr:List AV→Option (Prop×AV)|[.pv (.ro a),.bE f [.rp [.int .u64 n]]]=>if f=138 then(dec ff a).map fun l=>(l.length≤1000000000,.pv (.bool (BA l n))) else none|_=>none
theorem YO:aJ Tryz.prog 137 Yr:=by
 intro ys φ r h hφ;unfold Yr at h;split at h
 ·rename_i ra f n;split at h;·rename_i hf;subst hf;obtain⟨a,ha,h⟩:=q0.1 h;cases h;cases aV ha;refine ak (ag c_IxC ah) (by kernel_rfl) (by conv=>lhs;reduce) (by simp) ?_;cases dm:BA a n with|true=>simp(config := { maxSteps := 3000000 }) [hφ,dm]|false=>simp(config := { maxSteps := 3000000 }) [hφ,dm]
  ·cases h
 ·cases h
def qK (l:List En) (e:En):List En:=vG l (lb l e.n) e
def dg (l:List En) (s:List UInt8) (n:Int):List En×Int:=if(eP l s).2=0 then([],81) else if(eP l s).2≠80 then([],(eP l s).2) else if n=0∨BA l n=true then([],2) else(qK l ⟨s,n⟩,0)
theorem iY (l:List En) (s:List UInt8):(bk l=false∧eP l s=(0,2))∨(bk l=true∧eh s=false∧eP l s=(0,170))∨(bk l=true∧eh s=true∧dO l s=false∧eP l s=(0,80))∨(bk l=true∧eh s=true∧dO l s=true∧∃h:lb l s<l.length,eP l s=(l[lb l s].i,0)∧l[lb l s].n=s):=by cases hr:bk l with|false=>left;exact⟨rfl,by unfold eP;rw[if_neg (by simp[hr])]⟩|true=>right;cases hn:eh s with|false=>left;exact⟨rfl,rfl,by unfold eP;rw[if_pos hr,if_neg (by simp[hn])]⟩|true=>right;cases hf:dO l s with|false=>left;exact⟨rfl,rfl,rfl,j9 hr hn hf⟩|true=>right;exact⟨rfl,rfl,rfl,kL hr hn hf⟩
@[simp] noncomputable def N4:List AV→Option (Prop×AV)|[.pv (.ro a),.pv (.str s),.pv (.int .u64 n)]=>(dec ff a).map fun l=>(l.length≤100000,.aO [.fr 71 (aM (dg l s n).1),.pv (.int .i64 (dg l s n).2)])|_=>none
theorem Gx:aJ Tryz.prog 101 N4:=by
 intro ys φ r h hφ;unfold N4 at h;split at h
 ·rename_i ra s n;obtain⟨a,ha,h⟩:=q0.1 h;cases h;cases aV ha;have hl9:a.length≤1000000000:=by omega
  have hl8:a.length≤100000000:=by omega
  have hl6:a.length≤1000000:=by omega
  have hinf:(Tryz.prog.info? 71).isSome=true:=by kernel_rfl
  refine ak (ag Gj (ag Eh (ag YO (ag PL (eQ (p:=0) (k:=998) YP (by kernel_rfl) ah))))) (by kernel_rfl) (by conv=>lhs;reduce) (by simp) ?_;rcases iY a s with⟨hr,hg⟩|⟨hr,hn,hg⟩|⟨hr,hn,hf,hg⟩|⟨hr,hn,hf,hlt,hg,_⟩
  ·have hb:dg a s n=([],2):=by unfold dg;rw[hg];simp
   simp(config := { maxSteps := 3000000 }) [hl9,kJ,hr,hb,hinf]
  ·have hb:dg a s n=([],170):=by unfold dg;rw[hg];simp
   simp(config := { maxSteps := 3000000 }) [hl9,kJ,hr,hn,hb,hinf]
  ·by_cases h0:n=0
   ·have hb:dg a s n=([],2):=by unfold dg;rw[hg];simp[h0]
    simp(config := { maxSteps := 3000000 }) [hl9,kJ,hr,hn,hf,h0,hb,hinf];try simp[←h0,hb]
   ·cases dm:BA a n with|true=>
     have hb:dg a s n=([],2):=by unfold dg;rw[hg];simp[dm]
     simp(config := { maxSteps := 3000000 }) [hl9,kJ,hr,hn,hf,h0,dm,hb,hinf]|false=>
     have hb:dg a s n=(vG a (lb a s) ⟨s,n⟩,0):=by unfold dg;rw[hg];simp[dm,h0,qK]
     have hlb:=Dl a s;simp(config := { maxSteps := 3000000 }) [hl9,hl8,hl6,kJ,hr,hn,hf,h0,dm,hb,hinf,hlb];exact aU _
  ·have hb:dg a s n=([],81):=by unfold dg;rw[hg];simp
   simp(config := { maxSteps := 3000000 }) [hl9,kJ,hr,hn,hf,hb,hinf]
 ·cases h
@[simp] noncomputable def HU:List AV→Option (Prop×AV)|[.pv (.ro a),.agg [.pv (.str s),.pv (.int .u64 n)]]=>(dec ff a).map fun l=>(l.length≤1000000∧bk l=true∧dO l s=false,.fr 82 (aM (qK l ⟨s,n⟩)))|_=>none
theorem AH (l:List En) (e:En):(qK l e).length=l.length+1:=by have:=Dl l e.n;unfold qK vG;simp;omega
theorem Dw:aJ Tryz.prog 80 HU:=by
 intro ys φ r h hφ;unfold HU at h;split at h
 ·rename_i ra s n;obtain⟨a,ha,h⟩:=q0.1 h;cases h;cases aV ha;obtain⟨hl6,hr,hf⟩:=hφ;have hk:=Dl a s;have hab:∀(j:Nat) (h:j<a.length),¬a[j].n=s:=fun j h e=>by have:=(ng (s:=s) hr).2 ⟨a[j],q82 h,e⟩;rw[hf]at this;cases this
  obtain⟨k,hkd⟩:∃k,k=lb a s:=⟨_,rfl⟩;have hput:qK a ⟨s,n⟩=a.take k++⟨s,n⟩::a.drop k:=by unfold qK vG;rw[hkd]
  refine ak ah (by kernel_rfl) (by conv=>lhs;reduce) (by simp) ?_;simp(config := { maxSteps := 3000000 });refine aj (fun i:Nat=>i≤a.length) (fun i=>⟨[(0,.pv (.ro (aM a))),(3,.ptr 3 0),(4,.own 4),(5,.own 5),(6,.pv (.bool (decide (k<i)))),(7,.pv (.int .i64 i))],[(3,.box [.pv (.str s),.pv (.int .u64 n)]),(4,.arr 82 []),(5,.arr 82 (aM (if k<i then a.take k++⟨s,n⟩::(a.take i).drop k else a.take i)))]⟩) (fun i=>a.length-i) [] 0 (by simp) ?_ ?_;·simp
  ·intro i hi;have w2:IntKind.i64.wrap ((i:Int)+1)=(i:Int)+1:=wrap_i64 (by omega);by_cases hlt:i<a.length
   ·have r1:=cA hlt;have hne:=hab i hlt;have hap:∀m:List En,aM m++[[PV.str a[i].n,.int .u64 a[i].i]]=aM (m++[a[i]]):=fun m=>by rw[dr];rfl
    have hap2:∀m:List En,aM m++[[PV.str s,.int .u64 n]]=aM (m++[⟨s,n⟩]):=fun m=>by rw[dr];rfl
    have htk:a.take (i+1)=a.take i++[a[i]]:=q62 hlt;have hlen:(a.take i).length=i:=by rw[q67];omega
    rcases q212 i k with hik|hik|hik
    ·have hb:Op.bytesLess a[i].n s=true:=Gb (by omega);have c1:¬k<i:=by omega
     have c2:¬k<i+1:=by omega
     simp(config := { maxSteps := 3000000 }) [w2,hlt,r1,hb,c1,hap,ax];refine⟨⟨by omega,by omega⟩,i+1,by omega,⟨⟨by omega,by omega⟩,by rw[if_neg c2,htk]⟩,by omega⟩
    ·have hb:Op.bytesLess a[i].n s=false:=Yf hr hlt (by omega);have c1:¬k<i:=by omega
     have c2:k<i+1:=by omega
     simp(config := { maxSteps := 3000000 }) [w2,hlt,r1,hb,hne,c1,hap,hap2,ax];exact⟨⟨by omega,by omega⟩,⟨by omega,by omega⟩,i+1,by omega,⟨⟨by omega,by omega⟩,by
      have hdr:(a.take i++[a[i]]).drop k=[a[i]]:=by rw[←hik,q190 (by omega),q177 (by omega)];rfl
      rw[if_pos c2,htk,hdr,←hik]⟩,by omega⟩
    ·have c1:k<i:=by omega
     have c2:k<i+1:=by omega
     simp(config := { maxSteps := 3000000 }) [w2,hlt,r1,c1,hap,ax];exact⟨⟨by omega,by omega⟩,i+1,by omega,⟨⟨by omega,by omega⟩,by rw[if_pos c2,htk,q190 (by omega)]⟩,by omega⟩
   ·have hia:i=a.length:=by omega
    subst hia;by_cases hkl:k<a.length;·simp(config := { maxSteps := 3000000 }) [hkl,hput]
    ·have hkl':k=a.length:=by omega
     have hap2:∀m:List En,aM m++[[PV.str s,.int .u64 n]]=aM (m++[⟨s,n⟩]):=fun m=>by rw[dr];rfl
     simp(config := { maxSteps := 3000000 }) [hkl,hput,hap2,hkl',ax];exact⟨by omega,by omega⟩
 ·cases h
@[simp] noncomputable def H4:List AV→Option (Prop×AV)|[.pv (.ro a),.pv (.str s),.pv (.int .u64 n)]=>(dec ff a).map fun l=>(l.length≤100000,.aO [.fr 82 (aM (dg l s n).1),.pv (.int .i64 (dg l s n).2)])|_=>none
theorem KP:aJ Tryz.prog 52 H4:=by
 intro ys φ r h hφ;unfold H4 at h;split at h
 ·rename_i ra s n;obtain⟨a,ha,h⟩:=q0.1 h;cases h;cases aV ha;have hl9:a.length≤1000000000:=by omega
  have hl6:a.length≤1000000:=by omega
  have hinf:(Tryz.prog.info? 82).isSome=true:=by kernel_rfl
  refine ak (ag B4 (ag Dw ah)) (by kernel_rfl) (by conv=>lhs;reduce) (by simp) ?_;rcases iY a s with⟨hr,hg⟩|⟨hr,hn,hg⟩|⟨hr,hn,hf,hg⟩|⟨hr,hn,hf,hlt,hg,_⟩
  ·have hb:dg a s n=([],2):=by unfold dg;rw[hg];simp
   simp(config := { maxSteps := 3000000 }) [hl9,hg,hb,hinf]
  ·have hb:dg a s n=([],170):=by unfold dg;rw[hg];simp
   simp(config := { maxSteps := 3000000 }) [hl9,hg,hb,hinf]
  ·simp(config := { maxSteps := 3000000 }) [hl9,hg];refine aj (fun i:Nat=>i≤a.length∧BA (a.take i) n=false) (fun i=>⟨[(0,.pv (.ro (aM a))),(1,.pv (.str s)),(2,.pv (.int .u64 n)),(6,.own 6),(7,.pv (.int .i64 0)),(10,.pv (.int .i64 i))],[(6,.arr 82 [])]⟩) (fun i=>a.length-i) [] 0 (by simp[BA]) ?_ ?_;·simp
   ·rintro i ⟨hi,ht⟩;have w2:IntKind.i64.wrap ((i:Int)+1)=(i:Int)+1:=wrap_i64 (by omega);by_cases hlt:i<a.length
    ·have r1:=cA hlt;by_cases he:a[i].i=n
     ·have dm:BA a n=true:=by unfold BA;rw[q112];exact⟨a[i],q82 hlt,by simpa using he⟩
      have hb:dg a s n=([],2):=by unfold dg;rw[hg];simp[dm]
      simp(config := { maxSteps := 3000000 }) [hlt,r1,he,hb,hinf]
     ·simp(config := { maxSteps := 3000000 }) [hlt,r1,he,w2];refine⟨i+1,⟨by omega,?_⟩,by omega,by omega⟩;rw[q62 hlt];unfold BA at ht ⊢;rw[q225,ht];simp[he]
    ·rw[List.take_of_length_le (by omega)]at ht;by_cases h0:n=0
     ·have hb:dg a s n=([],2):=by unfold dg;rw[hg];simp[h0]
      subst h0;simp(config := { maxSteps := 3000000 }) [hlt,hb,hinf]
     ·have hb:dg a s n=(qK a ⟨s,n⟩,0):=by unfold dg;rw[hg];simp[ht,h0]
      simp(config := { maxSteps := 3000000 }) [hlt,h0,hb,hl6,hr,hf]
  ·have hb:dg a s n=([],81):=by unfold dg;rw[hg];simp
   simp(config := { maxSteps := 3000000 }) [hl9,hg,hb,hinf]
 ·cases h
def b6 (l:List En) (s:List UInt8):List En:=l.filter fun e=>!decide (e.n=s)
def jT (l:List En) (s:List UInt8):List En×Int:=if(eP l s).2≠0 then([],(eP l s).2) else(b6 l s,0)
theorem BK {l:List En}{s:List UInt8} (hr:bk l=true) (h:lb l s<l.length) (hs:l[lb l s].n=s):b6 l s=l.take (lb l s)++l.drop (lb l s+1):=by
 have h1:l=l.take (lb l s)++l[lb l s]::l.drop (lb l s+1):=by rw[←q88 h,q156]
 have ha:(l.take (lb l s)).filter (fun e=>!decide (e.n=s))=l.take (lb l s):=by rw[q174];intro e he;rw[q91]at he;obtain⟨j,hj,rfl⟩:=he;have:=vV (Gb (l:=l) (s:=s) (k:=j) (by omega));simpa using this
 have hd:(l.drop (lb l s+1)).filter (fun e=>!decide (e.n=s))=l.drop (lb l s+1):=by rw[q174];intro e he;rw[List.mem_drop_iff_getElem]at he;obtain⟨j,hj,rfl⟩:=he;have:=vV (gM hr (i:=lb l s) (j:=lb l s+1+j) (by omega) (by omega)).1;rw[hs]at this;simpa using fun e=>this e.symm
 unfold b6;conv=>lhs;rw[h1]
 rw[q131,ha,q220,hd];simp[hs]
@[simp] noncomputable def aat:List AV→Option (Prop×AV)|[.pv (.ro a),.pv (.str s)]=>(dec ff a).map fun l=>(l.length≤100000,.aO [.fr 71 (aM (jT l s).1),.pv (.int .i64 (jT l s).2)])|_=>none
theorem Mj:aJ Tryz.prog 102 aat:=by
 intro ys φ r h hφ;unfold aat at h;split at h
 ·rename_i ra s;obtain⟨a,ha,h⟩:=q0.1 h;cases h;cases aV ha;have hl9:a.length≤1000000000:=by omega
  have hl8:a.length≤100000000:=by omega
  have hl6:a.length≤1000000:=by omega
  have hinf:(Tryz.prog.info? 71).isSome=true:=by kernel_rfl
  refine ak (ag LW (ag Eh (ag PL (eQ (p:=0) (k:=998) c_Del (by kernel_rfl) ah)))) (by kernel_rfl) (by conv=>lhs;reduce) (by simp) ?_;rcases iY a s with⟨hr,hg⟩|⟨hr,hn,hg⟩|⟨hr,hn,hf,hg⟩|⟨hr,hn,hf,hlt,hg,hs⟩
  ·have hb:jT a s=([],2):=by unfold jT;rw[hg];simp
   simp(config := { maxSteps := 3000000 }) [hl9,hg,hb,hinf]
  ·have hb:jT a s=([],170):=by unfold jT;rw[hg];simp
   simp(config := { maxSteps := 3000000 }) [hl9,hg,hb,hinf]
  ·have hb:jT a s=([],80):=by unfold jT;rw[hg];simp
   simp(config := { maxSteps := 3000000 }) [hl9,hg,hb,hinf]
  ·have hb:jT a s=(a.take (lb a s)++a.drop (lb a s+1),0):=by unfold jT;rw[hg];simp[BK hr hlt hs]
   have w1:IntKind.i64.wrap ((lb a s:Int)+1)=(lb a s:Int)+1:=wrap_i64 (by omega);simp(config := { maxSteps := 3000000 }) [hl9,hl8,hl6,hg,hr,hf,hb,hinf,hlt,w1]
 ·cases h
@[simp] noncomputable def aaH:List AV→Option (Prop×AV)|[.pv (.ro a),.pv (.str s)]=>(dec ff a).map fun l=>(l.length≤1000000,.fr 82 (aM (b6 l s)))|_=>none
theorem gH (l:List En) (s:List UInt8):(b6 l s).length≤l.length:=q144 _ _
theorem LX:aJ Tryz.prog 81 aaH:=by
 intro ys φ r h hφ;unfold aaH at h;split at h
 ·rename_i ra s;obtain⟨a,ha,h⟩:=q0.1 h;cases h;cases aV ha;refine ak ah (by kernel_rfl) (by conv=>lhs;reduce) (by simp) ?_;simp(config := { maxSteps := 3000000 });refine aj (fun i:Nat=>i≤a.length) (fun i=>⟨[(0,.pv (.ro (aM a))),(1,.pv (.str s)),(4,.own 4),(5,.own 5),(6,.pv (.int .i64 i))],[(4,.arr 82 []),(5,.arr 82 (aM (b6 (a.take i) s)))]⟩) (fun i=>a.length-i) [] 0 (by simp) ?_ ?_;·simp[b6]
  ·intro i hi;have w2:IntKind.i64.wrap ((i:Int)+1)=(i:Int)+1:=wrap_i64 (by omega);by_cases hlt:i<a.length
   ·have r1:=cA hlt;have hll:=gH (a.take i) s;rw[q67]at hll;have hst:b6 (a.take (i+1)) s=b6 (a.take i) s++(if a[i].n=s then[] else[a[i]]):=by unfold b6;rw[q62 hlt,q131];by_cases he:a[i].n=s<;>simp[he]
    by_cases he:a[i].n=s;·rw[if_pos he,q147]at hst;simp(config := { maxSteps := 3000000 }) [w2,hlt,r1,he];exact⟨i+1,by omega,⟨by omega,by rw[hst]⟩,by omega⟩
    ·rw[if_neg he]at hst;simp(config := { maxSteps := 3000000 }) [w2,hlt,r1,he,ax];exact⟨⟨by omega,by omega⟩,i+1,by omega,⟨by omega,by rw[hst,dr];rfl⟩,by omega⟩
   ·simp(config := { maxSteps := 3000000 }) [hlt];rw[List.take_of_length_le (by omega)]
 ·cases h
@[simp] noncomputable def NZ:List AV→Option (Prop×AV)|[.pv (.ro a),.pv (.str s)]=>(dec ff a).map fun l=>(l.length≤100000,.aO [.fr 82 (aM (jT l s).1),.pv (.int .i64 (jT l s).2)])|_=>none
theorem PQ:aJ Tryz.prog 53 NZ:=by
 intro ys φ r h hφ;unfold NZ at h;split at h
 ·rename_i ra s;obtain⟨a,ha,h⟩:=q0.1 h;cases h;cases aV ha;have hl9:a.length≤1000000000:=by omega
  have hl6:a.length≤1000000:=by omega
  have hinf:(Tryz.prog.info? 82).isSome=true:=by kernel_rfl
  refine ak (ag B4 (ag LX ah)) (by kernel_rfl) (by conv=>lhs;reduce) (by simp) ?_;by_cases h0:(eP a s).2=0
  ·have hb:jT a s=(b6 a s,0):=by unfold jT;rw[if_neg (by simpa using h0)]
   simp(config := { maxSteps := 3000000 }) [hl9,hl6,h0,hb];try exact aU _
  ·have hb:jT a s=([],(eP a s).2):=by unfold jT;rw[if_pos h0]
   simp(config := { maxSteps := 3000000 }) [hl9,h0,hb,hinf]
 ·cases h
theorem jP {l:List En} (s:List UInt8) (hr:bk l=true):bk (b6 l s)=true:=by rw[iX]at hr ⊢;exact⟨fun e he=>hr.1 e (q125.1 he).1,hr.2.filter _⟩
theorem nw {l:List En}{s t:List UInt8} (hr:bk l=true) (h:dO l t=false):dO (b6 l s) t=false:=by cases hf:dO (b6 l s) t with|false=>rfl|true=>obtain⟨e,he,hn⟩:=(ng (jP s hr)).1 hf;have:=(ng (s:=t) hr).2 ⟨e,(q125.1 he).1,hn⟩;rw[h]at this;cases this
theorem BH {l:List En}{s:List UInt8} (hr:bk l=true) {e:En} (he:e∈l) (hs:e.n=s):BA (b6 l s) e.i=false:=by
 unfold BA;rw[q141];intro x hx hi;have hxl:=(q125.1 hx).1;have hxn:¬x.n=s:=by simpa using(q125.1 hx).2
 have hi':x.i=e.i:=by simpa using hi
 obtain⟨j,hj,rfl⟩:=q192 hxl;obtain⟨k,hk,rfl⟩:=q192 he;rcases q212 j k with h|h|h;·exact(gM hr hk h).2 hi'
 ·subst h;exact hxn hs
 ·exact(gM hr hj h).2 hi'.symm
theorem yn {l:List En}{s t:List UInt8} (hr:bk l=true) (hlt:lb l s<l.length) (hs:l[lb l s].n=s) (ht:eh t=true) (hf:dO l t=false):dg (b6 l s) t l[lb l s].i=(qK (b6 l s) ⟨t,l[lb l s].i⟩,0):=by have hg:=j9 (jP s hr) ht (nw (s:=s) hr hf);have dm:=BH hr (q82 hlt) hs;have h0:l[lb l s].i≠0:=((iX l).1 hr).1 _ (q82 hlt)|>.2;unfold dg;rw[hg,if_neg (by simp),if_neg (by simp),if_neg (by simp[dm,h0])]
def eD (l:List En) (s t:List UInt8):List En×Int:=if bk l=true∧(eh s=false∨eh t=false) then([],170) else if(eP l s).2≠0 then([],(eP l s).2) else if(eP l t).2=0 then([],81) else(qK (b6 l s) ⟨t,(eP l s).1⟩,0)
@[simp] noncomputable def X9:List AV→Option (Prop×AV)|[.pv (.ro a),.pv (.str s),.pv (.str t)]=>(dec ff a).map fun l=>(l.length≤100000,.aO [.fr 71 (aM (eD l s t).1),.pv (.int .i64 (eD l s t).2)])|_=>none
@[simp] noncomputable def Nx:List AV→Option (Prop×AV)|[.pv (.ro a),.pv (.str s),.pv (.str t)]=>(dec ff a).map fun l=>(l.length≤100000,.aO [.fr 82 (aM (eD l s t).1),.pv (.int .i64 (eD l s t).2)])|_=>none
theorem WG:aJ Tryz.prog 103 X9:=by
 intro ys φ r h hφ;unfold X9 at h;split at h
 ·rename_i ra s t;obtain⟨a,ha,h⟩:=q0.1 h;cases h;cases aV ha;have hl9:a.length≤1000000000:=by omega
  have hl5:a.length≤100000:=hφ;have hw5:(b6 a s).length≤100000:=by have:=gH a s;omega
  have hinf:(Tryz.prog.info? 71).isSome=true:=by kernel_rfl
  have fl:∀l,bp (aM l):=aU;refine ak (ag Gj (ag LW (ag Eh (ag Mj (ag Gx ah))))) (by kernel_rfl) (by conv=>lhs;reduce) (by simp) ?_;apply af;·simp(config := { maxSteps := 3000000 });exact⟨rfl,rfl⟩
  rcases iY a s with⟨hr,hg⟩|⟨hr,hn,hg⟩|⟨hr,hn,hf,hg⟩|⟨hr,hn,hf,hlt,hg,hs⟩
  ·have hb:eD a s t=([],2):=by unfold eD;rw[hg];simp[hr]
   refine bA (fun _=>False) ?_ (fun _ h=>h.elim);apply af;·simp(config := { maxSteps := 3000000 }) [hl9,kJ,hr];exact⟨rfl,rfl⟩
   apply af;·simp(config := { maxSteps := 3000000 }) [];exact⟨rfl,rfl⟩
   apply bJ rfl;simp(config := { maxSteps := 3000000 }) [hb,hinf]
  ·have hb:eD a s t=([],170):=by unfold eD;simp[hr,hn]
   refine bA (fun _=>False) ?_ (fun _ h=>h.elim);apply af;·simp(config := { maxSteps := 3000000 }) [hl9,kJ,hr,hn];exact⟨rfl,rfl⟩
   apply af;·simp(config := { maxSteps := 3000000 }) [];exact⟨rfl,rfl⟩
   apply bJ rfl;simp(config := { maxSteps := 3000000 }) [hb,hinf]
  ·cases ht:eh t with|false=>
    have hb:eD a s t=([],170):=by unfold eD;simp[hr,ht]
    refine bA (fun _=>False) ?_ (fun _ h=>h.elim);apply af;·simp(config := { maxSteps := 3000000 }) [hl9,kJ,hr,hn,ht];exact⟨rfl,rfl⟩
    apply af;·simp(config := { maxSteps := 3000000 }) [];exact⟨rfl,rfl⟩
    apply bJ rfl;simp(config := { maxSteps := 3000000 }) [hb,hinf]|true=>
    have hb:eD a s t=([],80):=by unfold eD;rw[hg];simp[hr,hn,ht]
    rw[aL];apply af;·simp(config := { maxSteps := 3000000 }) [hl9,kJ,hr,hn,ht];exact⟨rfl,rfl⟩
    apply af;·simp(config := { maxSteps := 3000000 });exact⟨rfl,rfl⟩
    apply cM rfl;apply af;·simp(config := { maxSteps := 3000000 }) [hl9,hg];exact⟨rfl,rfl⟩
    refine bA (fun _=>False) ?_ (fun _ h=>h.elim);apply af;·simp(config := { maxSteps := 3000000 }) [];exact⟨rfl,rfl⟩
    apply bJ rfl;simp(config := { maxSteps := 3000000 }) [hb,hinf]
  ·cases ht:eh t with|false=>
    have hb:eD a s t=([],170):=by unfold eD;simp[hr,ht]
    refine bA (fun _=>False) ?_ (fun _ h=>h.elim);apply af;·simp(config := { maxSteps := 3000000 }) [hl9,kJ,hr,hn,ht];exact⟨rfl,rfl⟩
    apply af;·simp(config := { maxSteps := 3000000 }) [];exact⟨rfl,rfl⟩
    apply bJ rfl;simp(config := { maxSteps := 3000000 }) [hb,hinf]|true=>cases hft:dO a t with
    |true=>
     have hgt:=(kL hr ht hft).2.1;have hb:eD a s t=([],81):=by unfold eD;rw[hg,hgt];simp[hr,hn,ht]
     rw[aL];apply af;·simp(config := { maxSteps := 3000000 }) [hl9,kJ,hr,hn,ht];exact⟨rfl,rfl⟩
     apply af;·simp(config := { maxSteps := 3000000 });exact⟨rfl,rfl⟩
     apply cM rfl;apply af;·simp(config := { maxSteps := 3000000 }) [hl9,hg];exact⟨rfl,rfl⟩
     rw[aL];apply af;·simp(config := { maxSteps := 3000000 });exact⟨rfl,rfl⟩
     apply cM rfl;refine bA (fun _=>False) ?_ (fun _ h=>h.elim);apply af;·simp(config := { maxSteps := 3000000 }) [hl9,hr,hft];exact⟨rfl,rfl⟩
     apply af;·simp(config := { maxSteps := 3000000 }) [];exact⟨rfl,rfl⟩
     apply bJ rfl;simp(config := { maxSteps := 3000000 }) [hb,hinf]|false=>
     have hgt:=j9 hr ht hft;have hb:eD a s t=(qK (b6 a s) ⟨t,a[lb a s].i⟩,0):=by unfold eD;rw[hg,hgt];simp[hr,hn,ht]
     have hu:jT a s=(b6 a s,0):=by unfold jT;rw[hg];simp
     have hbw:=yn hr hlt hs ht hft;rw[aL];apply af;·simp(config := { maxSteps := 3000000 }) [hl9,kJ,hr,hn,ht];exact⟨rfl,rfl⟩
     apply af;·simp(config := { maxSteps := 3000000 });exact⟨rfl,rfl⟩
     apply cM rfl;apply af;·simp(config := { maxSteps := 3000000 }) [hl9,hg];exact⟨rfl,rfl⟩
     rw[aL];apply af;·simp(config := { maxSteps := 3000000 });exact⟨rfl,rfl⟩
     apply cM rfl;rw[ur];rw[aL];apply af;·simp(config := { maxSteps := 3000000 }) [hl9,hr,hft];exact⟨rfl,rfl⟩
     apply af;·simp(config := { maxSteps := 3000000 });exact⟨rfl,rfl⟩
     apply cM rfl;apply af;·simp(config := { maxSteps := 3000000 }) [hl5,hu,fl];exact⟨rfl,rfl⟩
     simp(config := { maxSteps := 3000000 }) [hw5,hbw,hb,fl]
 ·cases h
theorem Pr:aJ Tryz.prog 54 Nx:=by
 intro ys φ r h hφ;unfold Nx at h;split at h
 ·rename_i ra s t;obtain⟨a,ha,h⟩:=q0.1 h;cases h;cases aV ha;have hl9:a.length≤1000000000:=by omega
  have hl6:a.length≤1000000:=by omega
  have hw6:(b6 a s).length≤1000000:=by have:=gH a s;omega
  have hinf:(Tryz.prog.info? 82).isSome=true:=by kernel_rfl
  have fl:∀l,bp (aM l):=aU;refine ak (ag NC (ag GX (ag B4 (ag LX (ag Dw ah))))) (by kernel_rfl) (by conv=>lhs;reduce) (by simp) ?_;apply af;·simp(config := { maxSteps := 3000000 });exact⟨rfl,rfl⟩
  rcases iY a s with⟨hr,hg⟩|⟨hr,hn,hg⟩|⟨hr,hn,hf,hg⟩|⟨hr,hn,hf,hlt,hg,hs⟩
  ·have hb:eD a s t=([],2):=by unfold eD;rw[hg];simp[hr]
   rw[aL];apply af
   ·refine(show cn _ _ _ _ _ from ?_);apply bR 3 rfl rfl;·simp(config := { maxSteps := 3000000 }) [hl9,hr];exact⟨rfl,rfl⟩
    apply bR 4 rfl rfl;·simp(config := { maxSteps := 3000000 }) [hl9,hr];exact⟨rfl,rfl⟩
    simp(config := { maxSteps := 3000000 }) [hl9,hr];exact⟨rfl,rfl⟩
   apply cM rfl;apply af;·simp(config := { maxSteps := 3000000 }) [hl9,hg];exact⟨rfl,rfl⟩
   refine bA (fun _=>False) ?_ (fun _ h=>h.elim);apply af;·simp(config := { maxSteps := 3000000 }) [];exact⟨rfl,rfl⟩
   apply bJ rfl;simp(config := { maxSteps := 3000000 }) [hb,hinf]
  ·have hb:eD a s t=([],170):=by unfold eD;simp[hr,hn]
   refine bA (fun _=>False) ?_ (fun _ h=>h.elim);apply af
   ·refine(show cn _ _ _ _ _ from ?_);apply bR 3 rfl rfl;·simp(config := { maxSteps := 3000000 }) [hl9,hr,hn];exact⟨rfl,rfl⟩
    apply bR 4 rfl rfl;·simp(config := { maxSteps := 3000000 }) [hl9,hr,hn];exact⟨rfl,rfl⟩
    simp(config := { maxSteps := 3000000 }) [hl9,hr,hn];exact⟨rfl,rfl⟩
   apply bJ rfl;simp(config := { maxSteps := 3000000 }) [hb,hinf]
  ·cases ht:eh t with|false=>
    have hb:eD a s t=([],170):=by unfold eD;simp[hr,ht]
    refine bA (fun _=>False) ?_ (fun _ h=>h.elim);apply af
    ·refine(show cn _ _ _ _ _ from ?_);apply bR 3 rfl rfl;·simp(config := { maxSteps := 3000000 }) [hl9,hr,hn,ht];exact⟨rfl,rfl⟩
     apply bR 4 rfl rfl;·simp(config := { maxSteps := 3000000 }) [hl9,hr,hn,ht];exact⟨rfl,rfl⟩
     simp(config := { maxSteps := 3000000 }) [hl9,hr,hn,ht];exact⟨rfl,rfl⟩
    apply bJ rfl;simp(config := { maxSteps := 3000000 }) [hb,hinf]|true=>
    have hb:eD a s t=([],80):=by unfold eD;rw[hg];simp[hr,hn,ht]
    rw[aL];apply af
    ·refine(show cn _ _ _ _ _ from ?_);apply bR 3 rfl rfl;·simp(config := { maxSteps := 3000000 }) [hl9,hr,hn,ht];exact⟨rfl,rfl⟩
     apply bR 4 rfl rfl;·simp(config := { maxSteps := 3000000 }) [hl9,hr,hn,ht];exact⟨rfl,rfl⟩
     simp(config := { maxSteps := 3000000 }) [hl9,hr,hn,ht];exact⟨rfl,rfl⟩
    apply cM rfl;apply af;·simp(config := { maxSteps := 3000000 }) [hl9,hg];exact⟨rfl,rfl⟩
    refine bA (fun _=>False) ?_ (fun _ h=>h.elim);apply af;·simp(config := { maxSteps := 3000000 }) [];exact⟨rfl,rfl⟩
    apply bJ rfl;simp(config := { maxSteps := 3000000 }) [hb,hinf]
  ·cases ht:eh t with|false=>
    have hb:eD a s t=([],170):=by unfold eD;simp[hr,ht]
    refine bA (fun _=>False) ?_ (fun _ h=>h.elim);apply af
    ·refine(show cn _ _ _ _ _ from ?_);apply bR 3 rfl rfl;·simp(config := { maxSteps := 3000000 }) [hl9,hr,hn,ht];exact⟨rfl,rfl⟩
     apply bR 4 rfl rfl;·simp(config := { maxSteps := 3000000 }) [hl9,hr,hn,ht];exact⟨rfl,rfl⟩
     simp(config := { maxSteps := 3000000 }) [hl9,hr,hn,ht];exact⟨rfl,rfl⟩
    apply bJ rfl;simp(config := { maxSteps := 3000000 }) [hb,hinf]|true=>cases hft:dO a t with
    |true=>
     have hgt:=(kL hr ht hft).2.1;have hb:eD a s t=([],81):=by unfold eD;rw[hg,hgt];simp[hr,hn,ht]
     rw[aL];apply af
     ·refine(show cn _ _ _ _ _ from ?_);apply bR 3 rfl rfl;·simp(config := { maxSteps := 3000000 }) [hl9,hr,hn,ht];exact⟨rfl,rfl⟩
      apply bR 4 rfl rfl;·simp(config := { maxSteps := 3000000 }) [hl9,hr,hn,ht];exact⟨rfl,rfl⟩
      simp(config := { maxSteps := 3000000 }) [hl9,hr,hn,ht];exact⟨rfl,rfl⟩
     apply cM rfl;apply af;·simp(config := { maxSteps := 3000000 }) [hl9,hg];exact⟨rfl,rfl⟩
     rw[aL];apply af;·simp(config := { maxSteps := 3000000 }) [];exact⟨rfl,rfl⟩
     apply cM rfl;apply af;·simp(config := { maxSteps := 3000000 }) [hl9,hgt];exact⟨rfl,rfl⟩
     refine bA (fun _=>False) ?_ (fun _ h=>h.elim);apply af;·simp(config := { maxSteps := 3000000 }) [hgt];exact⟨rfl,rfl⟩
     apply bJ rfl;simp(config := { maxSteps := 3000000 }) [hb,hinf]|false=>
     have hgt:=j9 hr ht hft;have hb:eD a s t=(qK (b6 a s) ⟨t,a[lb a s].i⟩,0):=by unfold eD;rw[hg,hgt];simp[hr,hn,ht]
     have hw:=jP s hr;have hfw:=nw (s:=s) hr hft;rw[aL];apply af
     ·refine(show cn _ _ _ _ _ from ?_);apply bR 3 rfl rfl;·simp(config := { maxSteps := 3000000 }) [hl9,hr,hn,ht];exact⟨rfl,rfl⟩
      apply bR 4 rfl rfl;·simp(config := { maxSteps := 3000000 }) [hl9,hr,hn,ht];exact⟨rfl,rfl⟩
      simp(config := { maxSteps := 3000000 }) [hl9,hr,hn,ht];exact⟨rfl,rfl⟩
     apply cM rfl;apply af;·simp(config := { maxSteps := 3000000 }) [hl9,hg];exact⟨rfl,rfl⟩
     rw[aL];apply af;·simp(config := { maxSteps := 3000000 }) [];exact⟨rfl,rfl⟩
     apply cM rfl;apply af;·simp(config := { maxSteps := 3000000 }) [hl9,hgt];exact⟨rfl,rfl⟩
     rw[aL];apply af;·simp(config := { maxSteps := 3000000 }) [hgt];exact⟨rfl,rfl⟩
     apply cM rfl;simp(config := { maxSteps := 3000000 }) [hl6,hw6,hw,hfw,hb,fl]
 ·cases h
structure Wr (w w':World) (b:Nat) (us:Array Value) (ty:TypeId):Prop where
 os:w'.os=w.os
 tape:w'.tape=w.tape
 output:w'.output=w.output
 size:w'.heap.size=w.heap.size
 here:w'.heap[b]?=some (.cells us ty (0,0))
 block:∀k,k≠b→w'.heap[k]?=w.heap[k]?
theorem vm {w:World}{b:Nat}{us:Array Value}{ty:TypeId} (h:w.heap[b]?=some (.cells us ty (0,0))) (o:Nat) (v:Value):Wr w (w.setCell ⟨b,o,none⟩ v) b (us.setIfInBounds o v) ty:=by
 refine⟨rfl,rfl,rfl,by simp[World.setCell],?_,fun k hk=>?_⟩;·simp[World.setCell,q216,h]
 ·simp[World.setCell,q216,q257 hk]
theorem fD (a:Value) (b o:Nat) (x:Int) (us:Array Value) (ty:TypeId) (w:World) (h:w.heap[b]?=some (.cells us ty (0,0))) (hx:us[o]?=some (.int .u64 x)):Calls Tryz.prog 242 #[a,.pointer (some ⟨b,o,none⟩)] w fun e w'=>e=.returned (.tuple #[])∧Wr w w' b (us.setIfInBounds o (.int .u64 0)) ty:=by
 have hc:w.cell? ⟨b,o,none⟩=some (.int .u64 x):=by rw[q143 h];exact hx
 have hf:w.frozen? ⟨b,o,none⟩=false:=by simp[World.frozen?,h]
 go_enter Tryz.func242,Tryz.ntmps242;go_wp2;exact⟨rfl,_,by kernel_rfl,rfl,vm h o _⟩
theorem zt (b o bt:Nat) (n:List UInt8) (bad:Bool) (us:Array Value) (ty tt:TypeId) (w:World) (hne:b≠bt) (h:w.heap[b]?=some (.cells us ty (0,0))) (hx:us[o]?=some (.string ⟨n.toArray⟩)) (ht:w.heap[bt]?=some (.cells #[.bool bad] tt (0,0))):Calls Tryz.prog 243 #[.pointer (some ⟨bt,0,none⟩),.pointer (some ⟨b,o,none⟩)] w fun e w'=>e=.returned (.tuple #[])∧∃w1,Wr w w1 bt #[.bool (bad||decide (n=[])||decide (64<n.length))] tt∧Wr w1 w' b (us.setIfInBounds o (.string ⟨#[]⟩)) ty:=by
 have hc:w.cell? ⟨b,o,none⟩=some (.string ⟨n.toArray⟩):=by rw[q143 h];exact hx
 have hb:w.cell? ⟨bt,0,none⟩=some (.bool bad):=by rw[q143 ht];rfl
 have hf:w.frozen? ⟨b,o,none⟩=false:=by simp[World.frozen?,h]
 have hg:w.frozen? ⟨bt,0,none⟩=false:=by simp[World.frozen?,ht]
 have hd:∀v,(w.setCell ⟨bt,0,none⟩ v).cell? ⟨b,o,none⟩=some (.string ⟨n.toArray⟩):=fun v=>by rw[q143 (((vm ht 0 v).block b hne).trans h)];exact hx
 have fin:∀v,v=(bad||decide (n=[])||decide (64<n.length))→∃w1,Wr w w1 bt #[.bool (bad||decide (n=[])||decide (64<n.length))] tt∧Wr w1 ((w.setCell ⟨bt,0,none⟩ (.bool v)).setCell ⟨b,o,none⟩ (.string ⟨#[]⟩)) b (us.setIfInBounds o (.string ⟨#[]⟩)) ty:=by rintro v rfl;exact⟨_,vm ht 0 _,vm (((vm ht 0 _).block b hne).trans h) o _⟩
 go_enter Tryz.func243,Tryz.ntmps243;have hd1:=hd (.bool true);have hd2:=hd (.bool false);clear hd;cases bad with|true=>go_wp2;exact⟨rfl,_,by kernel_rfl,rfl,fin _ rfl⟩|false=>
  by_cases h1:n=[];·subst h1;go_wp2;exact⟨rfl,_,by kernel_rfl,rfl,fin _ rfl⟩
  ·go_wp2;refine⟨rfl,_,by kernel_rfl,rfl,fin _ ?_⟩;have:(n.isEmpty||decide (64<(n.length:Int)))=(decide (n=[])||decide (64<n.length)):=by cases n with|nil=>rfl|cons x l=>simp only[List.isEmpty_cons,q265,reduceCtorEq,decide_false];exact decide_eq_decide.2 (by omega)
   rw[this,q265]
def recC (r:Rc):Array Value:=#[.int .u8 r.k,.int .u64 r.p,.int .u64 r.i,.int .u64 r.s,.int .u64 r.e,.int .u64 r.u,.int .u64 r.v,.int .u64 r.c,.int .u64 r.z,.int .u64 r.m,.string ⟨r.n.toArray⟩,.string ⟨r.t.toArray⟩]
def vJ:Nat→Rc→Rc|0,r=>{r with e:=0}|1,r=>{r with u:=0}|2,r=>{r with v:=0}|3,r=>{r with c:=0}|4,r=>{r with z:=0}|5,r=>{r with m:=0}|6,r=>{r with n:=[]}|7,r=>{r with t:=[]}|_,r=>r
def badR:Nat→Rc→Bool→Bool|6,r,b=>b||decide (r.n=[])||decide (64<r.n.length)|7,r,b=>b||decide (r.t=[])||decide (64<r.t.length)|_,_,b=>b
def sH:List Nat→Rc×Bool→Rc×Bool|[],x=>x|q::l,x=>sH l (vJ q x.1,badR q x.1 x.2)
theorem X3 (a b c:Value) (w:World):(Instr.index 235 (.agg #[a,b,c]) (.int .i64 0)).run Tryz.prog w=.ok a w:=by kernel_rfl
theorem aax (a b c:Value) (w:World):(Instr.index 235 (.agg #[a,b,c]) (.int .i64 1)).run Tryz.prog w=.ok b w:=by kernel_rfl
theorem aaq (a b c:Value) (w:World):(Instr.index 235 (.agg #[a,b,c]) (.int .i64 2)).run Tryz.prog w=.ok c w:=by kernel_rfl
theorem MP (n:Nat) (a:Addr) (w:World):(method (n+1) 187 (.pointer (some a)) "chartroom/record.number").run Tryz.prog w=.ok (242,.pointer (some a)) w:=by kernel_rfl
theorem m_txt (n:Nat) (a:Addr) (w:World):(method (n+1) 187 (.pointer (some a)) "chartroom/record.text").run Tryz.prog w=.ok (243,.pointer (some a)) w:=by kernel_rfl
theorem Xk (n:Nat) (a:Addr) (w:World):(nilAhead (n+1) 187 (.pointer (some a)) "chartroom/record.number").run Tryz.prog w=.ok (some false) w:=by kernel_rfl
theorem Wl (n:Nat) (a:Addr) (w:World):(nilAhead (n+1) 187 (.pointer (some a)) "chartroom/record.text").run Tryz.prog w=.ok (some false) w:=by kernel_rfl
def iOf:Value→Nat|.int _ n=>n.toNat|_=>0
structure Vs (w0 w:World) (br bt:Nat) (r:Rc) (bad:Bool):Prop where
 os:w.os=w0.os
 tape:w.tape=w0.tape
 output:w.output=w0.output
 size:w0.heap.size<w.heap.size
 hr:w.heap[br]?=some (.cells (recC r) 38 (0,0))
 ht:w.heap[bt]?=some (.cells #[.bool bad] 189 (0,0))
 ha:w.heap[w0.heap.size]?=some (.cells #[.pointer (some ⟨br,4,none⟩),.pointer (some ⟨br,5,none⟩),.pointer (some ⟨br,6,none⟩),.pointer (some ⟨br,7,none⟩),.pointer (some ⟨br,8,none⟩),.pointer (some ⟨br,9,none⟩)] 234 (0,0))
 block:∀k,k<w0.heap.size→k≠br→k≠bt→w.heap[k]?=w0.heap[k]?
theorem Vs.drew {w0 w:World}{r:Rc} (h:Vs w0 w br bt r bad):Vs w0 w.drew br bt r bad:=⟨h.os,h.tape,h.output,h.size,h.hr,h.ht,h.ha,h.block⟩
theorem Vs.num {w0 w w':World}{r r':Rc} (h:Vs w0 w br bt r bad) (hlr:br<w0.heap.size) (hlt:bt<w0.heap.size) (hne:br≠bt) {us:Array Value} (hw:Wr w w' br us 38) (hu:us=recC r'):Vs w0 w' br bt r' bad:=⟨hw.os.trans h.os,hw.tape.trans h.tape,hw.output.trans h.output,by rw[hw.size];exact h.size,by rw[hw.here,hu],(hw.block bt (q257 hne)).trans h.ht,(hw.block _ (by omega)).trans h.ha,fun k h1 h2 h3=>(hw.block k h2).trans (h.block k h1 h2 h3)⟩
theorem Vs.tak {w0 w w':World}{r:Rc}{bad bad':Bool} (h:Vs w0 w br bt r bad) (hlr:br<w0.heap.size) (hlt:bt<w0.heap.size) (hne:br≠bt) (hw:Wr w w' bt #[.bool bad'] 189):Vs w0 w' br bt r bad':=⟨hw.os.trans h.os,hw.tape.trans h.tape,hw.output.trans h.output,by rw[hw.size];exact h.size,(hw.block br hne).trans h.hr,hw.here,(hw.block _ (by omega)).trans h.ha,fun k h1 h2 h3=>(hw.block k h3).trans (h.block k h1 h2 h3)⟩
theorem Oq (r:Rc) (bad:Bool) (ps:List Nat) (hps:∀q∈ps,q<8) (hlen:ps.length≤8) (w:World) (br bt:Nat) (hne:br≠bt) (hlr:br<w.heap.size) (hlt:bt<w.heap.size) (A:Option Addr) (c:Nat) (hc:ps.length≤c) (hA:0<ps.length→∃b o,A=some ⟨b,o,none⟩∧b≠br∧b≠bt∧b<w.heap.size∧∀i (h:i<ps.length),w.cell? ⟨b,o+i,none⟩=some (.int .u8 ps[i])) (h1:w.heap[br]?=some (.cells (recC r) 38 (0,0))) (h2:w.heap[bt]?=some (.cells #[.bool bad] 189 (0,0))):Calls Tryz.prog 96 #[.pointer (some ⟨br,0,none⟩),.iface 187 (.pointer (some ⟨bt,0,none⟩)),.slice A ps.length c] w fun e w'=>e=.returned (.tuple #[])∧Vs w w' br bt (sH ps ({r with p:=0,i:=0,s:=0},bad)).1 (sH ps ({r with p:=0,i:=0,s:=0},bad)).2:=by
 go_enter Tryz.func96,Tryz.ntmps96;go_wp2;go_region;have hv0:Vs w ((w.alloc (Obj.cells #[.pointer (some ⟨br,4,none⟩),.pointer (some ⟨br,5,none⟩),.pointer (some ⟨br,6,none⟩),.pointer (some ⟨br,7,none⟩),.pointer (some ⟨br,8,none⟩),.pointer (some ⟨br,9,none⟩)] 234)).drew) br bt r bad:=by
  have g:∀k,k<w.heap.size→((w.alloc (Obj.cells #[.pointer (some ⟨br,4,none⟩),.pointer (some ⟨br,5,none⟩),.pointer (some ⟨br,6,none⟩),.pointer (some ⟨br,7,none⟩),.pointer (some ⟨br,8,none⟩),.pointer (some ⟨br,9,none⟩)] 234)).drew).heap[k]?=w.heap[k]?:=fun k hk=>by show(w.heap.push _)[k]?=_;rw[q193,if_neg (by omega)]
  refine⟨rfl,rfl,rfl,?_,(g br hlr).trans h1,(g bt hlt).trans h2,?_,fun k hk _ _=>g k hk⟩;·show w.heap.size<(w.heap.push _).size;simp
  ·show(w.heap.push _)[w.heap.size]?=_;simp
 generalize((w.alloc (Obj.cells #[.pointer (some ⟨br,4,none⟩),.pointer (some ⟨br,5,none⟩),.pointer (some ⟨br,6,none⟩),.pointer (some ⟨br,7,none⟩),.pointer (some ⟨br,8,none⟩),.pointer (some ⟨br,9,none⟩)] 234)).drew)=W0 at hv0 ⊢;go_wp2;go_region;replace hv0:=hv0.drew;generalize W0.drew=W1 at hv0 ⊢;go_wp2;have j0:=X3;have j1:=aax;have j2:=aaq;have j3:=MP;refine wp_loop_rounds 4 ?_;rw[rounds_succ];go_wp2_with(go_at_call 242;refine(fD _ br 1 r.p (recC r) _ _ hv0.hr rfl).mono ?_);rintro e W2 ⟨rfl,hw⟩;replace hv0:=hv0.num hlr hlt hne hw (r':={r with p:=0}) rfl;clear hw;go_wp2;rw[rounds_succ];go_wp2_with(go_at_call 242;refine(fD _ br 2 r.i _ _ _ hv0.hr rfl).mono ?_);rintro e W3 ⟨rfl,hw⟩;replace hv0:=hv0.num hlr hlt hne hw (r':={r with p:=0,i:=0}) rfl;clear hw;go_wp2;rw[rounds_succ];go_wp2_with(go_at_call 242;refine(fD _ br 3 r.s _ _ _ hv0.hr rfl).mono ?_);rintro e W4 ⟨rfl,hw⟩;replace hv0:=hv0.num hlr hlt hne hw (r':={r with p:=0,i:=0,s:=0}) rfl;clear hw;go_wp2;rw[rounds_succ];go_wp2;clear j0 j1 j2;go_loopw[49] (fun vi wr=>∃(i:Nat) (x:Rc×Bool),i≤ps.length∧vi=.int .i64 i∧Vs w wr br bt x.1 x.2∧sH (ps.drop i) x=sH ps ({r with p:=0,i:=0,s:=0},bad)) (fun vi _=>ps.length-iOf vi);case atStart=>exact⟨0,({r with p:=0,i:=0,s:=0},bad),by omega,rfl,hv0,rfl⟩
 case round=>
  obtain⟨i,⟨x,bx⟩,hi,rfl,hv,hvis⟩:=hrel;by_cases hlt':i<ps.length
  ·have hli:(i:Int)<(ps.length:Int):=by omega
   obtain⟨b,o,rfl,hb1,hb2,hb3,hcell⟩:=hA (by omega);have hq:=hps _ (q82 hlt');have hcc:=hcell i hlt';have hcw:wr.cell? ⟨b,o+i,none⟩=some (.int .u8 ps[i]):=by rw[←hcc];unfold World.cell?;rw[hv.block b hb3 hb1 hb2]
   rw[q88 hlt']at hvis;clear hcc hcell hv0 hps;revert hvis hcw hq;generalize ps[i]=q;intro hvis hcw hq;have hq8:q=0∨q=1∨q=2∨q=3∨q=4∨q=5∨q=6∨q=7:=by omega
   have hme:ps.length-iOf (.int .i64 ((i+1:Nat):Int))<ps.length-iOf (.int .i64 (i:Int)):=by show ps.length-(((i+1:Nat):Int)).toNat<ps.length-((i:Int)).toNat;omega
   have k1:=MP;have k2:=Xk;have k3:=m_txt;have k4:=Wl;rcases hq8 with rfl|rfl|rfl|rfl|rfl|rfl|rfl|rfl
   ·have hp:wr.cell? ⟨w.heap.size,0,none⟩=some (.pointer (some ⟨br,4,none⟩)):=by rw[q143 hv.ha];rfl
    go_wp2;go_region_with(go_at_call 242;refine(fD _ br 4 x.e _ _ _ hv.drew.hr rfl).mono ?_;rintro e W2 ⟨rfl,hw⟩);all_goals replace hv:=hv.drew.num hlr hlt hne hw (r':=vJ 0 x) rfl;go_wp2;refine⟨⟨i+1,(_,_),hlt',congrArg (Value.int .i64) (by omega),hv,hvis⟩,hme⟩
   ·have hp:wr.cell? ⟨w.heap.size,1,none⟩=some (.pointer (some ⟨br,5,none⟩)):=by rw[q143 hv.ha];rfl
    go_wp2;go_region_with(go_at_call 242;refine(fD _ br 5 x.u _ _ _ hv.drew.hr rfl).mono ?_;rintro e W2 ⟨rfl,hw⟩);all_goals replace hv:=hv.drew.num hlr hlt hne hw (r':=vJ 1 x) rfl;go_wp2;refine⟨⟨i+1,(_,_),hlt',congrArg (Value.int .i64) (by omega),hv,hvis⟩,hme⟩
   ·have hp:wr.cell? ⟨w.heap.size,2,none⟩=some (.pointer (some ⟨br,6,none⟩)):=by rw[q143 hv.ha];rfl
    go_wp2;go_region_with(go_at_call 242;refine(fD _ br 6 x.v _ _ _ hv.drew.hr rfl).mono ?_;rintro e W2 ⟨rfl,hw⟩);all_goals replace hv:=hv.drew.num hlr hlt hne hw (r':=vJ 2 x) rfl;go_wp2;refine⟨⟨i+1,(_,_),hlt',congrArg (Value.int .i64) (by omega),hv,hvis⟩,hme⟩
   ·have hp:wr.cell? ⟨w.heap.size,3,none⟩=some (.pointer (some ⟨br,7,none⟩)):=by rw[q143 hv.ha];rfl
    go_wp2;go_region_with(go_at_call 242;refine(fD _ br 7 x.c _ _ _ hv.drew.hr rfl).mono ?_;rintro e W2 ⟨rfl,hw⟩);all_goals replace hv:=hv.drew.num hlr hlt hne hw (r':=vJ 3 x) rfl;go_wp2;refine⟨⟨i+1,(_,_),hlt',congrArg (Value.int .i64) (by omega),hv,hvis⟩,hme⟩
   ·have hp:wr.cell? ⟨w.heap.size,4,none⟩=some (.pointer (some ⟨br,8,none⟩)):=by rw[q143 hv.ha];rfl
    go_wp2;go_region_with(go_at_call 242;refine(fD _ br 8 x.z _ _ _ hv.drew.hr rfl).mono ?_;rintro e W2 ⟨rfl,hw⟩);all_goals replace hv:=hv.drew.num hlr hlt hne hw (r':=vJ 4 x) rfl;go_wp2;refine⟨⟨i+1,(_,_),hlt',congrArg (Value.int .i64) (by omega),hv,hvis⟩,hme⟩
   ·have hp:wr.cell? ⟨w.heap.size,5,none⟩=some (.pointer (some ⟨br,9,none⟩)):=by rw[q143 hv.ha];rfl
    go_wp2;go_region_with(go_at_call 242;refine(fD _ br 9 x.m _ _ _ hv.drew.hr rfl).mono ?_;rintro e W2 ⟨rfl,hw⟩);all_goals replace hv:=hv.drew.num hlr hlt hne hw (r':=vJ 5 x) rfl;go_wp2;refine⟨⟨i+1,(_,_),hlt',congrArg (Value.int .i64) (by omega),hv,hvis⟩,hme⟩
   ·go_wp2;go_region_with(go_at_call 243;refine(zt br 10 bt x.n bx _ _ _ _ hne hv.drew.hr rfl hv.drew.ht).mono ?_;rintro e W2 ⟨rfl,W3,hw,hw2⟩);all_goals replace hv:=(hv.drew.tak hlr hlt hne hw).num hlr hlt hne hw2 (r':=vJ 6 x) rfl;go_wp2;refine⟨⟨i+1,(_,_),hlt',congrArg (Value.int .i64) (by omega),hv,hvis⟩,hme⟩
   ·go_wp2;go_region_with(go_at_call 243;refine(zt br 11 bt x.t bx _ _ _ _ hne hv.drew.hr rfl hv.drew.ht).mono ?_;rintro e W2 ⟨rfl,W3,hw,hw2⟩);all_goals replace hv:=(hv.drew.tak hlr hlt hne hw).num hlr hlt hne hw2 (r':=vJ 7 x) rfl;go_wp2;refine⟨⟨i+1,(_,_),hlt',congrArg (Value.int .i64) (by omega),hv,hvis⟩,hme⟩
  ·have hia:i=ps.length:=by omega
   subst hia;rw[q163 (q93 ps.length)]at hvis;go_wp2;refine⟨rfl,_,by kernel_rfl,rfl,?_⟩;rw[←hvis];exact hv
end Go.Proofs.YtlicclncicbajaaGreat.Ab
