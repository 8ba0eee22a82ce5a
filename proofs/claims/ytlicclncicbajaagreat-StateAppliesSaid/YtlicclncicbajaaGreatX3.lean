/- The abstract machine is sound, third part: operations that read. -/
import Derived.Test.YtlicclncicbajaaGreatX2
import Derived.Lib.MinMax
import Derived.Lib.BufferRead
import Derived.Laws.IdiomStrings
import Derived.Lib.Strings
set_option linter.unusedVariables false
set_option linter.unusedSimpArgs false
set_option linter.unnecessarySimpa false
set_option maxHeartbeats 40000000
set_option maxRecDepth 100000
set_option linter.defProp false
namespace Go.Proofs.YtlicclncicbajaaGreat.Ab
open Go Go.RowKit
def q62:=@List.take_succ_eq_append_getElem
def q63:=@Option.bind_eq_some_iff
def q64:=@List.getElem?_eq_getElem
def q69:=@List.getElem?_cons_zero
def q73:=@Bool.and_eq_true
def q77:=@List.getElem?_map
def q79:=@List.length_cons
def q81:=@List.getElem?_take
def q84:=@List.mem_map
def q87:=@List.length_nil
def q89:=@List.getElem?_drop
def q98:=@Option.getD_some
def q101:=@List.getElem?_of_mem
def q106:=@List.flatMap_cons
def q107:=@List.mem_of_mem_take
def q110:=@List.cons.injEq
def q114:=@Array.ext'
def q116:=@Option.map_some
def q117:=@List.map_nil
def q118:=@Nat.succ_mul
def q122:=@List.take_append_of_le_length
def q123:=@List.mem_of_mem_drop
def q127:=@Array.getElem?_eq_getElem
def q129:=@Option.isSome_iff_exists
def q130:=@Option.bind_some
def q133:=@Nat.zero_add
def q135:=@Array.toArray_toList
def q147:=@List.append_nil
def q152:=@List.exists_mem_of_ne_nil
def q153:=@Result.andThen_ok
def q158:=@List.nil_append
def q164:=@List.length_pos_iff
def q169:=@Nat.eq_zero_or_pos
def q171:=@List.getElem?_cons_succ
def q175:=@Nat.mul_one
def q185:=@Sem.run_bind
def q194:=@Bool.eq_iff_iff
def q196:=@List.getElem?_eq_none_iff
def q213:=@Sem.run_pure
def q228:=@Nat.add_sub_cancel_left
def q234:=@List.flatMap_nil
def q270:=@List.extract_eq_take_drop
def q271:=@Array.mapM_eq_mapM_toList
def q276:=@List.flatMap_map
def q291:=@Int.le_refl
def q292:=@Nat.one_mul
def q296:=@List.drop_take
def q297:=@List.mapM_cons
end Go.Proofs.YtlicclncicbajaaGreat.Ab
namespace Go.Proofs.YtlicclncicbajaaGreat.Ab
open Go Go.RowKit
variable {α:Type}{n i sz t lo hi:Nat}{f:FuncId}{φ:Prop}{e src dst:TypeId}{rows:List (List PV)}{p:PV}{us zs:List Value}{cs:List AV}{op:BinOp}{q:Option AO}{ad:Addr}{X Y:AV}{fs:Array Field}{ao:AO}
section
variable{P:Program}{S:Nat→Prop}{w:World}{β:Nat→Value}{D:Nat→Prop}{v:Value}
theorem dt.aN {k:IntKind}{n:Int} (h:dt S w v (.int k n)):v=.int k n:=by cases h;rfl
theorem dt.fb {b:Bool} (h:dt S w v (.bool b)):v=.bool b:=by cases h;rfl
theorem dt.eS {l:List UInt8} (h:dt S w v (.str l)):v=.string ⟨l.toArray⟩:=by cases h;rfl
theorem dt.eB (h:dt S w v .nil):v=.slice none 0 0:=by cases h;rfl
theorem RV.bq (h:RV P S w β D v (.pv p)):dt S w v p:=by cases h;assumption
theorem RV.aN {k:IntKind}{n:Int} (h:RV P S w β D v (.pv (.int k n))):v=.int k n:=h.bq.aN
theorem RV.fb {b:Bool} (h:RV P S w β D v (.pv (.bool b))):v=.bool b:=h.bq.fb
theorem RV.eS {l:List UInt8} (h:RV P S w β D v (.pv (.str l))):v=.string ⟨l.toArray⟩:=h.bq.eS
theorem RV.aX (h:RV P S w β D v (.own t)):v=β t∧D t:=by cases h;exact⟨rfl,by assumption⟩
theorem RV.ew {t o:Nat} (h:RV P S w β D v (.ptr t o)):∃b,v=.pointer (some ⟨b,o,none⟩)∧D t∧β t=.pointer (some ⟨b,0,none⟩):=by cases h with|ptr _ _ b h hb=>exact⟨b,rfl,h,hb⟩
theorem RV.fR {i:Int}{o:Nat} (h:RV P S w β D v (.bd t e i o)):∃b n c inf,v=.pointer (some ⟨b,i.toNat*inf.size+o,none⟩)∧D t∧P.info? e=some inf∧β t=.slice (some ⟨b,0,none⟩) n c:=by cases h with|bd _ _ _ _ b n c inf h hi hb=>exact⟨b,n,c,inf,rfl,h,hi,hb⟩
theorem RV.jn {cs:List PV} (h:RV P S w β D v (.rp cs)):∃(ad:Addr) (us:Nat→Value),v=.pointer (some ad)∧S ad.block∧(∀j,j<cs.length→w.cell? (ad.add j)=some (us j))∧(∀(j:Nat) (p:PV),cs[j]?=some p→(us j).oneCell'=true)∧(∀(j:Nat) (p:PV),cs[j]?=some p→dt S w (us j) p):=by cases h with|rp ad _ us h1 h2 h3 h4=>exact⟨ad,us,rfl,h1,h2,h3,h4⟩
theorem RV.da (h:RV P S w β D v (.agg cs)):∃us:List Value,v=.agg us.toArray∧us.length=cs.length∧(∀(i:Nat) (c:AV) (u:Value),cs[i]?=some c→us[i]?=some u→RV P S w β D u c):=by cases h with|agg _ us hl h=>exact⟨us,rfl,hl,h⟩
theorem RV.jC (h:RV P S w β D v (.aO cs)):∃us:List Value,v=.tuple us.toArray∧us.length=cs.length∧(∀(i:Nat) (c:AV) (u:Value),cs[i]?=some c→us[i]?=some u→RV P S w β D u c):=by cases h with|aO _ us hl h=>exact⟨us,rfl,hl,h⟩
theorem RV.m9  (h:RV P S w β D v (.bE f cs)):∃us:List Value,v=.func (.func f) #[] us.toArray∧us.length=cs.length∧(∀(i:Nat) (c:AV) (u:Value),cs[i]?=some c→us[i]?=some u→RV P S w β D u c):=by cases h with|bE _ _ us hl h=>exact⟨us,rfl,hl,h⟩
theorem dt.gq (h:dt S w v (.ro rows)):∃(A:Option Addr) (c:Nat),v=.slice A rows.length c∧rows.length≤c∧(rows≠[]→∃(ad:Addr) (sz:Nat) (us:Nat→Nat→Value),A=some ad∧S ad.block∧(∀r,r∈rows→r.length=sz)∧(∀i j,i<rows.length→j<sz→w.cell? (ad.add (i*sz+j))=some (us i j))∧(∀(i j:Nat) (r:List PV) (p:PV),rows[i]?=some r→r[j]?=some p→(us i j).oneCell'=true)∧(∀(i j:Nat) (r:List PV) (p:PV),rows[i]?=some r→r[j]?=some p→dt S w (us i j) p)):=by cases h with|xY A c=>exact⟨A,c,rfl,by simp,fun h=>absurd rfl h⟩|ro ad c _ sz us h1 h2 h3 h4 h5 h6=>exact⟨some ad,c,rfl,h2,fun _=>⟨ad,sz,us,rfl,h1,h3,h4,h5,h6⟩⟩
end
theorem iG (S:Nat→Prop) (w:World) (v:Value) (hv:v.oneCell'=true):dt S w v (su v):=by
 unfold su;split;·exact .int _ _
 ·exact .bool _
 ·rename_i s;have:s=⟨s.data.toList.toArray⟩:=by simp
  rw[show dt S w (.string s) (.str s.data.toList)=dt S w (.string ⟨s.data.toList.toArray⟩) (.str s.data.toList) from by rw[←this]];exact .str _
 ·exact .nil
 ·exact .val _ hv
theorem uw (P:Program) (S:Nat→Prop) (w:World) (β:Nat→Value) (D:Nat→Prop) (v:Value):RV P S w β D v (cv v):=by
 unfold cv;split;·rename_i h;exact .pv _ _ (iG S w v h)
 ·exact .aw _
section
variable{P:Program}{S:Nat→Prop}{w:World}{β:Nat→Value}{aa:Nat→Option AO}{a:Act}{vars:Nat→AV}{N:Nat}{x y z:Operand}{o:Oper}
theorem Gf (h:∀s,RV P S w β (aG aa) (a.tmps.getD s undef) (vars s)) (x:Operand):RV P S w β (aG aa) (a.eval x) (ev vars x):=by cases x with|tmp t=>exact h t|const v=>exact uw P S w β (aG aa) v|func f=>exact .bE f [] [] rfl (fun i c u hc=>by simp at hc)|global g=>exact .aw _
theorem Ci {p q r:PV}{u v:Value} (hs:dE op p q=some (φ,r)) (hφ:φ) (hu:dt S w u p) (hv:dt S w v q):∃r',dt S w r' r∧∀(t:TypeId) (x y:Operand) (W:World),(do eqGuard op t x y u v;binOp op t u v:Sem Value).run P W=.ok r' W:=by cases p with
 |int k m=>cases q with|int k' n=>
   have eu:=hu.aN;have ev:=hv.aN;subst eu ev;by_cases hk:k=k'
   ·subst hk;cases op<;>simp only[dE,if_true,qr,q70]at hs<;>obtain⟨rfl,rfl⟩:=hs;·exact⟨_,.int _ _,fun t x y W=>by simp[eqGuard,binOp,Op.intArith]⟩
    ·exact⟨_,.int _ _,fun t x y W=>by simp[eqGuard,binOp,Op.intArith]⟩
    ·exact⟨_,.int _ _,fun t x y W=>by simp[eqGuard,binOp,Op.intArith]⟩
    ·exact⟨_,.int _ _,fun t x y W=>by simp[eqGuard,binOp,Op.intDiv,hφ]⟩
    ·exact⟨_,.int _ _,fun t x y W=>by simp[eqGuard,binOp,Op.intDiv,hφ]⟩
    ·exact⟨_,.int _ _,fun t x y W=>by simp[eqGuard,binOp,Op.intBits]⟩
    ·exact⟨_,.int _ _,fun t x y W=>by simp[eqGuard,binOp,Op.intBits]⟩
    ·exact⟨_,.int _ _,fun t x y W=>by simp[eqGuard,binOp,Op.intBits]⟩
    ·exact⟨_,.int _ _,fun t x y W=>by simp[eqGuard,binOp,Op.shift,show¬n<0 from by omega]⟩
    ·exact⟨_,.int _ _,fun t x y W=>by simp[eqGuard,binOp,Op.shift,show¬n<0 from by omega]⟩
    ·exact⟨_,.int _ _,fun t x y W=>by simp[eqGuard,binOp,Op.intBits]⟩
    ·exact⟨_,.bool _,fun t x y W=>by simp[eqGuard,binOp,Op.intCmp];rfl⟩
    ·exact⟨_,.bool _,fun t x y W=>by simp[eqGuard,binOp,Op.intCmp,bne];rfl⟩
    ·exact⟨_,.bool _,fun t x y W=>by simp[eqGuard,binOp,Op.intCmp]⟩
    ·exact⟨_,.bool _,fun t x y W=>by simp[eqGuard,binOp,Op.intCmp]⟩
    ·exact⟨_,.bool _,fun t x y W=>by simp[eqGuard,binOp,Op.intCmp]⟩
    ·exact⟨_,.bool _,fun t x y W=>by simp[eqGuard,binOp,Op.intCmp]⟩
   ·cases op<;>simp only[dE,if_neg hk,qr,q70,reduceCtorEq]at hs<;>obtain⟨rfl,rfl⟩:=hs;·exact⟨_,.int _ _,fun t x y W=>by simp[eqGuard,binOp,Op.shift,show¬n<0 from by omega]⟩
    ·exact⟨_,.int _ _,fun t x y W=>by simp[eqGuard,binOp,Op.shift,show¬n<0 from by omega]⟩|_=>simp[dE]at hs
 |str l=>cases q with|str m=>
   have eu:=hu.eS;have ev:=hv.eS;subst eu ev;have hl:∀k:List UInt8,(ByteArray.mk k.toArray).toList=k:=ByteArray.toList_mk;have hsz:∀k:List UInt8,(ByteArray.mk k.toArray).size=k.length:=fun k=>by simp[ByteArray.size]
   have he:(l==m)=decide (l=m):=by rw[q194];simp
   cases op<;>simp only[dE,qr,q70,reduceCtorEq]at hs<;>obtain⟨rfl,rfl⟩:=hs
   ·refine⟨_,.str _,fun t x y W=>?_⟩;have h1:¬(9223372036854775807<((l.length:Int)+(m.length:Int))):=by omega
    have h2:(ByteArray.mk l.toArray++ByteArray.mk m.toArray)=ByteArray.mk (l++m).toArray:=by apply ByteArray.ext;simp
    simp[eqGuard,binOp,Op.stringOp,hsz,h1,h2]
   ·exact⟨_,.bool _,fun t x y W=>by simp[eqGuard,binOp,Op.stringOp,he]⟩
   ·exact⟨_,.bool _,fun t x y W=>by simp[eqGuard,binOp,Op.stringOp,he]⟩
   ·exact⟨_,.bool _,fun t x y W=>by simp[eqGuard,binOp,Op.stringOp,hl]⟩
   ·exact⟨_,.bool _,fun t x y W=>by simp[eqGuard,binOp,Op.stringOp,hl,he]⟩
   ·exact⟨_,.bool _,fun t x y W=>by simp[eqGuard,binOp,Op.stringOp,hl,he]⟩
   ·exact⟨_,.bool _,fun t x y W=>by simp[eqGuard,binOp,Op.stringOp,hl]⟩|_=>simp[dE]at hs
 |_=>simp[dE]at hs
theorem L9 {t yt:TypeId} (ho:o.op=.binOp op t x y yt) (hX:RV P S w β (aG aa) (a.eval x) X) (hY:RV P S w β (aG aa) (a.eval y) Y) {v:AV} (h:al (.bin op) [X,Y] aa=some (φ,v)) (hφ:φ):∃r,(execOp a.eval o).run P w=.ok (.value r) w∧RV P S w β (aG aa) r v:=by cases X with
 |pv p=>cases Y with|pv q=>simp only[al,q0]at h;obtain⟨⟨φ',r⟩,hs,he⟩:=h;simp only[q70]at he;obtain⟨rfl,rfl⟩:=he;obtain⟨r',h1,h2⟩:=Ci hs hφ hX.bq hY.bq;refine⟨r',?_,.pv _ _ h1⟩;have:=h2 t x y w;simp only[execOp,ho,q185]at this ⊢;rw[this];rfl|_=>simp[al]at h
 |_=>simp[al]at h
theorem zR {t:TypeId} (ht:P.underlying t=some .bool) (b c:Bool) (W:World):(Op.equal t (.bool b) (.bool c)).run P W=.ok (b==c) W:=by
 have h:∀d:Nat,(Op.equalIn (d+1) t (.bool b) (.bool c)).run P W=.ok (b==c) W:=fun d=>by simp[Op.equalIn,run_underlying ht]
 simp[Op.equal,Op.maxDepth,h 9999]
theorem Mq (l:List UInt8):(ByteArray.mk l.toArray).size=l.length:=by simp[ByteArray.size]
theorem M3 {ne:Bool}{t yt:TypeId} (ho:o.op=.binOp (if ne then .neq else .eql) t x y yt) (ht:P.underlying t=some .bool) (hX:RV P S w β (aG aa) (a.eval x) X) (hY:RV P S w β (aG aa) (a.eval y) Y) {v:AV} (h:al (.beq ne) [X,Y] aa=some (φ,v)) (hφ:φ):∃r,(execOp a.eval o).run P w=.ok (.value r) w∧RV P S w β (aG aa) r v:=by cases X with
 |pv p=>cases Y with
  |pv q=>cases p with
   |bool b=>cases q with|bool c=>simp only[al,qr,q70]at h;obtain⟨rfl,rfl⟩:=h;refine⟨_,?_,.pv _ _ (.bool _)⟩;cases ne<;>simp[execOp,ho,hX.fb,hY.fb,eqGuard,binOp,zR ht,bne]|_=>simp[al]at h
   |_=>cases q<;>simp[al]at h
  |_=>cases p<;>simp[al]at h
 |_=>simp[al]at h
theorem Z6 {t:TypeId} (ho:o.op=.unOp .not t x) (hX:RV P S w β (aG aa) (a.eval x) X) {v:AV} (h:al .not [X] aa=some (φ,v)) (hφ:φ):∃r,(execOp a.eval o).run P w=.ok (.value r) w∧RV P S w β (aG aa) r v:=by cases X with
 |pv p=>cases p with|bool b=>simp only[al,qr,q70]at h;obtain⟨rfl,rfl⟩:=h;exact⟨_,by simp[execOp,ho,hX.fb,Op.unary],.pv _ _ (.bool _)⟩|_=>simp[al]at h
 |_=>simp[al]at h
theorem Y4 {t:TypeId} (ho:o.op=.unOp .neg t x) (hX:RV P S w β (aG aa) (a.eval x) X) {v:AV} (h:al .neg [X] aa=some (φ,v)) (hφ:φ):∃r,(execOp a.eval o).run P w=.ok (.value r) w∧RV P S w β (aG aa) r v:=by cases X with
 |pv p=>cases p with|int k n=>simp only[al,qr,q70]at h;obtain⟨rfl,rfl⟩:=h;exact⟨_,by simp[execOp,ho,hX.aN,Op.unary,Op.intArith],.pv _ _ (.int _ _)⟩|_=>simp[al]at h
 |_=>simp[al]at h
theorem WV {k k0:IntKind} (ho:o.op=.convert src dst x) (hs:P.underlying src=some (.int k0)) (hd:P.underlying dst=some (.int k)) (hX:RV P S w β (aG aa) (a.eval x) X) {v:AV} (h:al (.Cb k) [X] aa=some (φ,v)) (hφ:φ):∃r,(execOp a.eval o).run P w=.ok (.value r) w∧RV P S w β (aG aa) r v:=by cases X with
 |pv p=>cases p with|int k' n=>simp only[al,qr,q70]at h;obtain⟨rfl,rfl⟩:=h;exact⟨_,by simp[execOp,ho,hX.aN,convert,run_underlying hs,run_underlying hd,Conv.intToInt],.pv _ _ (.int _ _)⟩|_=>simp[al]at h
 |_=>simp[al]at h
theorem Ze (ho:o.op=.convert src dst x) (hs:P.underlying src=some .string) (hd:P.underlying dst=some .string) (hX:RV P S w β (aG aa) (a.eval x) X) {v:AV} (h:al .Dq [X] aa=some (φ,v)) (hφ:φ):∃r,(execOp a.eval o).run P w=.ok (.value r) w∧RV P S w β (aG aa) r v:=by cases X with
 |pv p=>cases p with|str l=>simp only[al,qr,q70]at h;obtain⟨rfl,rfl⟩:=h;exact⟨_,by simp[execOp,ho,hX.eS,convert,run_underlying hs,run_underlying hd],.pv _ _ (.str _)⟩|_=>simp[al]at h
 |_=>simp[al]at h
theorem bK {r:TypeId×List (List PV)} (h:cX q=some r):q=some (.arr r.1 r.2):=by
 unfold cX at h;split at h;·injection h with h;subst h;rfl
 ·cases h
theorem fH  (h:eY q=some cs):q=some (.box cs):=by
 unfold eY at h;split at h;·injection h with h;subst h;rfl
 ·cases h
theorem RV.gE {D:Nat→Prop}{v:Value} (h:RV P S w β D v (.sub t e lo hi)):∃inf A A1 n c,D t∧P.info? e=some inf∧β t=.slice A n c∧lo≤hi∧hi≤n∧n≤c∧(lo=0→A1=A)∧(c≠lo→A1=A.map (·.add (lo*inf.size)))∧v=.slice A1 (hi-lo) (c-lo):=by cases h with|sub v t e lo hi inf A A1 n c h hi' hb h1 h2 h3 h4 h5 hv=>exact⟨inf,A,A1,n,c,h,hi',hb,h1,h2,h3,h4,h5,hv⟩
theorem dt.cut {A A1:Option Addr}{c sz lo hi:Nat} (h:dt S w (.slice A rows.length c) (.ro rows)) (h1:lo≤hi) (h2:hi≤rows.length) (hc:rows.length≤c) (hsz:∀r∈rows,r.length=sz) (hA:c≠lo→A1=A.map (·.add (lo*sz))):dt S w (.slice A1 (hi-lo) (c-lo)) (.ro ((rows.take hi).drop lo)):=by
 obtain⟨A',c',hv,_,hne⟩:=h.gq;have hAc:A=A'∧c=c':=by simpa using hv
 obtain⟨rfl,rfl⟩:=hAc;have hcl:((rows.take hi).drop lo).length=hi-lo:=by simp;omega
 by_cases hz:hi-lo=0;·have hnil:(rows.take hi).drop lo=[]:=q72 (hcl.trans hz);rw[hnil,hz];exact .xY _ _
 ·have hrn:rows≠[]:=by rintro rfl;simp at h2;omega
  obtain⟨ad,sz0,us,rfl,g1,g2,g3,g4,g5⟩:=hne hrn;have hsz0:sz0=sz:=by obtain⟨r,hr⟩:=q152 rows hrn;rw[←g2 r hr,hsz r hr]
  subst hsz0;have hget:∀(i:Nat) (r:List PV),((rows.take hi).drop lo)[i]?=some r→rows[lo+i]?=some r:=by
   intro i r hr;simp only[q89,q81]at hr;split at hr;·exact hr
   ·cases hr
  rw[hA (by omega),←hcl];refine .ro (ad.add (lo*sz0)) _ _ sz0 (fun i j=>us (lo+i) j) (by rw[bW];exact g1) (by omega) (fun r hr=>?_) (fun i j hi' hj=>?_) (fun i j r p hr hp=>?_) (fun i j r p hr hp=>?_);·exact g2 r (q107 (q123 hr))
  ·rw[fG,←g3 (lo+i) j (by omega) hj,q150,q221]
  ·exact g4 _ j r p (hget i r hr) hp
  ·exact g5 _ j r p (hget i r hr) hp
theorem Heap.arr (hh:Heap P S w β aa)  (h:aa t=some (.arr e rows)):bz P S w β (aG aa) t (.arr e rows):=hh.holds t _ h
theorem cC {w:World}{b:Nat}{v:Value} (h:w.ownsRow b e sz v n us):∃A c,v=.slice A n c∧n≤c:=by
 rcases h.2 with⟨rfl,rfl⟩|⟨g,cap,cur,rfl,_,_,h,_⟩;·exact⟨none,0,rfl,q93 _⟩
 ·exact⟨_,cap,rfl,h⟩
theorem qI {S':Nat→Prop}{D:Nat→Prop} (h:bz P S w β D t (.arr e rows)) (hS:∀b,S b→S' b) (hb:∀b,cr (β t)=some b→S' b):dt S' w (β t) (.ro rows)∧∃inf A c,P.info? e=some inf∧β t=.slice A rows.length c∧rows.length≤c∧∀r∈rows,r.length=inf.size:=by
 obtain⟨inf,us,hi,hown,hrl,hcs⟩:=h;obtain⟨A,c,hv,hc⟩:=cC hown;refine⟨?_,inf,A,c,hi,hv,hc,hrl⟩;have hm:∀b,S b→S' b∧w.heap[b]?=w.heap[b]?:=fun b hb=>⟨hS b hb,rfl⟩;by_cases hz:rows=[];·subst hz;rw[hv];exact .xY A c
 ·rcases hown.2 with⟨_,hz0⟩|⟨g,cap,cur,hv,_,hheap,hnc,_⟩;·exact absurd (q72 hz0) hz
  ·have hob:(β t).ownBlock=some g:=by rw[hv];rfl
   have hcell:=hown.cells hob;have hg:=hb g (by rw[hv];rfl);rw[hv];have hlook:∀i j,i<rows.length→j<inf.size→∃u,us[i*inf.size+j]?=some u:=fun i j hi hj=>by
    have hr:rows[i]?=some rows[i]:=q64 hi;have hj':j<rows[i].length:=by rw[hrl _ (List.mem_of_getElem? hr)];exact hj
    obtain⟨u,hu,_⟩:=hcs i j _ _ hr (q64 hj');exact⟨u,hu⟩
   refine .ro ⟨g,0,none⟩ cap rows inf.size (fun i j=>us.getD (i*inf.size+j) undef) hg hnc hrl (fun i j hi hj=>?_) (fun i j r p h1 h2=>?_) (fun i j r p h1 h2=>?_);·obtain⟨u,hu⟩:=hlook i j hi hj;rw[hcell _ u hu];simp[q78,hu]
   ·obtain⟨u,hu,h3,_⟩:=hcs i j r p h1 h2;simp only[q78,hu,q98];exact h3
   ·obtain⟨u,hu,_,h3⟩:=hcs i j r p h1 h2;simp only[q78,hu,q98];exact h3.mono hm
theorem Cr {S' S1:Nat→Prop}{D D1:Nat→Prop}{v:Value} (h:bz P S w β D t (.arr e rows)) (hS:∀b,S b→S' b) (hb:∀b,cr (β t)=some b→S' b) (hv:RV P S1 w β D1 v (.sub t e lo hi)):dt S' w v (.ro ((rows.take hi).drop lo)):=by
 obtain⟨hro,inf,A,c,hi',hbt,hc,hrl⟩:=qI h hS hb;obtain⟨inf1,A1,A2,n1,c1,_,hi1,hb1,h1,h2,h3,h4,h5,hv⟩:=hv.gE;rw[hi']at hi1;injection hi1 with hi1;subst hi1;rw[hbt]at hb1 hro;have hx:A=A1∧rows.length=n1∧c=c1:=by simpa using hb1
 obtain⟨rfl,rfl,rfl⟩:=hx;rw[hv];exact hro.cut h1 h2 h3 hrl h5
theorem Oi {t:TypeId} (ho:o.op=.call {callee:=.builtin .len,args:=#[x],argTypes:=#[t]}) (ht:P.underlying t=some .string) (hX:RV P S w β (aG aa) (a.eval x) X) {v:AV} (h:al .vD [X] aa=some (φ,v)) (hφ:φ):∃r,(execOp a.eval o).run P w=.ok (.value r) w∧RV P S w β (aG aa) r v:=by cases X with
 |pv p=>cases p with|str l=>simp only[al,qr,q70]at h;obtain⟨rfl,rfl⟩:=h;exact⟨_,by simp[execOp,ho,resolve,invoke,builtin,Builtin.len_,run_underlying ht,hX.eS,goInt,Mq],.pv _ _ (.int _ _)⟩|_=>simp[al]at h
 |_=>simp[al]at h
theorem wJ (hh:Heap P S w β aa) {t e:Nat} (h:Cg (aa t)=some (e,n)):∃inf us,P.info? e=some inf∧w.ownsRow 0 e inf.size (β t) n us:=by
 unfold Cg at h;split at h;·rename_i e' rows ho;cases h;obtain⟨inf,us,hi,hown,_⟩:=hh.holds t _ ho;exact⟨inf,us,hi,hown⟩
 ·rename_i e' cs ho;cases h;obtain⟨inf,us,hi,_,hown,_⟩:=hh.holds t _ ho;exact⟨inf,us,hi,hown⟩
 ·cases h
theorem q_len {t e:TypeId} (ho:o.op=.call {callee:=.builtin .len,args:=#[x],argTypes:=#[t]}) (ht:P.underlying t=some (.slice e)) (hh:Heap P S w β aa) (hX:RV P S w β (aG aa) (a.eval x) X) {v:AV} (h:al .len [X] aa=some (φ,v)) (hφ:φ):∃r,(execOp a.eval o).run P w=.ok (.value r) w∧RV P S w β (aG aa) r v:=by
 have hsl:∀(A:Option Addr) (n c:Nat),a.eval x=.slice A n c→(execOp a.eval o).run P w=.ok (.value (.int .i64 n)) w:=by intro A n c hv;simp[execOp,ho,resolve,invoke,builtin,Builtin.len_,run_underlying ht,hv,goInt]
 cases X with
 |pv p=>cases p with|nil=>simp only[al,qr,q70]at h;obtain⟨rfl,rfl⟩:=h;exact⟨_,hsl none 0 0 hX.bq.eB,.pv _ _ (.int _ _)⟩|ro rows=>simp only[al,qr,q70]at h;obtain⟨rfl,rfl⟩:=h;obtain⟨A,c,hv,_⟩:=hX.bq.gq;exact⟨_,hsl A rows.length c hv,.pv _ _ (.int _ _)⟩|_=>simp[al]at h
 |own t'=>simp only[al,q0]at h;obtain⟨⟨e',n⟩,hs,he⟩:=h;simp only[q70]at he;obtain⟨rfl,rfl⟩:=he;obtain⟨inf,us,_,hown⟩:=wJ hh hs;obtain⟨A,c,hv,_⟩:=cC hown;exact⟨_,hsl A n c (hX.aX.1.trans hv),.pv _ _ (.int _ _)⟩|sub t' e1 lo hi=>simp only[al,q0]at h;obtain⟨r,hs,he⟩:=h;simp only[q70]at he;obtain⟨rfl,rfl⟩:=he;obtain⟨inf,A,A1,n,c,_,_,hb,h1,h2,h3,h4,h5,hv⟩:=hX.gE;refine⟨_,hsl _ _ _ hv,?_⟩;rw[show((hi:Int)-(lo:Int))=((hi-lo:Nat):Int) from by omega];exact .pv _ _ (.int _ _)|_=>simp[al]at h
theorem L3 {mx:Bool}{t t':TypeId} (ho:o.op=.call {callee:=.builtin (if mx then .max else .min),args:=#[x,y],argTypes:=#[t,t']}) (hX:RV P S w β (aG aa) (a.eval x) X) (hY:RV P S w β (aG aa) (a.eval y) Y) {v:AV} (h:al (.FX mx) [X,Y] aa=some (φ,v)):∃r,(execOp a.eval o).run P w=.ok (.value r) w∧RV P S w β (aG aa) r v:=by cases X with
 |pv p=>cases p with
  |int k n=>cases Y with
   |pv q=>cases q with
    |int k' m=>
     simp only[al]at h;split at h;·rename_i hk;subst hk;simp only[qr,q70]at h;obtain⟨rfl,rfl⟩:=h;cases mx with|false=>exact⟨_,by simp[execOp,ho,resolve,invoke,builtin,hX.aN,hY.aN,Lib.run_min_ints,Result.andThen],.pv _ _ (.int _ _)⟩|true=>exact⟨_,by simp[execOp,ho,resolve,invoke,builtin,hX.aN,hY.aN,Lib.run_max_ints,Result.andThen],.pv _ _ (.int _ _)⟩
     ·cases h|_=>simp[al]at h
   |_=>simp[al]at h
  |_=>simp[al]at h
 |_=>simp[al]at h
theorem CW {r:List PV}{c:UInt8} (h:byteOf r=some c):r=[.int .u8 (c.toNat:Int)]:=by
 unfold byteOf at h;split at h
 ·rename_i n;split at h
  ·rename_i hn;simp only[qr]at h;subst h;have:(UInt8.ofNat n.toNat).toNat=n.toNat:=by simp;omega
   rw[this];have:(n.toNat:Int)=n:=by omega
   rw[this]
  ·cases h
 ·cases h
theorem sa:∀{rows:List (List PV)}{l:List UInt8},bytesOf rows=some l→rows.length=l.length∧∀(i:Nat) (c:UInt8),l[i]?=some c→rows[i]?=some [.int .u8 (c.toNat:Int)]|[],l,h=>by simp only[bytesOf,qr]at h;subst h;exact⟨rfl,fun i c h=>by simp at h⟩|r::rows,l,h=>by simp only[bytesOf,q63,q0]at h;obtain⟨c,hc,m,hm,rfl⟩:=h;obtain⟨h1,h2⟩:=sa hm;refine⟨by simp[h1],fun i d hd=>?_⟩;cases i with|zero=>simp only[q69,qr]at hd ⊢;subst hd;exact CW hc|succ i=>simpa using h2 i d (by simpa using hd)
theorem RW (ho:o.op=.convert src dst x) (hs:P.underlying src=some (.slice e)) (he:P.underlying e=some (.int .u8)) (hd:P.underlying dst=some .string) (hh:Heap P S w β aa) (hX:RV P S w β (aG aa) (a.eval x) X) {v:AV} (h:al .sE [X] aa=some (φ,v)):∃r,(execOp a.eval o).run P w=.ok (.value r) w∧RV P S w β (aG aa) r v:=by
 simp only[al,q63,q0]at h;obtain⟨rows,hr,l,hl,he'⟩:=h;simp only[q70]at he';obtain⟨rfl,rfl⟩:=he';obtain⟨hlen,hget⟩:=sa hl;have hrocase:∀(S':Nat→Prop),dt S' w (a.eval x) (.ro rows)→∃r,(execOp a.eval o).run P w=.ok (.value r) w∧RV P S w β (aG aa) r (.pv (.str l)):=by
  intro S' hX;have hnil:∀(A:Option Addr) (c:Nat),l=[]→a.eval x=.slice A 0 c→∃r,(execOp a.eval o).run P w=.ok (.value r) w∧RV P S w β (aG aa) r (.pv (.str l)):=by rintro A c rfl hv;refine⟨.string ⟨#[]⟩,?_,.pv _ _ (.str [])⟩;cases A with|none=>simp only[execOp,ho,hv];have:=Lib.run_convert_nil_bytes (P:=P) w src dst e c hs he hd;simp[this]|some ad=>have:=run_convert_bytes_back (P:=P) w src dst e ad c [] hs he hd (fun j hj=>by simp at hj);simp only[q87]at this;simp[execOp,ho,hv,this]
  obtain⟨A,c,hv,hc,hne⟩:=hX.gq;by_cases hrn:rows=[];·subst hrn;have:l=[]:=q72 (by simpa using hlen.symm);exact hnil A c this (by simpa using hv)
  ·obtain⟨ad,sz,us,rfl,g1,g2,g3,g4,g5⟩:=hne hrn;have hsz:sz=1:=by
    have h0:0<l.length:=by rw[←hlen];exact q164.2 hrn
    have:=hget 0 l[0] (by simp[h0]);rw[←g2 _ (List.mem_of_getElem? this)];rfl
   subst hsz;refine⟨.string ⟨l.toArray⟩,?_,.pv _ _ (.str l)⟩;have:=run_convert_bytes_back (P:=P) w src dst e ad c l hs he hd (fun j hj=>?_);·rw[hlen]at hv;simp[execOp,ho,hv,this]
   ·have hg:=hget j l[j] (by simp[hj]);have h3:=g3 j 0 (by rw[hlen];exact hj) (by omega);rw[q175,q155]at h3;rw[h3];have h5:=(g5 j 0 _ (.int .u8 (l[j].toNat:Int)) hg rfl).aN;rw[h5]
 have hnil:∀(A:Option Addr) (c:Nat),l=[]→a.eval x=.slice A 0 c→∃r,(execOp a.eval o).run P w=.ok (.value r) w∧RV P S w β (aG aa) r (.pv (.str l)):=by rintro A c rfl hv;refine⟨.string ⟨#[]⟩,?_,.pv _ _ (.str [])⟩;cases A with|none=>simp only[execOp,ho,hv];have:=Lib.run_convert_nil_bytes (P:=P) w src dst e c hs he hd;simp[this]|some ad=>have:=run_convert_bytes_back (P:=P) w src dst e ad c [] hs he hd (fun j hj=>by simp at hj);simp only[q87]at this;simp[execOp,ho,hv,this]
 cases X with
 |pv p=>cases p with|nil=>simp only[fx,qr]at hr;subst hr;have:l=[]:=q72 (by simpa using hlen.symm);exact hnil none 0 this hX.bq.eB|ro rows'=>
   simp only[fx,qr]at hr;subst hr;obtain⟨A,c,hv,hc,hne⟩:=hX.bq.gq;by_cases hrn:rows'=[];·subst hrn;have:l=[]:=q72 (by simpa using hlen.symm);exact hnil A c this (by simpa using hv)
   ·obtain⟨ad,sz,us,rfl,g1,g2,g3,g4,g5⟩:=hne hrn;have hsz:sz=1:=by
     have h0:0<l.length:=by rw[←hlen];exact q164.2 hrn
     have:=hget 0 l[0] (by simp[h0]);rw[←g2 _ (List.mem_of_getElem? this)];rfl
    subst hsz;refine⟨.string ⟨l.toArray⟩,?_,.pv _ _ (.str l)⟩;have:=run_convert_bytes_back (P:=P) w src dst e ad c l hs he hd (fun j hj=>?_);·rw[hlen]at hv;simp[execOp,ho,hv,this]
    ·have hg:=hget j l[j] (by simp[hj]);have h3:=g3 j 0 (by rw[hlen];exact hj) (by omega);rw[q175,q155]at h3;rw[h3];have h5:=(g5 j 0 _ (.int .u8 (l[j].toNat:Int)) hg rfl).aN;rw[h5]|_=>simp[fx]at hr
 |own t'=>
  simp only[fx,q0]at hr;obtain⟨⟨e',rows'⟩,hs',rfl⟩:=hr;obtain⟨inf,us,hi,hown,hrl,hcs⟩:=hh.arr (bK hs');have hv0:=hX.aX.1;rcases hown.2 with⟨hv,h0⟩|⟨g,cap,cur,hv,hrest⟩;·have:l=[]:=q72 (by rw[←hlen];exact h0);exact hnil none 0 this (hv0.trans hv)
  ·by_cases hl0:l=[];·rw[hl0]at hlen;refine hnil (some ⟨g,0,none⟩) cap hl0 (hv0.trans ?_);rw[hv];simp only[q87]at hlen;rw[hlen]
   ·have hinf:inf.size=1:=by have h0:0<l.length:=q164.2 hl0;have:=hget 0 l[0] (by simp[h0]);rw[←hrl _ (List.mem_of_getElem? this)];rfl
    refine⟨.string ⟨l.toArray⟩,?_,.pv _ _ (.str l)⟩;have:=run_convert_bytes_back (P:=P) w src dst e ⟨g,0,none⟩ cap l hs he hd (fun j hj=>?_);·have hv1:=hv0.trans hv;dsimp only at hlen;rw[hlen]at hv1;simp[execOp,ho,hv1,this]
    ·have hg:=hget j l[j] (by simp[hj]);obtain⟨u,hu,_,hru⟩:=hcs j 0 _ (.int .u8 (l[j].toNat:Int)) hg rfl;rw[hru.aN,hinf,q175,q155]at hu;obtain⟨_,hhp,_,_,_,htk⟩:=hrest;exact Lib.cells_of_row hhp _ j _ (by rw[htk];exact hu)|sub t' e1 lo hi=>
  simp only[fx,q63]at hr;obtain⟨r,hs',hr⟩:=hr;split at hr;·rename_i he1;simp only[qr]at hr;subst hr he1;exact hrocase (fun _=>True) (Cr (hh.arr (bK hs')) (fun _ _=>trivial) (fun _ _=>trivial) hX)
  ·cases hr|_=>simp[fx]at hr
theorem Qn {t:TypeId} (ho:o.op=.index t x y) (ht:P.underlying t=some .string) (hX:RV P S w β (aG aa) (a.eval x) X) (hY:RV P S w β (aG aa) (a.eval y) Y) {v:AV} (h:al .vH [X,Y] aa=some (φ,v)) (hφ:φ):∃r,(execOp a.eval o).run P w=.ok (.value r) w∧RV P S w β (aG aa) r v:=by cases X with
 |pv p=>cases Y with
  |pv q=>cases p with
   |str l=>cases q with|int k i=>
     simp only[al,qr,q70]at h;obtain⟨rfl,rfl⟩:=h;obtain⟨h0,h1⟩:=hφ;refine⟨_,?_,.pv _ _ (.int _ _)⟩;have hlt:i.toNat<l.length:=by omega
     have hg:(ByteArray.mk l.toArray)[i.toNat]?=some (l.getD i.toNat 0):=by rw[getElem?_pos (ByteArray.mk l.toArray) i.toNat (by rw[Mq];exact hlt)];simp[q78,hlt];rfl
     simp[execOp,ho,Instr.index,asIntOf,run_underlying ht,hX.eS,hY.aN,h0,hg]|_=>simp[al]at h
   |_=>cases q<;>simp[al]at h
  |_=>cases p<;>simp[al]at h
 |_=>simp[al]at h
end
section
variable{P:Program}{S0 L:Nat→Prop}{B0:Nat→Value}{w0 w:World}{N:Nat}{st:St}{a:Act}{β:Nat→Value}
theorem c7 {t s:Nat}{aa:Nat→Option AO}:aG (gb t aa) s↔s≠t∧aG aa s:=by
 unfold aG gb;by_cases h:s=t;·simp[h]
 ·simp only[h,if_false,ne_eq,not_false_eq_true,true_and];constructor;·rintro⟨o,ho⟩;obtain⟨o',ho',_⟩:=q0.1 ho;exact⟨o',ho'⟩
  ·rintro⟨o,ho⟩;exact⟨dY t o,by rw[ho];rfl⟩
theorem mh (t:Nat) (e:TypeId) (rows:List (List PV)):∀cs:List AV,(sD t e rows cs).length=cs.length|[]=>rfl|c::cs=>by simp only[sD,q79,mh t e rows cs]
theorem uT (t:Nat) (e:TypeId) (rows:List (List PV)):∀(cs:List AV) (i:Nat),(sD t e rows cs)[i]?=cs[i]?.map (T4 t e rows)|[],_=>rfl|c::cs,0=>rfl|c::cs,i+1=>by simp only[sD,q171,uT t e rows cs i]
theorem Rel.GF (hL:∀b,L b→S0 b) (h:Rel P S0 L B0 w0 N st a w β)  (ht:st.aa t=some (.arr e rows)) {vars':Nat→AV}{objs':Nat→Option AO} (hvars:∀s,vars' s=sh t e rows (st.vars s)∨vars' s=F1 t e rows (st.vars s)) (hdom:∀s,aG objs' s↔s≠t∧aG st.aa s) (hob:∀s o,objs' s=some o→∃o',st.aa s=some o'∧(o=dY t o'∨o=I8 t e rows o')):Rel P S0 L B0 w0 N ⟨vars',objs'⟩ a w β:=by
 have hdt:aG st.aa t:=⟨_,ht⟩;obtain⟨inf,us,hi,hown,hrl,hcs⟩:=h.heap.holds t _ ht;have hbt:=(gC hown).1;have hp:=(gC hown).2;have hlive:∀b,live β (objs') b→live β st.aa b:=by rintro b ⟨s,o,hs,hb⟩;obtain⟨o',ho'⟩:=((hdom _).1 ⟨o,hs⟩).2;exact⟨s,o',ho',hb⟩
 have hm:∀b,aZ S0 w0.heap.size β st.aa w b→aZ S0 w0.heap.size β (objs') w b∧w.heap[b]?=w.heap[b]?:=fun b ⟨h1,h2,h3⟩=>⟨⟨h1,h2,fun hl=>h3 (hlive b hl)⟩,rfl⟩;have hbk:∀b,cr (β t)=some b→aZ S0 w0.heap.size β (objs') w b:=by intro b hb;refine⟨(h.old t b hdt hb).elim .inr fun hx=>.inl (hL b hx),h.lt hdt hb,?_⟩;rintro⟨s,o,hs,hbs⟩;obtain⟨h1,h2⟩:=(hdom _).1 ⟨o,hs⟩;exact h1 (h.heap.inj s t b h2 hdt hbs hb)
 have hD:∀s,aG st.aa s→s≠t→aG (objs') s∧β s=β s:=fun s hs hne=>⟨(hdom _).2 ⟨hne,hs⟩,rfl⟩;have hro:dt (aZ S0 w0.heap.size β (objs') w) w (β t) (.ro rows):=by
  by_cases hz:rows=[]
  ·subst hz;rcases hown.2 with⟨hv,_⟩|⟨g,cap,cur,hv,_⟩;·rw[hv];exact .xY none 0
   ·rw[hv];exact .xY _ _
  ·rcases hown.2 with⟨_,hz0⟩|⟨g,cap,cur,hv,_,hheap,hnc,_⟩;·exact absurd (q72 hz0) hz
   ·have hob:(β t).ownBlock=some g:=by rw[hv];rfl
    have hcell:=hown.cells hob;have hg:=hbk g (by rw[hbt];exact hob);rw[hv];have hlook:∀i j,i<rows.length→j<inf.size→∃u,us[i*inf.size+j]?=some u:=fun i j hi hj=>by
     have hr:rows[i]?=some rows[i]:=q64 hi;have hj':j<rows[i].length:=by rw[hrl _ (List.mem_of_getElem? hr)];exact hj
     obtain⟨u,hu,_⟩:=hcs i j _ _ hr (q64 hj');exact⟨u,hu⟩
    refine .ro ⟨g,0,none⟩ cap rows inf.size (fun i j=>us.getD (i*inf.size+j) undef) hg hnc hrl (fun i j hi hj=>?_) (fun i j r p h1 h2=>?_) (fun i j r p h1 h2=>?_);·obtain⟨u,hu⟩:=hlook i j hi hj;rw[hcell _ u hu];simp[q78,hu]
    ·obtain⟨u,hu,h3,_⟩:=hcs i j r p h1 h2;simp only[q78,hu,q98];exact h3
    ·obtain⟨u,hu,_,h3⟩:=hcs i j r p h1 h2;simp only[q78,hu,q98];exact h3.mono hm
 have hcell:∀(v:Value) (x:AV),RV P (aZ S0 w0.heap.size β st.aa w) w β (aG st.aa) v x→RV P (aZ S0 w0.heap.size β objs' w) w β (aG objs') v (T4 t e rows x)∧((∀cs,x≠.agg cs)→RV P (aZ S0 w0.heap.size β objs' w) w β (aG objs') v (sh t e rows x)):=by intro v x hv;cases x with
  |own u=>
   have:RV P (aZ S0 w0.heap.size β objs' w) w β (aG objs') v (sh t e rows (.own u)):=by
    simp only[sh];split;·rename_i e';subst e';rw[hv.aX.1];exact .pv _ _ hro
    ·rename_i hne;rw[hv.aX.1];exact .own u (hD u hv.aX.2 hne).1
   exact⟨this,fun _=>this⟩|sub u e1 lo hi=>
   have:RV P (aZ S0 w0.heap.size β objs' w) w β (aG objs') v (sh t e rows (.sub u e1 lo hi)):=by
    simp only[sh];obtain⟨inf1,A,A1,n,c,hdu,hi1,hb,h1,h2,h3,h4,h5,hv1⟩:=hv.gE;split
    ·rename_i e';subst e';split
     ·rename_i e2;subst e2;rw[hv1];rw[hi]at hi1;injection hi1 with hi1;subst hi1;obtain⟨A',c',hv',hc'⟩:=cC hown;rw[hb]at hv';have hx:A=A'∧n=rows.length∧c=c':=by simpa using hv'
      obtain⟨rfl,rfl,rfl⟩:=hx;rw[hb]at hro;exact .pv _ _ (hro.cut h1 h2 h3 hrl h5)
     ·exact .aw _
    ·rename_i hne;exact .sub _ u e1 lo hi inf1 A A1 n c (hD u hdu hne).1 hi1 hb h1 h2 h3 h4 h5 hv1
   exact⟨this,fun _=>this⟩|_=>exact⟨hv.cj hp hm hD,fun _=>hv.kill hp hm hD⟩
 have hcs2:∀(v:Value) (x:AV),RV P (aZ S0 w0.heap.size β st.aa w) w β (aG st.aa) v x→RV P (aZ S0 w0.heap.size β objs' w) w β (aG objs') v (F1 t e rows x):=by intro v x hv;cases x with
  |agg cs=>cases hv with|agg _ us hl h=>refine .agg _ us (by rw[mh];exact hl) fun i c u hc hu=>?_;rw[uT]at hc;obtain⟨c',hc',rfl⟩:=q0.1 hc;exact(hcell u c' (h i c' u hc' hu)).1
  |_=>exact(hcell v _ hv).2 (fun _ e=>by cases e)
 refine⟨h.size,h.defers,fun s=>?_,⟨fun s o hs=>?_,fun s s' b hs hs' hbs hbs'=>?_⟩,fun s b hs hbs=>?_,h.qb,fun s h9 hs=>h.vw s h9 ((hdom _).1 hs).2,h.bZ⟩
 ·have hv:=h.vars s;show RV P _ w β _ _ (vars' s);rcases hvars s with hx|hx
  ·rw[hx];by_cases hag:∃cs,st.vars s=.agg cs;·obtain⟨cs,hag⟩:=hag;rw[hag]at hv ⊢;exact hv.kill hp hm hD
   ·exact(hcell _ _ hv).2 fun cs e=>hag ⟨cs,e⟩
  ·rw[hx];exact hcs2 _ _ hv
 ·obtain⟨o',ho',hx⟩:=hob s o hs;rcases hx with rfl|rfl;·exact(h.heap.holds s o' ho').kill hp hm hD rfl (fun b hb=>rfl)
  ·cases o' with|box cs=>obtain⟨b,us,ty,hpt,hh,hl,hc⟩:=h.heap.holds s _ ho';refine⟨b,us,ty,hpt,hh,by rw[mh];exact hl,fun i c u h1 h2=>?_⟩;rw[uT]at h1;obtain⟨c',hc',rfl⟩:=q0.1 h1;exact⟨(hc i c' u hc' h2).1,(hcell u c' (hc i c' u hc' h2).2).1⟩|_=>exact(h.heap.holds s _ ho').kill hp hm hD rfl (fun b hb=>rfl)
 ·exact h.heap.inj s s' b ((hdom _).1 hs).2 ((hdom _).1 hs').2 hbs hbs'
 ·exact h.old s b ((hdom _).1 hs).2 hbs
theorem Rel.share (hL:∀b,L b→S0 b) (h:Rel P S0 L B0 w0 N st a w β)  (ht:st.aa t=some (.arr e rows)):Rel P S0 L B0 w0 N ⟨I6 t e rows st.vars,gb t st.aa⟩ a w β:=by
 refine h.GF hL ht (fun s=>.inl rfl) (fun s=>c7) fun s o hs=>?_;by_cases e':s=t;·simp[gb,e']at hs
 ·have hs':(st.aa s).map (dY t)=some o:=by simpa[gb,e']using hs
  obtain⟨o',ho',rfl⟩:=q0.1 hs';exact⟨o',ho',.inl rfl⟩
theorem Rel.OV (hL:∀b,L b→S0 b) (h:Rel P S0 L B0 w0 N st a w β)  (ht:st.aa t=some (.arr e rows)):Rel P S0 L B0 w0 N ⟨shW t e rows st.vars,Cj t e rows st.aa⟩ a w β:=by
 refine h.GF hL ht (fun s=>.inr rfl) (fun s=>?_) fun s o hs=>?_
 ·unfold aG Cj;by_cases h:s=t;·simp[h]
  ·simp only[h,if_false,ne_eq,not_false_eq_true,true_and];constructor;·rintro⟨o,ho⟩;obtain⟨o',ho',_⟩:=q0.1 ho;exact⟨o',ho'⟩
   ·rintro⟨o,ho⟩;exact⟨I8 t e rows o,by rw[ho];rfl⟩
 ·by_cases e':s=t;·simp[Cj,e']at hs
  ·have hs':(st.aa s).map (I8 t e rows)=some o:=by simpa[Cj,e']using hs
   obtain⟨o',ho',rfl⟩:=q0.1 hs';exact⟨o',ho',.inr rfl⟩
theorem Rel.drop (hL:∀b,L b→S0 b) (h:Rel P S0 L B0 w0 N st a w β) (t:Nat):Rel P S0 L B0 w0 N (uW t st) a w β:=by
 unfold uW;split
 ·rename_i r hr;obtain⟨e,rows⟩:=r;have ht:st.aa t=some (.arr e rows):=by
   unfold cX at hr;split at hr;·rename_i h1;cases hr;exact h1
   ·cases hr
  refine(h.share hL ht).cw fun s=>?_;show cE t st.vars s=I6 t e rows st.vars s∨_;unfold cE I6;cases hv:st.vars s with
  |own u=>
   simp only[sh,kill,cj];split;·exact .inr rfl
   ·exact .inl rfl|sub u e1 lo hi=>
   simp only[sh,kill,cj];split;·exact .inr rfl
   ·exact .inl rfl|_=>exact .inl rfl
 ·exact h
theorem Rel.iQ (hL:∀b,L b→S0 b) (h:Rel P S0 L B0 w0 N st a w β) (v:AV):Rel P S0 L B0 w0 N (iQ st v) a w β:=by cases v with
 |own t=>
  simp only[Ab.iQ];split
  ·rename_i r hr;obtain⟨e,rows⟩:=r;have:st.aa t=some (.arr e rows):=by
    unfold cX at hr;split at hr;·rename_i h1;cases hr;exact h1
    ·cases hr
   exact h.OV hL this
  ·exact h|_=>exact h
theorem Rel.gB (hL:∀b,L b→S0 b):∀(l:List AV) {st:St},Rel P S0 L B0 w0 N st a w β→Rel P S0 L B0 w0 N (gB st l) a w β|[],_,h=>h|v::l,_,h=>Rel.gB hL l (h.iQ hL v)
theorem Rel.share1 (hL:∀b,L b→S0 b) (h:Rel P S0 L B0 w0 N st a w β) (v:AV):Rel P S0 L B0 w0 N (share1 st v) a w β:=by have h1:=h.iQ hL v;cases v with|agg cs=>exact h.gB hL cs|_=>exact h1
theorem Rel.cK (hL:∀b,L b→S0 b):∀(l:List AV) {st:St},Rel P S0 L B0 w0 N st a w β→Rel P S0 L B0 w0 N (cK st l) a w β|[],_,h=>h|v::l,_,h=>Rel.cK hL l (h.share1 hL v)
theorem ld:∀cs:List AV,(mM cs).length=cs.length|[]=>rfl|c::cs=>by simp only[mM,q79,ld cs]
theorem qS:∀(cs:List AV) (i:Nat),(mM cs)[i]?=cs[i]?.map sF|[],_=>rfl|c::cs,0=>rfl|c::cs,i+1=>by simp only[mM,q171,qS cs i]
theorem RV.sF {S:Nat→Prop}{D:Nat→Prop}{v:Value}{x:AV} (h:RV P S w β D v x):RV P S w β D v (sF x):=by cases h with
 |pv _ p h=>cases h with|nil=>exact .pv _ _ (.xY none 0)|int k n=>exact .pv _ _ (.int k n)|bool b=>exact .pv _ _ (.bool b)|str l=>exact .pv _ _ (.str l)|val v hv=>exact .pv _ _ (.val v hv)|mp b us c ks h1 h2 h3 h4=>exact .pv _ _ (.mp b us c ks h1 h2 h3 h4)|mv b us c es h1 h2 h3 h4 h5 h6=>exact .pv _ _ (.mv b us c es h1 h2 h3 h4 h5 h6)|pt ad cs us h1 h2 h3 h4=>exact .pv _ _ (.pt ad cs us h1 h2 h3 h4)|xY A c=>exact .pv _ _ (.xY A c)|ro ad c rows sz us h1 h2 h3 h4 h5 h6=>exact .pv _ _ (.ro ad c rows sz us h1 h2 h3 h4 h5 h6)
 |own t h=>exact .own t h|ptr t o b h hb=>exact .ptr t o b h hb|bd t e i o b n c inf h hi hb=>exact .bd t e i o b n c inf h hi hb|sub v t e lo hi inf A A1 n c h hi' hb h1 h2 h3 h4 h5 hv=>exact .sub v t e lo hi inf A A1 n c h hi' hb h1 h2 h3 h4 h5 hv|rp ad cs us h1 h2 h3 h4=>exact .rp ad cs us h1 h2 h3 h4|agg cs us hl h=>exact .agg cs us hl h|aO cs us hl h=>exact .aO cs us hl h|bE f cs us hl h=>exact .bE f cs us hl h|cp g v av h hu=>exact .cp g v av h hu|aw v=>exact .aw v
theorem RV.xR {S:Nat→Prop}{D:Nat→Prop}{v:Value}{x:AV} (h:RV P S w β D v x):RV P S w β D v (xR x):=by
 by_cases hag:∃cs,x=.agg cs;·obtain⟨cs,rfl⟩:=hag;cases h with|agg _ us hl h=>refine .agg _ us (by rw[ld];exact hl) fun i c u hc hu=>?_;rw[qS]at hc;obtain⟨c',hc',rfl⟩:=q0.1 hc;exact(h i c' u hc' hu).sF
 ·have:Ab.xR x=Ab.sF x:=by cases x<;>first|rfl|exact absurd ⟨_,rfl⟩ hag
  rw[this];exact h.sF
theorem Rel.vg (h:Rel P S0 L B0 w0 N st a w β):Rel P S0 L B0 w0 N (vg st) a w β:=by
 have hdom:∀s,aG (fun s=>(st.aa s).map td) s↔aG st.aa s:=by
  intro s;unfold aG;constructor;·rintro⟨o,ho⟩;obtain⟨o',ho',_⟩:=q0.1 ho;exact⟨o',ho'⟩
  ·rintro⟨o,ho⟩;exact⟨td o,by show(st.aa s).map td=_;rw[ho];rfl⟩
 have hlive:∀b,live β (fun s=>(st.aa s).map td) b→live β st.aa b:=by rintro b ⟨s,o,hs,hb⟩;obtain⟨o',ho'⟩:=(hdom _).1 ⟨o,hs⟩;exact⟨s,o',ho',hb⟩
 have hm:∀b,aZ S0 w0.heap.size β st.aa w b→aZ S0 w0.heap.size β (fun s=>(st.aa s).map td) w b∧w.heap[b]?=w.heap[b]?:=fun b ⟨h1,h2,h3⟩=>⟨⟨h1,h2,fun hl=>h3 (hlive b hl)⟩,rfl⟩;have hD:∀s,aG st.aa s→aG (fun s=>(st.aa s).map td) s∧β s=β s:=fun s hs=>⟨(hdom _).2 hs,rfl⟩;refine⟨h.size,h.defers,fun s=>((h.vars s).mono hm hD).xR,⟨fun s o hs=>?_,fun s s' b hs hs' hbs hbs'=>?_⟩,fun s b hs hbs=>?_,h.qb,fun s h9 hs=>h.vw s h9 ((hdom _).1 hs),h.bZ⟩;·obtain⟨o',ho',rfl⟩:=q0.1 hs;have h1:=(h.heap.holds s o' ho').mono hm hD rfl (fun b hb=>rfl);cases o' with|box cs=>obtain⟨b,us,ty,hpt,hh,hl,hc⟩:=h1;refine⟨b,us,ty,hpt,hh,by rw[ld];exact hl,fun i c u h1 h2=>?_⟩;rw[qS]at h1;obtain⟨c',hc',rfl⟩:=q0.1 h1;exact⟨(hc i c' u hc' h2).1,(hc i c' u hc' h2).2.sF⟩|_=>exact h1
 ·exact h.heap.inj s s' b ((hdom _).1 hs) ((hdom _).1 hs') hbs hbs'
 ·exact h.old s b ((hdom _).1 hs) hbs
theorem Rel.AU (hL:∀b,L b→S0 b) (h:Rel P S0 L B0 w0 N st a w β) (t:Nat):Rel P S0 L B0 w0 N (AU t st) a w β:=by
 unfold Ab.AU;split;rotate_left;·exact h
 rename_i es hr;have ht:st.aa t=some (.iB es):=by
  unfold sC at hr;split at hr;·rename_i h1;cases hr;exact h1
  ·cases hr
 have hdt:aG st.aa t:=⟨_,ht⟩;obtain⟨b,us,c,hb,hh,hst,hl,hc⟩:=h.heap.holds t _ ht;have hp:∀b',β t≠.pointer (some ⟨b',0,none⟩):=fun b' e=>by rw[hb]at e;cases e
 have hlive:∀b,live β (gb t st.aa) b→live β st.aa b:=by rintro b ⟨s,o,hs,hb⟩;obtain⟨o',ho'⟩:=(c7.1 ⟨o,hs⟩).2;exact⟨s,o',ho',hb⟩
 have hm:∀b,aZ S0 w0.heap.size β st.aa w b→aZ S0 w0.heap.size β (gb t st.aa) w b∧w.heap[b]?=w.heap[b]?:=fun b ⟨h1,h2,h3⟩=>⟨⟨h1,h2,fun hl=>h3 (hlive b hl)⟩,rfl⟩;have hbb:cr (β t)=some b:=by rw[hb];rfl
 have hbk:aZ S0 w0.heap.size β (gb t st.aa) w b:=by refine⟨(h.old t b hdt hbb).elim .inr fun hx=>.inl (hL b hx),h.lt hdt hbb,?_⟩;rintro⟨s,o,hs,hbs⟩;obtain⟨h1,h2⟩:=c7.1 ⟨o,hs⟩;exact h1 (h.heap.inj s t b h2 hdt hbs hbb)
 have hD:∀s,aG st.aa s→s≠t→aG (gb t st.aa) s∧β s=β s:=fun s hs hne=>⟨c7.2 ⟨hne,hs⟩,rfl⟩;have hmv:dt (aZ S0 w0.heap.size β (gb t st.aa) w) w (β t) (.mv es):=by rw[hb];exact .mv b us c es hbk hh hst hl (fun i e u h1 h2=>⟨(hc i e u h1 h2).1,(hc i e u h1 h2).2.1,(hc i e u h1 h2).2.2.1⟩) fun i e u h1 h2=>(hc i e u h1 h2).2.2.2.mono hm
 refine⟨h.size,h.defers,fun s=>?_,⟨fun s o hs=>?_,fun s s' b hs hs' hbs hbs'=>?_⟩,fun s b hs hbs=>?_,h.qb,fun s h9 hs=>h.vw s h9 (c7.1 hs).2,h.bZ⟩;·have hv:=h.vars s;show RV P _ w β _ _ (ZS t es (st.vars s));cases hx:st.vars s with
  |own u=>
   rw[hx]at hv;simp only[ZS];split;·rename_i e;subst e;rw[hv.aX.1];exact .pv _ _ hmv
   ·rename_i hne;rw[hv.aX.1];exact .own u (hD u hv.aX.2 hne).1|_=>rw[hx]at hv;exact hv.kill hp hm hD
 ·by_cases e':s=t;·simp[gb,e']at hs
  ·have hs':(st.aa s).map (dY t)=some o:=by simpa[gb,e']using hs
   obtain⟨o',ho',rfl⟩:=q0.1 hs';exact(h.heap.holds s o' ho').kill hp hm hD rfl (fun b hb=>rfl)
 ·exact h.heap.inj s s' b (c7.1 hs).2 (c7.1 hs').2 hbs hbs'
 ·exact h.old s b (c7.1 hs).2 hbs
theorem Rel.cF (hL:∀b,L b→S0 b):∀(l:List Nat) {st:St},Rel P S0 L B0 w0 N st a w β→Rel P S0 L B0 w0 N (cF l st) a w β
 |[],_,h=>h|t::l,st,h=>by
  refine Rel.cF hL l ?_;unfold zf;split;·exact h.vg
  ·split;·exact h.AU hL _
   ·exact h.share1 hL _
end
section
variable{P:Program}{S:Nat→Prop}{w:World}{β:Nat→Value}{aa:Nat→Option AO}{a:Act}{vars:Nat→AV}{N:Nat}{x y z:Operand}{o:Oper}
theorem qJ {t:TypeId}{i:TypeInfo} (h:P.info? t=some i) (w:World):(sizeOf t).run P w=.ok i.size w:=by simp[sizeOf,typeInfo,h]
theorem gv {t:TypeId} (h:cz P t=some n):∃i,P.info? t=some i∧i.size=n:=by unfold cz at h;obtain⟨i,hi,he⟩:=q0.1 h;exact⟨i,hi,he⟩
theorem eA {t:TypeId} (h:cz P t=some n) (w:World):(sizeOf t).run P w=.ok n w:=by obtain⟨i,hi,rfl⟩:=gv h;exact qJ hi w
theorem wL {t:TypeId} (h:nj P t=some none) (w:World):(isAgg t).run P w=.ok false w:=by unfold nj at h;cases hu:P.underlying t with|none=>rw[hu]at h;cases h|some d=>rw[hu]at h;cases d<;>simp[isAgg,run_underlying hu]<;>simp at h
theorem kj {t:TypeId} (h:nj P t=some (some n)) (w:World):(isAgg t).run P w=.ok true w∧(sizeOf t).run P w=.ok n w:=by unfold nj at h;cases hu:P.underlying t with|none=>rw[hu]at h;cases h|some d=>
 rw[hu]at h;cases d<;>simp at h;·obtain⟨i,hi,rfl⟩:=h;exact⟨by simp[isAgg,run_underlying hu],qJ hi w⟩
 ·obtain⟨i,hi,rfl⟩:=h;exact⟨by simp[isAgg,run_underlying hu],qJ hi w⟩
theorem xV {t:TypeId} (h:nj P t=some none) {v:Value}{w:World} (hc:w.cell? ad=some v):(loadVar t ad).run P w=.ok v w:=by simp[loadVar,wL h,hc]
theorem yN {t:TypeId} (h:nj P t=some (some n)) {w:World} (hl:us.length=n) (hc:∀(j:Nat) (v:Value),us[j]?=some v→w.cell? (ad.add j)=some v):(loadVar t ad).run P w=.ok (.agg us.toArray) w:=by subst hl;simp[loadVar,(kj h w).1,(kj h w).2,run_loadCells_list (P:=P) w ad us hc]
theorem uB (sl:Bool) (n cap:Nat) {lo hi:Option Value}{A B:Int} (hlo:(lo=none∧A=0)∨∃k,lo=some (.int k A)) (hhi:(hi=none∧B=n)∨∃k,hi=some (.int k B)) (h0:0≤A) (h1:A≤B) (h2:B≤n) (hc:n≤cap):(Instr.sliceBounds sl n cap lo hi none).run P w=.ok (A.toNat,B.toNat,cap) w:=by
 have e1:(max B 0:Int)=B:=by omega
 rcases hlo with⟨rfl,rfl⟩|⟨k,rfl⟩<;>rcases hhi with⟨rfl,rfl⟩|⟨k',rfl⟩;·simp[Instr.sliceBounds]
 ·simp[Instr.sliceBounds,Instr.sliceBound,asIntOf,show 0≤B∧B≤(cap:Int) from by omega]
 ·simp[Instr.sliceBounds,Instr.sliceBound,asIntOf,show 0≤A∧A≤(n:Int) from by omega]
 ·simp[Instr.sliceBounds,Instr.sliceBound,asIntOf,show 0≤B∧B≤(cap:Int) from by omega,show 0≤A∧A≤B from by omega,e1]
theorem jo {lo hi:Option Operand}{A B:Int} (hev:∀z:Operand,asks (ev vars z)→RV P S w β (aG aa) (a.eval z) (strip (ev vars z))) (ha:aq ((lo.toList++hi.toList).map (ev vars))) (h:bounds n lo.isSome hi.isSome (((lo.toList++hi.toList).map (ev vars)).map strip)=some (A,B)):((lo.map a.eval=none∧A=0)∨∃k,lo.map a.eval=some (.int k A))∧((hi.map a.eval=none∧B=n)∨∃k,hi.map a.eval=some (.int k B)):=by cases lo with
 |none=>cases hi with|none=>simp[bounds]at h;simp[h.1.symm,h.2.symm]|some z=>simp only[Option.toList,q158,q71,q117,aq,Option.isSome]at h ha;have hz:=hev z ha.1;generalize strip (ev vars z)=Z at h hz;cases Z with
   |pv p=>cases p with|int k i=>simp[bounds]at h;obtain⟨rfl,rfl⟩:=h;exact⟨.inl ⟨rfl,rfl⟩,.inr ⟨k,by simp[hz.aN]⟩⟩|_=>simp[bounds]at h
   |_=>simp[bounds]at h
 |some y=>cases hi with
  |none=>simp only[Option.toList,q147,q71,q117,aq,Option.isSome]at h ha;have hy:=hev y ha.1;generalize strip (ev vars y)=Y at h hy;cases Y with
   |pv p=>cases p with|int k i=>simp[bounds]at h;obtain⟨rfl,rfl⟩:=h;exact⟨.inr ⟨k,by simp[hy.aN]⟩,.inl ⟨rfl,rfl⟩⟩|_=>simp[bounds]at h
   |_=>simp[bounds]at h
  |some z=>simp only[Option.toList,q149,q158,q71,q117,aq,Option.isSome]at h ha;have hy:=hev y ha.1;have hz:=hev z ha.2.1;generalize strip (ev vars y)=Y at h hy;generalize strip (ev vars z)=Z at h hz;cases Y with
   |pv p=>cases p with
    |int k i=>cases Z with
     |pv q=>cases q with|int k' j=>simp[bounds]at h;obtain⟨rfl,rfl⟩:=h;exact⟨.inr ⟨k,by simp[hy.aN]⟩,.inr ⟨k',by simp[hz.aN]⟩⟩|_=>simp[bounds]at h
     |_=>simp[bounds]at h
    |_=>cases Z<;>simp[bounds]at h
   |_=>simp[bounds]at h
theorem q_ssl {t:TypeId}{lo hi:Option Operand} (ho:o.op=.slice t x lo hi none) (ht:P.underlying t=some .string) (hev:∀z:Operand,asks (ev vars z)→RV P S w β (aG aa) (a.eval z) (strip (ev vars z))) (hX:RV P S w β (aG aa) (a.eval x) X) (ha:aq ((lo.toList++hi.toList).map (ev vars))) {v:AV} (h:al (.KK lo.isSome hi.isSome) (X::((lo.toList++hi.toList).map (ev vars)).map strip) aa=some (φ,v)) (hφ:φ):∃r,(execOp a.eval o).run P w=.ok (.value r) w∧RV P S w β (aG aa) r v:=by cases X with
 |pv p=>cases p with|str l=>
   simp only[al,q0]at h;obtain⟨⟨A,B⟩,hb,he⟩:=h;simp only[q70]at he;obtain⟨rfl,rfl⟩:=he;obtain⟨h0,h1,h2⟩:=hφ;obtain⟨hlo,hhi⟩:=jo hev ha hb;refine⟨.string ⟨(cut l A B).toArray⟩,?_,.pv _ _ (.str _)⟩;have hs:=uB (P:=P) (w:=w) false (ByteArray.mk l.toArray).size (ByteArray.mk l.toArray).size hlo (by rw[Mq];exact hhi) h0 h1 (by rw[Mq];exact h2) (q93 _);have he:(ByteArray.mk l.toArray).extract A.toNat B.toNat=⟨(cut l A B).toArray⟩:=by rw[Lib.extract_eq];simp[cut,q296]
   simp[execOp,ho,Instr.sliceAt,Instr.slice,run_underlying ht,hX.eS,hs,he]|_=>simp[al]at h
 |_=>simp[al]at h
theorem BP (l:List α) {A B:Int} (h0:0≤A) (h1:A≤B) (h2:B≤l.length):(cut l A B).length=B.toNat-A.toNat:=by simp[cut,q94,q67];omega
theorem Df (l:List α) {A B:Int} (i:Nat) {r:α} (h:(cut l A B)[i]?=some r):l[A.toNat+i]?=some r:=by
 simp only[cut,q89,q81]at h;split at h;·exact h
 ·cases h
theorem add_zero' (a:Addr):a.add 0=a:=by unfold Addr.add;simp
theorem ZL {t e:TypeId}{lo hi:Option Operand} (ho:o.op=.slice t x lo hi none) (ht:P.underlying t=some (.slice e)) (hsz:cz P e=some sz) (hh:Heap P S w β aa) (hev:∀z:Operand,asks (ev vars z)→RV P S w β (aG aa) (a.eval z) (strip (ev vars z))) (hX:RV P S w β (aG aa) (a.eval x) X) (ha:aq ((lo.toList++hi.toList).map (ev vars))) {v:AV} (h:al (.B5 sz lo.isSome hi.isSome) (X::((lo.toList++hi.toList).map (ev vars)).map strip) aa=some (φ,v)) (hφ:φ):∃r,(execOp a.eval o).run P w=.ok (.value r) w∧RV P S w β (aG aa) r v:=by cases X with
 |pv p=>cases p with|ro rows=>
   simp only[al,q0]at h;obtain⟨⟨A,B⟩,hb,he⟩:=h;simp only[q70]at he;obtain⟨rfl,rfl⟩:=he;obtain⟨h0,h1,h2,h3⟩:=hφ;obtain⟨hlo,hhi⟩:=jo hev ha hb;obtain⟨Ad,c,hv,hc,hne⟩:=hX.bq.gq;have hs:=uB (P:=P) (w:=w) true rows.length c hlo hhi h0 h1 h2 hc;refine⟨.slice (if c=A.toNat then Ad else Ad.map (·.add (A.toNat*sz))) (B.toNat-A.toNat) (c-A.toNat),?_,.pv _ _ ?_⟩;·simp[execOp,ho,Instr.sliceAt,Instr.slice,run_underlying ht,hv,hs,eA hsz]
   ·have hcl:=BP rows h0 h1 h2;by_cases hz:B.toNat-A.toNat=0;·have hnil:cut rows A B=[]:=q72 (hcl.trans hz);rw[hnil,hz];exact .xY _ _
    ·have hrn:rows≠[]:=by rintro rfl;simp at h2;omega
     obtain⟨ad,sz0,us,rfl,g1,g2,g3,g4,g5⟩:=hne hrn;have hsz0:sz0=sz:=by obtain⟨r,hr⟩:=q152 rows hrn;rw[←g2 r hr,h3 r hr]
     subst hsz0;rw[if_neg (by omega),←hcl];refine .ro (ad.add (A.toNat*sz0)) _ _ sz0 (fun i j=>us (A.toNat+i) j) (by rw[bW];exact g1) (by omega) (fun r hr=>?_) (fun i j hi hj=>?_) (fun i j r p hr hp=>?_) (fun i j r p hr hp=>?_);·exact g2 r (q107 (q123 hr))
     ·rw[fG,←g3 (A.toNat+i) j (by omega) hj,q150,q221]
     ·exact g4 _ j r p (Df rows i hr) hp
     ·exact g5 _ j r p (Df rows i hr) hp|nil=>simp only[al,q0]at h;obtain⟨⟨A,B⟩,hb,he⟩:=h;simp only[q70]at he;obtain⟨rfl,rfl⟩:=he;obtain⟨h0,h1⟩:=hφ;subst h0 h1;obtain⟨hlo,hhi⟩:=jo hev ha hb;have hv:=hX.bq.eB;have hs:=uB (P:=P) (w:=w) true 0 0 hlo hhi (q291 0) (q291 0) (by simp) (q93 0);refine⟨.slice none 0 0,?_,.pv _ _ .nil⟩;simp[execOp,ho,Instr.sliceAt,Instr.slice,run_underlying ht,hv,hs,eA hsz]|_=>simp[al]at h
 |own t'=>
  simp only[al,q63,q0]at h;obtain⟨⟨e',rows⟩,hs,⟨A,B⟩,hb,he⟩:=h;simp only[q70]at he;obtain⟨rfl,rfl⟩:=he;obtain⟨h0,h1,h2,h3⟩:=hφ;obtain⟨hlo,hhi⟩:=jo hev ha hb;obtain⟨inf,us,hi',hown,hrl,_⟩:=hh.arr (bK hs);simp only at hi' hown hrl;obtain⟨Ad,c,hv,hc⟩:=cC hown;have hx:=hX.aX.1.trans hv;have hsb:=uB (P:=P) (w:=w) true rows.length c hlo hhi h0 h1 h2 hc;have hmul:A.toNat*sz=A.toNat*inf.size:=by
   by_cases hz:rows=[];·subst hz;simp only[q87]at h2;rw[show A.toNat=0 from by omega];simp
   ·obtain⟨r,hr⟩:=q152 rows hz;rw[←h3 r hr,hrl r hr]
  refine⟨.slice (if c=A.toNat then Ad else Ad.map (·.add (A.toNat*sz))) (B.toNat-A.toNat) (c-A.toNat),?_,.sub _ t' e' A.toNat B.toNat inf Ad _ rows.length c hX.aX.2 hi' hv (by omega) (by omega) hc (fun e0=>?_) (fun hne=>?_) rfl⟩;·simp[execOp,ho,Instr.sliceAt,Instr.slice,run_underlying ht,hx,hsb,eA hsz]
  ·rw[e0];split;·rfl
   ·cases Ad with|none=>rfl|some ad=>simp[add_zero']
  ·rw[if_neg hne,hmul]|sub t' e1 l m=>
  have hsem:=h;simp only[al,q63]at hsem;obtain⟨⟨e',rows⟩,hs,hsem⟩:=hsem;split at hsem
  ·rename_i hee;simp only at hee;subst hee;obtain⟨⟨A,B⟩,hb,he⟩:=q0.1 hsem;simp only[q70]at he;obtain⟨rfl,rfl⟩:=he;obtain⟨h0,h1,h2,h3⟩:=hφ;obtain⟨hlo,hhi⟩:=jo hev ha hb;obtain⟨inf,us,hi',hown,hrl,_⟩:=hh.arr (bK hs);simp only at hi' hown hrl;obtain⟨inf1,Ad,Ad1,n,c,hdt,hi1,hbt,g1,g2,g3,g4,g5,hx⟩:=hX.gE;rw[hi']at hi1;injection hi1 with hi1;subst hi1;obtain⟨Ad',c',hv',_⟩:=cC hown;have hn:n=rows.length:=by rw[hbt]at hv';simp at hv';exact hv'.2.1
   subst hn;have hsb:=uB (P:=P) (w:=w) true (m-l) (c-l) hlo hhi h0 h1 h2 (by omega);have hmul:A.toNat*sz=A.toNat*inf.size:=by
    by_cases hz:rows=[];·subst hz;simp only[q87]at g2;rw[show A.toNat=0 from by omega];simp
    ·obtain⟨r,hr⟩:=q152 rows hz;rw[←h3 r hr,hrl r hr]
   refine⟨.slice (if c-l=A.toNat then Ad1 else Ad1.map (·.add (A.toNat*sz))) (B.toNat-A.toNat) (c-l-A.toNat),?_,.sub _ t' e' (l+A.toNat) (l+B.toNat) inf Ad (if c-l=A.toNat then Ad1 else Ad1.map (·.add (A.toNat*sz))) rows.length c hdt hi' hbt (by omega) (by omega) g3 (fun e0=>?_) (fun hne=>?_) ?_⟩;·simp[execOp,ho,Instr.sliceAt,Instr.slice,run_underlying ht,hx,hsb,eA hsz]
   ·rw[show A.toNat=0 from by omega];rw[g4 (by omega)];split;·rfl
    ·cases Ad with|none=>rfl|some ad=>simp[add_zero']
   ·rw[if_neg (by omega),g5 (by omega),hmul];cases Ad with|none=>rfl|some ad=>simp[fG,q150]
   ·rw[show l+B.toNat-(l+A.toNat)=B.toNat-A.toNat from by omega,show c-(l+A.toNat)=c-l-A.toNat from by omega]
  ·cases hsem|_=>simp[al]at h
theorem kb {i:Int} (h0:0≤i) (h1:i<rows.length):rows[i.toNat]?=some (rowAt rows i):=by
 have:i.toNat<rows.length:=by omega
 simp[rowAt,q78,this]
theorem q_ixa {t e:TypeId} (ho:o.op=.indexAddr t x y) (ht:P.underlying t=some (.slice e)) (hsz:cz P e=some sz) (hh:Heap P S w β aa) (hX:RV P S w β (aG aa) (a.eval x) X) (hY:RV P S w β (aG aa) (a.eval y) Y) {v:AV} (h:al (.DP e sz) [X,Y] aa=some (φ,v)) (hφ:φ):∃r,(execOp a.eval o).run P w=.ok (.value r) w∧RV P S w β (aG aa) r v:=by cases X with
 |pv p=>cases Y with
  |pv q=>cases p with
   |ro rows=>cases q with|int k i=>
     simp only[al,qr,q70]at h;obtain⟨rfl,rfl⟩:=h;obtain⟨h0,h1,h2⟩:=hφ;obtain⟨Ad,c,hv,hc,hne⟩:=hX.bq.gq;have hrn:rows≠[]:=by rintro rfl;simp at h1;omega
     obtain⟨ad,sz0,us,rfl,g1,g2,g3,g4,g5⟩:=hne hrn;have hg:=kb h0 h1;have hsz0:sz0=sz:=by rw[←g2 _ (List.mem_of_getElem? hg),h2]
     subst hsz0;refine⟨.pointer (some (ad.add (i.toNat*sz0))),?_,.rp _ _ (fun j=>us i.toNat j) (by rw[bW];exact g1) (fun j hj=>?_) (fun j p hp=>g4 _ j _ p hg hp) (fun j p hp=>g5 _ j _ p hg hp)⟩;·simp[execOp,ho,Instr.indexAt,asIntOf,run_underlying ht,hv,hY.aN,h0,h1,eA hsz]
     ·rw[fG];exact g3 i.toNat j (by omega) (by omega)|_=>simp[al]at h
   |_=>cases q<;>simp[al]at h
  |_=>cases p<;>simp[al]at h
 |own t'=>cases Y with
  |pv q=>cases q with
   |int k i=>
    simp only[al,q63]at h;obtain⟨⟨e',n⟩,hs,he⟩:=h;split at he
    ·rename_i hee;simp only[qr,q70]at he;obtain⟨rfl,rfl⟩:=he;obtain⟨h0,h1⟩:=hφ;simp only at hee h1;subst hee;obtain⟨inf,us,hi,hown⟩:=wJ hh hs;have hinf:inf.size=sz:=by obtain⟨i',hi',rfl⟩:=gv hsz;rw[hi]at hi';injection hi' with hi';rw[hi']
     rcases hown.2 with⟨_,hz⟩|⟨g,cap,cur,hv,_⟩;·omega
     ·have hx:a.eval x=.slice (some ⟨g,0,none⟩) n cap:=hX.aX.1.trans hv;have hE:RV P S w β (aG aa) (.pointer (some ⟨g,i.toNat*inf.size+0,none⟩)) (.bd t' e' i 0):=.bd t' e' i 0 g n cap inf hX.aX.2 hi hv;refine⟨_,?_,hE⟩;simp[execOp,ho,Instr.indexAt,asIntOf,run_underlying ht,hx,hY.aN,h0,h1,eA hsz,hinf,q100]
    ·cases he|_=>simp[al]at h
  |_=>simp[al]at h
 |sub t' e1 lo hi=>cases Y with
  |pv q=>cases q with
   |int k i=>
    simp only[al,q63]at h;obtain⟨⟨e',rows⟩,hs,he⟩:=h;have hs':=bK hs;split at he
    ·rename_i hee;simp only[qr,q70]at he;obtain⟨rfl,rfl⟩:=he;obtain⟨h0,h1⟩:=hφ;simp only at hee hs';obtain⟨rfl,rfl⟩:=hee;obtain⟨inf,us,hi',hown,hr,hc⟩:=hh.arr hs';have hinf:inf.size=sz:=by obtain⟨i',hi1,rfl⟩:=gv hsz;rw[hi']at hi1;injection hi1 with hi1;rw[hi1]
     obtain⟨inf1,Ad,Ad1,n,c,hdt,hi1,hbt,g1,g2,g3,g4,g5,hx⟩:=hX.gE;rw[hi']at hi1;injection hi1 with hi1;subst hi1;rcases hown.2 with⟨hv,hz⟩|⟨g,cap,cur,hv,_⟩;·rw[hv]at hbt;simp at hbt;omega
     ·rw[hv]at hbt;have hx3:some (⟨g,0,none⟩:Addr)=Ad∧rows.length=n∧cap=c:=by simpa using hbt
      obtain⟨rfl,rfl,rfl⟩:=hx3;have hx:=hx;rw[g5 (by omega)]at hx;have hE:RV P S w β (aG aa) (.pointer (some ⟨g,((lo:Int)+i).toNat*inf.size+0,none⟩)) (.bd t' e1 ((lo:Int)+i) 0):=.bd t' e1 _ 0 g rows.length cap inf hdt hi' hv;refine⟨_,?_,hE⟩;have hlen:i<((hi-lo:Nat):Int):=by omega
      have hadd:((lo:Int)+i).toNat*inf.size=lo*inf.size+i.toNat*inf.size:=by rw[show((lo:Int)+i).toNat=lo+i.toNat from by omega,q150]
      rw[hadd];simp[execOp,ho,Instr.indexAt,asIntOf,run_underlying ht,hx,hY.aN,h0,hlen,eA hsz,←hinf,q100]
    ·cases he|_=>simp[al]at h
  |_=>simp[al]at h
 |_=>simp[al]at h
theorem q_fad {s:TypeId}{f:Field} (ho:o.op=.fieldAddr s x i) (ht:P.underlying s=some (.struct fs)) (hf:fs[i]?=some f) (hsz:cz P f.type=some (n+1)) (hX:RV P S w β (aG aa) (a.eval x) X) {v:AV} (h:al (.sS f.offset) [X] aa=some (φ,v)) (hφ:φ):∃r,(execOp a.eval o).run P w=.ok (.value r) w∧RV P S w β (aG aa) r v:=by
 have hr:∀ad:Addr,a.eval x=.pointer (some ad)→(execOp a.eval o).run P w=.ok (.value (.pointer (some (ad.add f.offset)))) w:=by intro ad hv;simp[execOp,ho,Instr.fieldAt,run_underlying ht,hf,hv,Instr.sureAddr,fieldPlace,eA hsz]
 cases X with|ptr t' o'=>simp only[al,qr,q70]at h;obtain⟨rfl,rfl⟩:=h;obtain⟨b,hv,hd,hb⟩:=hX.ew;refine⟨_,hr _ hv,?_⟩;rw[q100];exact .ptr t' _ b hd hb|bd t' e' i' o'=>simp only[al,qr,q70]at h;obtain⟨rfl,rfl⟩:=h;obtain⟨b,n',c,inf,hv,hd,hi,hb⟩:=hX.fR;refine⟨_,hr _ hv,?_⟩;rw[q100,q221];exact .bd t' e' i' _ b n' c inf hd hi hb|rp cs=>
  simp only[al,qr,q70]at h;obtain⟨rfl,rfl⟩:=h;obtain⟨ad,us,hv,h1,h2,h3,h4⟩:=hX.jn;refine⟨_,hr _ hv,.rp _ _ (fun j=>us (f.offset+j)) (by rw[bW];exact h1) (fun j hj=>?_) (fun j p hp=>?_) (fun j p hp=>?_)⟩;·rw[fG];exact h2 _ (by simp at hj;omega)
  ·exact h3 _ p (by rw[←hp,q89])
  ·exact h4 _ p (by rw[←hp,q89])|_=>simp[al]at h
theorem Wv {t e:TypeId} (ho:o.op=.indexAddr t x y) (ht:P.underlying t=some (.array n e)) (hsz:cz P e=some sz) (hX:RV P S w β (aG aa) (a.eval x) X) (hY:RV P S w β (aG aa) (a.eval y) Y) {v:AV} (h:al (.FY n sz) [X,Y] aa=some (φ,v)) (hφ:φ):∃r,(execOp a.eval o).run P w=.ok (.value r) w∧RV P S w β (aG aa) r v:=by
 have hr:∀(ad:Addr) (k:IntKind) (i:Int),a.eval x=.pointer (some ad)→a.eval y=.int k i→0≤i→i<(n:Int)→(execOp a.eval o).run P w=.ok (.value (.pointer (some (ad.add (i.toNat*sz))))) w:=by intro ad k i hv hi h0 h1;simp[execOp,ho,Instr.indexAt,asIntOf,run_underlying ht,hv,hi,Instr.sureAddr,h0,h1,eA hsz]
 cases X with
 |ptr t' o'=>cases Y with
  |pv q=>cases q with|int k i=>simp only[al,qr,q70]at h;obtain⟨rfl,rfl⟩:=h;obtain⟨b,hv,hd,hb⟩:=hX.ew;refine⟨_,hr _ k i hv hY.aN hφ.1 hφ.2,?_⟩;rw[q100];exact .ptr t' _ b hd hb|_=>simp[al]at h
  |_=>simp[al]at h
 |rp cs=>cases Y with
  |pv q=>cases q with|int k i=>
    simp only[al,qr,q70]at h;obtain⟨rfl,rfl⟩:=h;obtain⟨ad,us,hv,h1,h2,h3,h4⟩:=hX.jn;refine⟨_,hr _ k i hv hY.aN hφ.1 hφ.2,.rp _ _ (fun j=>us (i.toNat*sz+j)) (by rw[bW];exact h1) (fun j hj=>?_) (fun j p hp=>?_) (fun j p hp=>?_)⟩;·rw[fG];exact h2 _ (by simp at hj;omega)
    ·exact h3 _ p (by rw[←hp,q89])
    ·exact h4 _ p (by rw[←hp,q89])|_=>simp[al]at h
  |_=>simp[al]at h
 |_=>simp[al]at h
theorem q_nck (ho:o.op=.nilCheck x) (hX:RV P S w β (aG aa) (a.eval x) X) {v:AV} (h:al .FH [X] aa=some (φ,v)) (hφ:φ):∃r,(execOp a.eval o).run P w=.ok (.value r) w∧RV P S w β (aG aa) r v:=by
 have hr:∀ad:Addr,a.eval x=.pointer (some ad)→(execOp a.eval o).run P w=.ok (.value (.pointer (some ad))) w:=by intro ad hv;simp[execOp,ho,hv]
 cases X with|ptr t' o'=>simp only[al,qr,q70]at h;obtain⟨rfl,rfl⟩:=h;have hX':=hX;obtain⟨b,hv,hd,hb⟩:=hX.ew;exact⟨_,hr _ hv,by rw[←hv];exact hX'⟩|bd t' e' i' o'=>simp only[al,qr,q70]at h;obtain⟨rfl,rfl⟩:=h;have hX':=hX;obtain⟨b,n',c,inf,hv,hd,hi,hb⟩:=hX.fR;exact⟨_,hr _ hv,by rw[←hv];exact hX'⟩|rp cs=>simp only[al,qr,q70]at h;obtain⟨rfl,rfl⟩:=h;have hX':=hX;obtain⟨ad,us,hv,h1,h2,h3,h4⟩:=hX.jn;exact⟨_,hr _ hv,by rw[←hv];exact hX'⟩|_=>simp[al]at h
theorem Heap.box (hh:Heap P S w β aa)  (h:aa t=some (.box cs)):bz P S w β (aG aa) t (.box cs):=hh.holds t _ h
theorem Dg {t:TypeId} (ho:o.op=.load t x) (ht:nj P t=some none) (hh:Heap P S w β aa) (hX:RV P S w β (aG aa) (a.eval x) X) {v:AV} (h:al (.load none) [X] aa=some (φ,v)) (hφ:φ):∃r,(execOp a.eval o).run P w=.ok (.value r) w∧RV P S w β (aG aa) r v:=by
 have hr:∀(ad:Addr) (u:Value),a.eval x=.pointer (some ad)→w.cell? ad=some u→(execOp a.eval o).run P w=.ok (.value u) w:=by intro ad u hv hc;simp[execOp,ho,Instr.loadAt,hv,Instr.sureAddr,xV ht hc]
 cases X with
 |ptr t' o'=>
  simp only[al,q63]at h;obtain⟨cs,hcs,c,hc,he⟩:=h;split at he;rotate_left;·cases he
  simp only[qr,q70]at he;obtain⟨rfl,rfl⟩:=he;obtain⟨b,hv,hd,hb⟩:=hX.ew;obtain⟨b',us,ty,hp,hheap,hl,hcells⟩:=hh.box (fH hcs);have hbb:b'=b:=by rw[hb]at hp;simpa using hp.symm
  subst hbb;have hlt:o'<us.size:=by rw[hl];exact(q65.1 hc).1
  have hu:us[o']?=some us[o']:=q127 hlt;exact⟨us[o'],hr _ _ hv ((cell_of_row w b' o' us ty (0,0) hheap).trans hu),(hcells o' c _ hc hu).2⟩|bd t' e' i' o'=>
  have he:mr e' i' o' (aa t')=some (φ,v):=h;unfold mr at he;split at he;rotate_left
  ·rename_i e cs hs';split at he;rotate_left;·cases he
   rename_i hee;obtain⟨rfl,rfl⟩:=hee;obtain⟨c,hc,he⟩:=q63.1 he;split at he;rotate_left;·cases he
   simp only[qr,q70]at he;obtain⟨rfl,rfl⟩:=he;obtain⟨b,n',c',inf,hv,hd,hi,hb⟩:=hX.fR;obtain⟨inf',us,hi',h1s,hown,hcells⟩:=hh.holds t' _ hs';have:inf'=inf:=by rw[hi]at hi';injection hi' with hi';exact hi'.symm
   subst this;have hlt:i'.toNat<us.length:=by rw[hown.1,h1s,q175];exact(q65.1 hc).1
   have hu:us[i'.toNat]?=some us[i'.toNat]:=q64 hlt;have hob:(β t').ownBlock=some b:=by rw[hb];rfl
   have hcell:=hown.cells hob _ _ hu;rw[q100,q133]at hcell;refine⟨us[i'.toNat],hr _ _ hv ?_,(hcells _ c _ hc hu).2⟩;rw[h1s,q175,q155];exact hcell
  ·cases he
  rename_i e rows hs';split at he
  ·rename_i hee;subst hee;simp only[qr,q70]at he;obtain⟨rfl,rfl⟩:=he;obtain⟨hφ0,hφ1,hφ2⟩:=hφ;have hc:(rowAt rows i')[o']?=some ((rowAt rows i').getD o' (.int .u8 0)):=by simp[q78,hφ2]
   generalize(rowAt rows i').getD o' (.int .u8 0)=c at hc;obtain⟨b,n',c',inf,hv,hd,hi,hb⟩:=hX.fR;obtain⟨inf',us,hi',hown,hrl,hcells⟩:=hh.arr hs';have:inf'=inf:=by rw[hi]at hi';injection hi' with hi';exact hi'.symm
   subst this;obtain⟨u,hu,h1,h2⟩:=hcells _ o' _ c (kb hφ0 hφ1) hc;have hob:(β t').ownBlock=some b:=by rw[hb];rfl
   have hcell:=hown.cells hob _ u hu;rw[q100,q133]at hcell;exact⟨u,hr _ _ hv hcell,.pv _ _ h2⟩
  ·cases he|rp cs=>cases cs with|nil=>simp only[al,qr,q70]at h;obtain⟨rfl,rfl⟩:=h;exact hφ.elim|cons c cs=>simp only[al,qr,q70]at h;obtain⟨rfl,rfl⟩:=h;obtain⟨ad,us,hv,h1,h2,h3,h4⟩:=hX.jn;have hcell:=h2 0 (by simp);exact⟨us 0,hr _ _ hv (by simpa[Addr.add]using hcell),.pv _ _ (h4 0 c rfl)⟩
 |_=>simp[al]at h
theorem Dd {t:TypeId} (ho:o.op=.load t x) (ht:nj P t=some (some n)) (hh:Heap P S w β aa) (hX:RV P S w β (aG aa) (a.eval x) X) {v:AV} (h:al (.load (some n)) [X] aa=some (φ,v)) (hφ:φ):∃r,(execOp a.eval o).run P w=.ok (.value r) w∧RV P S w β (aG aa) r v:=by
 have hr:∀(ad:Addr) (us:List Value),a.eval x=.pointer (some ad)→us.length=n→(∀(j:Nat) (u:Value),us[j]?=some u→w.cell? (ad.add j)=some u)→(execOp a.eval o).run P w=.ok (.value (.agg us.toArray)) w:=by intro ad us hv hl hc;simp[execOp,ho,Instr.loadAt,hv,Instr.sureAddr,yN ht hl hc]
 cases X with
 |ptr t' o'=>
  simp only[al,q63]at h;obtain⟨cs,hcs,he⟩:=h;split at he
  ·rename_i hle;simp only[qr,q70]at he;obtain⟨rfl,rfl⟩:=he;obtain⟨b,hv,hd,hb⟩:=hX.ew;obtain⟨b',us,ty,hp,hheap,hl,hcells⟩:=hh.box (fH hcs);have hbb:b'=b:=by rw[hb]at hp;simpa using hp.symm
   subst hbb;have hlen:((us.toList.drop o').take n).length=n:=by simp;omega
   refine⟨_,hr _ ((us.toList.drop o').take n) hv hlen (fun j u hu=>?_),.agg _ _ (by simp[hl]) (fun j c u hc hu=>?_)⟩
   ·rw[q100,cell_of_row w b' _ us ty (0,0) hheap];rw[q81]at hu;split at hu;·rw[q89]at hu;simpa using hu
    ·cases hu
   ·rw[q81]at hu hc;split at hu;·rw[q89]at hu;rename_i hj;rw[if_pos hj,q89]at hc;exact(hcells _ c u hc (by simpa using hu)).2
    ·cases hu
  ·cases he|bd t' e' i' o'=>
  simp only[al,q63]at h;obtain⟨⟨e,rows⟩,hs,he⟩:=h;have hs':=bK hs;simp only at he hs';split at he
  ·rename_i hee;obtain⟨rfl,hle⟩:=hee;simp only[qr,q70]at he;obtain⟨rfl,rfl⟩:=he;obtain⟨b,n',c',inf,hv,hd,hi,hb⟩:=hX.fR;obtain⟨inf',us,hi',hown,hrl,hcells⟩:=hh.arr hs';have:inf'=inf:=by rw[hi]at hi';injection hi' with hi';exact hi'.symm
   subst this;have hg:=kb hφ.1 hφ.2;have hrs:(rowAt rows i').length=inf'.size:=hrl _ (List.mem_of_getElem? hg);have hob:(β t').ownBlock=some b:=by rw[hb];rfl
   have hone:∀j,j<n→∃u,us[i'.toNat*inf'.size+(o'+j)]?=some u:=fun j hj=>by obtain⟨u,hu,_⟩:=hcells _ (o'+j) _ _ hg (q64 (show o'+j<(rowAt rows i').length by omega));exact⟨u,hu⟩
   have hlen:((us.drop (i'.toNat*inf'.size+o')).take n).length=n:=by
    rw[q67,q94];rcases q169 n with h0|h0;·omega
    ·obtain⟨u,hu⟩:=hone (n-1) (by omega);have:=(q65.1 hu).1;omega
   refine⟨_,hr _ ((us.drop (i'.toNat*inf'.size+o')).take n) hv hlen (fun j u hu=>?_),.agg _ _ (by rw[hlen];simp;omega) (fun j c u hc hu=>?_)⟩
   ·rw[q81]at hu;split at hu;·rw[q89]at hu;have hcell:=hown.cells hob _ u hu;rw[q100,q133]at hcell;rw[q100];exact hcell
    ·cases hu
   ·rw[q81]at hu;split at hu;·rename_i hj;rw[q89,q221]at hu;rw[q77,q0]at hc;obtain⟨p,hp,rfl⟩:=hc;rw[q81,if_pos hj,q89]at hp;obtain⟨u',hu',_,h2⟩:=hcells _ (o'+j) _ p hg hp;rw[hu]at hu';injection hu' with hu';rw[hu'];exact .pv _ _ h2
    ·cases hu
  ·cases he|rp cs=>
  simp only[al]at h;split at h
  ·rename_i hle;simp only[qr,q70]at h;obtain⟨rfl,rfl⟩:=h;obtain⟨ad,us,hv,h1,h2,h3,h4⟩:=hX.jn;have hg:∀(j:Nat) (u:Value),((List.range n).map us)[j]?=some u→j<n∧u=us j:=fun j u hu=>by
    simp only[q77,q0]at hu;obtain⟨k,hk,rfl⟩:=hu;have hjn:j<n:=by have:=(q65.1 hk).1;simpa using this
    rw[List.getElem?_range hjn]at hk;injection hk with hk;exact⟨hjn,by rw[hk]⟩
   refine⟨_,hr _ ((List.range n).map us) hv (by simp) (fun j u hu=>?_),.agg _ _ (by simp;omega) (fun j c u hc hu=>?_)⟩;·obtain⟨hj,rfl⟩:=hg j u hu;exact h2 j (by omega)
   ·obtain⟨hj,rfl⟩:=hg j u hu;rw[q77,q0]at hc;obtain⟨p,hp,rfl⟩:=hc;rw[q81,if_pos hj]at hp;exact .pv _ _ (h4 j p hp)
  ·cases h|_=>simp[al]at h
theorem Oo {s:TypeId}{f:Field} (ho:o.op=.field s x i) (ht:P.underlying s=some (.struct fs)) (hf:fs[i]?=some f) (hn:nj P f.type=some none) (hX:RV P S w β (aG aa) (a.eval x) X) {v:AV} (h:al (.Iu f.offset none) [X] aa=some (φ,v)) (hφ:φ):∃r,(execOp a.eval o).run P w=.ok (.value r) w∧RV P S w β (aG aa) r v:=by cases X with
 |agg cs=>
  simp only[al,q0]at h;obtain⟨c,hc,he⟩:=h;simp only[q70]at he;obtain⟨rfl,rfl⟩:=he;obtain⟨us,hv,hl,hcs⟩:=hX.da;have hlt:f.offset<us.length:=by rw[hl];exact(q65.1 hc).1
  have hu:us[f.offset]?=some us[f.offset]:=q64 hlt;refine⟨us[f.offset],?_,hcs _ c _ hc hu⟩;simp[execOp,ho,Instr.field,run_underlying ht,hf,hv,asAgg,part,wL hn,hlt]|_=>simp[al]at h
theorem Rz {s:TypeId}{f:Field} (ho:o.op=.field s x i) (ht:P.underlying s=some (.struct fs)) (hf:fs[i]?=some f) (hn:nj P f.type=some (some n)) (hX:RV P S w β (aG aa) (a.eval x) X) {v:AV} (h:al (.Iu f.offset (some n)) [X] aa=some (φ,v)) (hφ:φ):∃r,(execOp a.eval o).run P w=.ok (.value r) w∧RV P S w β (aG aa) r v:=by cases X with
 |agg cs=>
  simp only[al]at h;split at h
  ·rename_i hle;simp only[qr,q70]at h;obtain⟨rfl,rfl⟩:=h;obtain⟨us,hv,hl,hcs⟩:=hX.da;refine⟨.agg ((us.drop f.offset).take n).toArray,?_,.agg _ _ (by simp[hl]) (fun j c u hc hu=>?_)⟩
   ·have he:us.toArray.extract f.offset (f.offset+n)=((us.drop f.offset).take n).toArray:=by simp[List.extract_toArray,q270]
    simp[execOp,ho,Instr.field,run_underlying ht,hf,hv,asAgg,part,(kj hn w).1,(kj hn w).2,he]
   ·rw[q81]at hu hc;split at hu;·rename_i hj;rw[if_pos hj,q89]at hc;rw[q89]at hu;exact hcs _ c u hc hu
    ·cases hu
  ·cases h|_=>simp[al]at h
theorem q_ext (ho:o.op=.extract x i) (hX:RV P S w β (aG aa) (a.eval x) X) {v:AV} (h:al (.ext i) [X] aa=some (φ,v)) (hφ:φ):∃r,(execOp a.eval o).run P w=.ok (.value r) w∧RV P S w β (aG aa) r v:=by cases X with
 |aO cs=>
  simp only[al,q0]at h;obtain⟨c,hc,he⟩:=h;simp only[q70]at he;obtain⟨rfl,rfl⟩:=he;obtain⟨us,hv,hl,hcs⟩:=hX.jC;have hlt:i<us.length:=by rw[hl];exact(q65.1 hc).1
  have hu:us[i]?=some us[i]:=q64 hlt;refine⟨us[i],?_,hcs _ c _ hc hu⟩;simp[execOp,ho,Instr.extract,hv,hlt]|_=>simp[al]at h
end
theorem vX:∀(vs:List Value) (k off:Nat) (cells:List Value),off+k+vs.length≤cells.length→(vs.zipIdx k).foldl (fun(cs:Array Value) (p:Value×Nat)=>cs.setIfInBounds (off+p.2) p.1) cells.toArray=(cells.take (off+k)++vs++cells.drop (off+k+vs.length)).toArray
 |[],k,off,cells,_=>by simp|v::vs,k,off,cells,h=>by
  simp only[List.zipIdx_cons,q285,q79]at h ⊢;have hs:cells.toArray.setIfInBounds (off+k) v=(cells.set (off+k) v).toArray:=by simp
  rw[hs,vX vs (k+1) off (cells.set (off+k) v) (by simp;omega)];have hk:off+k<cells.length:=by omega
  have e1:(cells.set (off+k) v).take (off+(k+1))=cells.take (off+k)++[v]:=by rw[show off+(k+1)=off+k+1 from by omega];rw[q62 (by simpa using hk)];rw[List.take_set,List.set_eq_of_length_le (by simp;omega)];simp
  have e2:(cells.set (off+k) v).drop (off+(k+1)+vs.length)=cells.drop (off+k+(vs.length+1)):=by rw[List.drop_set,if_pos (by omega)];congr 1;omega
  rw[e1,e2];simp
theorem sb (vs:Array Value) (off:Nat) (cells:List Value) (h:off+vs.size≤cells.length):vs.zipIdx.foldl (fun(cs:Array Value) (p:Value×Nat)=>cs.setIfInBounds (off+p.2) p.1) cells.toArray=(cells.take off++vs.toList++cells.drop (off+vs.size)).toArray:=by
 have hz:vs.zipIdx=(vs.toList.zipIdx 0).toArray:=by apply q114;simp
 rw[hz];have:=vX vs.toList 0 off cells (by simpa using h);simpa using this
section
variable{P:Program}{S:Nat→Prop}{w:World}{β:Nat→Value}{aa:Nat→Option AO}{a:Act}{vars:Nat→AV}{N:Nat}{x y z:Operand}{o:Oper}
def lM (P:Program) (S:Nat→Prop) (w:World) (β:Nat→Value) (D:Nat→Prop) (us:List Value) (cs:List AV):Prop:=us.length=cs.length∧∀(i:Nat) (c:AV) (u:Value),cs[i]?=some c→us[i]?=some u→RV P S w β D u c
theorem lM.append {D:Nat→Prop}{us us':List Value}{cs cs':List AV} (h:lM P S w β D us cs) (h':lM P S w β D us' cs'):lM P S w β D (us++us') (cs++cs'):=by
 refine⟨by simp[h.1,h'.1],fun i c u hc hu=>?_⟩;by_cases hi:i<cs.length;·rw[q85 hi]at hc;rw[q85 (by rw[h.1];exact hi)]at hu;exact h.2 i c u hc hu
 ·rw[q97 (by omega)]at hc;rw[q97 (by rw[h.1];omega),h.1]at hu;exact h'.2 _ c u hc hu
theorem lM.take {D:Nat→Prop} (h:lM P S w β D us cs) (n:Nat):lM P S w β D (us.take n) (cs.take n):=by
 refine⟨by simp[h.1],fun i c u hc hu=>?_⟩;rw[q81]at hc hu;split at hc;·rename_i hi;rw[if_pos hi]at hu;exact h.2 i c u hc hu
 ·cases hc
theorem lM.drop {D:Nat→Prop} (h:lM P S w β D us cs) (n:Nat):lM P S w β D (us.drop n) (cs.drop n):=by refine⟨by simp[h.1],fun i c u hc hu=>?_⟩;rw[q89]at hc hu;exact h.2 _ c u hc hu
theorem lM.cons {D:Nat→Prop}{u:Value}{c:AV} (h:RV P S w β D u c) (h':lM P S w β D us cs):lM P S w β D (u::us) (c::cs):=by refine⟨by simp[h'.1],fun i c' u' hc hu=>?_⟩;cases i with|zero=>simp at hc hu;subst hc hu;exact h|succ i=>exact h'.2 i c' u' (by simpa using hc) (by simpa using hu)
theorem lM.nil {D:Nat→Prop}:lM P S w β D [] []:=⟨rfl,fun i c u hc=>by simp at hc⟩
theorem lM.cv_ (D:Nat→Prop):∀zs:List Value,lM P S w β D zs (zs.map cv)|[]=>.nil|z::zs=>.cons (uw P S w β D z) (lM.cv_ D zs)
theorem kI (hh:Heap P S w β aa) {u:Value}{c:AV} (h:RV P S w β (aG aa) u c) (ho:ez c=true):u.oneCell'=true∧u.cells=#[u]:=by cases h with
 |pv v p h=>cases h with
  |val v h=>cases u<;>first|exact⟨rfl,rfl⟩|(simp[Value.oneCell']at h)
  |_=>exact⟨rfl,rfl⟩
 |own t h=>obtain⟨o,ho'⟩:=h;cases o with|box cs=>obtain⟨b,us,ty,hp,_⟩:=hh.holds t _ ho';rw[hp];exact⟨rfl,rfl⟩|arr e rows=>obtain⟨inf,us,_,hown,_⟩:=hh.holds t _ ho';obtain⟨A,c,hv,_⟩:=cC hown;rw[hv];exact⟨rfl,rfl⟩|map es=>obtain⟨b,us,c,hp,_⟩:=hh.holds t _ ho';rw[hp];exact⟨rfl,rfl⟩|rws e cs=>obtain⟨inf,us,_,_,hown,_⟩:=hh.holds t _ ho';obtain⟨A,c,hv,_⟩:=cC hown;rw[hv];exact⟨rfl,rfl⟩|iB es=>obtain⟨b,us,c,hp,_⟩:=hh.holds t _ ho';rw[hp];exact⟨rfl,rfl⟩|nS rem cur=>obtain⟨r,m,us,c,seen,hp,_⟩:=hh.holds t _ ho';rw[hp];exact⟨rfl,rfl⟩
 |ptr t o b h hb=>exact⟨rfl,rfl⟩|bd t e i o b n c inf h hi hb=>exact⟨rfl,rfl⟩|sub v t e lo hi inf A A1 n c h hi' hb h1 h2 h3 h4 h5 hv=>rw[hv];exact⟨rfl,rfl⟩|rp ad cs us h1 h2 h3 h4=>exact⟨rfl,rfl⟩|bE f cs us hl h=>exact⟨rfl,rfl⟩|agg cs us hl h=>simp[ez]at ho|aO cs us hl h=>simp[ez]at ho|cp g v av h=>simp[ez]at ho|aw v=>simp[ez]at ho
theorem Ay (hh:Heap P S w β aa) {u:Value}{x:AV} (h:RV P S w β (aG aa) u x) (ho:mG x=true):lM P S w β (aG aa) u.cells.toList (cellsOf x):=by cases x with|agg cs=>obtain⟨us,rfl,hl,hc⟩:=h.da;exact⟨by simpa[Value.cells,cellsOf]using hl,by simpa[Value.cells,cellsOf]using hc⟩|_=>have h1:=(kI hh h ho).2;rw[h1];exact lM.cons h lM.nil
theorem RV.nrm {S:Nat→Prop}{D:Nat→Prop}{u:Value}{c:AV} (h:RV P S w β D u c):RV P S w β D u (qx c):=by
 unfold qx;split;·obtain⟨us,rfl,hl,_⟩:=h.m9;have:us=[]:=q72 hl;subst this;exact .pv _ _ (.val _ rfl)
 ·exact h
theorem lM.nrm {S:Nat→Prop}{D:Nat→Prop} (h:lM P S w β D us cs):lM P S w β D us (cs.map qx):=⟨by rw[List.length_map];exact h.1,fun i c u hc hu=>by rw[q77]at hc;obtain⟨c',hc',rfl⟩:=q0.1 hc;exact(h.2 i c' u hc' hu).nrm⟩
theorem vo (hh:Heap P S w β aa) (place:Nat→Option (Nat×Nat)):∀(ops:List (Nat×Operand)) (ps:List (Nat×Nat)) (xs:List AV) (us:List Value) (cs out:List AV),(∀k:Nat,(ops[k]?).bind (fun p=>place p.1)=ps[k]?∨ps[k]?=none)→ps.length=ops.length→xs.length=ops.length→(∀(k:Nat) (p:Nat×Operand) (X:AV),ops[k]?=some p→xs[k]?=some X→RV P S w β (aG aa) (a.eval p.2) X)→lM P S w β (aG aa) us cs→kW cs ps xs=some out→∃us':List Value,Instr.fill place us.toArray (ops.map fun p=>(p.1,a.eval p.2))=some us'.toArray∧lM P S w β (aG aa) us' out
 |[],[],[],us,cs,out,_,_,_,_,hr,h=>by simp only[kW,qr]at h;subst h;exact⟨us,rfl,hr⟩|(i,z)::ops,(off,n)::ps,X::xs,us,cs,out,hp,hl1,hl2,hrv,hr,h=>by
  simp only[kW]at h;split at h
  ·rename_i hc;obtain⟨hok,hlen,hle⟩:=hc;have h0:=hp 0;simp at h0;have hX:=hrv 0 (i,z) X rfl rfl;have hcells:=(Ay hh hX hok).nrm;have hlen:((cellsOf X).map qx).length=n:=by rw[List.length_map];exact hlen
   have hsz:(a.eval z).cells.size=n:=by rw[←q83,hcells.1,hlen]
   have hin:off+(a.eval z).cells.size≤us.length:=by rw[hsz,hr.1];exact hle
   have hnext:=vo hh place ops ps xs (us.take off++(a.eval z).cells.toList++us.drop (off+(a.eval z).cells.size)) (lay cs off ((cellsOf X).map qx)) out (fun k=>by simpa using hp (k+1)) (by simpa using hl1) (by simpa using hl2) (fun k p Y h1 h2=>hrv (k+1) p Y h1 h2) (by unfold lay;rw[hsz,←hlen];exact((hr.take off).append hcells).append (hr.drop _)) h;obtain⟨us',hf,hr'⟩:=hnext;refine⟨us',?_,hr'⟩;simp only[q71,Instr.fill,h0];rw[if_neg (by simp[hsz];omega)];rw[show(fun(cs:Array Value) (x:Value×Nat)=>match x with|(c,j)=>cs.setIfInBounds (off+j) c)=fun(cs:Array Value) (p:Value×Nat)=>cs.setIfInBounds (off+p.2) p.1 from rfl];rw[sb _ off us hin];exact hf
  ·cases h
theorem uV {fs:Array Field}:∀(ops:List (Nat×Operand)) (ps:List (Nat×Nat)),qF P fs ops=some ps→ps.length=ops.length∧∀(k:Nat) (p:Nat×Operand),ops[k]?=some p→∃f n,fs[p.1]?=some f∧cz P f.type=some n∧ps[k]?=some (f.offset,n)
 |[],ps,h=>by simp[qF]at h;subst h;exact⟨rfl,fun k p hk=>by simp at hk⟩|(i,z)::ops,ps,h=>by
  simp only[qF]at h;split at h;·rename_i f r hf hr;obtain⟨n,hn,rfl⟩:=q0.1 h;obtain⟨h1,h2⟩:=uV ops r hr;refine⟨by simp[h1],fun k p hk=>?_⟩;cases k with|zero=>simp at hk;subst hk;exact⟨f,n,hf,hn,rfl⟩|succ k=>obtain⟨f',n',a1,a2,a3⟩:=h2 k p (by simpa using hk);exact⟨f',n',a1,a2,by simpa using a3⟩
  ·cases h
theorem run_places (fs:Array Field) (w:World) (h:fs.toList.all (fun f=>(P.info? f.type).isSome)=true):(fs.mapM fun f=>do pure (f.offset,←sizeOf f.type):Sem (Array (Nat×Nat))).run P w=.ok (fs.map fun f=>(f.offset,(cz P f.type).getD 0)) w:=by
 have key:∀(l:List Field),(∀f∈l,(P.info? f.type).isSome=true)→(l.mapM fun f=>do pure (f.offset,←sizeOf f.type):Sem (List (Nat×Nat))).run P w=.ok (l.map fun f=>(f.offset,(cz P f.type).getD 0)) w:=by intro l;induction l with|nil=>intro _;rfl|cons f l ih=>
  intro hl;obtain⟨i,hi⟩:=q129.1 (hl f (by simp));have hsz:cz P f.type=some i.size:=by simp[cz,hi]
  have ih':=ih (fun g hg=>hl g (by simp[hg]));simp only[q297,q185,qJ hi w,q153,q213,ih',q71,hsz,q98]
 have hl:∀f∈fs.toList,(P.info? f.type).isSome=true:=q90.1 h;rw[q271];rw[Sem.run_map,key fs.toList hl];simp[Result.andThen];apply q114;simp
theorem dS {t:TypeId} (h:dQ P t=some zs):∃i z,P.info? t=some i∧i.zero=some z∧z.cells.size=i.size∧zs=z.cells.toList:=by
 unfold dQ at h;obtain⟨i,hi,h⟩:=q63.1 h;obtain⟨z,hz,h⟩:=q63.1 h;split at h;·rename_i hs;injection h with h;exact⟨i,z,hi,hz,hs,h.symm⟩
 ·cases h
theorem Wk {t:TypeId}{ops:Array (Nat×Operand)}{ps:List (Nat×Nat)} (ho:o.op=.build t ops) (hz:dQ P t=some zs) (ht:P.underlying t=some (.struct fs)) (hall:fs.toList.all (fun f=>(P.info? f.type).isSome)=true) (hps:qF P fs ops.toList=some ps) (hh:Heap P S w β aa) (hev:∀z:Operand,asks (ev vars z)→RV P S w β (aG aa) (a.eval z) (strip (ev vars z))) (ha:aq ((ops.toList.map (·.2)).map (ev vars))) {v:AV} (h:al (.I5 zs ps) (((ops.toList.map (·.2)).map (ev vars)).map strip) aa=some (φ,v)) (hφ:φ):∃r,(execOp a.eval o).run P w=.ok (.value r) w∧RV P S w β (aG aa) r v:=by
 unfold al at h;simp only[q0]at h;obtain⟨cs,hcs,he⟩:=h;simp only[q70]at he;obtain⟨rfl,rfl⟩:=he;obtain⟨i,zv,hi,hzv,hzs,rfl⟩:=dS hz;obtain⟨hpl,hpg⟩:=uV ops.toList ps hps;have hasks:∀(l:List Operand) (k:Nat) (z:Operand),aq (l.map (ev vars))→l[k]?=some z→asks (ev vars z):=by intro l;induction l with|nil=>intro k z _ hk;simp at hk|cons y l ih=>intro k z h hk;cases k with|zero=>simp at hk;subst hk;exact h.1|succ k=>exact ih k z h.2 (by simpa using hk)
 have hplace:∀(k:Nat) (f:Field),fs[k]?=some f→(fs.map fun f=>(f.offset,(cz P f.type).getD 0))[k]?=some (f.offset,(cz P f.type).getD 0):=fun k f hf=>by simp[hf]
 obtain⟨us',hf,hr⟩:=vo (a:=a) hh (fun k=>(fs.map fun f=>(f.offset,(cz P f.type).getD 0))[k]?) ops.toList ps (((ops.toList.map (·.2)).map (ev vars)).map strip) zv.cells.toList (zv.cells.toList.map cv) cs (fun k=>by cases hk:ops.toList[k]? with|none=>refine .inr ?_;rw[q196]at hk ⊢;omega|some p=>obtain⟨f,n,h1,h2,h3⟩:=hpg k p hk;refine .inl ?_;rw[h3];simp only[q130];rw[hplace _ f h1,h2];rfl) hpl (by simp) (fun k p X h1 h2=>by
  have hk2:(ops.toList.map (·.2))[k]?=some p.2:=by simp[h1]
  have hX:X=strip (ev vars p.2):=by simp only[q77,h1,q116,qr]at h2;exact h2.symm
  subst hX;exact hev p.2 (hasks _ k _ ha hk2)) (lM.cv_ _ _) hcs;refine⟨.agg us'.toArray,?_,.agg _ _ hr.1 hr.2⟩;have hf':Instr.fill (fun k=>(fs.map fun f=>(f.offset,(cz P f.type).getD 0))[k]?) zv.cells (ops.toList.map fun p=>(p.1,a.eval p.2))=some us'.toArray:=by rw[←hf]
 have hzr:(zeroValue t).run P w=.ok zv w:=by simp[zeroValue,typeInfo,hi,hzv]
 have hml:(ops.map fun x=>(x.1,a.eval x.2)).toList=ops.toList.map fun p=>(p.1,a.eval p.2):=by simp
 simp only[execOp,ho];simp only[Instr.build,q185,hzr,q153,run_underlying ht,run_places fs w hall];rw[show(fun(x:Nat×Operand)=>match x with|(i,x)=>(i,a.eval x))=fun x=>(x.1,a.eval x.2) from rfl];rw[hml];simp only[hf',q185,q213,q153]
theorem Xi {caps:Array Operand} (ho:o.op=.makeFunc (.func f) #[] caps) (hev:∀z:Operand,asks (ev vars z)→RV P S w β (aG aa) (a.eval z) (strip (ev vars z))) (ha:aq (caps.toList.map (ev vars))) {v:AV} (h:al (.Jc f) ((caps.toList.map (ev vars)).map strip) aa=some (φ,v)) (hφ:φ):∃r,(execOp a.eval o).run P w=.ok (.value r) w∧RV P S w β (aG aa) r v:=by
 unfold al at h;simp only[qr,q70]at h;obtain⟨rfl,rfl⟩:=h;have key:∀l:List Operand,aq (l.map (ev vars))→lM P S w β (aG aa) (l.map a.eval) ((l.map (ev vars)).map strip):=by intro l;induction l with|nil=>intro _;exact .nil|cons z l ih=>intro h;exact .cons (hev z h.1) (ih h.2)
 have hr:=key caps.toList ha;refine⟨.func (.func f) #[] (caps.toList.map a.eval).toArray,?_,.bE f _ _ hr.1 hr.2⟩;have:(caps.toList.map a.eval).toArray=caps.map a.eval:=by apply q114;simp
 rw[this];simp[execOp,ho,Instr.makeFunc]
end
theorem cx (d:Nat) (o:AO) (aa:Nat→Option AO):bG [(d,o)] aa=aR d o aa:=by
 funext t;unfold bG aR ab;by_cases h:t=d;·simp[h]
 ·simp[h,ab]
section
variable{P:Program}{S0 L:Nat→Prop}{B0:Nat→Value}{w0 w:World}{N:Nat}{st:St}{a:Act}{β:Nat→Value}{x y z:Operand}{o:Oper}{d:Nat}
theorem sv (w:World):w.grownBy w none:=⟨rfl,rfl,rfl,q93 _,fun _ _ _=>rfl⟩
theorem aaF (h:Rel P S0 L B0 w0 N st a w β) (hd:d<N) (ht:st.aa d=none) (hi:(P.info? e).isSome=true):∃β',Rel P S0 L B0 w0 N ⟨put (some d) (.own d) st.vars,bG [(d,.arr e [])] st.aa⟩ (a.put (some d) (.slice none 0 0)) w β':=by obtain⟨inf,hi⟩:=q129.1 hi;have hf:=h.fresh hd ht (sv w) (v:=.slice none 0 0) (fun b hb=>by simp[cr]at hb) (o:=.arr e []) ⟨inf,[],hi,by rw[aY];exact q188 w 0 e inf.size,fun r hr=>by simp at hr,fun i j r p hr=>by simp at hr⟩;rw[cx];have hp:=hf.put (d:=some d) (r:=eG β d (.slice none 0 0) d) (v:=.own d) (fun s hs=>by injection hs with hs;omega) (.own d (bU.2 (.inl rfl)));rw[aY]at hp;exact⟨_,hp⟩
theorem cV (w:World) (o:Obj):w.grownBy (w.alloc o) none:=World.grownBy_alloc w o none
theorem Ee (h:Rel P S0 L B0 w0 N st a w β) (hd:d<N) (ht:st.aa d=none) {us:Array Value}{ty:TypeId} (hone:fB cs=true) (hhp:Heap P (aZ S0 w0.heap.size β st.aa w) w β st.aa) (hr:lM P (aZ S0 w0.heap.size β st.aa w) w β (aG st.aa) us.toList cs):∃β',Rel P S0 L B0 w0 N ⟨put (some d) (.ptr d 0) st.vars,bG [(d,.box cs)] st.aa⟩ (a.put (some d) (.pointer (some ⟨w.heap.size,0,none⟩))) (w.alloc (.cells us ty)) β':=by
 have hb:∀b,cr (.pointer (some ⟨w.heap.size,0,none⟩))=some b→w.heap.size≤b:=fun b hb=>by simp[cr]at hb;omega
 have hm:=h.lr ht (cV w (.cells us ty)) (v:=.pointer (some ⟨w.heap.size,0,none⟩)) hb (o:=.box cs);have honeAt:∀(l:List AV) (i:Nat) (c:AV),fB l=true→l[i]?=some c→ez c=true:=by intro l;induction l with|nil=>intro i c _ hc;simp at hc|cons y l ih=>intro i c h hc;simp only[fB,q73]at h;cases i with|zero=>simp at hc;subst hc;exact h.1|succ i=>exact ih i c h.2 (by simpa using hc)
 have hf:=h.fresh hd ht (cV w (.cells us ty)) (v:=.pointer (some ⟨w.heap.size,0,none⟩)) hb (o:=.box cs) ⟨w.heap.size,us,ty,aY _ _ _,heap_alloc_new w _,by rw[←q83];exact hr.1,fun i c u hc hu=>by have hrv:=hr.2 i c u hc (by simpa using hu);exact⟨(kI hhp hrv (honeAt cs i c hone hc)).1,hrv.mono hm.1 hm.2⟩⟩;rw[cx];exact⟨_,hf.put (d:=some d) (fun s hs=>by injection hs with hs;omega) (.ptr d 0 w.heap.size (bU.2 (.inl rfl)) (aY _ _ _))⟩
theorem XX (ho:o.op=.box e x) (h:Rel P S0 L B0 w0 N st a w β) (hd:d<N) (ht:st.aa d=none) (hX:RV P (aZ S0 w0.heap.size β st.aa w) w β (aG st.aa) (a.eval x) X) {v:AV} (hs:cG .box d [X] st.aa=some (φ,v,ao)):∃r w',(execOp a.eval o).run P w=.ok (.value r) w'∧∃β',Rel P S0 L B0 w0 N ⟨put (some d) v st.vars,bG [(d,ao)] st.aa⟩ (a.put (some d) r) w' β':=by
 simp only[cG]at hs;split at hs
 ·rename_i hone;simp only[qr,q70]at hs;obtain⟨rfl,rfl,rfl⟩:=hs;have hpo:mG X=true:=by cases X with|agg cs=>rfl|_=>simpa[cellsOf,fB,mG]using hone
  have hr:=Ay h.heap hX hpo;obtain⟨β',hR⟩:=Ee (ty:=e) h hd ht hone h.heap hr;exact⟨_,_,by simp[execOp,ho,Instr.box,newVar,newRow],β',hR⟩
 ·cases hs
theorem D0:∀zs:List Value,zs.all (fun z=>z.oneCell')=true→fB (zs.map cv)=true|[],_=>rfl|z::zs,h=>by simp only[List.all_cons,q73]at h;simp only[q71,fB,q73];refine⟨?_,D0 zs h.2⟩;unfold cv;rw[if_pos h.1];unfold su;split<;>first|rfl|exact h.1
theorem JS  (ho:o.op=.alloc e) (hz:dQ P e=some zs) (h:Rel P S0 L B0 w0 N st a w β) (hd:d<N) (ht:st.aa d=none) {xs:List AV}{v:AV} (hs:cG (.alloc zs) d xs st.aa=some (φ,v,ao)):∃r w',(execOp a.eval o).run P w=.ok (.value r) w'∧∃β',Rel P S0 L B0 w0 N ⟨put (some d) v st.vars,bG [(d,ao)] st.aa⟩ (a.put (some d) r) w' β':=by
 obtain⟨i,zv,hi,hzv,hzs,rfl⟩:=dS hz;unfold cG at hs;simp only at hs;split at hs
 ·rename_i hone;simp only[qr,q70]at hs;obtain⟨rfl,rfl,rfl⟩:=hs;obtain⟨β',hR⟩:=Ee (ty:=e) (us:=zv.cells) h hd ht (D0 _ hone) h.heap (lM.cv_ _ _);have hzr:(zeroValue e).run P w=.ok zv w:=by simp[zeroValue,typeInfo,hi,hzv]
  exact⟨_,_,by simp[execOp,ho,Instr.alloc,hzr,newVar,newRow],β',hR⟩
 ·cases hs
theorem dt.one {S:Nat→Prop}{u:Value} (h:dt S w u p):ez (.pv p)=true:=by cases h with|val v h=>exact h|_=>rfl
theorem jE (hh:Heap P (aZ S0 w0.heap.size β st.aa w) w β st.aa) {S:Nat→Prop} (hS:S=aZ S0 w0.heap.size β st.aa w) {u:Value}{r:List PV} (h:RV P S w β (aG st.aa) u X) (hr:rowOf X=some r):u.cells.toList.length=r.length∧∀(j:Nat) (p:PV),r[j]?=some p→∃c,u.cells.toList[j]?=some c∧c.oneCell'=true∧dt S w c p:=by subst hS;cases X with
 |pv p=>simp only[rowOf,qr]at hr;subst hr;have h1:=kI hh h h.bq.one;rw[h1.2];refine⟨rfl,fun j q hq=>?_⟩;cases j with|zero=>simp at hq;subst hq;exact⟨u,rfl,h1.1,h.bq⟩|succ j=>simp at hq
 |agg cs=>
  obtain⟨us,rfl,hl,hc⟩:=h.da;have key:∀(cs:List AV) (r:List PV),fc cs=some r→r.length=cs.length∧∀(j:Nat) (p:PV),r[j]?=some p→cs[j]?=some (.pv p):=by intro cs;induction cs with|nil=>intro r hr;simp[fc]at hr;subst hr;exact⟨rfl,fun j p hp=>by simp at hp⟩|cons c cs ih=>intro r hr;simp only[fc,q63,q0]at hr;obtain⟨p,hp,ps,hps,rfl⟩:=hr;obtain⟨h1,h2⟩:=ih ps hps;refine⟨by simp[h1],fun j q hq=>?_⟩;cases j with|zero=>simp at hq;subst hq;cases c<;>simp[FQ]at hp;subst hp;rfl|succ j=>simpa using h2 j q (by simpa using hq)
  obtain⟨k1,k2⟩:=key cs r hr;refine⟨by simp[Value.cells,hl,k1],fun j p hp=>?_⟩;have hcj:=k2 j p hp;have hlt:j<us.length:=by rw[hl];exact(q65.1 hcj).1
  have hu:us[j]?=some us[j]:=q64 hlt;have hrv:=hc j _ _ hcj hu;refine⟨us[j],by simp[Value.cells,hlt],?_,hrv.bq⟩;exact(kI hh hrv hrv.bq.one).1|_=>simp[rowOf]at hr
theorem wW (sz:Nat) (ev:Operand→Value):∀(ops:List (Nat×Operand)) (k:Nat) (us:List Value),(ops.map (·.1))=List.range' k ops.length→us.length=(k+ops.length)*sz→(∀p∈ops,(ev p.2).cells.size=sz)→Instr.fill (fun i=>some (i*sz,sz)) us.toArray (ops.map fun p=>(p.1,ev p.2))=some (us.take (k*sz)++ops.flatMap fun p=>(ev p.2).cells.toList).toArray
 |[],k,us,_,hl,_=>by simp only[q117,Instr.fill,q234,q147];rw[List.take_of_length_le (by simp at hl;omega)]|(i,z)::ops,k,us,hr,hl,hsz=>by
  simp only[q71,q79,List.range'_succ,q110]at hr;obtain⟨rfl,hr⟩:=hr;have hz:=hsz (i,z) (by simp);have hz':(ev z).cells.size=sz:=hz;have hin:i*sz+(ev z).cells.size≤us.length:=by rw[hz',hl];simp only[q79];rw[←q118];exact q86 _ (by omega)
  simp only[q71,Instr.fill];rw[if_neg (by simp[hz'];omega)];rw[show(fun(cs:Array Value) (x:Value×Nat)=>match x with|(c,j)=>cs.setIfInBounds (i*sz+j) c)=fun(cs:Array Value) (p:Value×Nat)=>cs.setIfInBounds (i*sz+p.2) p.1 from rfl];rw[sb _ (i*sz) us hin];have hlt:(us.take (i*sz)).length=i*sz:=by rw[q67];omega
  have hlc:(ev z).cells.toList.length=sz:=by simpa using hz'
  rw[wW sz ev ops (i+1) _ hr (by
   simp only[q74,q94,hlt,hlc,hz',hl,q79];have:(i+(ops.length+1))*sz=i*sz+(ops.length+1)*sz:=q150 _ _ _;have h2:(ops.length+1)*sz=ops.length*sz+sz:=q118 _ _;have h3:(i+1+ops.length)*sz=i*sz+sz+ops.length*sz:=by rw[q150,q150,q292]
   omega) (fun p hp=>hsz p (by simp[hp]))];have:(i+1)*sz=i*sz+sz:=q118 _ _;rw[this];have e1:List.take (i*sz+sz) (List.take (i*sz) us++(ev z).cells.toList++List.drop (i*sz+(ev z).cells.size) us)=List.take (i*sz) us++(ev z).cells.toList:=by rw[q122 (by simp[hlt,hlc])];rw[List.take_of_length_le (by rw[q74,hlt,hlc];omega)]
  rw[e1];simp
theorem pG (sz:Nat):∀(l:List (List Value)) (i j:Nat),(∀r∈l,r.length=sz)→j<sz→(l.flatMap id)[i*sz+j]?=(l[i]?).bind (·[j]?)
 |[],i,j,_,_=>by simp|r::l,0,j,h,hj=>by simp only[Nat.zero_mul,q133,q106,id,q69,q130];rw[q85 (by rw[h r (by simp)];exact hj)]|r::l,i+1,j,h,hj=>by
  have hr:=h r (by simp);have hm:(i+1)*sz+j=r.length+(i*sz+j):=by rw[hr,q118];omega
  simp only[q106,id,q171];rw[hm,q97 (by omega),q228];exact pG sz l i j (fun r hr=>h r (by simp[hr])) hj
theorem nX:∀(xs:List AV) (rows:List (List PV)),rowsOf xs=some rows→rows.length=xs.length∧∀(i:Nat) (r:List PV),rows[i]?=some r→∃X,xs[i]?=some X∧rowOf X=some r|[],rows,h=>by simp[rowsOf]at h;subst h;exact⟨rfl,fun i r hr=>by simp at hr⟩|X::xs,rows,h=>by simp only[rowsOf,q63,q0]at h;obtain⟨p,hp,ps,hps,rfl⟩:=h;obtain⟨h1,h2⟩:=nX xs ps hps;refine⟨by simp[h1],fun i r hr=>?_⟩;cases i with|zero=>simp at hr;subst hr;exact⟨X,rfl,hp⟩|succ i=>obtain⟨Y,h3,h4⟩:=h2 i r (by simpa using hr);exact⟨Y,by simpa using h3,h4⟩
theorem lY {vars:Nat→AV}:∀(l:List Operand) (k:Nat) (z:Operand),aq (l.map (ev vars))→l[k]?=some z→asks (ev vars z)|[],k,z,_,hk=>by simp at hk|y::l,0,z,h,hk=>by simp at hk;subst hk;exact h.1|y::l,k+1,z,h,hk=>lY l k z h.2 (by simpa using hk)
theorem yh {t e:TypeId}{i:TypeInfo}{zv:Value}{ops:Array (Nat×Operand)} (ho:o.op=.buildSlice t n ops) (hu:P.underlying t=some (.slice e)) (hsz:cz P e=some sz) (hi:P.info? e=some i) (hzv:i.zero=some zv) (hzl:zv.cells.toList.length=sz) (hord:ops.toList.map (·.1)=List.range n) (hbig:n*sz≤2^24) (hlen:ops.toList.length=n) (hcsz:∀p∈ops.toList,(a.eval p.2).cells.size=sz):(ops.toList.flatMap fun p=>(a.eval p.2).cells.toList).length=n*sz∧(execOp a.eval o).run P w=.ok (.value (.slice (some ⟨w.heap.size,0,none⟩) n n)) (w.alloc (.cells (ops.toList.flatMap fun p=>(a.eval p.2).cells.toList).toArray e)):=by
 let us:List Value:=ops.toList.flatMap fun p=>(a.eval p.2).cells.toList;have hus:us=(ops.toList.map fun p=>(a.eval p.2).cells.toList).flatMap id:=by simp[us,q276]
 have hsum:∀l:List (Nat×Operand),(∀p∈l,(a.eval p.2).cells.size=sz)→(l.flatMap fun p=>(a.eval p.2).cells.toList).length=l.length*sz:=by intro l;induction l with|nil=>intro _;simp|cons p l ih=>intro hl;simp only[q106,q74,q83,hl p (by simp),ih (fun q hq=>hl q (by simp[hq])),q79,q118];omega
 have husl:us.length=n*sz:=by rw[hsum ops.toList hcsz,hlen]
 have hfill:=wW sz a.eval ops.toList 0 ((Array.range (n*sz)).map (fun i=>zv.cells[i%zv.cells.size]!)).toList (by rw[hord,hlen,List.range_eq_range']) (by simp[hlen]) hcsz;have hzr:(zeroValue e).run P w=.ok zv w:=by simp[zeroValue,typeInfo,hi,hzv]
 have hml:(ops.map fun x=>(x.1,a.eval x.2)).toList=ops.toList.map fun p=>(p.1,a.eval p.2):=by simp
 have hfn:(fun(x:Nat×Operand)=>match x with|(i,x)=>(i,a.eval x))=fun x=>(x.1,a.eval x.2):=rfl;have hrun:(execOp a.eval o).run P w=.ok (.value (.slice (some ⟨w.heap.size,0,none⟩) n n)) (w.alloc (.cells us.toArray e)):=by
  simp only[execOp,ho,hfn];have hnb:¬(n*sz>2^24):=by omega
  by_cases h0:n*sz=0
  ·have hfill0:Instr.fill (fun i=>some (i*sz,sz)) ((Array.range 0).map fun i=>(#[]:Array Value)[i%(#[]:Array Value).size]!) (ops.map fun x=>(x.1,a.eval x.2)).toList=some us.toArray:=by
    rw[hml];have h2:((Array.range (n*sz)).map (fun i=>zv.cells[i%zv.cells.size]!)).toList.toArray=(Array.range 0).map fun i=>(#[]:Array Value)[i%(#[]:Array Value).size]!:=by rw[h0];simp
    rw[←h2];simpa[us]using hfill
   simp only[Instr.buildSlice,q185,run_underlying hu,q153,eA hsz,hnb,if_false,h0,if_true,q213,hfill0,newRow,run_newObj,show¬(0:Nat)>2^24 from by omega];rfl
  ·have hfill1:Instr.fill (fun i=>some (i*sz,sz)) ((Array.range (n*sz)).map fun i=>zv.cells[i%zv.cells.size]!) (ops.map fun x=>(x.1,a.eval x.2)).toList=some us.toArray:=by rw[hml,show((Array.range (n*sz)).map fun i=>zv.cells[i%zv.cells.size]!)=((Array.range (n*sz)).map fun i=>zv.cells[i%zv.cells.size]!).toList.toArray from by rw[q135]];rw[hfill];simp[us]
   simp only[Instr.buildSlice,q185,run_underlying hu,q153,eA hsz,hnb,if_false,h0,q213,hzr,hfill1,newRow,run_newObj];rfl
 exact⟨husl,hrun⟩
theorem Nw {t e:TypeId}{ops:Array (Nat×Operand)} (ho:o.op=.buildSlice t n ops) (hu:P.underlying t=some (.slice e)) (hsz:cz P e=some sz) (hz:dQ P e=some zs) (hord:ops.toList.map (·.1)=List.range n) (hbig:n*sz≤2^24) (hzl:zs.length=sz) (hpos:0<sz) (h:Rel P S0 L B0 w0 N st a w β) (hd:d<N) (ht:st.aa d=none) (hev:∀z:Operand,asks (ev st.vars z)→RV P (aZ S0 w0.heap.size β st.aa w) w β (aG st.aa) (a.eval z) (strip (ev st.vars z))) (ha:aq ((ops.toList.map (·.2)).map (ev st.vars))) {v:AV} (hs:cG (.sJ e sz) d (((ops.toList.map (·.2)).map (ev st.vars)).map strip) st.aa=some (φ,v,ao)) (hφ:φ):∃r w',(execOp a.eval o).run P w=.ok (.value r) w'∧∃β',Rel P S0 L B0 w0 N ⟨put (some d) v st.vars,bG [(d,ao)] st.aa⟩ (a.put (some d) r) w' β':=by
 obtain⟨inf,hi,hinf⟩:=gv hsz;obtain⟨i,zv,hi',hzv,hzs,rfl⟩:=dS hz;have:i=inf:=by rw[hi]at hi';injection hi' with hi';exact hi'.symm
 subst this;unfold cG at hs;simp only[q0]at hs;obtain⟨rows,hrows,he⟩:=hs;simp only[q70]at he;obtain⟨rfl,rfl,rfl⟩:=he;have hlen:ops.toList.length=n:=by have:=congrArg List.length hord;simpa using this
 obtain⟨hrl,hrg⟩:=nX _ rows hrows;have hrl':rows.length=n:=by rw[hrl];simp[hlen]
 have hrv:∀(k:Nat) (p:Nat×Operand),ops.toList[k]?=some p→∃r,rows[k]?=some r∧RV P (aZ S0 w0.heap.size β st.aa w) w β (aG st.aa) (a.eval p.2) (strip (ev st.vars p.2))∧rowOf (strip (ev st.vars p.2))=some r:=by
  intro k p hk;have hlt:k<rows.length:=by rw[hrl',←hlen];exact(q65.1 hk).1
  have hr:rows[k]?=some rows[k]:=q64 hlt;obtain⟨X,hX,hro⟩:=hrg k _ hr;have hXe:X=strip (ev st.vars p.2):=by simp only[q77,hk,q116,qr]at hX;exact hX.symm
  subst hXe;have hk2:(ops.toList.map (·.2))[k]?=some p.2:=by simp[hk]
  exact⟨_,hr,hev p.2 (lY _ k _ ha hk2),hro⟩
 have hcsz:∀p∈ops.toList,(a.eval p.2).cells.size=sz:=by intro p hp;obtain⟨k,hk⟩:=q101 hp;obtain⟨r,h1,h2,h3⟩:=hrv k p hk;have:=(jE h.heap rfl h2 h3).1;rw[hφ r (List.mem_of_getElem? h1)]at this;simpa using this
 let us:List Value:=ops.toList.flatMap fun p=>(a.eval p.2).cells.toList;have hus:us=(ops.toList.map fun p=>(a.eval p.2).cells.toList).flatMap id:=by simp[us,q276]
 obtain⟨husl,hrun⟩:us.length=n*sz∧(execOp a.eval o).run P w=.ok (.value (.slice (some ⟨w.heap.size,0,none⟩) n n)) (w.alloc (.cells us.toArray e)):=yh (w:=w) ho hu hsz hi hzv hzl hord hbig hlen hcsz;have hb:∀b,cr (.slice (some ⟨w.heap.size,0,none⟩) n n)=some b→w.heap.size≤b:=fun b hb=>by simp[cr]at hb;omega
 have hm:=h.lr ht (cV w (.cells us.toArray e)) (v:=.slice (some ⟨w.heap.size,0,none⟩) n n) hb (o:=.arr e rows);have hnm:n≤maxLen:=by have:n*1≤n*sz:=Nat.mul_le_mul_left _ hpos;simp only[maxLen];omega
 have hf:=h.fresh hd ht (cV w (.cells us.toArray e)) (v:=.slice (some ⟨w.heap.size,0,none⟩) n n) hb (o:=.arr e rows) ⟨i,us,hi,by rw[aY,hrl',hinf];exact⟨husl,.inr ⟨w.heap.size,n,us.toArray,rfl,q126 _,heap_alloc_new w _,q93 _,hnm,by simpa using husl,by rw[←husl];simp⟩⟩,fun r hr=>by rw[hinf];exact hφ r hr,fun k j r p hr hp=>by
  have hlt:k<ops.toList.length:=by rw[hlen,←hrl'];exact(q65.1 hr).1
  have hk:ops.toList[k]?=some ops.toList[k]:=q64 hlt;obtain⟨r',h1,h2,h3⟩:=hrv k _ hk;rw[hr]at h1;injection h1 with h1;subst h1;have hc:=jE h.heap rfl h2 h3;obtain⟨c,hc1,hc2,hc3⟩:=hc.2 j p hp;have hj:j<sz:=by rw[←hφ r (List.mem_of_getElem? hr)];exact(q65.1 hp).1
  refine⟨c,?_,hc2,hc3.mono hm.1⟩;rw[hus,hinf,pG sz _ k j (fun q hq=>by obtain⟨p',hp',rfl⟩:=q84.1 hq;simpa using hcsz p' hp') hj];rw[q77,hk];simpa using hc1⟩;rw[cx];have hp:=hf.put (d:=some d) (r:=eG β d (.slice (some ⟨w.heap.size,0,none⟩) n n) d) (v:=.own d) (fun s hs=>by injection hs with hs;omega) (.own d (bU.2 (.inl rfl)));rw[aY]at hp;exact⟨_,_,hrun,_,hp⟩
theorem Rel.grow {w':World} (h:Rel P S0 L B0 w0 N st a w β) (hg:w.grownBy w' none):Rel P S0 L B0 w0 N st a w' β∧(∀b,aZ S0 w0.heap.size β st.aa w b→aZ S0 w0.heap.size β st.aa w' b∧w'.heap[b]?=w.heap[b]?):=by have hsame:∀b,b<w.heap.size→w'.heap[b]?=w.heap[b]?:=fun b hb=>hg.block b hb (by simp);have hm:∀b,aZ S0 w0.heap.size β st.aa w b→aZ S0 w0.heap.size β st.aa w' b∧w'.heap[b]?=w.heap[b]?:=fun b hb=>⟨⟨hb.1,q95 hb.2.1 hg.size,hb.2.2⟩,hsame b hb.2.1⟩;have hD:∀s,aG st.aa s→aG st.aa s∧β s=β s:=fun s hs=>⟨hs,rfl⟩;exact⟨⟨h.size,h.defers,fun s=>(h.vars s).mono hm hD,⟨fun s o hs=>(h.heap.holds s o hs).mono hm hD rfl (fun b hb=>hsame b (h.lt ⟨o,hs⟩ hb)),h.heap.inj⟩,h.old,h.qb,h.vw,⟨hg.os.trans h.bZ.os,hg.tape.trans h.bZ.tape,hg.output.trans h.bZ.output,q113 h.bZ.size hg.size,fun b h1 h2=>(hsame b (by have:=h.bZ.size;omega)).trans (h.bZ.block b h1 h2)⟩⟩,hm⟩
theorem Oz {t e:TypeId}{ops:Array (Nat×Operand)} (ho:o.op=.buildSlice t n ops) (hu:P.underlying t=some (.slice e)) (hsz:cz P e=some sz) (hz:dQ P e=some zs) (hord:ops.toList.map (·.1)=List.range n) (hbig:n*sz≤2^24) (hzl:zs.length=sz) (hpos:0<sz) (h:Rel P S0 L B0 w0 N st a w β) (hev:∀z:Operand,asks (ev st.vars z)→RV P (aZ S0 w0.heap.size β st.aa w) w β (aG st.aa) (a.eval z) (strip (ev st.vars z))) (ha:aq ((ops.toList.map (·.2)).map (ev st.vars))) (hrows:rowsOf (((ops.toList.map (·.2)).map (ev st.vars)).map strip)=some rows) (hφ:∀r∈rows,r.length=sz):∃r w',(execOp a.eval o).run P w=.ok (.value r) w'∧Rel P S0 L B0 w0 N st a w' β∧RV P (aZ S0 w0.heap.size β st.aa w') w' β (aG st.aa) r (.pv (.ro rows)):=by
 obtain⟨inf,hi,hinf⟩:=gv hsz;obtain⟨i,zv,hi',hzv,hzs,rfl⟩:=dS hz;have:i=inf:=by rw[hi]at hi';injection hi' with hi';exact hi'.symm
 subst this;have hlen:ops.toList.length=n:=by have:=congrArg List.length hord;simpa using this
 obtain⟨hrl,hrg⟩:=nX _ rows hrows;have hrl':rows.length=n:=by rw[hrl];simp[hlen]
 have hrv:∀(k:Nat) (p:Nat×Operand),ops.toList[k]?=some p→∃r,rows[k]?=some r∧RV P (aZ S0 w0.heap.size β st.aa w) w β (aG st.aa) (a.eval p.2) (strip (ev st.vars p.2))∧rowOf (strip (ev st.vars p.2))=some r:=by
  intro k p hk;have hlt:k<rows.length:=by rw[hrl',←hlen];exact(q65.1 hk).1
  have hr:rows[k]?=some rows[k]:=q64 hlt;obtain⟨X,hX,hro⟩:=hrg k _ hr;have hXe:X=strip (ev st.vars p.2):=by simp only[q77,hk,q116,qr]at hX;exact hX.symm
  subst hXe;have hk2:(ops.toList.map (·.2))[k]?=some p.2:=by simp[hk]
  exact⟨_,hr,hev p.2 (lY _ k _ ha hk2),hro⟩
 have hcsz:∀p∈ops.toList,(a.eval p.2).cells.size=sz:=by intro p hp;obtain⟨k,hk⟩:=q101 hp;obtain⟨r,h1,h2,h3⟩:=hrv k p hk;have:=(jE h.heap rfl h2 h3).1;rw[hφ r (List.mem_of_getElem? h1)]at this;simpa using this
 let us:List Value:=ops.toList.flatMap fun p=>(a.eval p.2).cells.toList;have hus:us=(ops.toList.map fun p=>(a.eval p.2).cells.toList).flatMap id:=by simp[us,q276]
 obtain⟨husl,hrun⟩:us.length=n*sz∧(execOp a.eval o).run P w=.ok (.value (.slice (some ⟨w.heap.size,0,none⟩) n n)) (w.alloc (.cells us.toArray e)):=yh (w:=w) ho hu hsz hi hzv hzl hord hbig hlen hcsz;obtain⟨hR,hm⟩:=h.grow (cV w (.cells us.toArray e));refine⟨_,_,hrun,hR,.pv _ _ ?_⟩;have hcell:∀k j,k<rows.length→j<sz→∃(r:List PV) (p:PV) (c:Value),rows[k]?=some r∧r[j]?=some p∧us[k*sz+j]?=some c∧c.oneCell'=true∧dt (aZ S0 w0.heap.size β st.aa w) w c p:=by
  intro k j hkl hj;have hlt:k<ops.toList.length:=by omega
  have hk:ops.toList[k]?=some ops.toList[k]:=q64 hlt;obtain⟨r,h1,h2,h3⟩:=hrv k _ hk;have hrj:j<r.length:=by rw[hφ r (List.mem_of_getElem? h1)];exact hj
  have hc:=jE h.heap rfl h2 h3;obtain⟨c,hc1,hc2,hc3⟩:=hc.2 j r[j] (q64 hrj);refine⟨r,r[j],c,h1,q64 hrj,?_,hc2,hc3⟩;rw[hus,pG sz _ k j (fun q hq=>by obtain⟨p',hp',rfl⟩:=q84.1 hq;simpa using hcsz p' hp') hj];rw[q77,hk];simpa using hc1
 rw[←hrl'];refine .ro ⟨w.heap.size,0,none⟩ rows.length rows sz (fun k j=>us.getD (k*sz+j) .nilIface) ⟨.inr h.bZ.size,?_,?_⟩ (q93 _) hφ (fun k j hk hj=>?_) (fun k j r p hr hp=>?_) (fun k j r p hr hp=>?_);·show w.heap.size<(w.heap.push _).size;simp
 ·rintro⟨s,o',hs,hb⟩;exact Nat.lt_irrefl _ (h.lt ⟨o',hs⟩ hb)
 ·obtain⟨r,p,c,_,_,hc,_⟩:=hcell k j hk hj;rw[q100];show World.cell? _ _=_;simp only[World.cell?,heap_alloc_new,q78,hc];simp[hc]
 ·have hk:=(q65.1 hr).1;have hj:j<sz:=by rw[←hφ r (List.mem_of_getElem? hr)];exact(q65.1 hp).1
  obtain⟨r',p',c,h1,h2,hc,hone,_⟩:=hcell k j hk hj;simp only[q78,hc,q98];exact hone
 ·have hk:=(q65.1 hr).1;have hj:j<sz:=by rw[←hφ r (List.mem_of_getElem? hr)];exact(q65.1 hp).1
  obtain⟨r',p',c,h1,h2,hc,_,hv⟩:=hcell k j hk hj;rw[hr]at h1;injection h1 with h1;subst h1;rw[hp]at h2;injection h2 with h2;subst h2;simp only[q78,hc,q98];exact hv.mono hm
theorem Sa {x:Operand} (ho:o.op=.convert src dst x) (hs:P.underlying src=some .string) (hd:P.underlying dst=some (.slice e)) (he:P.underlying e=some (.int .u8)) (h:Rel P S0 L B0 w0 N st a w β) {l:List UInt8} (hx:a.eval x=.string ⟨l.toArray⟩):∃r w',(execOp a.eval o).run P w=.ok (.value r) w'∧Rel P S0 L B0 w0 N st a w' β∧RV P (aZ S0 w0.heap.size β st.aa w') w' β (aG st.aa) r (.pv (.ro (bytesRow l))):=by
 have hsz:(⟨l.toArray⟩:ByteArray).size=l.length:=by show l.toArray.size=_;simp
 have hrun:=run_bytes_of_string (P:=P) w src dst e ⟨l.toArray⟩ hs hd he;rw[hsz]at hrun;generalize hob:Obj.cells (_root_.Go.bytesRow ⟨l.toArray⟩ (grownCap w l.length 0 e)) e ((_root_.Go.bytesRow ⟨l.toArray⟩ (grownCap w l.length 0 e)).size,(_root_.Go.bytesRow ⟨l.toArray⟩ (grownCap w l.length 0 e)).size+1)=ob at hrun;have hg:w.grownBy (w.drew.alloc ob) none:=⟨rfl,rfl,rfl,by simp,fun k hk _=>q201 w.drew _ k hk⟩;obtain⟨hR,hm⟩:=h.grow hg;have hlen:(bytesRow l).length=l.length:=by simp[bytesRow]
 have hrun2:(execOp a.eval o).run P w=.ok (.value (.slice (some ⟨w.heap.size,0,none⟩) l.length (grownCap w l.length 0 e))) (w.drew.alloc ob):=by simp[execOp,ho,hx,hrun]
 refine⟨_,_,hrun2,hR,.pv _ _ ?_⟩;have hat:∀i,i<l.length→(bytesRow l)[i]?=some [.int .u8 ((l.getD i 0).toNat:Int)]:=by intro i hi;simp[bytesRow,hi]
 have hge:l.length≤grownCap w l.length 0 e:=grownCap_ge w _ 0 e;rw[←hlen]at hge;rw[←hlen];refine .ro ⟨w.heap.size,0,none⟩ _ (bytesRow l) 1 (fun k _=>.int .u8 ((l.getD k 0).toNat:Int)) ⟨.inr h.bZ.size,?_,?_⟩ ?_ (fun r hr=>?_) (fun k j hk hj=>?_) (fun k j r p hr hp=>rfl) (fun k j r p hr hp=>?_);·show w.heap.size<(w.heap.push _).size;simp
 ·rintro⟨s,o',hs,hb⟩;exact Nat.lt_irrefl _ (h.lt ⟨o',hs⟩ hb)
 ·rw[hlen]at hge ⊢;exact hge
 ·simp only[bytesRow,q84]at hr;obtain⟨c,_,rfl⟩:=hr;rfl
 ·rw[hlen]at hk;have hj:j=0:=by omega
  subst hj;rw[q100];show World.cell? _ _=_;have hnew:(w.drew.alloc ob).heap[w.heap.size]?=some ob:=heap_alloc_new w.drew _;simp only[World.cell?,hnew];rw[←hob];show(_root_.Go.bytesRow ⟨l.toArray⟩ (grownCap w l.length 0 e))[0+(k*1+0)]?=_;simp[_root_.Go.bytesRow,hk,Array.getElem?_append]
 ·have hk:=(q65.1 hr).1;rw[hlen]at hk;rw[hat k hk]at hr;cases hr;have hj:j<1:=(q65.1 hp).1;have hj:j=0:=by omega
  subst hj;cases hp;exact .int _ _
end
end Go.Proofs.YtlicclncicbajaaGreat.Ab
