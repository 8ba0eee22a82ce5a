/- The abstract machine is sound, third part: operations that read. -/
import Derived.Test.YtlicclncicbajaaGreatY2
import Derived.Lib.MinMax
import Derived.Lib.BufferRead
import Derived.Laws.IdiomStrings
import Derived.Lib.Strings
set_option linter.unusedVariables false
set_option linter.unusedSimpArgs false
set_option linter.unnecessarySimpa false
set_option maxHeartbeats 40000000
set_option maxRecDepth 100000
namespace Go.Proofs.YtlicclncicbajaaGreat.Ab
open Go Go.RowKit
section
variable{P:Program}{S:Nat→Prop}{w:World}{β:Nat→Value}{D:Nat→Prop}{v:Value}
theorem cZ.aI {k:IntKind}{n:Int} (h:cZ S w v (.int k n)):v=.int k n:=by cases h;rfl
theorem cZ.eP {b:Bool} (h:cZ S w v (.bool b)):v=.bool b:=by cases h;rfl
theorem cZ.ew {l:List UInt8} (h:cZ S w v (.str l)):v=.string ⟨l.toArray⟩:=by cases h;rfl
theorem cZ.eb (h:cZ S w v .nil):v=.slice none 0 0:=by cases h;rfl
theorem RV.bh {p:PV} (h:RV P S w β D v (.pv p)):cZ S w v p:=by cases h;assumption
theorem RV.aI {k:IntKind}{n:Int} (h:RV P S w β D v (.pv (.int k n))):v=.int k n:=h.bh.aI
theorem RV.eP {b:Bool} (h:RV P S w β D v (.pv (.bool b))):v=.bool b:=h.bh.eP
theorem RV.ew {l:List UInt8} (h:RV P S w β D v (.pv (.str l))):v=.string ⟨l.toArray⟩:=h.bh.ew
theorem RV.aR {t:Nat} (h:RV P S w β D v (.own t)):v=β t∧D t:=by cases h;exact⟨rfl,by assumption⟩
theorem RV.dX {t o:Nat} (h:RV P S w β D v (.ptr t o)):∃b,v=.pointer (some ⟨b,o,none⟩)∧D t∧β t=.pointer (some ⟨b,0,none⟩):=by cases h with|ptr _ _ b h hb=>exact⟨b,rfl,h,hb⟩
theorem RV.fA {t:Nat}{e:TypeId}{i:Int}{o:Nat} (h:RV P S w β D v (.aZ t e i o)):∃b n c inf,v=.pointer (some ⟨b,i.toNat*inf.size+o,none⟩)∧D t∧P.info? e=some inf∧β t=.slice (some ⟨b,0,none⟩) n c:=by cases h with|aZ _ _ _ _ b n c inf h hi hb=>exact⟨b,n,c,inf,rfl,h,hi,hb⟩
theorem RV.iK {cs:List PV} (h:RV P S w β D v (.rp cs)):∃(ad:Addr) (us:Nat→Value),v=.pointer (some ad)∧S ad.block∧(∀j,j<cs.length→w.cell? (ad.add j)=some (us j))∧(∀(j:Nat) (p:PV),cs[j]?=some p→(us j).oneCell'=true)∧(∀(j:Nat) (p:PV),cs[j]?=some p→cZ S w (us j) p):=by cases h with|rp ad _ us h1 h2 h3 h4=>exact⟨ad,us,rfl,h1,h2,h3,h4⟩
theorem RV.cN {cs:List AV} (h:RV P S w β D v (.agg cs)):∃us:List Value,v=.agg us.toArray∧us.length=cs.length∧(∀(i:Nat) (c:AV) (u:Value),cs[i]?=some c→us[i]?=some u→RV P S w β D u c):=by cases h with|agg _ us hl h=>exact⟨us,rfl,hl,h⟩
theorem RV.jk {cs:List AV} (h:RV P S w β D v (.aJ cs)):∃us:List Value,v=.tuple us.toArray∧us.length=cs.length∧(∀(i:Nat) (c:AV) (u:Value),cs[i]?=some c→us[i]?=some u→RV P S w β D u c):=by cases h with|aJ _ us hl h=>exact⟨us,rfl,hl,h⟩
theorem RV.ml {f:FuncId}{cs:List AV} (h:RV P S w β D v (.bo f cs)):∃us:List Value,v=.func (.func f) #[] us.toArray∧us.length=cs.length∧(∀(i:Nat) (c:AV) (u:Value),cs[i]?=some c→us[i]?=some u→RV P S w β D u c):=by cases h with|bo _ _ us hl h=>exact⟨us,rfl,hl,h⟩
theorem cZ.fP {rows:List (List PV)} (h:cZ S w v (.ro rows)):∃(A:Option Addr) (c:Nat),v=.slice A rows.length c∧rows.length≤c∧(rows≠[]→∃(ad:Addr) (sz:Nat) (us:Nat→Nat→Value),A=some ad∧S ad.block∧(∀r,r∈rows→r.length=sz)∧(∀i j,i<rows.length→j<sz→w.cell? (ad.add (i*sz+j))=some (us i j))∧(∀(i j:Nat) (r:List PV) (p:PV),rows[i]?=some r→r[j]?=some p→(us i j).oneCell'=true)∧(∀(i j:Nat) (r:List PV) (p:PV),rows[i]?=some r→r[j]?=some p→cZ S w (us i j) p)):=by cases h with|wP A c=>exact⟨A,c,rfl,by simp,fun h=>absurd rfl h⟩|ro ad c _ sz us h1 h2 h3 h4 h5 h6=>exact⟨some ad,c,rfl,h2,fun _=>⟨ad,sz,us,rfl,h1,h3,h4,h5,h6⟩⟩
end
theorem ia (S:Nat→Prop) (w:World) (v:Value) (hv:v.oneCell'=true):cZ S w v (rE v):=by
 unfold rE;split;·exact .int _ _
 ·exact .bool _
 ·rename_i s;have:s=⟨s.data.toList.toArray⟩:=by simp
  rw[show cZ S w (.string s) (.str s.data.toList)=cZ S w (.string ⟨s.data.toList.toArray⟩) (.str s.data.toList) from by rw[←this]];exact .str _
 ·exact .nil
 ·exact .val _ hv
theorem si (P:Program) (S:Nat→Prop) (w:World) (β:Nat→Value) (D:Nat→Prop) (v:Value):RV P S w β D v (cv v):=by
 unfold cv;split;·rename_i h;exact .pv _ _ (ia S w v h)
 ·exact .au _
section
variable{P:Program}{S:Nat→Prop}{w:World}{β:Nat→Value}{aa:Nat→Option AO}{a:Act}{vars:Nat→AV}{N:Nat}{x y z:Operand}{o:Oper}
theorem He (h:∀s,RV P S w β (ay aa) (a.tmps.getD s undef) (vars s)) (x:Operand):RV P S w β (ay aa) (a.eval x) (ev vars x):=by cases x with|tmp t=>exact h t|const v=>exact si P S w β (ay aa) v|func f=>exact .bo f [] [] rfl (fun i c u hc=>by simp at hc)|global g=>exact .au _
theorem BH {op:BinOp}{p q r:PV}{φ:Prop}{u v:Value} (hs:dv op p q=some (φ,r)) (hφ:φ) (hu:cZ S w u p) (hv:cZ S w v q):∃r',cZ S w r' r∧∀(t:TypeId) (x y:Operand) (W:World),(do eqGuard op t x y u v;binOp op t u v:Sem Value).run P W=.ok r' W:=by cases p with
 |int k m=>cases q with|int k' n=>
   have eu:=hu.aI;have ev:=hv.aI;subst eu ev;by_cases hk:k=k'
   ·subst hk;cases op<;>simp only[dv,if_true,Option.some.injEq,Prod.mk.injEq]at hs<;>obtain⟨rfl,rfl⟩:=hs;·exact⟨_,.int _ _,fun t x y W=>by simp[eqGuard,binOp,Op.intArith]⟩
    ·exact⟨_,.int _ _,fun t x y W=>by simp[eqGuard,binOp,Op.intArith]⟩
    ·exact⟨_,.int _ _,fun t x y W=>by simp[eqGuard,binOp,Op.intArith]⟩
    ·exact⟨_,.int _ _,fun t x y W=>by simp[eqGuard,binOp,Op.intDiv,hφ]⟩
    ·exact⟨_,.int _ _,fun t x y W=>by simp[eqGuard,binOp,Op.intDiv,hφ]⟩
    ·exact⟨_,.int _ _,fun t x y W=>by simp[eqGuard,binOp,Op.intBits]⟩
    ·exact⟨_,.int _ _,fun t x y W=>by simp[eqGuard,binOp,Op.intBits]⟩
    ·exact⟨_,.int _ _,fun t x y W=>by simp[eqGuard,binOp,Op.intBits]⟩
    ·exact⟨_,.int _ _,fun t x y W=>by simp[eqGuard,binOp,Op.shift,show¬n<0 from by omega]⟩
    ·exact⟨_,.int _ _,fun t x y W=>by simp[eqGuard,binOp,Op.shift,show¬n<0 from by omega]⟩
    ·exact⟨_,.int _ _,fun t x y W=>by simp[eqGuard,binOp,Op.intBits]⟩
    ·exact⟨_,.bool _,fun t x y W=>by simp[eqGuard,binOp,Op.intCmp];rfl⟩
    ·exact⟨_,.bool _,fun t x y W=>by simp[eqGuard,binOp,Op.intCmp,bne];rfl⟩
    ·exact⟨_,.bool _,fun t x y W=>by simp[eqGuard,binOp,Op.intCmp]⟩
    ·exact⟨_,.bool _,fun t x y W=>by simp[eqGuard,binOp,Op.intCmp]⟩
    ·exact⟨_,.bool _,fun t x y W=>by simp[eqGuard,binOp,Op.intCmp]⟩
    ·exact⟨_,.bool _,fun t x y W=>by simp[eqGuard,binOp,Op.intCmp]⟩
   ·cases op<;>simp only[dv,if_neg hk,Option.some.injEq,Prod.mk.injEq,reduceCtorEq]at hs<;>obtain⟨rfl,rfl⟩:=hs;·exact⟨_,.int _ _,fun t x y W=>by simp[eqGuard,binOp,Op.shift,show¬n<0 from by omega]⟩
    ·exact⟨_,.int _ _,fun t x y W=>by simp[eqGuard,binOp,Op.shift,show¬n<0 from by omega]⟩|_=>simp[dv]at hs
 |str l=>cases q with|str m=>
   have eu:=hu.ew;have ev:=hv.ew;subst eu ev;have hl:∀k:List UInt8,(ByteArray.mk k.toArray).toList=k:=ByteArray.toList_mk;have hsz:∀k:List UInt8,(ByteArray.mk k.toArray).size=k.length:=fun k=>by simp[ByteArray.size]
   have he:(l==m)=decide (l=m):=by rw[Bool.eq_iff_iff];simp
   cases op<;>simp only[dv,Option.some.injEq,Prod.mk.injEq,reduceCtorEq]at hs<;>obtain⟨rfl,rfl⟩:=hs
   ·refine⟨_,.str _,fun t x y W=>?_⟩;have h1:¬(9223372036854775807<((l.length:Int)+(m.length:Int))):=by omega
    have h2:(ByteArray.mk l.toArray++ByteArray.mk m.toArray)=ByteArray.mk (l++m).toArray:=by apply ByteArray.ext;simp
    simp[eqGuard,binOp,Op.stringOp,hsz,h1,h2]
   ·exact⟨_,.bool _,fun t x y W=>by simp[eqGuard,binOp,Op.stringOp,he]⟩
   ·exact⟨_,.bool _,fun t x y W=>by simp[eqGuard,binOp,Op.stringOp,he]⟩
   ·exact⟨_,.bool _,fun t x y W=>by simp[eqGuard,binOp,Op.stringOp,hl]⟩
   ·exact⟨_,.bool _,fun t x y W=>by simp[eqGuard,binOp,Op.stringOp,hl,he]⟩
   ·exact⟨_,.bool _,fun t x y W=>by simp[eqGuard,binOp,Op.stringOp,hl,he]⟩
   ·exact⟨_,.bool _,fun t x y W=>by simp[eqGuard,binOp,Op.stringOp,hl]⟩|_=>simp[dv]at hs
 |_=>simp[dv]at hs
theorem Lg {op:BinOp}{t yt:TypeId} (ho:o.op=.binOp op t x y yt) {X Y:AV} (hX:RV P S w β (ay aa) (a.eval x) X) (hY:RV P S w β (ay aa) (a.eval y) Y) {φ:Prop}{v:AV} (h:aj (.bin op) [X,Y] aa=some (φ,v)) (hφ:φ):∃r,(execOp a.eval o).run P w=.ok (.value r) w∧RV P S w β (ay aa) r v:=by cases X with
 |pv p=>cases Y with|pv q=>simp only[aj,Option.map_eq_some_iff]at h;obtain⟨⟨φ',r⟩,hs,he⟩:=h;simp only[Prod.mk.injEq]at he;obtain⟨rfl,rfl⟩:=he;obtain⟨r',h1,h2⟩:=BH hs hφ hX.bh hY.bh;refine⟨r',?_,.pv _ _ h1⟩;have:=h2 t x y w;simp only[execOp,ho,Sem.run_bind]at this ⊢;rw[this];rfl|_=>simp[aj]at h
 |_=>simp[aj]at h
theorem zo {t:TypeId} (ht:P.underlying t=some .bool) (b c:Bool) (W:World):(Op.equal t (.bool b) (.bool c)).run P W=.ok (b==c) W:=by
 have h:∀d:Nat,(Op.equalIn (d+1) t (.bool b) (.bool c)).run P W=.ok (b==c) W:=fun d=>by simp[Op.equalIn,run_underlying ht]
 simp[Op.equal,Op.maxDepth,h 9999]
theorem KT (l:List UInt8):(ByteArray.mk l.toArray).size=l.length:=by simp[ByteArray.size]
theorem KU {ne:Bool}{t yt:TypeId} (ho:o.op=.binOp (if ne then .neq else .eql) t x y yt) (ht:P.underlying t=some .bool) {X Y:AV} (hX:RV P S w β (ay aa) (a.eval x) X) (hY:RV P S w β (ay aa) (a.eval y) Y) {φ:Prop}{v:AV} (h:aj (.beq ne) [X,Y] aa=some (φ,v)) (hφ:φ):∃r,(execOp a.eval o).run P w=.ok (.value r) w∧RV P S w β (ay aa) r v:=by cases X with
 |pv p=>cases Y with
  |pv q=>cases p with
   |bool b=>cases q with|bool c=>simp only[aj,Option.some.injEq,Prod.mk.injEq]at h;obtain⟨rfl,rfl⟩:=h;refine⟨_,?_,.pv _ _ (.bool _)⟩;cases ne<;>simp[execOp,ho,hX.eP,hY.eP,eqGuard,binOp,zo ht,bne]|_=>simp[aj]at h
   |_=>cases q<;>simp[aj]at h
  |_=>cases p<;>simp[aj]at h
 |_=>simp[aj]at h
theorem Up {t:TypeId} (ho:o.op=.unOp .not t x) {X:AV} (hX:RV P S w β (ay aa) (a.eval x) X) {φ:Prop}{v:AV} (h:aj .not [X] aa=some (φ,v)) (hφ:φ):∃r,(execOp a.eval o).run P w=.ok (.value r) w∧RV P S w β (ay aa) r v:=by cases X with
 |pv p=>cases p with|bool b=>simp only[aj,Option.some.injEq,Prod.mk.injEq]at h;obtain⟨rfl,rfl⟩:=h;exact⟨_,by simp[execOp,ho,hX.eP,Op.unary],.pv _ _ (.bool _)⟩|_=>simp[aj]at h
 |_=>simp[aj]at h
theorem ZC {t:TypeId} (ho:o.op=.unOp .neg t x) {X:AV} (hX:RV P S w β (ay aa) (a.eval x) X) {φ:Prop}{v:AV} (h:aj .neg [X] aa=some (φ,v)) (hφ:φ):∃r,(execOp a.eval o).run P w=.ok (.value r) w∧RV P S w β (ay aa) r v:=by cases X with
 |pv p=>cases p with|int k n=>simp only[aj,Option.some.injEq,Prod.mk.injEq]at h;obtain⟨rfl,rfl⟩:=h;exact⟨_,by simp[execOp,ho,hX.aI,Op.unary,Op.intArith],.pv _ _ (.int _ _)⟩|_=>simp[aj]at h
 |_=>simp[aj]at h
theorem Zt {src dst:TypeId}{k k0:IntKind} (ho:o.op=.convert src dst x) (hs:P.underlying src=some (.int k0)) (hd:P.underlying dst=some (.int k)) {X:AV} (hX:RV P S w β (ay aa) (a.eval x) X) {φ:Prop}{v:AV} (h:aj (.B3 k) [X] aa=some (φ,v)) (hφ:φ):∃r,(execOp a.eval o).run P w=.ok (.value r) w∧RV P S w β (ay aa) r v:=by cases X with
 |pv p=>cases p with|int k' n=>simp only[aj,Option.some.injEq,Prod.mk.injEq]at h;obtain⟨rfl,rfl⟩:=h;exact⟨_,by simp[execOp,ho,hX.aI,convert,run_underlying hs,run_underlying hd,Conv.intToInt],.pv _ _ (.int _ _)⟩|_=>simp[aj]at h
 |_=>simp[aj]at h
theorem VA {src dst:TypeId} (ho:o.op=.convert src dst x) (hs:P.underlying src=some .string) (hd:P.underlying dst=some .string) {X:AV} (hX:RV P S w β (ay aa) (a.eval x) X) {φ:Prop}{v:AV} (h:aj .CV [X] aa=some (φ,v)) (hφ:φ):∃r,(execOp a.eval o).run P w=.ok (.value r) w∧RV P S w β (ay aa) r v:=by cases X with
 |pv p=>cases p with|str l=>simp only[aj,Option.some.injEq,Prod.mk.injEq]at h;obtain⟨rfl,rfl⟩:=h;exact⟨_,by simp[execOp,ho,hX.ew,convert,run_underlying hs,run_underlying hd],.pv _ _ (.str _)⟩|_=>simp[aj]at h
 |_=>simp[aj]at h
theorem bB {q:Option AO}{r:TypeId×List (List PV)} (h:cM q=some r):q=some (.arr r.1 r.2):=by
 unfold cM at h;split at h;·injection h with h;subst h;rfl
 ·cases h
theorem fk {q:Option AO}{cs:List AV} (h:eK q=some cs):q=some (.box cs):=by
 unfold eK at h;split at h;·injection h with h;subst h;rfl
 ·cases h
theorem RV.gh {D:Nat→Prop}{v:Value}{t:Nat}{e:TypeId}{lo hi:Nat} (h:RV P S w β D v (.sub t e lo hi)):∃inf A A1 n c,D t∧P.info? e=some inf∧β t=.slice A n c∧lo≤hi∧hi≤n∧n≤c∧(lo=0→A1=A)∧(c≠lo→A1=A.map (·.add (lo*inf.size)))∧v=.slice A1 (hi-lo) (c-lo):=by cases h with|sub v t e lo hi inf A A1 n c h hi' hb h1 h2 h3 h4 h5 hv=>exact⟨inf,A,A1,n,c,h,hi',hb,h1,h2,h3,h4,h5,hv⟩
theorem cZ.cut {A A1:Option Addr}{c sz lo hi:Nat}{rows:List (List PV)} (h:cZ S w (.slice A rows.length c) (.ro rows)) (h1:lo≤hi) (h2:hi≤rows.length) (hc:rows.length≤c) (hsz:∀r∈rows,r.length=sz) (hA:c≠lo→A1=A.map (·.add (lo*sz))):cZ S w (.slice A1 (hi-lo) (c-lo)) (.ro ((rows.take hi).drop lo)):=by
 obtain⟨A',c',hv,_,hne⟩:=h.fP;have hAc:A=A'∧c=c':=by simpa using hv
 obtain⟨rfl,rfl⟩:=hAc;have hcl:((rows.take hi).drop lo).length=hi-lo:=by simp;omega
 by_cases hz:hi-lo=0;·have hnil:(rows.take hi).drop lo=[]:=List.eq_nil_of_length_eq_zero (hcl.trans hz);rw[hnil,hz];exact .wP _ _
 ·have hrn:rows≠[]:=by rintro rfl;simp at h2;omega
  obtain⟨ad,sz0,us,rfl,g1,g2,g3,g4,g5⟩:=hne hrn;have hsz0:sz0=sz:=by obtain⟨r,hr⟩:=List.exists_mem_of_ne_nil rows hrn;rw[←g2 r hr,hsz r hr]
  subst hsz0;have hget:∀(i:Nat) (r:List PV),((rows.take hi).drop lo)[i]?=some r→rows[lo+i]?=some r:=by
   intro i r hr;simp only[List.getElem?_drop,List.getElem?_take]at hr;split at hr;·exact hr
   ·cases hr
  rw[hA (by omega),←hcl];refine .ro (ad.add (lo*sz0)) _ _ sz0 (fun i j=>us (lo+i) j) (by rw[bH];exact g1) (by omega) (fun r hr=>?_) (fun i j hi' hj=>?_) (fun i j r p hr hp=>?_) (fun i j r p hr hp=>?_);·exact g2 r (List.mem_of_mem_take (List.mem_of_mem_drop hr))
  ·rw[fD,←g3 (lo+i) j (by omega) hj,Nat.add_mul,Nat.add_assoc]
  ·exact g4 _ j r p (hget i r hr) hp
  ·exact g5 _ j r p (hget i r hr) hp
theorem Heap.arr (hh:Heap P S w β aa) {t:Nat}{e:TypeId}{rows:List (List PV)} (h:aa t=some (.arr e rows)):bj P S w β (ay aa) t (.arr e rows):=hh.holds t _ h
theorem cn {w:World}{b:Nat}{e:TypeId}{sz n:Nat}{v:Value}{us:List Value} (h:w.ownsRow b e sz v n us):∃A c,v=.slice A n c∧n≤c:=by
 rcases h.2 with⟨rfl,rfl⟩|⟨g,cap,cur,rfl,_,_,h,_⟩;·exact⟨none,0,rfl,Nat.le_refl _⟩
 ·exact⟨_,cap,rfl,h⟩
theorem pI {S':Nat→Prop}{D:Nat→Prop}{t:Nat}{e:TypeId}{rows:List (List PV)} (h:bj P S w β D t (.arr e rows)) (hS:∀b,S b→S' b) (hb:∀b,b9 (β t)=some b→S' b):cZ S' w (β t) (.ro rows)∧∃inf A c,P.info? e=some inf∧β t=.slice A rows.length c∧rows.length≤c∧∀r∈rows,r.length=inf.size:=by
 obtain⟨inf,us,hi,hown,hrl,hcs⟩:=h;obtain⟨A,c,hv,hc⟩:=cn hown;refine⟨?_,inf,A,c,hi,hv,hc,hrl⟩;have hm:∀b,S b→S' b∧w.heap[b]?=w.heap[b]?:=fun b hb=>⟨hS b hb,rfl⟩;by_cases hz:rows=[];·subst hz;rw[hv];exact .wP A c
 ·rcases hown.2 with⟨_,hz0⟩|⟨g,cap,cur,hv,_,hheap,hnc,_⟩;·exact absurd (List.eq_nil_of_length_eq_zero hz0) hz
  ·have hob:(β t).ownBlock=some g:=by rw[hv];rfl
   have hcell:=hown.cells hob;have hg:=hb g (by rw[hv];rfl);rw[hv];have hlook:∀i j,i<rows.length→j<inf.size→∃u,us[i*inf.size+j]?=some u:=fun i j hi hj=>by
    have hr:rows[i]?=some rows[i]:=List.getElem?_eq_getElem hi;have hj':j<rows[i].length:=by rw[hrl _ (List.mem_of_getElem? hr)];exact hj
    obtain⟨u,hu,_⟩:=hcs i j _ _ hr (List.getElem?_eq_getElem hj');exact⟨u,hu⟩
   refine .ro ⟨g,0,none⟩ cap rows inf.size (fun i j=>us.getD (i*inf.size+j) undef) hg hnc hrl (fun i j hi hj=>?_) (fun i j r p h1 h2=>?_) (fun i j r p h1 h2=>?_);·obtain⟨u,hu⟩:=hlook i j hi hj;rw[hcell _ u hu];simp[List.getD_eq_getElem?_getD,hu]
   ·obtain⟨u,hu,h3,_⟩:=hcs i j r p h1 h2;simp only[List.getD_eq_getElem?_getD,hu,Option.getD_some];exact h3
   ·obtain⟨u,hu,_,h3⟩:=hcs i j r p h1 h2;simp only[List.getD_eq_getElem?_getD,hu,Option.getD_some];exact h3.mono hm
theorem Cd {S' S1:Nat→Prop}{D D1:Nat→Prop}{t lo hi:Nat}{e:TypeId}{rows:List (List PV)}{v:Value} (h:bj P S w β D t (.arr e rows)) (hS:∀b,S b→S' b) (hb:∀b,b9 (β t)=some b→S' b) (hv:RV P S1 w β D1 v (.sub t e lo hi)):cZ S' w v (.ro ((rows.take hi).drop lo)):=by
 obtain⟨hro,inf,A,c,hi',hbt,hc,hrl⟩:=pI h hS hb;obtain⟨inf1,A1,A2,n1,c1,_,hi1,hb1,h1,h2,h3,h4,h5,hv⟩:=hv.gh;rw[hi']at hi1;injection hi1 with hi1;subst hi1;rw[hbt]at hb1 hro;have hx:A=A1∧rows.length=n1∧c=c1:=by simpa using hb1
 obtain⟨rfl,rfl,rfl⟩:=hx;rw[hv];exact hro.cut h1 h2 h3 hrl h5
theorem Qh {t:TypeId} (ho:o.op=.call {callee:=.builtin .len,args:=#[x],argTypes:=#[t]}) (ht:P.underlying t=some .string) {X:AV} (hX:RV P S w β (ay aa) (a.eval x) X) {φ:Prop}{v:AV} (h:aj .uZ [X] aa=some (φ,v)) (hφ:φ):∃r,(execOp a.eval o).run P w=.ok (.value r) w∧RV P S w β (ay aa) r v:=by cases X with
 |pv p=>cases p with|str l=>simp only[aj,Option.some.injEq,Prod.mk.injEq]at h;obtain⟨rfl,rfl⟩:=h;exact⟨_,by simp[execOp,ho,resolve,invoke,builtin,Builtin.len_,run_underlying ht,hX.ew,goInt,KT],.pv _ _ (.int _ _)⟩|_=>simp[aj]at h
 |_=>simp[aj]at h
theorem vu (hh:Heap P S w β aa) {t e:Nat}{n:Nat} (h:AY (aa t)=some (e,n)):∃inf us,P.info? e=some inf∧w.ownsRow 0 e inf.size (β t) n us:=by
 unfold AY at h;split at h;·rename_i e' rows ho;cases h;obtain⟨inf,us,hi,hown,_⟩:=hh.holds t _ ho;exact⟨inf,us,hi,hown⟩
 ·rename_i e' cs ho;cases h;obtain⟨inf,us,hi,_,hown,_⟩:=hh.holds t _ ho;exact⟨inf,us,hi,hown⟩
 ·cases h
theorem Yg {t e:TypeId} (ho:o.op=.call {callee:=.builtin .len,args:=#[x],argTypes:=#[t]}) (ht:P.underlying t=some (.slice e)) (hh:Heap P S w β aa) {X:AV} (hX:RV P S w β (ay aa) (a.eval x) X) {φ:Prop}{v:AV} (h:aj .len [X] aa=some (φ,v)) (hφ:φ):∃r,(execOp a.eval o).run P w=.ok (.value r) w∧RV P S w β (ay aa) r v:=by
 have hsl:∀(A:Option Addr) (n c:Nat),a.eval x=.slice A n c→(execOp a.eval o).run P w=.ok (.value (.int .i64 n)) w:=by intro A n c hv;simp[execOp,ho,resolve,invoke,builtin,Builtin.len_,run_underlying ht,hv,goInt]
 cases X with
 |pv p=>cases p with|nil=>simp only[aj,Option.some.injEq,Prod.mk.injEq]at h;obtain⟨rfl,rfl⟩:=h;exact⟨_,hsl none 0 0 hX.bh.eb,.pv _ _ (.int _ _)⟩|ro rows=>simp only[aj,Option.some.injEq,Prod.mk.injEq]at h;obtain⟨rfl,rfl⟩:=h;obtain⟨A,c,hv,_⟩:=hX.bh.fP;exact⟨_,hsl A rows.length c hv,.pv _ _ (.int _ _)⟩|_=>simp[aj]at h
 |own t'=>simp only[aj,Option.map_eq_some_iff]at h;obtain⟨⟨e',n⟩,hs,he⟩:=h;simp only[Prod.mk.injEq]at he;obtain⟨rfl,rfl⟩:=he;obtain⟨inf,us,_,hown⟩:=vu hh hs;obtain⟨A,c,hv,_⟩:=cn hown;exact⟨_,hsl A n c (hX.aR.1.trans hv),.pv _ _ (.int _ _)⟩|sub t' e1 lo hi=>simp only[aj,Option.map_eq_some_iff]at h;obtain⟨r,hs,he⟩:=h;simp only[Prod.mk.injEq]at he;obtain⟨rfl,rfl⟩:=he;obtain⟨inf,A,A1,n,c,_,_,hb,h1,h2,h3,h4,h5,hv⟩:=hX.gh;refine⟨_,hsl _ _ _ hv,?_⟩;rw[show((hi:Int)-(lo:Int))=((hi-lo:Nat):Int) from by omega];exact .pv _ _ (.int _ _)|_=>simp[aj]at h
theorem KK {mx:Bool}{t t':TypeId} (ho:o.op=.call {callee:=.builtin (if mx then .max else .min),args:=#[x,y],argTypes:=#[t,t']}) {X Y:AV} (hX:RV P S w β (ay aa) (a.eval x) X) (hY:RV P S w β (ay aa) (a.eval y) Y) {φ:Prop}{v:AV} (h:aj (.E4 mx) [X,Y] aa=some (φ,v)):∃r,(execOp a.eval o).run P w=.ok (.value r) w∧RV P S w β (ay aa) r v:=by cases X with
 |pv p=>cases p with
  |int k n=>cases Y with
   |pv q=>cases q with
    |int k' m=>
     simp only[aj]at h;split at h;·rename_i hk;subst hk;simp only[Option.some.injEq,Prod.mk.injEq]at h;obtain⟨rfl,rfl⟩:=h;cases mx with|false=>exact⟨_,by simp[execOp,ho,resolve,invoke,builtin,hX.aI,hY.aI,Lib.run_min_ints,Result.andThen],.pv _ _ (.int _ _)⟩|true=>exact⟨_,by simp[execOp,ho,resolve,invoke,builtin,hX.aI,hY.aI,Lib.run_max_ints,Result.andThen],.pv _ _ (.int _ _)⟩
     ·cases h|_=>simp[aj]at h
   |_=>simp[aj]at h
  |_=>simp[aj]at h
 |_=>simp[aj]at h
theorem Bp {r:List PV}{c:UInt8} (h:byteOf r=some c):r=[.int .u8 (c.toNat:Int)]:=by
 unfold byteOf at h;split at h
 ·rename_i n;split at h
  ·rename_i hn;simp only[Option.some.injEq]at h;subst h;have:(UInt8.ofNat n.toNat).toNat=n.toNat:=by simp;omega
   rw[this];have:(n.toNat:Int)=n:=by omega
   rw[this]
  ·cases h
 ·cases h
theorem qN:∀{rows:List (List PV)}{l:List UInt8},bytesOf rows=some l→rows.length=l.length∧∀(i:Nat) (c:UInt8),l[i]?=some c→rows[i]?=some [.int .u8 (c.toNat:Int)]|[],l,h=>by simp only[bytesOf,Option.some.injEq]at h;subst h;exact⟨rfl,fun i c h=>by simp at h⟩|r::rows,l,h=>by simp only[bytesOf,Option.bind_eq_some_iff,Option.map_eq_some_iff]at h;obtain⟨c,hc,m,hm,rfl⟩:=h;obtain⟨h1,h2⟩:=qN hm;refine⟨by simp[h1],fun i d hd=>?_⟩;cases i with|zero=>simp only[List.getElem?_cons_zero,Option.some.injEq]at hd ⊢;subst hd;exact Bp hc|succ i=>simpa using h2 i d (by simpa using hd)
theorem Nh {src dst e:TypeId} (ho:o.op=.convert src dst x) (hs:P.underlying src=some (.slice e)) (he:P.underlying e=some (.int .u8)) (hd:P.underlying dst=some .string) (hh:Heap P S w β aa) {X:AV} (hX:RV P S w β (ay aa) (a.eval x) X) {φ:Prop}{v:AV} (h:aj .rH [X] aa=some (φ,v)):∃r,(execOp a.eval o).run P w=.ok (.value r) w∧RV P S w β (ay aa) r v:=by
 simp only[aj,Option.bind_eq_some_iff,Option.map_eq_some_iff]at h;obtain⟨rows,hr,l,hl,he'⟩:=h;simp only[Prod.mk.injEq]at he';obtain⟨rfl,rfl⟩:=he';obtain⟨hlen,hget⟩:=qN hl;have hrocase:∀(S':Nat→Prop),cZ S' w (a.eval x) (.ro rows)→∃r,(execOp a.eval o).run P w=.ok (.value r) w∧RV P S w β (ay aa) r (.pv (.str l)):=by
  intro S' hX;have hnil:∀(A:Option Addr) (c:Nat),l=[]→a.eval x=.slice A 0 c→∃r,(execOp a.eval o).run P w=.ok (.value r) w∧RV P S w β (ay aa) r (.pv (.str l)):=by rintro A c rfl hv;refine⟨.string ⟨#[]⟩,?_,.pv _ _ (.str [])⟩;cases A with|none=>simp only[execOp,ho,hv];have:=Lib.run_convert_nil_bytes (P:=P) w src dst e c hs he hd;simp[this]|some ad=>have:=run_convert_bytes_back (P:=P) w src dst e ad c [] hs he hd (fun j hj=>by simp at hj);simp only[List.length_nil]at this;simp[execOp,ho,hv,this]
  obtain⟨A,c,hv,hc,hne⟩:=hX.fP;by_cases hrn:rows=[];·subst hrn;have:l=[]:=List.eq_nil_of_length_eq_zero (by simpa using hlen.symm);exact hnil A c this (by simpa using hv)
  ·obtain⟨ad,sz,us,rfl,g1,g2,g3,g4,g5⟩:=hne hrn;have hsz:sz=1:=by
    have h0:0<l.length:=by rw[←hlen];exact List.length_pos_iff.2 hrn
    have:=hget 0 l[0] (by simp[h0]);rw[←g2 _ (List.mem_of_getElem? this)];rfl
   subst hsz;refine⟨.string ⟨l.toArray⟩,?_,.pv _ _ (.str l)⟩;have:=run_convert_bytes_back (P:=P) w src dst e ad c l hs he hd (fun j hj=>?_);·rw[hlen]at hv;simp[execOp,ho,hv,this]
   ·have hg:=hget j l[j] (by simp[hj]);have h3:=g3 j 0 (by rw[hlen];exact hj) (by omega);rw[Nat.mul_one,Nat.add_zero]at h3;rw[h3];have h5:=(g5 j 0 _ (.int .u8 (l[j].toNat:Int)) hg rfl).aI;rw[h5]
 have hnil:∀(A:Option Addr) (c:Nat),l=[]→a.eval x=.slice A 0 c→∃r,(execOp a.eval o).run P w=.ok (.value r) w∧RV P S w β (ay aa) r (.pv (.str l)):=by rintro A c rfl hv;refine⟨.string ⟨#[]⟩,?_,.pv _ _ (.str [])⟩;cases A with|none=>simp only[execOp,ho,hv];have:=Lib.run_convert_nil_bytes (P:=P) w src dst e c hs he hd;simp[this]|some ad=>have:=run_convert_bytes_back (P:=P) w src dst e ad c [] hs he hd (fun j hj=>by simp at hj);simp only[List.length_nil]at this;simp[execOp,ho,hv,this]
 cases X with
 |pv p=>cases p with|nil=>simp only[eZ,Option.some.injEq]at hr;subst hr;have:l=[]:=List.eq_nil_of_length_eq_zero (by simpa using hlen.symm);exact hnil none 0 this hX.bh.eb|ro rows'=>
   simp only[eZ,Option.some.injEq]at hr;subst hr;obtain⟨A,c,hv,hc,hne⟩:=hX.bh.fP;by_cases hrn:rows'=[];·subst hrn;have:l=[]:=List.eq_nil_of_length_eq_zero (by simpa using hlen.symm);exact hnil A c this (by simpa using hv)
   ·obtain⟨ad,sz,us,rfl,g1,g2,g3,g4,g5⟩:=hne hrn;have hsz:sz=1:=by
     have h0:0<l.length:=by rw[←hlen];exact List.length_pos_iff.2 hrn
     have:=hget 0 l[0] (by simp[h0]);rw[←g2 _ (List.mem_of_getElem? this)];rfl
    subst hsz;refine⟨.string ⟨l.toArray⟩,?_,.pv _ _ (.str l)⟩;have:=run_convert_bytes_back (P:=P) w src dst e ad c l hs he hd (fun j hj=>?_);·rw[hlen]at hv;simp[execOp,ho,hv,this]
    ·have hg:=hget j l[j] (by simp[hj]);have h3:=g3 j 0 (by rw[hlen];exact hj) (by omega);rw[Nat.mul_one,Nat.add_zero]at h3;rw[h3];have h5:=(g5 j 0 _ (.int .u8 (l[j].toNat:Int)) hg rfl).aI;rw[h5]|_=>simp[eZ]at hr
 |own t'=>
  simp only[eZ,Option.map_eq_some_iff]at hr;obtain⟨⟨e',rows'⟩,hs',rfl⟩:=hr;obtain⟨inf,us,hi,hown,hrl,hcs⟩:=hh.arr (bB hs');have hv0:=hX.aR.1;rcases hown.2 with⟨hv,h0⟩|⟨g,cap,cur,hv,hrest⟩;·have:l=[]:=List.eq_nil_of_length_eq_zero (by rw[←hlen];exact h0);exact hnil none 0 this (hv0.trans hv)
  ·by_cases hl0:l=[];·rw[hl0]at hlen;refine hnil (some ⟨g,0,none⟩) cap hl0 (hv0.trans ?_);rw[hv];simp only[List.length_nil]at hlen;rw[hlen]
   ·have hinf:inf.size=1:=by have h0:0<l.length:=List.length_pos_iff.2 hl0;have:=hget 0 l[0] (by simp[h0]);rw[←hrl _ (List.mem_of_getElem? this)];rfl
    refine⟨.string ⟨l.toArray⟩,?_,.pv _ _ (.str l)⟩;have:=run_convert_bytes_back (P:=P) w src dst e ⟨g,0,none⟩ cap l hs he hd (fun j hj=>?_);·have hv1:=hv0.trans hv;dsimp only at hlen;rw[hlen]at hv1;simp[execOp,ho,hv1,this]
    ·have hg:=hget j l[j] (by simp[hj]);obtain⟨u,hu,_,hru⟩:=hcs j 0 _ (.int .u8 (l[j].toNat:Int)) hg rfl;rw[hru.aI,hinf,Nat.mul_one,Nat.add_zero]at hu;obtain⟨_,hhp,_,_,_,htk⟩:=hrest;exact Lib.cells_of_row hhp _ j _ (by rw[htk];exact hu)|sub t' e1 lo hi=>
  simp only[eZ,Option.bind_eq_some_iff]at hr;obtain⟨r,hs',hr⟩:=hr;split at hr;·rename_i he1;simp only[Option.some.injEq]at hr;subst hr he1;exact hrocase (fun _=>True) (Cd (hh.arr (bB hs')) (fun _ _=>trivial) (fun _ _=>trivial) hX)
  ·cases hr|_=>simp[eZ]at hr
theorem Nm {t:TypeId} (ho:o.op=.index t x y) (ht:P.underlying t=some .string) {X Y:AV} (hX:RV P S w β (ay aa) (a.eval x) X) (hY:RV P S w β (ay aa) (a.eval y) Y) {φ:Prop}{v:AV} (h:aj .uS [X,Y] aa=some (φ,v)) (hφ:φ):∃r,(execOp a.eval o).run P w=.ok (.value r) w∧RV P S w β (ay aa) r v:=by cases X with
 |pv p=>cases Y with
  |pv q=>cases p with
   |str l=>cases q with|int k i=>
     simp only[aj,Option.some.injEq,Prod.mk.injEq]at h;obtain⟨rfl,rfl⟩:=h;obtain⟨h0,h1⟩:=hφ;refine⟨_,?_,.pv _ _ (.int _ _)⟩;have hlt:i.toNat<l.length:=by omega
     have hg:(ByteArray.mk l.toArray)[i.toNat]?=some (l.getD i.toNat 0):=by rw[getElem?_pos (ByteArray.mk l.toArray) i.toNat (by rw[KT];exact hlt)];simp[List.getD_eq_getElem?_getD,hlt];rfl
     simp[execOp,ho,Instr.index,asIntOf,run_underlying ht,hX.ew,hY.aI,h0,hg]|_=>simp[aj]at h
   |_=>cases q<;>simp[aj]at h
  |_=>cases p<;>simp[aj]at h
 |_=>simp[aj]at h
end
section
variable{P:Program}{S0 L:Nat→Prop}{B0:Nat→Value}{w0 w:World}{N:Nat}{st:St}{a:Act}{β:Nat→Value}
theorem cQ {t s:Nat}{aa:Nat→Option AO}:ay (fJ t aa) s↔s≠t∧ay aa s:=by
 unfold ay fJ;by_cases h:s=t;·simp[h]
 ·simp only[h,if_false,ne_eq,not_false_eq_true,true_and];constructor;·rintro⟨o,ho⟩;obtain⟨o',ho',_⟩:=Option.map_eq_some_iff.1 ho;exact⟨o',ho'⟩
  ·rintro⟨o,ho⟩;exact⟨dJ t o,by rw[ho];rfl⟩
theorem mc (t:Nat) (e:TypeId) (rows:List (List PV)):∀cs:List AV,(rF t e rows cs).length=cs.length|[]=>rfl|c::cs=>by simp only[rF,List.length_cons,mc t e rows cs]
theorem tm (t:Nat) (e:TypeId) (rows:List (List PV)):∀(cs:List AV) (i:Nat),(rF t e rows cs)[i]?=cs[i]?.map (Sy t e rows)|[],_=>rfl|c::cs,0=>rfl|c::cs,i+1=>by simp only[rF,List.getElem?_cons_succ,tm t e rows cs i]
theorem Rel.Fu (hL:∀b,L b→S0 b) (h:Rel P S0 L B0 w0 N st a w β) {t:Nat}{e:TypeId}{rows:List (List PV)} (ht:st.aa t=some (.arr e rows)) {vars':Nat→AV}{objs':Nat→Option AO} (hvars:∀s,vars' s=sh t e rows (st.vars s)∨vars' s=EW t e rows (st.vars s)) (hdom:∀s,ay objs' s↔s≠t∧ay st.aa s) (hob:∀s o,objs' s=some o→∃o',st.aa s=some o'∧(o=dJ t o'∨o=HV t e rows o')):Rel P S0 L B0 w0 N ⟨vars',objs'⟩ a w β:=by
 have hdt:ay st.aa t:=⟨_,ht⟩;obtain⟨inf,us,hi,hown,hrl,hcs⟩:=h.heap.holds t _ ht;have hbt:=(gm hown).1;have hp:=(gm hown).2;have hlive:∀b,live β (objs') b→live β st.aa b:=by rintro b ⟨s,o,hs,hb⟩;obtain⟨o',ho'⟩:=((hdom _).1 ⟨o,hs⟩).2;exact⟨s,o',ho',hb⟩
 have hm:∀b,aS S0 w0.heap.size β st.aa w b→aS S0 w0.heap.size β (objs') w b∧w.heap[b]?=w.heap[b]?:=fun b ⟨h1,h2,h3⟩=>⟨⟨h1,h2,fun hl=>h3 (hlive b hl)⟩,rfl⟩;have hbk:∀b,b9 (β t)=some b→aS S0 w0.heap.size β (objs') w b:=by intro b hb;refine⟨(h.old t b hdt hb).elim .inr fun hx=>.inl (hL b hx),h.lt hdt hb,?_⟩;rintro⟨s,o,hs,hbs⟩;obtain⟨h1,h2⟩:=(hdom _).1 ⟨o,hs⟩;exact h1 (h.heap.inj s t b h2 hdt hbs hb)
 have hD:∀s,ay st.aa s→s≠t→ay (objs') s∧β s=β s:=fun s hs hne=>⟨(hdom _).2 ⟨hne,hs⟩,rfl⟩;have hro:cZ (aS S0 w0.heap.size β (objs') w) w (β t) (.ro rows):=by
  by_cases hz:rows=[]
  ·subst hz;rcases hown.2 with⟨hv,_⟩|⟨g,cap,cur,hv,_⟩;·rw[hv];exact .wP none 0
   ·rw[hv];exact .wP _ _
  ·rcases hown.2 with⟨_,hz0⟩|⟨g,cap,cur,hv,_,hheap,hnc,_⟩;·exact absurd (List.eq_nil_of_length_eq_zero hz0) hz
   ·have hob:(β t).ownBlock=some g:=by rw[hv];rfl
    have hcell:=hown.cells hob;have hg:=hbk g (by rw[hbt];exact hob);rw[hv];have hlook:∀i j,i<rows.length→j<inf.size→∃u,us[i*inf.size+j]?=some u:=fun i j hi hj=>by
     have hr:rows[i]?=some rows[i]:=List.getElem?_eq_getElem hi;have hj':j<rows[i].length:=by rw[hrl _ (List.mem_of_getElem? hr)];exact hj
     obtain⟨u,hu,_⟩:=hcs i j _ _ hr (List.getElem?_eq_getElem hj');exact⟨u,hu⟩
    refine .ro ⟨g,0,none⟩ cap rows inf.size (fun i j=>us.getD (i*inf.size+j) undef) hg hnc hrl (fun i j hi hj=>?_) (fun i j r p h1 h2=>?_) (fun i j r p h1 h2=>?_);·obtain⟨u,hu⟩:=hlook i j hi hj;rw[hcell _ u hu];simp[List.getD_eq_getElem?_getD,hu]
    ·obtain⟨u,hu,h3,_⟩:=hcs i j r p h1 h2;simp only[List.getD_eq_getElem?_getD,hu,Option.getD_some];exact h3
    ·obtain⟨u,hu,_,h3⟩:=hcs i j r p h1 h2;simp only[List.getD_eq_getElem?_getD,hu,Option.getD_some];exact h3.mono hm
 have hcell:∀(v:Value) (x:AV),RV P (aS S0 w0.heap.size β st.aa w) w β (ay st.aa) v x→RV P (aS S0 w0.heap.size β objs' w) w β (ay objs') v (Sy t e rows x)∧((∀cs,x≠.agg cs)→RV P (aS S0 w0.heap.size β objs' w) w β (ay objs') v (sh t e rows x)):=by intro v x hv;cases x with
  |own u=>
   have:RV P (aS S0 w0.heap.size β objs' w) w β (ay objs') v (sh t e rows (.own u)):=by
    simp only[sh];split;·rename_i e';subst e';rw[hv.aR.1];exact .pv _ _ hro
    ·rename_i hne;rw[hv.aR.1];exact .own u (hD u hv.aR.2 hne).1
   exact⟨this,fun _=>this⟩|sub u e1 lo hi=>
   have:RV P (aS S0 w0.heap.size β objs' w) w β (ay objs') v (sh t e rows (.sub u e1 lo hi)):=by
    simp only[sh];obtain⟨inf1,A,A1,n,c,hdu,hi1,hb,h1,h2,h3,h4,h5,hv1⟩:=hv.gh;split
    ·rename_i e';subst e';split
     ·rename_i e2;subst e2;rw[hv1];rw[hi]at hi1;injection hi1 with hi1;subst hi1;obtain⟨A',c',hv',hc'⟩:=cn hown;rw[hb]at hv';have hx:A=A'∧n=rows.length∧c=c':=by simpa using hv'
      obtain⟨rfl,rfl,rfl⟩:=hx;rw[hb]at hro;exact .pv _ _ (hro.cut h1 h2 h3 hrl h5)
     ·exact .au _
    ·rename_i hne;exact .sub _ u e1 lo hi inf1 A A1 n c (hD u hdu hne).1 hi1 hb h1 h2 h3 h4 h5 hv1
   exact⟨this,fun _=>this⟩|_=>exact⟨hv.bW hp hm hD,fun _=>hv.kill hp hm hD⟩
 have hcs2:∀(v:Value) (x:AV),RV P (aS S0 w0.heap.size β st.aa w) w β (ay st.aa) v x→RV P (aS S0 w0.heap.size β objs' w) w β (ay objs') v (EW t e rows x):=by intro v x hv;cases x with
  |agg cs=>cases hv with|agg _ us hl h=>refine .agg _ us (by rw[mc];exact hl) fun i c u hc hu=>?_;rw[tm]at hc;obtain⟨c',hc',rfl⟩:=Option.map_eq_some_iff.1 hc;exact(hcell u c' (h i c' u hc' hu)).1
  |_=>exact(hcell v _ hv).2 (fun _ e=>by cases e)
 refine⟨h.size,h.defers,fun s=>?_,⟨fun s o hs=>?_,fun s s' b hs hs' hbs hbs'=>?_⟩,fun s b hs hbs=>?_,h.pY,fun s h9 hs=>h.uI s h9 ((hdom _).1 hs).2,h.bK⟩
 ·have hv:=h.vars s;show RV P _ w β _ _ (vars' s);rcases hvars s with hx|hx
  ·rw[hx];by_cases hag:∃cs,st.vars s=.agg cs;·obtain⟨cs,hag⟩:=hag;rw[hag]at hv ⊢;exact hv.kill hp hm hD
   ·exact(hcell _ _ hv).2 fun cs e=>hag ⟨cs,e⟩
  ·rw[hx];exact hcs2 _ _ hv
 ·obtain⟨o',ho',hx⟩:=hob s o hs;rcases hx with rfl|rfl;·exact(h.heap.holds s o' ho').kill hp hm hD rfl (fun b hb=>rfl)
  ·cases o' with|box cs=>obtain⟨b,us,ty,hpt,hh,hl,hc⟩:=h.heap.holds s _ ho';refine⟨b,us,ty,hpt,hh,by rw[mc];exact hl,fun i c u h1 h2=>?_⟩;rw[tm]at h1;obtain⟨c',hc',rfl⟩:=Option.map_eq_some_iff.1 h1;exact⟨(hc i c' u hc' h2).1,(hcell u c' (hc i c' u hc' h2).2).1⟩|_=>exact(h.heap.holds s _ ho').kill hp hm hD rfl (fun b hb=>rfl)
 ·exact h.heap.inj s s' b ((hdom _).1 hs).2 ((hdom _).1 hs').2 hbs hbs'
 ·exact h.old s b ((hdom _).1 hs).2 hbs
theorem Rel.share (hL:∀b,L b→S0 b) (h:Rel P S0 L B0 w0 N st a w β) {t:Nat}{e:TypeId}{rows:List (List PV)} (ht:st.aa t=some (.arr e rows)):Rel P S0 L B0 w0 N ⟨H3 t e rows st.vars,fJ t st.aa⟩ a w β:=by
 refine h.Fu hL ht (fun s=>.inl rfl) (fun s=>cQ) fun s o hs=>?_;by_cases e':s=t;·simp[fJ,e']at hs
 ·have hs':(st.aa s).map (dJ t)=some o:=by simpa[fJ,e']using hs
  obtain⟨o',ho',rfl⟩:=Option.map_eq_some_iff.1 hs';exact⟨o',ho',.inl rfl⟩
theorem Rel.O8 (hL:∀b,L b→S0 b) (h:Rel P S0 L B0 w0 N st a w β) {t:Nat}{e:TypeId}{rows:List (List PV)} (ht:st.aa t=some (.arr e rows)):Rel P S0 L B0 w0 N ⟨shW t e rows st.vars,Ca t e rows st.aa⟩ a w β:=by
 refine h.Fu hL ht (fun s=>.inr rfl) (fun s=>?_) fun s o hs=>?_
 ·unfold ay Ca;by_cases h:s=t;·simp[h]
  ·simp only[h,if_false,ne_eq,not_false_eq_true,true_and];constructor;·rintro⟨o,ho⟩;obtain⟨o',ho',_⟩:=Option.map_eq_some_iff.1 ho;exact⟨o',ho'⟩
   ·rintro⟨o,ho⟩;exact⟨HV t e rows o,by rw[ho];rfl⟩
 ·by_cases e':s=t;·simp[Ca,e']at hs
  ·have hs':(st.aa s).map (HV t e rows)=some o:=by simpa[Ca,e']using hs
   obtain⟨o',ho',rfl⟩:=Option.map_eq_some_iff.1 hs';exact⟨o',ho',.inr rfl⟩
theorem Rel.drop (hL:∀b,L b→S0 b) (h:Rel P S0 L B0 w0 N st a w β) (t:Nat):Rel P S0 L B0 w0 N (sg t st) a w β:=by
 unfold sg;split
 ·rename_i r hr;obtain⟨e,rows⟩:=r;have ht:st.aa t=some (.arr e rows):=by
   unfold cM at hr;split at hr;·rename_i h1;cases hr;exact h1
   ·cases hr
  refine(h.share hL ht).cq fun s=>?_;show cr t st.vars s=H3 t e rows st.vars s∨_;unfold cr H3;cases hv:st.vars s with
  |own u=>
   simp only[sh,kill,bW];split;·exact .inr rfl
   ·exact .inl rfl|sub u e1 lo hi=>
   simp only[sh,kill,bW];split;·exact .inr rfl
   ·exact .inl rfl|_=>exact .inl rfl
 ·exact h
theorem Rel.iM (hL:∀b,L b→S0 b) (h:Rel P S0 L B0 w0 N st a w β) (v:AV):Rel P S0 L B0 w0 N (iM st v) a w β:=by cases v with
 |own t=>
  simp only[Ab.iM];split
  ·rename_i r hr;obtain⟨e,rows⟩:=r;have:st.aa t=some (.arr e rows):=by
    unfold cM at hr;split at hr;·rename_i h1;cases hr;exact h1
    ·cases hr
   exact h.O8 hL this
  ·exact h|_=>exact h
theorem Rel.gi (hL:∀b,L b→S0 b):∀(l:List AV) {st:St},Rel P S0 L B0 w0 N st a w β→Rel P S0 L B0 w0 N (gi st l) a w β|[],_,h=>h|v::l,_,h=>Rel.gi hL l (h.iM hL v)
theorem Rel.share1 (hL:∀b,L b→S0 b) (h:Rel P S0 L B0 w0 N st a w β) (v:AV):Rel P S0 L B0 w0 N (share1 st v) a w β:=by have h1:=h.iM hL v;cases v with|agg cs=>exact h.gi hL cs|_=>exact h1
theorem Rel.cz (hL:∀b,L b→S0 b):∀(l:List AV) {st:St},Rel P S0 L B0 w0 N st a w β→Rel P S0 L B0 w0 N (cz st l) a w β|[],_,h=>h|v::l,_,h=>Rel.cz hL l (h.share1 hL v)
theorem ku:∀cs:List AV,(kI cs).length=cs.length|[]=>rfl|c::cs=>by simp only[kI,List.length_cons,ku cs]
theorem pT:∀(cs:List AV) (i:Nat),(kI cs)[i]?=cs[i]?.map rJ|[],_=>rfl|c::cs,0=>rfl|c::cs,i+1=>by simp only[kI,List.getElem?_cons_succ,pT cs i]
theorem RV.rJ {S:Nat→Prop}{D:Nat→Prop}{v:Value}{x:AV} (h:RV P S w β D v x):RV P S w β D v (rJ x):=by cases h with
 |pv _ p h=>cases h with|nil=>exact .pv _ _ (.wP none 0)|int k n=>exact .pv _ _ (.int k n)|bool b=>exact .pv _ _ (.bool b)|str l=>exact .pv _ _ (.str l)|val v hv=>exact .pv _ _ (.val v hv)|mp b us c ks h1 h2 h3 h4=>exact .pv _ _ (.mp b us c ks h1 h2 h3 h4)|mv b us c es h1 h2 h3 h4 h5 h6=>exact .pv _ _ (.mv b us c es h1 h2 h3 h4 h5 h6)|pt ad cs us h1 h2 h3 h4=>exact .pv _ _ (.pt ad cs us h1 h2 h3 h4)|wP A c=>exact .pv _ _ (.wP A c)|ro ad c rows sz us h1 h2 h3 h4 h5 h6=>exact .pv _ _ (.ro ad c rows sz us h1 h2 h3 h4 h5 h6)
 |own t h=>exact .own t h|ptr t o b h hb=>exact .ptr t o b h hb|aZ t e i o b n c inf h hi hb=>exact .aZ t e i o b n c inf h hi hb|sub v t e lo hi inf A A1 n c h hi' hb h1 h2 h3 h4 h5 hv=>exact .sub v t e lo hi inf A A1 n c h hi' hb h1 h2 h3 h4 h5 hv|rp ad cs us h1 h2 h3 h4=>exact .rp ad cs us h1 h2 h3 h4|agg cs us hl h=>exact .agg cs us hl h|aJ cs us hl h=>exact .aJ cs us hl h|bo f cs us hl h=>exact .bo f cs us hl h|bY g v av h hu=>exact .bY g v av h hu|au v=>exact .au v
theorem RV.tp {S:Nat→Prop}{D:Nat→Prop}{v:Value}{x:AV} (h:RV P S w β D v x):RV P S w β D v (tp x):=by
 by_cases hag:∃cs,x=.agg cs;·obtain⟨cs,rfl⟩:=hag;cases h with|agg _ us hl h=>refine .agg _ us (by rw[ku];exact hl) fun i c u hc hu=>?_;rw[pT]at hc;obtain⟨c',hc',rfl⟩:=Option.map_eq_some_iff.1 hc;exact(h i c' u hc' hu).rJ
 ·have:Ab.tp x=Ab.rJ x:=by cases x<;>first|rfl|exact absurd ⟨_,rfl⟩ hag
  rw[this];exact h.rJ
theorem Rel.ud (h:Rel P S0 L B0 w0 N st a w β):Rel P S0 L B0 w0 N (ud st) a w β:=by
 have hdom:∀s,ay (fun s=>(st.aa s).map uz) s↔ay st.aa s:=by
  intro s;unfold ay;constructor;·rintro⟨o,ho⟩;obtain⟨o',ho',_⟩:=Option.map_eq_some_iff.1 ho;exact⟨o',ho'⟩
  ·rintro⟨o,ho⟩;exact⟨uz o,by show(st.aa s).map uz=_;rw[ho];rfl⟩
 have hlive:∀b,live β (fun s=>(st.aa s).map uz) b→live β st.aa b:=by rintro b ⟨s,o,hs,hb⟩;obtain⟨o',ho'⟩:=(hdom _).1 ⟨o,hs⟩;exact⟨s,o',ho',hb⟩
 have hm:∀b,aS S0 w0.heap.size β st.aa w b→aS S0 w0.heap.size β (fun s=>(st.aa s).map uz) w b∧w.heap[b]?=w.heap[b]?:=fun b ⟨h1,h2,h3⟩=>⟨⟨h1,h2,fun hl=>h3 (hlive b hl)⟩,rfl⟩;have hD:∀s,ay st.aa s→ay (fun s=>(st.aa s).map uz) s∧β s=β s:=fun s hs=>⟨(hdom _).2 hs,rfl⟩;refine⟨h.size,h.defers,fun s=>((h.vars s).mono hm hD).tp,⟨fun s o hs=>?_,fun s s' b hs hs' hbs hbs'=>?_⟩,fun s b hs hbs=>?_,h.pY,fun s h9 hs=>h.uI s h9 ((hdom _).1 hs),h.bK⟩;·obtain⟨o',ho',rfl⟩:=Option.map_eq_some_iff.1 hs;have h1:=(h.heap.holds s o' ho').mono hm hD rfl (fun b hb=>rfl);cases o' with|box cs=>obtain⟨b,us,ty,hpt,hh,hl,hc⟩:=h1;refine⟨b,us,ty,hpt,hh,by rw[ku];exact hl,fun i c u h1 h2=>?_⟩;rw[pT]at h1;obtain⟨c',hc',rfl⟩:=Option.map_eq_some_iff.1 h1;exact⟨(hc i c' u hc' h2).1,(hc i c' u hc' h2).2.rJ⟩|_=>exact h1
 ·exact h.heap.inj s s' b ((hdom _).1 hs) ((hdom _).1 hs') hbs hbs'
 ·exact h.old s b ((hdom _).1 hs) hbs
theorem Rel.Ac (hL:∀b,L b→S0 b) (h:Rel P S0 L B0 w0 N st a w β) (t:Nat):Rel P S0 L B0 w0 N (Ac t st) a w β:=by
 unfold Ab.Ac;split;rotate_left;·exact h
 rename_i es hr;have ht:st.aa t=some (.gY es):=by
  unfold rO at hr;split at hr;·rename_i h1;cases hr;exact h1
  ·cases hr
 have hdt:ay st.aa t:=⟨_,ht⟩;obtain⟨b,us,c,hb,hh,hst,hl,hc⟩:=h.heap.holds t _ ht;have hp:∀b',β t≠.pointer (some ⟨b',0,none⟩):=fun b' e=>by rw[hb]at e;cases e
 have hlive:∀b,live β (fJ t st.aa) b→live β st.aa b:=by rintro b ⟨s,o,hs,hb⟩;obtain⟨o',ho'⟩:=(cQ.1 ⟨o,hs⟩).2;exact⟨s,o',ho',hb⟩
 have hm:∀b,aS S0 w0.heap.size β st.aa w b→aS S0 w0.heap.size β (fJ t st.aa) w b∧w.heap[b]?=w.heap[b]?:=fun b ⟨h1,h2,h3⟩=>⟨⟨h1,h2,fun hl=>h3 (hlive b hl)⟩,rfl⟩;have hbb:b9 (β t)=some b:=by rw[hb];rfl
 have hbk:aS S0 w0.heap.size β (fJ t st.aa) w b:=by refine⟨(h.old t b hdt hbb).elim .inr fun hx=>.inl (hL b hx),h.lt hdt hbb,?_⟩;rintro⟨s,o,hs,hbs⟩;obtain⟨h1,h2⟩:=cQ.1 ⟨o,hs⟩;exact h1 (h.heap.inj s t b h2 hdt hbs hbb)
 have hD:∀s,ay st.aa s→s≠t→ay (fJ t st.aa) s∧β s=β s:=fun s hs hne=>⟨cQ.2 ⟨hne,hs⟩,rfl⟩;have hmv:cZ (aS S0 w0.heap.size β (fJ t st.aa) w) w (β t) (.mv es):=by rw[hb];exact .mv b us c es hbk hh hst hl (fun i e u h1 h2=>⟨(hc i e u h1 h2).1,(hc i e u h1 h2).2.1,(hc i e u h1 h2).2.2.1⟩) fun i e u h1 h2=>(hc i e u h1 h2).2.2.2.mono hm
 refine⟨h.size,h.defers,fun s=>?_,⟨fun s o hs=>?_,fun s s' b hs hs' hbs hbs'=>?_⟩,fun s b hs hbs=>?_,h.pY,fun s h9 hs=>h.uI s h9 (cQ.1 hs).2,h.bK⟩;·have hv:=h.vars s;show RV P _ w β _ _ (WJ t es (st.vars s));cases hx:st.vars s with
  |own u=>
   rw[hx]at hv;simp only[WJ];split;·rename_i e;subst e;rw[hv.aR.1];exact .pv _ _ hmv
   ·rename_i hne;rw[hv.aR.1];exact .own u (hD u hv.aR.2 hne).1|_=>rw[hx]at hv;exact hv.kill hp hm hD
 ·by_cases e':s=t;·simp[fJ,e']at hs
  ·have hs':(st.aa s).map (dJ t)=some o:=by simpa[fJ,e']using hs
   obtain⟨o',ho',rfl⟩:=Option.map_eq_some_iff.1 hs';exact(h.heap.holds s o' ho').kill hp hm hD rfl (fun b hb=>rfl)
 ·exact h.heap.inj s s' b (cQ.1 hs).2 (cQ.1 hs').2 hbs hbs'
 ·exact h.old s b (cQ.1 hs).2 hbs
theorem Rel.cu (hL:∀b,L b→S0 b):∀(l:List Nat) {st:St},Rel P S0 L B0 w0 N st a w β→Rel P S0 L B0 w0 N (cu l st) a w β
 |[],_,h=>h|t::l,st,h=>by
  refine Rel.cu hL l ?_;unfold xZ;split;·exact h.ud
  ·split;·exact h.Ac hL _
   ·exact h.share1 hL _
end
section
variable{P:Program}{S:Nat→Prop}{w:World}{β:Nat→Value}{aa:Nat→Option AO}{a:Act}{vars:Nat→AV}{N:Nat}{x y z:Operand}{o:Oper}
theorem qx {t:TypeId}{i:TypeInfo} (h:P.info? t=some i) (w:World):(sizeOf t).run P w=.ok i.size w:=by simp[sizeOf,typeInfo,h]
theorem fY {t:TypeId}{n:Nat} (h:cm P t=some n):∃i,P.info? t=some i∧i.size=n:=by unfold cm at h;obtain⟨i,hi,he⟩:=Option.map_eq_some_iff.1 h;exact⟨i,hi,he⟩
theorem dY {t:TypeId}{n:Nat} (h:cm P t=some n) (w:World):(sizeOf t).run P w=.ok n w:=by obtain⟨i,hi,rfl⟩:=fY h;exact qx hi w
theorem wv {t:TypeId} (h:mH P t=some none) (w:World):(isAgg t).run P w=.ok false w:=by unfold mH at h;cases hu:P.underlying t with|none=>rw[hu]at h;cases h|some d=>rw[hu]at h;cases d<;>simp[isAgg,run_underlying hu]<;>simp at h
theorem jL {t:TypeId}{n:Nat} (h:mH P t=some (some n)) (w:World):(isAgg t).run P w=.ok true w∧(sizeOf t).run P w=.ok n w:=by unfold mH at h;cases hu:P.underlying t with|none=>rw[hu]at h;cases h|some d=>
 rw[hu]at h;cases d<;>simp at h;·obtain⟨i,hi,rfl⟩:=h;exact⟨by simp[isAgg,run_underlying hu],qx hi w⟩
 ·obtain⟨i,hi,rfl⟩:=h;exact⟨by simp[isAgg,run_underlying hu],qx hi w⟩
theorem xV {t:TypeId} (h:mH P t=some none) {ad:Addr}{v:Value}{w:World} (hc:w.cell? ad=some v):(loadVar t ad).run P w=.ok v w:=by simp[loadVar,wv h,hc]
theorem xY {t:TypeId}{n:Nat} (h:mH P t=some (some n)) {ad:Addr}{us:List Value}{w:World} (hl:us.length=n) (hc:∀(j:Nat) (v:Value),us[j]?=some v→w.cell? (ad.add j)=some v):(loadVar t ad).run P w=.ok (.agg us.toArray) w:=by subst hl;simp[loadVar,(jL h w).1,(jL h w).2,run_loadCells_list (P:=P) w ad us hc]
theorem ui (sl:Bool) (n cap:Nat) {lo hi:Option Value}{A B:Int} (hlo:(lo=none∧A=0)∨∃k,lo=some (.int k A)) (hhi:(hi=none∧B=n)∨∃k,hi=some (.int k B)) (h0:0≤A) (h1:A≤B) (h2:B≤n) (hc:n≤cap):(Instr.sliceBounds sl n cap lo hi none).run P w=.ok (A.toNat,B.toNat,cap) w:=by
 have e1:(max B 0:Int)=B:=by omega
 rcases hlo with⟨rfl,rfl⟩|⟨k,rfl⟩<;>rcases hhi with⟨rfl,rfl⟩|⟨k',rfl⟩;·simp[Instr.sliceBounds]
 ·simp[Instr.sliceBounds,Instr.sliceBound,asIntOf,show 0≤B∧B≤(cap:Int) from by omega]
 ·simp[Instr.sliceBounds,Instr.sliceBound,asIntOf,show 0≤A∧A≤(n:Int) from by omega]
 ·simp[Instr.sliceBounds,Instr.sliceBound,asIntOf,show 0≤B∧B≤(cap:Int) from by omega,show 0≤A∧A≤B from by omega,e1]
theorem iQ {lo hi:Option Operand}{n:Nat}{A B:Int} (hev:∀z:Operand,asks (ev vars z)→RV P S w β (ay aa) (a.eval z) (strip (ev vars z))) (ha:ak ((lo.toList++hi.toList).map (ev vars))) (h:bounds n lo.isSome hi.isSome (((lo.toList++hi.toList).map (ev vars)).map strip)=some (A,B)):((lo.map a.eval=none∧A=0)∨∃k,lo.map a.eval=some (.int k A))∧((hi.map a.eval=none∧B=n)∨∃k,hi.map a.eval=some (.int k B)):=by cases lo with
 |none=>cases hi with|none=>simp[bounds]at h;simp[h.1.symm,h.2.symm]|some z=>simp only[Option.toList,List.nil_append,List.map_cons,List.map_nil,ak,Option.isSome]at h ha;have hz:=hev z ha.1;generalize strip (ev vars z)=Z at h hz;cases Z with
   |pv p=>cases p with|int k i=>simp[bounds]at h;obtain⟨rfl,rfl⟩:=h;exact⟨.inl ⟨rfl,rfl⟩,.inr ⟨k,by simp[hz.aI]⟩⟩|_=>simp[bounds]at h
   |_=>simp[bounds]at h
 |some y=>cases hi with
  |none=>simp only[Option.toList,List.append_nil,List.map_cons,List.map_nil,ak,Option.isSome]at h ha;have hy:=hev y ha.1;generalize strip (ev vars y)=Y at h hy;cases Y with
   |pv p=>cases p with|int k i=>simp[bounds]at h;obtain⟨rfl,rfl⟩:=h;exact⟨.inr ⟨k,by simp[hy.aI]⟩,.inl ⟨rfl,rfl⟩⟩|_=>simp[bounds]at h
   |_=>simp[bounds]at h
  |some z=>simp only[Option.toList,List.cons_append,List.nil_append,List.map_cons,List.map_nil,ak,Option.isSome]at h ha;have hy:=hev y ha.1;have hz:=hev z ha.2.1;generalize strip (ev vars y)=Y at h hy;generalize strip (ev vars z)=Z at h hz;cases Y with
   |pv p=>cases p with
    |int k i=>cases Z with
     |pv q=>cases q with|int k' j=>simp[bounds]at h;obtain⟨rfl,rfl⟩:=h;exact⟨.inr ⟨k,by simp[hy.aI]⟩,.inr ⟨k',by simp[hz.aI]⟩⟩|_=>simp[bounds]at h
     |_=>simp[bounds]at h
    |_=>cases Z<;>simp[bounds]at h
   |_=>simp[bounds]at h
theorem Wb {t:TypeId}{lo hi:Option Operand} (ho:o.op=.slice t x lo hi none) (ht:P.underlying t=some .string) (hev:∀z:Operand,asks (ev vars z)→RV P S w β (ay aa) (a.eval z) (strip (ev vars z))) {X:AV} (hX:RV P S w β (ay aa) (a.eval x) X) (ha:ak ((lo.toList++hi.toList).map (ev vars))) {φ:Prop}{v:AV} (h:aj (.IQ lo.isSome hi.isSome) (X::((lo.toList++hi.toList).map (ev vars)).map strip) aa=some (φ,v)) (hφ:φ):∃r,(execOp a.eval o).run P w=.ok (.value r) w∧RV P S w β (ay aa) r v:=by cases X with
 |pv p=>cases p with|str l=>
   simp only[aj,Option.map_eq_some_iff]at h;obtain⟨⟨A,B⟩,hb,he⟩:=h;simp only[Prod.mk.injEq]at he;obtain⟨rfl,rfl⟩:=he;obtain⟨h0,h1,h2⟩:=hφ;obtain⟨hlo,hhi⟩:=iQ hev ha hb;refine⟨.string ⟨(cut l A B).toArray⟩,?_,.pv _ _ (.str _)⟩;have hs:=ui (P:=P) (w:=w) false (ByteArray.mk l.toArray).size (ByteArray.mk l.toArray).size hlo (by rw[KT];exact hhi) h0 h1 (by rw[KT];exact h2) (Nat.le_refl _);have he:(ByteArray.mk l.toArray).extract A.toNat B.toNat=⟨(cut l A B).toArray⟩:=by rw[Lib.extract_eq];simp[cut,List.drop_take]
   simp[execOp,ho,Instr.sliceAt,Instr.slice,run_underlying ht,hX.ew,hs,he]|_=>simp[aj]at h
 |_=>simp[aj]at h
theorem Ba {α:Type} (l:List α) {A B:Int} (h0:0≤A) (h1:A≤B) (h2:B≤l.length):(cut l A B).length=B.toNat-A.toNat:=by simp[cut,List.length_drop,List.length_take];omega
theorem De {α:Type} (l:List α) {A B:Int} (i:Nat) {r:α} (h:(cut l A B)[i]?=some r):l[A.toNat+i]?=some r:=by
 simp only[cut,List.getElem?_drop,List.getElem?_take]at h;split at h;·exact h
 ·cases h
theorem add_zero' (a:Addr):a.add 0=a:=by unfold Addr.add;simp
theorem XM {t e:TypeId}{sz:Nat}{lo hi:Option Operand} (ho:o.op=.slice t x lo hi none) (ht:P.underlying t=some (.slice e)) (hsz:cm P e=some sz) (hh:Heap P S w β aa) (hev:∀z:Operand,asks (ev vars z)→RV P S w β (ay aa) (a.eval z) (strip (ev vars z))) {X:AV} (hX:RV P S w β (ay aa) (a.eval x) X) (ha:ak ((lo.toList++hi.toList).map (ev vars))) {φ:Prop}{v:AV} (h:aj (.A6 sz lo.isSome hi.isSome) (X::((lo.toList++hi.toList).map (ev vars)).map strip) aa=some (φ,v)) (hφ:φ):∃r,(execOp a.eval o).run P w=.ok (.value r) w∧RV P S w β (ay aa) r v:=by cases X with
 |pv p=>cases p with|ro rows=>
   simp only[aj,Option.map_eq_some_iff]at h;obtain⟨⟨A,B⟩,hb,he⟩:=h;simp only[Prod.mk.injEq]at he;obtain⟨rfl,rfl⟩:=he;obtain⟨h0,h1,h2,h3⟩:=hφ;obtain⟨hlo,hhi⟩:=iQ hev ha hb;obtain⟨Ad,c,hv,hc,hne⟩:=hX.bh.fP;have hs:=ui (P:=P) (w:=w) true rows.length c hlo hhi h0 h1 h2 hc;refine⟨.slice (if c=A.toNat then Ad else Ad.map (·.add (A.toNat*sz))) (B.toNat-A.toNat) (c-A.toNat),?_,.pv _ _ ?_⟩;·simp[execOp,ho,Instr.sliceAt,Instr.slice,run_underlying ht,hv,hs,dY hsz]
   ·have hcl:=Ba rows h0 h1 h2;by_cases hz:B.toNat-A.toNat=0;·have hnil:cut rows A B=[]:=List.eq_nil_of_length_eq_zero (hcl.trans hz);rw[hnil,hz];exact .wP _ _
    ·have hrn:rows≠[]:=by rintro rfl;simp at h2;omega
     obtain⟨ad,sz0,us,rfl,g1,g2,g3,g4,g5⟩:=hne hrn;have hsz0:sz0=sz:=by obtain⟨r,hr⟩:=List.exists_mem_of_ne_nil rows hrn;rw[←g2 r hr,h3 r hr]
     subst hsz0;rw[if_neg (by omega),←hcl];refine .ro (ad.add (A.toNat*sz0)) _ _ sz0 (fun i j=>us (A.toNat+i) j) (by rw[bH];exact g1) (by omega) (fun r hr=>?_) (fun i j hi hj=>?_) (fun i j r p hr hp=>?_) (fun i j r p hr hp=>?_);·exact g2 r (List.mem_of_mem_take (List.mem_of_mem_drop hr))
     ·rw[fD,←g3 (A.toNat+i) j (by omega) hj,Nat.add_mul,Nat.add_assoc]
     ·exact g4 _ j r p (De rows i hr) hp
     ·exact g5 _ j r p (De rows i hr) hp|nil=>simp only[aj,Option.map_eq_some_iff]at h;obtain⟨⟨A,B⟩,hb,he⟩:=h;simp only[Prod.mk.injEq]at he;obtain⟨rfl,rfl⟩:=he;obtain⟨h0,h1⟩:=hφ;subst h0 h1;obtain⟨hlo,hhi⟩:=iQ hev ha hb;have hv:=hX.bh.eb;have hs:=ui (P:=P) (w:=w) true 0 0 hlo hhi (Int.le_refl 0) (Int.le_refl 0) (by simp) (Nat.le_refl 0);refine⟨.slice none 0 0,?_,.pv _ _ .nil⟩;simp[execOp,ho,Instr.sliceAt,Instr.slice,run_underlying ht,hv,hs,dY hsz]|_=>simp[aj]at h
 |own t'=>
  simp only[aj,Option.bind_eq_some_iff,Option.map_eq_some_iff]at h;obtain⟨⟨e',rows⟩,hs,⟨A,B⟩,hb,he⟩:=h;simp only[Prod.mk.injEq]at he;obtain⟨rfl,rfl⟩:=he;obtain⟨h0,h1,h2,h3⟩:=hφ;obtain⟨hlo,hhi⟩:=iQ hev ha hb;obtain⟨inf,us,hi',hown,hrl,_⟩:=hh.arr (bB hs);simp only at hi' hown hrl;obtain⟨Ad,c,hv,hc⟩:=cn hown;have hx:=hX.aR.1.trans hv;have hsb:=ui (P:=P) (w:=w) true rows.length c hlo hhi h0 h1 h2 hc;have hmul:A.toNat*sz=A.toNat*inf.size:=by
   by_cases hz:rows=[];·subst hz;simp only[List.length_nil]at h2;rw[show A.toNat=0 from by omega];simp
   ·obtain⟨r,hr⟩:=List.exists_mem_of_ne_nil rows hz;rw[←h3 r hr,hrl r hr]
  refine⟨.slice (if c=A.toNat then Ad else Ad.map (·.add (A.toNat*sz))) (B.toNat-A.toNat) (c-A.toNat),?_,.sub _ t' e' A.toNat B.toNat inf Ad _ rows.length c hX.aR.2 hi' hv (by omega) (by omega) hc (fun e0=>?_) (fun hne=>?_) rfl⟩;·simp[execOp,ho,Instr.sliceAt,Instr.slice,run_underlying ht,hx,hsb,dY hsz]
  ·rw[e0];split;·rfl
   ·cases Ad with|none=>rfl|some ad=>simp[add_zero']
  ·rw[if_neg hne,hmul]|sub t' e1 l m=>
  have hsem:=h;simp only[aj,Option.bind_eq_some_iff]at hsem;obtain⟨⟨e',rows⟩,hs,hsem⟩:=hsem;split at hsem
  ·rename_i hee;simp only at hee;subst hee;obtain⟨⟨A,B⟩,hb,he⟩:=Option.map_eq_some_iff.1 hsem;simp only[Prod.mk.injEq]at he;obtain⟨rfl,rfl⟩:=he;obtain⟨h0,h1,h2,h3⟩:=hφ;obtain⟨hlo,hhi⟩:=iQ hev ha hb;obtain⟨inf,us,hi',hown,hrl,_⟩:=hh.arr (bB hs);simp only at hi' hown hrl;obtain⟨inf1,Ad,Ad1,n,c,hdt,hi1,hbt,g1,g2,g3,g4,g5,hx⟩:=hX.gh;rw[hi']at hi1;injection hi1 with hi1;subst hi1;obtain⟨Ad',c',hv',_⟩:=cn hown;have hn:n=rows.length:=by rw[hbt]at hv';simp at hv';exact hv'.2.1
   subst hn;have hsb:=ui (P:=P) (w:=w) true (m-l) (c-l) hlo hhi h0 h1 h2 (by omega);have hmul:A.toNat*sz=A.toNat*inf.size:=by
    by_cases hz:rows=[];·subst hz;simp only[List.length_nil]at g2;rw[show A.toNat=0 from by omega];simp
    ·obtain⟨r,hr⟩:=List.exists_mem_of_ne_nil rows hz;rw[←h3 r hr,hrl r hr]
   refine⟨.slice (if c-l=A.toNat then Ad1 else Ad1.map (·.add (A.toNat*sz))) (B.toNat-A.toNat) (c-l-A.toNat),?_,.sub _ t' e' (l+A.toNat) (l+B.toNat) inf Ad (if c-l=A.toNat then Ad1 else Ad1.map (·.add (A.toNat*sz))) rows.length c hdt hi' hbt (by omega) (by omega) g3 (fun e0=>?_) (fun hne=>?_) ?_⟩;·simp[execOp,ho,Instr.sliceAt,Instr.slice,run_underlying ht,hx,hsb,dY hsz]
   ·rw[show A.toNat=0 from by omega];rw[g4 (by omega)];split;·rfl
    ·cases Ad with|none=>rfl|some ad=>simp[add_zero']
   ·rw[if_neg (by omega),g5 (by omega),hmul];cases Ad with|none=>rfl|some ad=>simp[fD,Nat.add_mul]
   ·rw[show l+B.toNat-(l+A.toNat)=B.toNat-A.toNat from by omega,show c-(l+A.toNat)=c-l-A.toNat from by omega]
  ·cases hsem|_=>simp[aj]at h
theorem jB {rows:List (List PV)}{i:Int} (h0:0≤i) (h1:i<rows.length):rows[i.toNat]?=some (rowAt rows i):=by
 have:i.toNat<rows.length:=by omega
 simp[rowAt,List.getD_eq_getElem?_getD,this]
theorem Uv {t e:TypeId}{sz:Nat} (ho:o.op=.indexAddr t x y) (ht:P.underlying t=some (.slice e)) (hsz:cm P e=some sz) (hh:Heap P S w β aa) {X Y:AV} (hX:RV P S w β (ay aa) (a.eval x) X) (hY:RV P S w β (ay aa) (a.eval y) Y) {φ:Prop}{v:AV} (h:aj (.CB e sz) [X,Y] aa=some (φ,v)) (hφ:φ):∃r,(execOp a.eval o).run P w=.ok (.value r) w∧RV P S w β (ay aa) r v:=by cases X with
 |pv p=>cases Y with
  |pv q=>cases p with
   |ro rows=>cases q with|int k i=>
     simp only[aj,Option.some.injEq,Prod.mk.injEq]at h;obtain⟨rfl,rfl⟩:=h;obtain⟨h0,h1,h2⟩:=hφ;obtain⟨Ad,c,hv,hc,hne⟩:=hX.bh.fP;have hrn:rows≠[]:=by rintro rfl;simp at h1;omega
     obtain⟨ad,sz0,us,rfl,g1,g2,g3,g4,g5⟩:=hne hrn;have hg:=jB h0 h1;have hsz0:sz0=sz:=by rw[←g2 _ (List.mem_of_getElem? hg),h2]
     subst hsz0;refine⟨.pointer (some (ad.add (i.toNat*sz0))),?_,.rp _ _ (fun j=>us i.toNat j) (by rw[bH];exact g1) (fun j hj=>?_) (fun j p hp=>g4 _ j _ p hg hp) (fun j p hp=>g5 _ j _ p hg hp)⟩;·simp[execOp,ho,Instr.indexAt,asIntOf,run_underlying ht,hv,hY.aI,h0,h1,dY hsz]
     ·rw[fD];exact g3 i.toNat j (by omega) (by omega)|_=>simp[aj]at h
   |_=>cases q<;>simp[aj]at h
  |_=>cases p<;>simp[aj]at h
 |own t'=>cases Y with
  |pv q=>cases q with
   |int k i=>
    simp only[aj,Option.bind_eq_some_iff]at h;obtain⟨⟨e',n⟩,hs,he⟩:=h;split at he
    ·rename_i hee;simp only[Option.some.injEq,Prod.mk.injEq]at he;obtain⟨rfl,rfl⟩:=he;obtain⟨h0,h1⟩:=hφ;simp only at hee h1;subst hee;obtain⟨inf,us,hi,hown⟩:=vu hh hs;have hinf:inf.size=sz:=by obtain⟨i',hi',rfl⟩:=fY hsz;rw[hi]at hi';injection hi' with hi';rw[hi']
     rcases hown.2 with⟨_,hz⟩|⟨g,cap,cur,hv,_⟩;·omega
     ·have hx:a.eval x=.slice (some ⟨g,0,none⟩) n cap:=hX.aR.1.trans hv;have hE:RV P S w β (ay aa) (.pointer (some ⟨g,i.toNat*inf.size+0,none⟩)) (.aZ t' e' i 0):=.aZ t' e' i 0 g n cap inf hX.aR.2 hi hv;refine⟨_,?_,hE⟩;simp[execOp,ho,Instr.indexAt,asIntOf,run_underlying ht,hx,hY.aI,h0,h1,dY hsz,hinf,Addr.add_lit]
    ·cases he|_=>simp[aj]at h
  |_=>simp[aj]at h
 |sub t' e1 lo hi=>cases Y with
  |pv q=>cases q with
   |int k i=>
    simp only[aj,Option.bind_eq_some_iff]at h;obtain⟨⟨e',rows⟩,hs,he⟩:=h;have hs':=bB hs;split at he
    ·rename_i hee;simp only[Option.some.injEq,Prod.mk.injEq]at he;obtain⟨rfl,rfl⟩:=he;obtain⟨h0,h1⟩:=hφ;simp only at hee hs';obtain⟨rfl,rfl⟩:=hee;obtain⟨inf,us,hi',hown,hr,hc⟩:=hh.arr hs';have hinf:inf.size=sz:=by obtain⟨i',hi1,rfl⟩:=fY hsz;rw[hi']at hi1;injection hi1 with hi1;rw[hi1]
     obtain⟨inf1,Ad,Ad1,n,c,hdt,hi1,hbt,g1,g2,g3,g4,g5,hx⟩:=hX.gh;rw[hi']at hi1;injection hi1 with hi1;subst hi1;rcases hown.2 with⟨hv,hz⟩|⟨g,cap,cur,hv,_⟩;·rw[hv]at hbt;simp at hbt;omega
     ·rw[hv]at hbt;have hx3:some (⟨g,0,none⟩:Addr)=Ad∧rows.length=n∧cap=c:=by simpa using hbt
      obtain⟨rfl,rfl,rfl⟩:=hx3;have hx:=hx;rw[g5 (by omega)]at hx;have hE:RV P S w β (ay aa) (.pointer (some ⟨g,((lo:Int)+i).toNat*inf.size+0,none⟩)) (.aZ t' e1 ((lo:Int)+i) 0):=.aZ t' e1 _ 0 g rows.length cap inf hdt hi' hv;refine⟨_,?_,hE⟩;have hlen:i<((hi-lo:Nat):Int):=by omega
      have hadd:((lo:Int)+i).toNat*inf.size=lo*inf.size+i.toNat*inf.size:=by rw[show((lo:Int)+i).toNat=lo+i.toNat from by omega,Nat.add_mul]
      rw[hadd];simp[execOp,ho,Instr.indexAt,asIntOf,run_underlying ht,hx,hY.aI,h0,hlen,dY hsz,←hinf,Addr.add_lit]
    ·cases he|_=>simp[aj]at h
  |_=>simp[aj]at h
 |_=>simp[aj]at h
theorem YY {s:TypeId}{i:Nat}{fs:Array Field}{f:Field}{n:Nat} (ho:o.op=.fieldAddr s x i) (ht:P.underlying s=some (.struct fs)) (hf:fs[i]?=some f) (hsz:cm P f.type=some (n+1)) {X:AV} (hX:RV P S w β (ay aa) (a.eval x) X) {φ:Prop}{v:AV} (h:aj (.rS f.offset) [X] aa=some (φ,v)) (hφ:φ):∃r,(execOp a.eval o).run P w=.ok (.value r) w∧RV P S w β (ay aa) r v:=by
 have hr:∀ad:Addr,a.eval x=.pointer (some ad)→(execOp a.eval o).run P w=.ok (.value (.pointer (some (ad.add f.offset)))) w:=by intro ad hv;simp[execOp,ho,Instr.fieldAt,run_underlying ht,hf,hv,Instr.sureAddr,fieldPlace,dY hsz]
 cases X with|ptr t' o'=>simp only[aj,Option.some.injEq,Prod.mk.injEq]at h;obtain⟨rfl,rfl⟩:=h;obtain⟨b,hv,hd,hb⟩:=hX.dX;refine⟨_,hr _ hv,?_⟩;rw[Addr.add_lit];exact .ptr t' _ b hd hb|aZ t' e' i' o'=>simp only[aj,Option.some.injEq,Prod.mk.injEq]at h;obtain⟨rfl,rfl⟩:=h;obtain⟨b,n',c,inf,hv,hd,hi,hb⟩:=hX.fA;refine⟨_,hr _ hv,?_⟩;rw[Addr.add_lit,Nat.add_assoc];exact .aZ t' e' i' _ b n' c inf hd hi hb|rp cs=>
  simp only[aj,Option.some.injEq,Prod.mk.injEq]at h;obtain⟨rfl,rfl⟩:=h;obtain⟨ad,us,hv,h1,h2,h3,h4⟩:=hX.iK;refine⟨_,hr _ hv,.rp _ _ (fun j=>us (f.offset+j)) (by rw[bH];exact h1) (fun j hj=>?_) (fun j p hp=>?_) (fun j p hp=>?_)⟩;·rw[fD];exact h2 _ (by simp at hj;omega)
  ·exact h3 _ p (by rw[←hp,List.getElem?_drop])
  ·exact h4 _ p (by rw[←hp,List.getElem?_drop])|_=>simp[aj]at h
theorem Vb {t e:TypeId}{n sz:Nat} (ho:o.op=.indexAddr t x y) (ht:P.underlying t=some (.array n e)) (hsz:cm P e=some sz) {X Y:AV} (hX:RV P S w β (ay aa) (a.eval x) X) (hY:RV P S w β (ay aa) (a.eval y) Y) {φ:Prop}{v:AV} (h:aj (.E6 n sz) [X,Y] aa=some (φ,v)) (hφ:φ):∃r,(execOp a.eval o).run P w=.ok (.value r) w∧RV P S w β (ay aa) r v:=by
 have hr:∀(ad:Addr) (k:IntKind) (i:Int),a.eval x=.pointer (some ad)→a.eval y=.int k i→0≤i→i<(n:Int)→(execOp a.eval o).run P w=.ok (.value (.pointer (some (ad.add (i.toNat*sz))))) w:=by intro ad k i hv hi h0 h1;simp[execOp,ho,Instr.indexAt,asIntOf,run_underlying ht,hv,hi,Instr.sureAddr,h0,h1,dY hsz]
 cases X with
 |ptr t' o'=>cases Y with
  |pv q=>cases q with|int k i=>simp only[aj,Option.some.injEq,Prod.mk.injEq]at h;obtain⟨rfl,rfl⟩:=h;obtain⟨b,hv,hd,hb⟩:=hX.dX;refine⟨_,hr _ k i hv hY.aI hφ.1 hφ.2,?_⟩;rw[Addr.add_lit];exact .ptr t' _ b hd hb|_=>simp[aj]at h
  |_=>simp[aj]at h
 |rp cs=>cases Y with
  |pv q=>cases q with|int k i=>
    simp only[aj,Option.some.injEq,Prod.mk.injEq]at h;obtain⟨rfl,rfl⟩:=h;obtain⟨ad,us,hv,h1,h2,h3,h4⟩:=hX.iK;refine⟨_,hr _ k i hv hY.aI hφ.1 hφ.2,.rp _ _ (fun j=>us (i.toNat*sz+j)) (by rw[bH];exact h1) (fun j hj=>?_) (fun j p hp=>?_) (fun j p hp=>?_)⟩;·rw[fD];exact h2 _ (by simp at hj;omega)
    ·exact h3 _ p (by rw[←hp,List.getElem?_drop])
    ·exact h4 _ p (by rw[←hp,List.getElem?_drop])|_=>simp[aj]at h
  |_=>simp[aj]at h
 |_=>simp[aj]at h
theorem V4 (ho:o.op=.nilCheck x) {X:AV} (hX:RV P S w β (ay aa) (a.eval x) X) {φ:Prop}{v:AV} (h:aj .Ec [X] aa=some (φ,v)) (hφ:φ):∃r,(execOp a.eval o).run P w=.ok (.value r) w∧RV P S w β (ay aa) r v:=by
 have hr:∀ad:Addr,a.eval x=.pointer (some ad)→(execOp a.eval o).run P w=.ok (.value (.pointer (some ad))) w:=by intro ad hv;simp[execOp,ho,hv]
 cases X with|ptr t' o'=>simp only[aj,Option.some.injEq,Prod.mk.injEq]at h;obtain⟨rfl,rfl⟩:=h;have hX':=hX;obtain⟨b,hv,hd,hb⟩:=hX.dX;exact⟨_,hr _ hv,by rw[←hv];exact hX'⟩|aZ t' e' i' o'=>simp only[aj,Option.some.injEq,Prod.mk.injEq]at h;obtain⟨rfl,rfl⟩:=h;have hX':=hX;obtain⟨b,n',c,inf,hv,hd,hi,hb⟩:=hX.fA;exact⟨_,hr _ hv,by rw[←hv];exact hX'⟩|rp cs=>simp only[aj,Option.some.injEq,Prod.mk.injEq]at h;obtain⟨rfl,rfl⟩:=h;have hX':=hX;obtain⟨ad,us,hv,h1,h2,h3,h4⟩:=hX.iK;exact⟨_,hr _ hv,by rw[←hv];exact hX'⟩|_=>simp[aj]at h
theorem Heap.box (hh:Heap P S w β aa) {t:Nat}{cs:List AV} (h:aa t=some (.box cs)):bj P S w β (ay aa) t (.box cs):=hh.holds t _ h
theorem C7 {t:TypeId} (ho:o.op=.load t x) (ht:mH P t=some none) (hh:Heap P S w β aa) {X:AV} (hX:RV P S w β (ay aa) (a.eval x) X) {φ:Prop}{v:AV} (h:aj (.load none) [X] aa=some (φ,v)) (hφ:φ):∃r,(execOp a.eval o).run P w=.ok (.value r) w∧RV P S w β (ay aa) r v:=by
 have hr:∀(ad:Addr) (u:Value),a.eval x=.pointer (some ad)→w.cell? ad=some u→(execOp a.eval o).run P w=.ok (.value u) w:=by intro ad u hv hc;simp[execOp,ho,Instr.loadAt,hv,Instr.sureAddr,xV ht hc]
 cases X with
 |ptr t' o'=>
  simp only[aj,Option.bind_eq_some_iff]at h;obtain⟨cs,hcs,c,hc,he⟩:=h;split at he;rotate_left;·cases he
  simp only[Option.some.injEq,Prod.mk.injEq]at he;obtain⟨rfl,rfl⟩:=he;obtain⟨b,hv,hd,hb⟩:=hX.dX;obtain⟨b',us,ty,hp,hheap,hl,hcells⟩:=hh.box (fk hcs);have hbb:b'=b:=by rw[hb]at hp;simpa using hp.symm
  subst hbb;have hlt:o'<us.size:=by rw[hl];exact(List.getElem?_eq_some_iff.1 hc).1
  have hu:us[o']?=some us[o']:=Array.getElem?_eq_getElem hlt;exact⟨us[o'],hr _ _ hv ((cell_of_row w b' o' us ty (0,0) hheap).trans hu),(hcells o' c _ hc hu).2⟩|aZ t' e' i' o'=>
  have he:lv e' i' o' (aa t')=some (φ,v):=h;unfold lv at he;split at he;rotate_left
  ·rename_i e cs hs';split at he;rotate_left;·cases he
   rename_i hee;obtain⟨rfl,rfl⟩:=hee;obtain⟨c,hc,he⟩:=Option.bind_eq_some_iff.1 he;split at he;rotate_left;·cases he
   simp only[Option.some.injEq,Prod.mk.injEq]at he;obtain⟨rfl,rfl⟩:=he;obtain⟨b,n',c',inf,hv,hd,hi,hb⟩:=hX.fA;obtain⟨inf',us,hi',h1s,hown,hcells⟩:=hh.holds t' _ hs';have:inf'=inf:=by rw[hi]at hi';injection hi' with hi';exact hi'.symm
   subst this;have hlt:i'.toNat<us.length:=by rw[hown.1,h1s,Nat.mul_one];exact(List.getElem?_eq_some_iff.1 hc).1
   have hu:us[i'.toNat]?=some us[i'.toNat]:=List.getElem?_eq_getElem hlt;have hob:(β t').ownBlock=some b:=by rw[hb];rfl
   have hcell:=hown.cells hob _ _ hu;rw[Addr.add_lit,Nat.zero_add]at hcell;refine⟨us[i'.toNat],hr _ _ hv ?_,(hcells _ c _ hc hu).2⟩;rw[h1s,Nat.mul_one,Nat.add_zero];exact hcell
  ·cases he
  rename_i e rows hs';split at he
  ·rename_i hee;subst hee;simp only[Option.some.injEq,Prod.mk.injEq]at he;obtain⟨rfl,rfl⟩:=he;obtain⟨hφ0,hφ1,hφ2⟩:=hφ;have hc:(rowAt rows i')[o']?=some ((rowAt rows i').getD o' (.int .u8 0)):=by simp[List.getD_eq_getElem?_getD,hφ2]
   generalize(rowAt rows i').getD o' (.int .u8 0)=c at hc;obtain⟨b,n',c',inf,hv,hd,hi,hb⟩:=hX.fA;obtain⟨inf',us,hi',hown,hrl,hcells⟩:=hh.arr hs';have:inf'=inf:=by rw[hi]at hi';injection hi' with hi';exact hi'.symm
   subst this;obtain⟨u,hu,h1,h2⟩:=hcells _ o' _ c (jB hφ0 hφ1) hc;have hob:(β t').ownBlock=some b:=by rw[hb];rfl
   have hcell:=hown.cells hob _ u hu;rw[Addr.add_lit,Nat.zero_add]at hcell;exact⟨u,hr _ _ hv hcell,.pv _ _ h2⟩
  ·cases he|rp cs=>cases cs with|nil=>simp only[aj,Option.some.injEq,Prod.mk.injEq]at h;obtain⟨rfl,rfl⟩:=h;exact hφ.elim|cons c cs=>simp only[aj,Option.some.injEq,Prod.mk.injEq]at h;obtain⟨rfl,rfl⟩:=h;obtain⟨ad,us,hv,h1,h2,h3,h4⟩:=hX.iK;have hcell:=h2 0 (by simp);exact⟨us 0,hr _ _ hv (by simpa[Addr.add]using hcell),.pv _ _ (h4 0 c rfl)⟩
 |_=>simp[aj]at h
theorem C4 {t:TypeId}{n:Nat} (ho:o.op=.load t x) (ht:mH P t=some (some n)) (hh:Heap P S w β aa) {X:AV} (hX:RV P S w β (ay aa) (a.eval x) X) {φ:Prop}{v:AV} (h:aj (.load (some n)) [X] aa=some (φ,v)) (hφ:φ):∃r,(execOp a.eval o).run P w=.ok (.value r) w∧RV P S w β (ay aa) r v:=by
 have hr:∀(ad:Addr) (us:List Value),a.eval x=.pointer (some ad)→us.length=n→(∀(j:Nat) (u:Value),us[j]?=some u→w.cell? (ad.add j)=some u)→(execOp a.eval o).run P w=.ok (.value (.agg us.toArray)) w:=by intro ad us hv hl hc;simp[execOp,ho,Instr.loadAt,hv,Instr.sureAddr,xY ht hl hc]
 cases X with
 |ptr t' o'=>
  simp only[aj,Option.bind_eq_some_iff]at h;obtain⟨cs,hcs,he⟩:=h;split at he
  ·rename_i hle;simp only[Option.some.injEq,Prod.mk.injEq]at he;obtain⟨rfl,rfl⟩:=he;obtain⟨b,hv,hd,hb⟩:=hX.dX;obtain⟨b',us,ty,hp,hheap,hl,hcells⟩:=hh.box (fk hcs);have hbb:b'=b:=by rw[hb]at hp;simpa using hp.symm
   subst hbb;have hlen:((us.toList.drop o').take n).length=n:=by simp;omega
   refine⟨_,hr _ ((us.toList.drop o').take n) hv hlen (fun j u hu=>?_),.agg _ _ (by simp[hl]) (fun j c u hc hu=>?_)⟩
   ·rw[Addr.add_lit,cell_of_row w b' _ us ty (0,0) hheap];rw[List.getElem?_take]at hu;split at hu;·rw[List.getElem?_drop]at hu;simpa using hu
    ·cases hu
   ·rw[List.getElem?_take]at hu hc;split at hu;·rw[List.getElem?_drop]at hu;rename_i hj;rw[if_pos hj,List.getElem?_drop]at hc;exact(hcells _ c u hc (by simpa using hu)).2
    ·cases hu
  ·cases he|aZ t' e' i' o'=>
  simp only[aj,Option.bind_eq_some_iff]at h;obtain⟨⟨e,rows⟩,hs,he⟩:=h;have hs':=bB hs;simp only at he hs';split at he
  ·rename_i hee;obtain⟨rfl,hle⟩:=hee;simp only[Option.some.injEq,Prod.mk.injEq]at he;obtain⟨rfl,rfl⟩:=he;obtain⟨b,n',c',inf,hv,hd,hi,hb⟩:=hX.fA;obtain⟨inf',us,hi',hown,hrl,hcells⟩:=hh.arr hs';have:inf'=inf:=by rw[hi]at hi';injection hi' with hi';exact hi'.symm
   subst this;have hg:=jB hφ.1 hφ.2;have hrs:(rowAt rows i').length=inf'.size:=hrl _ (List.mem_of_getElem? hg);have hob:(β t').ownBlock=some b:=by rw[hb];rfl
   have hone:∀j,j<n→∃u,us[i'.toNat*inf'.size+(o'+j)]?=some u:=fun j hj=>by obtain⟨u,hu,_⟩:=hcells _ (o'+j) _ _ hg (List.getElem?_eq_getElem (show o'+j<(rowAt rows i').length by omega));exact⟨u,hu⟩
   have hlen:((us.drop (i'.toNat*inf'.size+o')).take n).length=n:=by
    rw[List.length_take,List.length_drop];rcases Nat.eq_zero_or_pos n with h0|h0;·omega
    ·obtain⟨u,hu⟩:=hone (n-1) (by omega);have:=(List.getElem?_eq_some_iff.1 hu).1;omega
   refine⟨_,hr _ ((us.drop (i'.toNat*inf'.size+o')).take n) hv hlen (fun j u hu=>?_),.agg _ _ (by rw[hlen];simp;omega) (fun j c u hc hu=>?_)⟩
   ·rw[List.getElem?_take]at hu;split at hu;·rw[List.getElem?_drop]at hu;have hcell:=hown.cells hob _ u hu;rw[Addr.add_lit,Nat.zero_add]at hcell;rw[Addr.add_lit];exact hcell
    ·cases hu
   ·rw[List.getElem?_take]at hu;split at hu;·rename_i hj;rw[List.getElem?_drop,Nat.add_assoc]at hu;rw[List.getElem?_map,Option.map_eq_some_iff]at hc;obtain⟨p,hp,rfl⟩:=hc;rw[List.getElem?_take,if_pos hj,List.getElem?_drop]at hp;obtain⟨u',hu',_,h2⟩:=hcells _ (o'+j) _ p hg hp;rw[hu]at hu';injection hu' with hu';rw[hu'];exact .pv _ _ h2
    ·cases hu
  ·cases he|rp cs=>
  simp only[aj]at h;split at h
  ·rename_i hle;simp only[Option.some.injEq,Prod.mk.injEq]at h;obtain⟨rfl,rfl⟩:=h;obtain⟨ad,us,hv,h1,h2,h3,h4⟩:=hX.iK;have hg:∀(j:Nat) (u:Value),((List.range n).map us)[j]?=some u→j<n∧u=us j:=fun j u hu=>by
    simp only[List.getElem?_map,Option.map_eq_some_iff]at hu;obtain⟨k,hk,rfl⟩:=hu;have hjn:j<n:=by have:=(List.getElem?_eq_some_iff.1 hk).1;simpa using this
    rw[List.getElem?_range hjn]at hk;injection hk with hk;exact⟨hjn,by rw[hk]⟩
   refine⟨_,hr _ ((List.range n).map us) hv (by simp) (fun j u hu=>?_),.agg _ _ (by simp;omega) (fun j c u hc hu=>?_)⟩;·obtain⟨hj,rfl⟩:=hg j u hu;exact h2 j (by omega)
   ·obtain⟨hj,rfl⟩:=hg j u hu;rw[List.getElem?_map,Option.map_eq_some_iff]at hc;obtain⟨p,hp,rfl⟩:=hc;rw[List.getElem?_take,if_pos hj]at hp;exact .pv _ _ (h4 j p hp)
  ·cases h|_=>simp[aj]at h
theorem M9 {s:TypeId}{i:Nat}{fs:Array Field}{f:Field} (ho:o.op=.field s x i) (ht:P.underlying s=some (.struct fs)) (hf:fs[i]?=some f) (hn:mH P f.type=some none) {X:AV} (hX:RV P S w β (ay aa) (a.eval x) X) {φ:Prop}{v:AV} (h:aj (.FU f.offset none) [X] aa=some (φ,v)) (hφ:φ):∃r,(execOp a.eval o).run P w=.ok (.value r) w∧RV P S w β (ay aa) r v:=by cases X with
 |agg cs=>
  simp only[aj,Option.map_eq_some_iff]at h;obtain⟨c,hc,he⟩:=h;simp only[Prod.mk.injEq]at he;obtain⟨rfl,rfl⟩:=he;obtain⟨us,hv,hl,hcs⟩:=hX.cN;have hlt:f.offset<us.length:=by rw[hl];exact(List.getElem?_eq_some_iff.1 hc).1
  have hu:us[f.offset]?=some us[f.offset]:=List.getElem?_eq_getElem hlt;refine⟨us[f.offset],?_,hcs _ c _ hc hu⟩;simp[execOp,ho,Instr.field,run_underlying ht,hf,hv,asAgg,part,wv hn,hlt]|_=>simp[aj]at h
theorem Qd {s:TypeId}{i n:Nat}{fs:Array Field}{f:Field} (ho:o.op=.field s x i) (ht:P.underlying s=some (.struct fs)) (hf:fs[i]?=some f) (hn:mH P f.type=some (some n)) {X:AV} (hX:RV P S w β (ay aa) (a.eval x) X) {φ:Prop}{v:AV} (h:aj (.FU f.offset (some n)) [X] aa=some (φ,v)) (hφ:φ):∃r,(execOp a.eval o).run P w=.ok (.value r) w∧RV P S w β (ay aa) r v:=by cases X with
 |agg cs=>
  simp only[aj]at h;split at h
  ·rename_i hle;simp only[Option.some.injEq,Prod.mk.injEq]at h;obtain⟨rfl,rfl⟩:=h;obtain⟨us,hv,hl,hcs⟩:=hX.cN;refine⟨.agg ((us.drop f.offset).take n).toArray,?_,.agg _ _ (by simp[hl]) (fun j c u hc hu=>?_)⟩
   ·have he:us.toArray.extract f.offset (f.offset+n)=((us.drop f.offset).take n).toArray:=by simp[List.extract_toArray,List.extract_eq_take_drop]
    simp[execOp,ho,Instr.field,run_underlying ht,hf,hv,asAgg,part,(jL hn w).1,(jL hn w).2,he]
   ·rw[List.getElem?_take]at hu hc;split at hu;·rename_i hj;rw[if_pos hj,List.getElem?_drop]at hc;rw[List.getElem?_drop]at hu;exact hcs _ c u hc hu
    ·cases hu
  ·cases h|_=>simp[aj]at h
theorem Ua {i:Nat} (ho:o.op=.extract x i) {X:AV} (hX:RV P S w β (ay aa) (a.eval x) X) {φ:Prop}{v:AV} (h:aj (.ext i) [X] aa=some (φ,v)) (hφ:φ):∃r,(execOp a.eval o).run P w=.ok (.value r) w∧RV P S w β (ay aa) r v:=by cases X with
 |aJ cs=>
  simp only[aj,Option.map_eq_some_iff]at h;obtain⟨c,hc,he⟩:=h;simp only[Prod.mk.injEq]at he;obtain⟨rfl,rfl⟩:=he;obtain⟨us,hv,hl,hcs⟩:=hX.jk;have hlt:i<us.length:=by rw[hl];exact(List.getElem?_eq_some_iff.1 hc).1
  have hu:us[i]?=some us[i]:=List.getElem?_eq_getElem hlt;refine⟨us[i],?_,hcs _ c _ hc hu⟩;simp[execOp,ho,Instr.extract,hv,hlt]|_=>simp[aj]at h
end
theorem vR:∀(vs:List Value) (k off:Nat) (cells:List Value),off+k+vs.length≤cells.length→(vs.zipIdx k).foldl (fun(cs:Array Value) (p:Value×Nat)=>cs.setIfInBounds (off+p.2) p.1) cells.toArray=(cells.take (off+k)++vs++cells.drop (off+k+vs.length)).toArray
 |[],k,off,cells,_=>by simp|v::vs,k,off,cells,h=>by
  simp only[List.zipIdx_cons,List.foldl_cons,List.length_cons]at h ⊢;have hs:cells.toArray.setIfInBounds (off+k) v=(cells.set (off+k) v).toArray:=by simp
  rw[hs,vR vs (k+1) off (cells.set (off+k) v) (by simp;omega)];have hk:off+k<cells.length:=by omega
  have e1:(cells.set (off+k) v).take (off+(k+1))=cells.take (off+k)++[v]:=by rw[show off+(k+1)=off+k+1 from by omega];rw[List.take_succ_eq_append_getElem (by simpa using hk)];rw[List.take_set,List.set_eq_of_length_le (by simp;omega)];simp
  have e2:(cells.set (off+k) v).drop (off+(k+1)+vs.length)=cells.drop (off+k+(vs.length+1)):=by rw[List.drop_set,if_pos (by omega)];congr 1;omega
  rw[e1,e2];simp
theorem qY (vs:Array Value) (off:Nat) (cells:List Value) (h:off+vs.size≤cells.length):vs.zipIdx.foldl (fun(cs:Array Value) (p:Value×Nat)=>cs.setIfInBounds (off+p.2) p.1) cells.toArray=(cells.take off++vs.toList++cells.drop (off+vs.size)).toArray:=by
 have hz:vs.zipIdx=(vs.toList.zipIdx 0).toArray:=by apply Array.ext';simp
 rw[hz];have:=vR vs.toList 0 off cells (by simpa using h);simpa using this
section
variable{P:Program}{S:Nat→Prop}{w:World}{β:Nat→Value}{aa:Nat→Option AO}{a:Act}{vars:Nat→AV}{N:Nat}{x y z:Operand}{o:Oper}
def lj (P:Program) (S:Nat→Prop) (w:World) (β:Nat→Value) (D:Nat→Prop) (us:List Value) (cs:List AV):Prop:=us.length=cs.length∧∀(i:Nat) (c:AV) (u:Value),cs[i]?=some c→us[i]?=some u→RV P S w β D u c
theorem lj.append {D:Nat→Prop}{us us':List Value}{cs cs':List AV} (h:lj P S w β D us cs) (h':lj P S w β D us' cs'):lj P S w β D (us++us') (cs++cs'):=by
 refine⟨by simp[h.1,h'.1],fun i c u hc hu=>?_⟩;by_cases hi:i<cs.length;·rw[List.getElem?_append_left hi]at hc;rw[List.getElem?_append_left (by rw[h.1];exact hi)]at hu;exact h.2 i c u hc hu
 ·rw[List.getElem?_append_right (by omega)]at hc;rw[List.getElem?_append_right (by rw[h.1];omega),h.1]at hu;exact h'.2 _ c u hc hu
theorem lj.take {D:Nat→Prop}{us:List Value}{cs:List AV} (h:lj P S w β D us cs) (n:Nat):lj P S w β D (us.take n) (cs.take n):=by
 refine⟨by simp[h.1],fun i c u hc hu=>?_⟩;rw[List.getElem?_take]at hc hu;split at hc;·rename_i hi;rw[if_pos hi]at hu;exact h.2 i c u hc hu
 ·cases hc
theorem lj.drop {D:Nat→Prop}{us:List Value}{cs:List AV} (h:lj P S w β D us cs) (n:Nat):lj P S w β D (us.drop n) (cs.drop n):=by refine⟨by simp[h.1],fun i c u hc hu=>?_⟩;rw[List.getElem?_drop]at hc hu;exact h.2 _ c u hc hu
theorem lj.cons {D:Nat→Prop}{u:Value}{c:AV}{us:List Value}{cs:List AV} (h:RV P S w β D u c) (h':lj P S w β D us cs):lj P S w β D (u::us) (c::cs):=by refine⟨by simp[h'.1],fun i c' u' hc hu=>?_⟩;cases i with|zero=>simp at hc hu;subst hc hu;exact h|succ i=>exact h'.2 i c' u' (by simpa using hc) (by simpa using hu)
theorem lj.nil {D:Nat→Prop}:lj P S w β D [] []:=⟨rfl,fun i c u hc=>by simp at hc⟩
theorem lj.cv_ (D:Nat→Prop):∀zs:List Value,lj P S w β D zs (zs.map cv)|[]=>.nil|z::zs=>.cons (si P S w β D z) (lj.cv_ D zs)
theorem j8 (hh:Heap P S w β aa) {u:Value}{c:AV} (h:RV P S w β (ay aa) u c) (ho:ef c=true):u.oneCell'=true∧u.cells=#[u]:=by cases h with
 |pv v p h=>cases h with
  |val v h=>cases u<;>first|exact⟨rfl,rfl⟩|(simp[Value.oneCell']at h)
  |_=>exact⟨rfl,rfl⟩
 |own t h=>obtain⟨o,ho'⟩:=h;cases o with|box cs=>obtain⟨b,us,ty,hp,_⟩:=hh.holds t _ ho';rw[hp];exact⟨rfl,rfl⟩|arr e rows=>obtain⟨inf,us,_,hown,_⟩:=hh.holds t _ ho';obtain⟨A,c,hv,_⟩:=cn hown;rw[hv];exact⟨rfl,rfl⟩|map es=>obtain⟨b,us,c,hp,_⟩:=hh.holds t _ ho';rw[hp];exact⟨rfl,rfl⟩|rws e cs=>obtain⟨inf,us,_,_,hown,_⟩:=hh.holds t _ ho';obtain⟨A,c,hv,_⟩:=cn hown;rw[hv];exact⟨rfl,rfl⟩|gY es=>obtain⟨b,us,c,hp,_⟩:=hh.holds t _ ho';rw[hp];exact⟨rfl,rfl⟩|nk rem cur=>obtain⟨r,m,us,c,seen,hp,_⟩:=hh.holds t _ ho';rw[hp];exact⟨rfl,rfl⟩
 |ptr t o b h hb=>exact⟨rfl,rfl⟩|aZ t e i o b n c inf h hi hb=>exact⟨rfl,rfl⟩|sub v t e lo hi inf A A1 n c h hi' hb h1 h2 h3 h4 h5 hv=>rw[hv];exact⟨rfl,rfl⟩|rp ad cs us h1 h2 h3 h4=>exact⟨rfl,rfl⟩|bo f cs us hl h=>exact⟨rfl,rfl⟩|agg cs us hl h=>simp[ef]at ho|aJ cs us hl h=>simp[ef]at ho|bY g v av h=>simp[ef]at ho|au v=>simp[ef]at ho
theorem Aa (hh:Heap P S w β aa) {u:Value}{x:AV} (h:RV P S w β (ay aa) u x) (ho:lH x=true):lj P S w β (ay aa) u.cells.toList (cellsOf x):=by cases x with|agg cs=>obtain⟨us,rfl,hl,hc⟩:=h.cN;exact⟨by simpa[Value.cells,cellsOf]using hl,by simpa[Value.cells,cellsOf]using hc⟩|_=>have h1:=(j8 hh h ho).2;rw[h1];exact lj.cons h lj.nil
theorem RV.nrm {S:Nat→Prop}{D:Nat→Prop}{u:Value}{c:AV} (h:RV P S w β D u c):RV P S w β D u (pF c):=by
 unfold pF;split;·obtain⟨us,rfl,hl,_⟩:=h.ml;have:us=[]:=List.eq_nil_of_length_eq_zero hl;subst this;exact .pv _ _ (.val _ rfl)
 ·exact h
theorem lj.nrm {S:Nat→Prop}{D:Nat→Prop}{us:List Value}{cs:List AV} (h:lj P S w β D us cs):lj P S w β D us (cs.map pF):=⟨by rw[List.length_map];exact h.1,fun i c u hc hu=>by rw[List.getElem?_map]at hc;obtain⟨c',hc',rfl⟩:=Option.map_eq_some_iff.1 hc;exact(h.2 i c' u hc' hu).nrm⟩
theorem sP (hh:Heap P S w β aa) (place:Nat→Option (Nat×Nat)):∀(ops:List (Nat×Operand)) (ps:List (Nat×Nat)) (xs:List AV) (us:List Value) (cs out:List AV),(∀k:Nat,(ops[k]?).bind (fun p=>place p.1)=ps[k]?∨ps[k]?=none)→ps.length=ops.length→xs.length=ops.length→(∀(k:Nat) (p:Nat×Operand) (X:AV),ops[k]?=some p→xs[k]?=some X→RV P S w β (ay aa) (a.eval p.2) X)→lj P S w β (ay aa) us cs→km cs ps xs=some out→∃us':List Value,Instr.fill place us.toArray (ops.map fun p=>(p.1,a.eval p.2))=some us'.toArray∧lj P S w β (ay aa) us' out
 |[],[],[],us,cs,out,_,_,_,_,hr,h=>by simp only[km,Option.some.injEq]at h;subst h;exact⟨us,rfl,hr⟩|(i,z)::ops,(off,n)::ps,X::xs,us,cs,out,hp,hl1,hl2,hrv,hr,h=>by
  simp only[km]at h;split at h
  ·rename_i hc;obtain⟨hok,hlen,hle⟩:=hc;have h0:=hp 0;simp at h0;have hX:=hrv 0 (i,z) X rfl rfl;have hcells:=(Aa hh hX hok).nrm;have hlen:((cellsOf X).map pF).length=n:=by rw[List.length_map];exact hlen
   have hsz:(a.eval z).cells.size=n:=by rw[←Array.length_toList,hcells.1,hlen]
   have hin:off+(a.eval z).cells.size≤us.length:=by rw[hsz,hr.1];exact hle
   have hnext:=sP hh place ops ps xs (us.take off++(a.eval z).cells.toList++us.drop (off+(a.eval z).cells.size)) (lay cs off ((cellsOf X).map pF)) out (fun k=>by simpa using hp (k+1)) (by simpa using hl1) (by simpa using hl2) (fun k p Y h1 h2=>hrv (k+1) p Y h1 h2) (by unfold lay;rw[hsz,←hlen];exact((hr.take off).append hcells).append (hr.drop _)) h;obtain⟨us',hf,hr'⟩:=hnext;refine⟨us',?_,hr'⟩;simp only[List.map_cons,Instr.fill,h0];rw[if_neg (by simp[hsz];omega)];rw[show(fun(cs:Array Value) (x:Value×Nat)=>match x with|(c,j)=>cs.setIfInBounds (off+j) c)=fun(cs:Array Value) (p:Value×Nat)=>cs.setIfInBounds (off+p.2) p.1 from rfl];rw[qY _ off us hin];exact hf
  ·cases h
theorem uy {fs:Array Field}:∀(ops:List (Nat×Operand)) (ps:List (Nat×Nat)),qp P fs ops=some ps→ps.length=ops.length∧∀(k:Nat) (p:Nat×Operand),ops[k]?=some p→∃f n,fs[p.1]?=some f∧cm P f.type=some n∧ps[k]?=some (f.offset,n)
 |[],ps,h=>by simp[qp]at h;subst h;exact⟨rfl,fun k p hk=>by simp at hk⟩|(i,z)::ops,ps,h=>by
  simp only[qp]at h;split at h;·rename_i f r hf hr;obtain⟨n,hn,rfl⟩:=Option.map_eq_some_iff.1 h;obtain⟨h1,h2⟩:=uy ops r hr;refine⟨by simp[h1],fun k p hk=>?_⟩;cases k with|zero=>simp at hk;subst hk;exact⟨f,n,hf,hn,rfl⟩|succ k=>obtain⟨f',n',a1,a2,a3⟩:=h2 k p (by simpa using hk);exact⟨f',n',a1,a2,by simpa using a3⟩
  ·cases h
theorem run_places (fs:Array Field) (w:World) (h:fs.toList.all (fun f=>(P.info? f.type).isSome)=true):(fs.mapM fun f=>do pure (f.offset,←sizeOf f.type):Sem (Array (Nat×Nat))).run P w=.ok (fs.map fun f=>(f.offset,(cm P f.type).getD 0)) w:=by
 have key:∀(l:List Field),(∀f∈l,(P.info? f.type).isSome=true)→(l.mapM fun f=>do pure (f.offset,←sizeOf f.type):Sem (List (Nat×Nat))).run P w=.ok (l.map fun f=>(f.offset,(cm P f.type).getD 0)) w:=by intro l;induction l with|nil=>intro _;rfl|cons f l ih=>
  intro hl;obtain⟨i,hi⟩:=Option.isSome_iff_exists.1 (hl f (by simp));have hsz:cm P f.type=some i.size:=by simp[cm,hi]
  have ih':=ih (fun g hg=>hl g (by simp[hg]));simp only[List.mapM_cons,Sem.run_bind,qx hi w,Result.andThen_ok,Sem.run_pure,ih',List.map_cons,hsz,Option.getD_some]
 have hl:∀f∈fs.toList,(P.info? f.type).isSome=true:=List.all_eq_true.1 h;rw[Array.mapM_eq_mapM_toList];rw[Sem.run_map,key fs.toList hl];simp[Result.andThen];apply Array.ext';simp
theorem dG {t:TypeId}{zs:List Value} (h:dE P t=some zs):∃i z,P.info? t=some i∧i.zero=some z∧z.cells.size=i.size∧zs=z.cells.toList:=by
 unfold dE at h;obtain⟨i,hi,h⟩:=Option.bind_eq_some_iff.1 h;obtain⟨z,hz,h⟩:=Option.bind_eq_some_iff.1 h;split at h;·rename_i hs;injection h with h;exact⟨i,z,hi,hz,hs,h.symm⟩
 ·cases h
theorem Z4 {t:TypeId}{fs:Array Field}{ops:Array (Nat×Operand)}{zs:List Value}{ps:List (Nat×Nat)} (ho:o.op=.build t ops) (hz:dE P t=some zs) (ht:P.underlying t=some (.struct fs)) (hall:fs.toList.all (fun f=>(P.info? f.type).isSome)=true) (hps:qp P fs ops.toList=some ps) (hh:Heap P S w β aa) (hev:∀z:Operand,asks (ev vars z)→RV P S w β (ay aa) (a.eval z) (strip (ev vars z))) (ha:ak ((ops.toList.map (·.2)).map (ev vars))) {φ:Prop}{v:AV} (h:aj (.H2 zs ps) (((ops.toList.map (·.2)).map (ev vars)).map strip) aa=some (φ,v)) (hφ:φ):∃r,(execOp a.eval o).run P w=.ok (.value r) w∧RV P S w β (ay aa) r v:=by
 unfold aj at h;simp only[Option.map_eq_some_iff]at h;obtain⟨cs,hcs,he⟩:=h;simp only[Prod.mk.injEq]at he;obtain⟨rfl,rfl⟩:=he;obtain⟨i,zv,hi,hzv,hzs,rfl⟩:=dG hz;obtain⟨hpl,hpg⟩:=uy ops.toList ps hps;have hasks:∀(l:List Operand) (k:Nat) (z:Operand),ak (l.map (ev vars))→l[k]?=some z→asks (ev vars z):=by intro l;induction l with|nil=>intro k z _ hk;simp at hk|cons y l ih=>intro k z h hk;cases k with|zero=>simp at hk;subst hk;exact h.1|succ k=>exact ih k z h.2 (by simpa using hk)
 have hplace:∀(k:Nat) (f:Field),fs[k]?=some f→(fs.map fun f=>(f.offset,(cm P f.type).getD 0))[k]?=some (f.offset,(cm P f.type).getD 0):=fun k f hf=>by simp[hf]
 obtain⟨us',hf,hr⟩:=sP (a:=a) hh (fun k=>(fs.map fun f=>(f.offset,(cm P f.type).getD 0))[k]?) ops.toList ps (((ops.toList.map (·.2)).map (ev vars)).map strip) zv.cells.toList (zv.cells.toList.map cv) cs (fun k=>by cases hk:ops.toList[k]? with|none=>refine .inr ?_;rw[List.getElem?_eq_none_iff]at hk ⊢;omega|some p=>obtain⟨f,n,h1,h2,h3⟩:=hpg k p hk;refine .inl ?_;rw[h3];simp only[Option.bind_some];rw[hplace _ f h1,h2];rfl) hpl (by simp) (fun k p X h1 h2=>by
  have hk2:(ops.toList.map (·.2))[k]?=some p.2:=by simp[h1]
  have hX:X=strip (ev vars p.2):=by simp only[List.getElem?_map,h1,Option.map_some,Option.some.injEq]at h2;exact h2.symm
  subst hX;exact hev p.2 (hasks _ k _ ha hk2)) (lj.cv_ _ _) hcs;refine⟨.agg us'.toArray,?_,.agg _ _ hr.1 hr.2⟩;have hf':Instr.fill (fun k=>(fs.map fun f=>(f.offset,(cm P f.type).getD 0))[k]?) zv.cells (ops.toList.map fun p=>(p.1,a.eval p.2))=some us'.toArray:=by rw[←hf]
 have hzr:(zeroValue t).run P w=.ok zv w:=by simp[zeroValue,typeInfo,hi,hzv]
 have hml:(ops.map fun x=>(x.1,a.eval x.2)).toList=ops.toList.map fun p=>(p.1,a.eval p.2):=by simp
 simp only[execOp,ho];simp only[Instr.build,Sem.run_bind,hzr,Result.andThen_ok,run_underlying ht,run_places fs w hall];rw[show(fun(x:Nat×Operand)=>match x with|(i,x)=>(i,a.eval x))=fun x=>(x.1,a.eval x.2) from rfl];rw[hml];simp only[hf',Sem.run_bind,Sem.run_pure,Result.andThen_ok]
theorem VF {f:FuncId}{caps:Array Operand} (ho:o.op=.makeFunc (.func f) #[] caps) (hev:∀z:Operand,asks (ev vars z)→RV P S w β (ay aa) (a.eval z) (strip (ev vars z))) (ha:ak (caps.toList.map (ev vars))) {φ:Prop}{v:AV} (h:aj (.HU f) ((caps.toList.map (ev vars)).map strip) aa=some (φ,v)) (hφ:φ):∃r,(execOp a.eval o).run P w=.ok (.value r) w∧RV P S w β (ay aa) r v:=by
 unfold aj at h;simp only[Option.some.injEq,Prod.mk.injEq]at h;obtain⟨rfl,rfl⟩:=h;have key:∀l:List Operand,ak (l.map (ev vars))→lj P S w β (ay aa) (l.map a.eval) ((l.map (ev vars)).map strip):=by intro l;induction l with|nil=>intro _;exact .nil|cons z l ih=>intro h;exact .cons (hev z h.1) (ih h.2)
 have hr:=key caps.toList ha;refine⟨.func (.func f) #[] (caps.toList.map a.eval).toArray,?_,.bo f _ _ hr.1 hr.2⟩;have:(caps.toList.map a.eval).toArray=caps.map a.eval:=by apply Array.ext';simp
 rw[this];simp[execOp,ho,Instr.makeFunc]
end
theorem cf (d:Nat) (o:AO) (aa:Nat→Option AO):bp [(d,o)] aa=aL d o aa:=by
 funext t;unfold bp aL ab;by_cases h:t=d;·simp[h]
 ·simp[h,ab]
section
variable{P:Program}{S0 L:Nat→Prop}{B0:Nat→Value}{w0 w:World}{N:Nat}{st:St}{a:Act}{β:Nat→Value}{x y z:Operand}{o:Oper}{d:Nat}
theorem rK (w:World):w.grownBy w none:=⟨rfl,rfl,rfl,Nat.le_refl _,fun _ _ _=>rfl⟩
theorem Zk {e:TypeId} (h:Rel P S0 L B0 w0 N st a w β) (hd:d<N) (ht:st.aa d=none) (hi:(P.info? e).isSome=true):∃β',Rel P S0 L B0 w0 N ⟨put (some d) (.own d) st.vars,bp [(d,.arr e [])] st.aa⟩ (a.put (some d) (.slice none 0 0)) w β':=by obtain⟨inf,hi⟩:=Option.isSome_iff_exists.1 hi;have hf:=h.fresh hd ht (rK w) (v:=.slice none 0 0) (fun b hb=>by simp[b9]at hb) (o:=.arr e []) ⟨inf,[],hi,by rw[aT];exact World.ownsRow_nil w 0 e inf.size,fun r hr=>by simp at hr,fun i j r p hr=>by simp at hr⟩;rw[cf];have hp:=hf.put (d:=some d) (r:=eh β d (.slice none 0 0) d) (v:=.own d) (fun s hs=>by injection hs with hs;omega) (.own d (bF.2 (.inl rfl)));rw[aT]at hp;exact⟨_,hp⟩
theorem cJ (w:World) (o:Obj):w.grownBy (w.alloc o) none:=World.grownBy_alloc w o none
theorem Di (h:Rel P S0 L B0 w0 N st a w β) (hd:d<N) (ht:st.aa d=none) {us:Array Value}{ty:TypeId}{cs:List AV} (hone:ff cs=true) (hhp:Heap P (aS S0 w0.heap.size β st.aa w) w β st.aa) (hr:lj P (aS S0 w0.heap.size β st.aa w) w β (ay st.aa) us.toList cs):∃β',Rel P S0 L B0 w0 N ⟨put (some d) (.ptr d 0) st.vars,bp [(d,.box cs)] st.aa⟩ (a.put (some d) (.pointer (some ⟨w.heap.size,0,none⟩))) (w.alloc (.cells us ty)) β':=by
 have hb:∀b,b9 (.pointer (some ⟨w.heap.size,0,none⟩))=some b→w.heap.size≤b:=fun b hb=>by simp[b9]at hb;omega
 have hm:=h.ki ht (cJ w (.cells us ty)) (v:=.pointer (some ⟨w.heap.size,0,none⟩)) hb (o:=.box cs);have honeAt:∀(l:List AV) (i:Nat) (c:AV),ff l=true→l[i]?=some c→ef c=true:=by intro l;induction l with|nil=>intro i c _ hc;simp at hc|cons y l ih=>intro i c h hc;simp only[ff,Bool.and_eq_true]at h;cases i with|zero=>simp at hc;subst hc;exact h.1|succ i=>exact ih i c h.2 (by simpa using hc)
 have hf:=h.fresh hd ht (cJ w (.cells us ty)) (v:=.pointer (some ⟨w.heap.size,0,none⟩)) hb (o:=.box cs) ⟨w.heap.size,us,ty,aT _ _ _,heap_alloc_new w _,by rw[←Array.length_toList];exact hr.1,fun i c u hc hu=>by have hrv:=hr.2 i c u hc (by simpa using hu);exact⟨(j8 hhp hrv (honeAt cs i c hone hc)).1,hrv.mono hm.1 hm.2⟩⟩;rw[cf];exact⟨_,hf.put (d:=some d) (fun s hs=>by injection hs with hs;omega) (.ptr d 0 w.heap.size (bF.2 (.inl rfl)) (aT _ _ _))⟩
theorem ZX {e:TypeId} (ho:o.op=.box e x) (h:Rel P S0 L B0 w0 N st a w β) (hd:d<N) (ht:st.aa d=none) {X:AV} (hX:RV P (aS S0 w0.heap.size β st.aa w) w β (ay st.aa) (a.eval x) X) {φ:Prop}{v:AV}{ao:AO} (hs:ct .box d [X] st.aa=some (φ,v,ao)):∃r w',(execOp a.eval o).run P w=.ok (.value r) w'∧∃β',Rel P S0 L B0 w0 N ⟨put (some d) v st.vars,bp [(d,ao)] st.aa⟩ (a.put (some d) r) w' β':=by
 simp only[ct]at hs;split at hs
 ·rename_i hone;simp only[Option.some.injEq,Prod.mk.injEq]at hs;obtain⟨rfl,rfl,rfl⟩:=hs;have hpo:lH X=true:=by cases X with|agg cs=>rfl|_=>simpa[cellsOf,ff,lH]using hone
  have hr:=Aa h.heap hX hpo;obtain⟨β',hR⟩:=Di (ty:=e) h hd ht hone h.heap hr;exact⟨_,_,by simp[execOp,ho,Instr.box,newVar,newRow],β',hR⟩
 ·cases hs
theorem CW:∀zs:List Value,zs.all (fun z=>z.oneCell')=true→ff (zs.map cv)=true|[],_=>rfl|z::zs,h=>by simp only[List.all_cons,Bool.and_eq_true]at h;simp only[List.map_cons,ff,Bool.and_eq_true];refine⟨?_,CW zs h.2⟩;unfold cv;rw[if_pos h.1];unfold rE;split<;>first|rfl|exact h.1
theorem I5 {e:TypeId}{zs:List Value} (ho:o.op=.alloc e) (hz:dE P e=some zs) (h:Rel P S0 L B0 w0 N st a w β) (hd:d<N) (ht:st.aa d=none) {xs:List AV}{φ:Prop}{v:AV}{ao:AO} (hs:ct (.alloc zs) d xs st.aa=some (φ,v,ao)):∃r w',(execOp a.eval o).run P w=.ok (.value r) w'∧∃β',Rel P S0 L B0 w0 N ⟨put (some d) v st.vars,bp [(d,ao)] st.aa⟩ (a.put (some d) r) w' β':=by
 obtain⟨i,zv,hi,hzv,hzs,rfl⟩:=dG hz;unfold ct at hs;simp only at hs;split at hs
 ·rename_i hone;simp only[Option.some.injEq,Prod.mk.injEq]at hs;obtain⟨rfl,rfl,rfl⟩:=hs;obtain⟨β',hR⟩:=Di (ty:=e) (us:=zv.cells) h hd ht (CW _ hone) h.heap (lj.cv_ _ _);have hzr:(zeroValue e).run P w=.ok zv w:=by simp[zeroValue,typeInfo,hi,hzv]
  exact⟨_,_,by simp[execOp,ho,Instr.alloc,hzr,newVar,newRow],β',hR⟩
 ·cases hs
theorem cZ.one {S:Nat→Prop}{u:Value}{p:PV} (h:cZ S w u p):ef (.pv p)=true:=by cases h with|val v h=>exact h|_=>rfl
theorem jg (hh:Heap P (aS S0 w0.heap.size β st.aa w) w β st.aa) {S:Nat→Prop} (hS:S=aS S0 w0.heap.size β st.aa w) {u:Value}{X:AV}{r:List PV} (h:RV P S w β (ay st.aa) u X) (hr:rowOf X=some r):u.cells.toList.length=r.length∧∀(j:Nat) (p:PV),r[j]?=some p→∃c,u.cells.toList[j]?=some c∧c.oneCell'=true∧cZ S w c p:=by subst hS;cases X with
 |pv p=>simp only[rowOf,Option.some.injEq]at hr;subst hr;have h1:=j8 hh h h.bh.one;rw[h1.2];refine⟨rfl,fun j q hq=>?_⟩;cases j with|zero=>simp at hq;subst hq;exact⟨u,rfl,h1.1,h.bh⟩|succ j=>simp at hq
 |agg cs=>
  obtain⟨us,rfl,hl,hc⟩:=h.cN;have key:∀(cs:List AV) (r:List PV),eQ cs=some r→r.length=cs.length∧∀(j:Nat) (p:PV),r[j]?=some p→cs[j]?=some (.pv p):=by intro cs;induction cs with|nil=>intro r hr;simp[eQ]at hr;subst hr;exact⟨rfl,fun j p hp=>by simp at hp⟩|cons c cs ih=>intro r hr;simp only[eQ,Option.bind_eq_some_iff,Option.map_eq_some_iff]at hr;obtain⟨p,hp,ps,hps,rfl⟩:=hr;obtain⟨h1,h2⟩:=ih ps hps;refine⟨by simp[h1],fun j q hq=>?_⟩;cases j with|zero=>simp at hq;subst hq;cases c<;>simp[DF]at hp;subst hp;rfl|succ j=>simpa using h2 j q (by simpa using hq)
  obtain⟨k1,k2⟩:=key cs r hr;refine⟨by simp[Value.cells,hl,k1],fun j p hp=>?_⟩;have hcj:=k2 j p hp;have hlt:j<us.length:=by rw[hl];exact(List.getElem?_eq_some_iff.1 hcj).1
  have hu:us[j]?=some us[j]:=List.getElem?_eq_getElem hlt;have hrv:=hc j _ _ hcj hu;refine⟨us[j],by simp[Value.cells,hlt],?_,hrv.bh⟩;exact(j8 hh hrv hrv.bh.one).1|_=>simp[rowOf]at hr
theorem wF (sz:Nat) (ev:Operand→Value):∀(ops:List (Nat×Operand)) (k:Nat) (us:List Value),(ops.map (·.1))=List.range' k ops.length→us.length=(k+ops.length)*sz→(∀p∈ops,(ev p.2).cells.size=sz)→Instr.fill (fun i=>some (i*sz,sz)) us.toArray (ops.map fun p=>(p.1,ev p.2))=some (us.take (k*sz)++ops.flatMap fun p=>(ev p.2).cells.toList).toArray
 |[],k,us,_,hl,_=>by simp only[List.map_nil,Instr.fill,List.flatMap_nil,List.append_nil];rw[List.take_of_length_le (by simp at hl;omega)]|(i,z)::ops,k,us,hr,hl,hsz=>by
  simp only[List.map_cons,List.length_cons,List.range'_succ,List.cons.injEq]at hr;obtain⟨rfl,hr⟩:=hr;have hz:=hsz (i,z) (by simp);have hz':(ev z).cells.size=sz:=hz;have hin:i*sz+(ev z).cells.size≤us.length:=by rw[hz',hl];simp only[List.length_cons];rw[←Nat.succ_mul];exact Nat.mul_le_mul_right _ (by omega)
  simp only[List.map_cons,Instr.fill];rw[if_neg (by simp[hz'];omega)];rw[show(fun(cs:Array Value) (x:Value×Nat)=>match x with|(c,j)=>cs.setIfInBounds (i*sz+j) c)=fun(cs:Array Value) (p:Value×Nat)=>cs.setIfInBounds (i*sz+p.2) p.1 from rfl];rw[qY _ (i*sz) us hin];have hlt:(us.take (i*sz)).length=i*sz:=by rw[List.length_take];omega
  have hlc:(ev z).cells.toList.length=sz:=by simpa using hz'
  rw[wF sz ev ops (i+1) _ hr (by
   simp only[List.length_append,List.length_drop,hlt,hlc,hz',hl,List.length_cons];have:(i+(ops.length+1))*sz=i*sz+(ops.length+1)*sz:=Nat.add_mul _ _ _;have h2:(ops.length+1)*sz=ops.length*sz+sz:=Nat.succ_mul _ _;have h3:(i+1+ops.length)*sz=i*sz+sz+ops.length*sz:=by rw[Nat.add_mul,Nat.add_mul,Nat.one_mul]
   omega) (fun p hp=>hsz p (by simp[hp]))];have:(i+1)*sz=i*sz+sz:=Nat.succ_mul _ _;rw[this];have e1:List.take (i*sz+sz) (List.take (i*sz) us++(ev z).cells.toList++List.drop (i*sz+(ev z).cells.size) us)=List.take (i*sz) us++(ev z).cells.toList:=by rw[List.take_append_of_le_length (by simp[hlt,hlc])];rw[List.take_of_length_le (by rw[List.length_append,hlt,hlc];omega)]
  rw[e1];simp
theorem oR (sz:Nat):∀(l:List (List Value)) (i j:Nat),(∀r∈l,r.length=sz)→j<sz→(l.flatMap id)[i*sz+j]?=(l[i]?).bind (·[j]?)
 |[],i,j,_,_=>by simp|r::l,0,j,h,hj=>by simp only[Nat.zero_mul,Nat.zero_add,List.flatMap_cons,id,List.getElem?_cons_zero,Option.bind_some];rw[List.getElem?_append_left (by rw[h r (by simp)];exact hj)]|r::l,i+1,j,h,hj=>by
  have hr:=h r (by simp);have hm:(i+1)*sz+j=r.length+(i*sz+j):=by rw[hr,Nat.succ_mul];omega
  simp only[List.flatMap_cons,id,List.getElem?_cons_succ];rw[hm,List.getElem?_append_right (by omega),Nat.add_sub_cancel_left];exact oR sz l i j (fun r hr=>h r (by simp[hr])) hj
theorem nL:∀(xs:List AV) (rows:List (List PV)),rowsOf xs=some rows→rows.length=xs.length∧∀(i:Nat) (r:List PV),rows[i]?=some r→∃X,xs[i]?=some X∧rowOf X=some r|[],rows,h=>by simp[rowsOf]at h;subst h;exact⟨rfl,fun i r hr=>by simp at hr⟩|X::xs,rows,h=>by simp only[rowsOf,Option.bind_eq_some_iff,Option.map_eq_some_iff]at h;obtain⟨p,hp,ps,hps,rfl⟩:=h;obtain⟨h1,h2⟩:=nL xs ps hps;refine⟨by simp[h1],fun i r hr=>?_⟩;cases i with|zero=>simp at hr;subst hr;exact⟨X,rfl,hp⟩|succ i=>obtain⟨Y,h3,h4⟩:=h2 i r (by simpa using hr);exact⟨Y,by simpa using h3,h4⟩
theorem lW {vars:Nat→AV}:∀(l:List Operand) (k:Nat) (z:Operand),ak (l.map (ev vars))→l[k]?=some z→asks (ev vars z)|[],k,z,_,hk=>by simp at hk|y::l,0,z,h,hk=>by simp at hk;subst hk;exact h.1|y::l,k+1,z,h,hk=>lW l k z h.2 (by simpa using hk)
theorem xF {t e:TypeId}{sz n:Nat}{i:TypeInfo}{zv:Value}{ops:Array (Nat×Operand)} (ho:o.op=.buildSlice t n ops) (hu:P.underlying t=some (.slice e)) (hsz:cm P e=some sz) (hi:P.info? e=some i) (hzv:i.zero=some zv) (hzl:zv.cells.toList.length=sz) (hord:ops.toList.map (·.1)=List.range n) (hbig:n*sz≤2^24) (hlen:ops.toList.length=n) (hcsz:∀p∈ops.toList,(a.eval p.2).cells.size=sz):(ops.toList.flatMap fun p=>(a.eval p.2).cells.toList).length=n*sz∧(execOp a.eval o).run P w=.ok (.value (.slice (some ⟨w.heap.size,0,none⟩) n n)) (w.alloc (.cells (ops.toList.flatMap fun p=>(a.eval p.2).cells.toList).toArray e)):=by
 let us:List Value:=ops.toList.flatMap fun p=>(a.eval p.2).cells.toList;have hus:us=(ops.toList.map fun p=>(a.eval p.2).cells.toList).flatMap id:=by simp[us,List.flatMap_map]
 have hsum:∀l:List (Nat×Operand),(∀p∈l,(a.eval p.2).cells.size=sz)→(l.flatMap fun p=>(a.eval p.2).cells.toList).length=l.length*sz:=by intro l;induction l with|nil=>intro _;simp|cons p l ih=>intro hl;simp only[List.flatMap_cons,List.length_append,Array.length_toList,hl p (by simp),ih (fun q hq=>hl q (by simp[hq])),List.length_cons,Nat.succ_mul];omega
 have husl:us.length=n*sz:=by rw[hsum ops.toList hcsz,hlen]
 have hfill:=wF sz a.eval ops.toList 0 ((Array.range (n*sz)).map (fun i=>zv.cells[i%zv.cells.size]!)).toList (by rw[hord,hlen,List.range_eq_range']) (by simp[hlen]) hcsz;have hzr:(zeroValue e).run P w=.ok zv w:=by simp[zeroValue,typeInfo,hi,hzv]
 have hml:(ops.map fun x=>(x.1,a.eval x.2)).toList=ops.toList.map fun p=>(p.1,a.eval p.2):=by simp
 have hfn:(fun(x:Nat×Operand)=>match x with|(i,x)=>(i,a.eval x))=fun x=>(x.1,a.eval x.2):=rfl;have hrun:(execOp a.eval o).run P w=.ok (.value (.slice (some ⟨w.heap.size,0,none⟩) n n)) (w.alloc (.cells us.toArray e)):=by
  simp only[execOp,ho,hfn];have hnb:¬(n*sz>2^24):=by omega
  by_cases h0:n*sz=0
  ·have hfill0:Instr.fill (fun i=>some (i*sz,sz)) ((Array.range 0).map fun i=>(#[]:Array Value)[i%(#[]:Array Value).size]!) (ops.map fun x=>(x.1,a.eval x.2)).toList=some us.toArray:=by
    rw[hml];have h2:((Array.range (n*sz)).map (fun i=>zv.cells[i%zv.cells.size]!)).toList.toArray=(Array.range 0).map fun i=>(#[]:Array Value)[i%(#[]:Array Value).size]!:=by rw[h0];simp
    rw[←h2];simpa[us]using hfill
   simp only[Instr.buildSlice,Sem.run_bind,run_underlying hu,Result.andThen_ok,dY hsz,hnb,if_false,h0,if_true,Sem.run_pure,hfill0,newRow,run_newObj,show¬(0:Nat)>2^24 from by omega];rfl
  ·have hfill1:Instr.fill (fun i=>some (i*sz,sz)) ((Array.range (n*sz)).map fun i=>zv.cells[i%zv.cells.size]!) (ops.map fun x=>(x.1,a.eval x.2)).toList=some us.toArray:=by rw[hml,show((Array.range (n*sz)).map fun i=>zv.cells[i%zv.cells.size]!)=((Array.range (n*sz)).map fun i=>zv.cells[i%zv.cells.size]!).toList.toArray from by rw[Array.toArray_toList]];rw[hfill];simp[us]
   simp only[Instr.buildSlice,Sem.run_bind,run_underlying hu,Result.andThen_ok,dY hsz,hnb,if_false,h0,Sem.run_pure,hzr,hfill1,newRow,run_newObj];rfl
 exact⟨husl,hrun⟩
theorem LW {t e:TypeId}{sz n:Nat}{zs:List Value}{ops:Array (Nat×Operand)} (ho:o.op=.buildSlice t n ops) (hu:P.underlying t=some (.slice e)) (hsz:cm P e=some sz) (hz:dE P e=some zs) (hord:ops.toList.map (·.1)=List.range n) (hbig:n*sz≤2^24) (hzl:zs.length=sz) (hpos:0<sz) (h:Rel P S0 L B0 w0 N st a w β) (hd:d<N) (ht:st.aa d=none) (hev:∀z:Operand,asks (ev st.vars z)→RV P (aS S0 w0.heap.size β st.aa w) w β (ay st.aa) (a.eval z) (strip (ev st.vars z))) (ha:ak ((ops.toList.map (·.2)).map (ev st.vars))) {φ:Prop}{v:AV}{ao:AO} (hs:ct (.rG e sz) d (((ops.toList.map (·.2)).map (ev st.vars)).map strip) st.aa=some (φ,v,ao)) (hφ:φ):∃r w',(execOp a.eval o).run P w=.ok (.value r) w'∧∃β',Rel P S0 L B0 w0 N ⟨put (some d) v st.vars,bp [(d,ao)] st.aa⟩ (a.put (some d) r) w' β':=by
 obtain⟨inf,hi,hinf⟩:=fY hsz;obtain⟨i,zv,hi',hzv,hzs,rfl⟩:=dG hz;have:i=inf:=by rw[hi]at hi';injection hi' with hi';exact hi'.symm
 subst this;unfold ct at hs;simp only[Option.map_eq_some_iff]at hs;obtain⟨rows,hrows,he⟩:=hs;simp only[Prod.mk.injEq]at he;obtain⟨rfl,rfl,rfl⟩:=he;have hlen:ops.toList.length=n:=by have:=congrArg List.length hord;simpa using this
 obtain⟨hrl,hrg⟩:=nL _ rows hrows;have hrl':rows.length=n:=by rw[hrl];simp[hlen]
 have hrv:∀(k:Nat) (p:Nat×Operand),ops.toList[k]?=some p→∃r,rows[k]?=some r∧RV P (aS S0 w0.heap.size β st.aa w) w β (ay st.aa) (a.eval p.2) (strip (ev st.vars p.2))∧rowOf (strip (ev st.vars p.2))=some r:=by
  intro k p hk;have hlt:k<rows.length:=by rw[hrl',←hlen];exact(List.getElem?_eq_some_iff.1 hk).1
  have hr:rows[k]?=some rows[k]:=List.getElem?_eq_getElem hlt;obtain⟨X,hX,hro⟩:=hrg k _ hr;have hXe:X=strip (ev st.vars p.2):=by simp only[List.getElem?_map,hk,Option.map_some,Option.some.injEq]at hX;exact hX.symm
  subst hXe;have hk2:(ops.toList.map (·.2))[k]?=some p.2:=by simp[hk]
  exact⟨_,hr,hev p.2 (lW _ k _ ha hk2),hro⟩
 have hcsz:∀p∈ops.toList,(a.eval p.2).cells.size=sz:=by intro p hp;obtain⟨k,hk⟩:=List.getElem?_of_mem hp;obtain⟨r,h1,h2,h3⟩:=hrv k p hk;have:=(jg h.heap rfl h2 h3).1;rw[hφ r (List.mem_of_getElem? h1)]at this;simpa using this
 let us:List Value:=ops.toList.flatMap fun p=>(a.eval p.2).cells.toList;have hus:us=(ops.toList.map fun p=>(a.eval p.2).cells.toList).flatMap id:=by simp[us,List.flatMap_map]
 obtain⟨husl,hrun⟩:us.length=n*sz∧(execOp a.eval o).run P w=.ok (.value (.slice (some ⟨w.heap.size,0,none⟩) n n)) (w.alloc (.cells us.toArray e)):=xF (w:=w) ho hu hsz hi hzv hzl hord hbig hlen hcsz;have hb:∀b,b9 (.slice (some ⟨w.heap.size,0,none⟩) n n)=some b→w.heap.size≤b:=fun b hb=>by simp[b9]at hb;omega
 have hm:=h.ki ht (cJ w (.cells us.toArray e)) (v:=.slice (some ⟨w.heap.size,0,none⟩) n n) hb (o:=.arr e rows);have hnm:n≤maxLen:=by have:n*1≤n*sz:=Nat.mul_le_mul_left _ hpos;simp only[maxLen];omega
 have hf:=h.fresh hd ht (cJ w (.cells us.toArray e)) (v:=.slice (some ⟨w.heap.size,0,none⟩) n n) hb (o:=.arr e rows) ⟨i,us,hi,by rw[aT,hrl',hinf];exact⟨husl,.inr ⟨w.heap.size,n,us.toArray,rfl,Nat.zero_le _,heap_alloc_new w _,Nat.le_refl _,hnm,by simpa using husl,by rw[←husl];simp⟩⟩,fun r hr=>by rw[hinf];exact hφ r hr,fun k j r p hr hp=>by
  have hlt:k<ops.toList.length:=by rw[hlen,←hrl'];exact(List.getElem?_eq_some_iff.1 hr).1
  have hk:ops.toList[k]?=some ops.toList[k]:=List.getElem?_eq_getElem hlt;obtain⟨r',h1,h2,h3⟩:=hrv k _ hk;rw[hr]at h1;injection h1 with h1;subst h1;have hc:=jg h.heap rfl h2 h3;obtain⟨c,hc1,hc2,hc3⟩:=hc.2 j p hp;have hj:j<sz:=by rw[←hφ r (List.mem_of_getElem? hr)];exact(List.getElem?_eq_some_iff.1 hp).1
  refine⟨c,?_,hc2,hc3.mono hm.1⟩;rw[hus,hinf,oR sz _ k j (fun q hq=>by obtain⟨p',hp',rfl⟩:=List.mem_map.1 hq;simpa using hcsz p' hp') hj];rw[List.getElem?_map,hk];simpa using hc1⟩;rw[cf];have hp:=hf.put (d:=some d) (r:=eh β d (.slice (some ⟨w.heap.size,0,none⟩) n n) d) (v:=.own d) (fun s hs=>by injection hs with hs;omega) (.own d (bF.2 (.inl rfl)));rw[aT]at hp;exact⟨_,_,hrun,_,hp⟩
theorem Rel.grow {w':World} (h:Rel P S0 L B0 w0 N st a w β) (hg:w.grownBy w' none):Rel P S0 L B0 w0 N st a w' β∧(∀b,aS S0 w0.heap.size β st.aa w b→aS S0 w0.heap.size β st.aa w' b∧w'.heap[b]?=w.heap[b]?):=by have hsame:∀b,b<w.heap.size→w'.heap[b]?=w.heap[b]?:=fun b hb=>hg.block b hb (by simp);have hm:∀b,aS S0 w0.heap.size β st.aa w b→aS S0 w0.heap.size β st.aa w' b∧w'.heap[b]?=w.heap[b]?:=fun b hb=>⟨⟨hb.1,Nat.lt_of_lt_of_le hb.2.1 hg.size,hb.2.2⟩,hsame b hb.2.1⟩;have hD:∀s,ay st.aa s→ay st.aa s∧β s=β s:=fun s hs=>⟨hs,rfl⟩;exact⟨⟨h.size,h.defers,fun s=>(h.vars s).mono hm hD,⟨fun s o hs=>(h.heap.holds s o hs).mono hm hD rfl (fun b hb=>hsame b (h.lt ⟨o,hs⟩ hb)),h.heap.inj⟩,h.old,h.pY,h.uI,⟨hg.os.trans h.bK.os,hg.tape.trans h.bK.tape,hg.output.trans h.bK.output,Nat.le_trans h.bK.size hg.size,fun b h1 h2=>(hsame b (by have:=h.bK.size;omega)).trans (h.bK.block b h1 h2)⟩⟩,hm⟩
theorem MO {t e:TypeId}{sz n:Nat}{zs:List Value}{ops:Array (Nat×Operand)} (ho:o.op=.buildSlice t n ops) (hu:P.underlying t=some (.slice e)) (hsz:cm P e=some sz) (hz:dE P e=some zs) (hord:ops.toList.map (·.1)=List.range n) (hbig:n*sz≤2^24) (hzl:zs.length=sz) (hpos:0<sz) (h:Rel P S0 L B0 w0 N st a w β) (hev:∀z:Operand,asks (ev st.vars z)→RV P (aS S0 w0.heap.size β st.aa w) w β (ay st.aa) (a.eval z) (strip (ev st.vars z))) (ha:ak ((ops.toList.map (·.2)).map (ev st.vars))) {rows:List (List PV)} (hrows:rowsOf (((ops.toList.map (·.2)).map (ev st.vars)).map strip)=some rows) (hφ:∀r∈rows,r.length=sz):∃r w',(execOp a.eval o).run P w=.ok (.value r) w'∧Rel P S0 L B0 w0 N st a w' β∧RV P (aS S0 w0.heap.size β st.aa w') w' β (ay st.aa) r (.pv (.ro rows)):=by
 obtain⟨inf,hi,hinf⟩:=fY hsz;obtain⟨i,zv,hi',hzv,hzs,rfl⟩:=dG hz;have:i=inf:=by rw[hi]at hi';injection hi' with hi';exact hi'.symm
 subst this;have hlen:ops.toList.length=n:=by have:=congrArg List.length hord;simpa using this
 obtain⟨hrl,hrg⟩:=nL _ rows hrows;have hrl':rows.length=n:=by rw[hrl];simp[hlen]
 have hrv:∀(k:Nat) (p:Nat×Operand),ops.toList[k]?=some p→∃r,rows[k]?=some r∧RV P (aS S0 w0.heap.size β st.aa w) w β (ay st.aa) (a.eval p.2) (strip (ev st.vars p.2))∧rowOf (strip (ev st.vars p.2))=some r:=by
  intro k p hk;have hlt:k<rows.length:=by rw[hrl',←hlen];exact(List.getElem?_eq_some_iff.1 hk).1
  have hr:rows[k]?=some rows[k]:=List.getElem?_eq_getElem hlt;obtain⟨X,hX,hro⟩:=hrg k _ hr;have hXe:X=strip (ev st.vars p.2):=by simp only[List.getElem?_map,hk,Option.map_some,Option.some.injEq]at hX;exact hX.symm
  subst hXe;have hk2:(ops.toList.map (·.2))[k]?=some p.2:=by simp[hk]
  exact⟨_,hr,hev p.2 (lW _ k _ ha hk2),hro⟩
 have hcsz:∀p∈ops.toList,(a.eval p.2).cells.size=sz:=by intro p hp;obtain⟨k,hk⟩:=List.getElem?_of_mem hp;obtain⟨r,h1,h2,h3⟩:=hrv k p hk;have:=(jg h.heap rfl h2 h3).1;rw[hφ r (List.mem_of_getElem? h1)]at this;simpa using this
 let us:List Value:=ops.toList.flatMap fun p=>(a.eval p.2).cells.toList;have hus:us=(ops.toList.map fun p=>(a.eval p.2).cells.toList).flatMap id:=by simp[us,List.flatMap_map]
 obtain⟨husl,hrun⟩:us.length=n*sz∧(execOp a.eval o).run P w=.ok (.value (.slice (some ⟨w.heap.size,0,none⟩) n n)) (w.alloc (.cells us.toArray e)):=xF (w:=w) ho hu hsz hi hzv hzl hord hbig hlen hcsz;obtain⟨hR,hm⟩:=h.grow (cJ w (.cells us.toArray e));refine⟨_,_,hrun,hR,.pv _ _ ?_⟩;have hcell:∀k j,k<rows.length→j<sz→∃(r:List PV) (p:PV) (c:Value),rows[k]?=some r∧r[j]?=some p∧us[k*sz+j]?=some c∧c.oneCell'=true∧cZ (aS S0 w0.heap.size β st.aa w) w c p:=by
  intro k j hkl hj;have hlt:k<ops.toList.length:=by omega
  have hk:ops.toList[k]?=some ops.toList[k]:=List.getElem?_eq_getElem hlt;obtain⟨r,h1,h2,h3⟩:=hrv k _ hk;have hrj:j<r.length:=by rw[hφ r (List.mem_of_getElem? h1)];exact hj
  have hc:=jg h.heap rfl h2 h3;obtain⟨c,hc1,hc2,hc3⟩:=hc.2 j r[j] (List.getElem?_eq_getElem hrj);refine⟨r,r[j],c,h1,List.getElem?_eq_getElem hrj,?_,hc2,hc3⟩;rw[hus,oR sz _ k j (fun q hq=>by obtain⟨p',hp',rfl⟩:=List.mem_map.1 hq;simpa using hcsz p' hp') hj];rw[List.getElem?_map,hk];simpa using hc1
 rw[←hrl'];refine .ro ⟨w.heap.size,0,none⟩ rows.length rows sz (fun k j=>us.getD (k*sz+j) .nilIface) ⟨.inr h.bK.size,?_,?_⟩ (Nat.le_refl _) hφ (fun k j hk hj=>?_) (fun k j r p hr hp=>?_) (fun k j r p hr hp=>?_);·show w.heap.size<(w.heap.push _).size;simp
 ·rintro⟨s,o',hs,hb⟩;exact Nat.lt_irrefl _ (h.lt ⟨o',hs⟩ hb)
 ·obtain⟨r,p,c,_,_,hc,_⟩:=hcell k j hk hj;rw[Addr.add_lit];show World.cell? _ _=_;simp only[World.cell?,heap_alloc_new,List.getD_eq_getElem?_getD,hc];simp[hc]
 ·have hk:=(List.getElem?_eq_some_iff.1 hr).1;have hj:j<sz:=by rw[←hφ r (List.mem_of_getElem? hr)];exact(List.getElem?_eq_some_iff.1 hp).1
  obtain⟨r',p',c,h1,h2,hc,hone,_⟩:=hcell k j hk hj;simp only[List.getD_eq_getElem?_getD,hc,Option.getD_some];exact hone
 ·have hk:=(List.getElem?_eq_some_iff.1 hr).1;have hj:j<sz:=by rw[←hφ r (List.mem_of_getElem? hr)];exact(List.getElem?_eq_some_iff.1 hp).1
  obtain⟨r',p',c,h1,h2,hc,_,hv⟩:=hcell k j hk hj;rw[hr]at h1;injection h1 with h1;subst h1;rw[hp]at h2;injection h2 with h2;subst h2;simp only[List.getD_eq_getElem?_getD,hc,Option.getD_some];exact hv.mono hm
theorem MD {src dst e:TypeId}{x:Operand} (ho:o.op=.convert src dst x) (hs:P.underlying src=some .string) (hd:P.underlying dst=some (.slice e)) (he:P.underlying e=some (.int .u8)) (h:Rel P S0 L B0 w0 N st a w β) {l:List UInt8} (hx:a.eval x=.string ⟨l.toArray⟩):∃r w',(execOp a.eval o).run P w=.ok (.value r) w'∧Rel P S0 L B0 w0 N st a w' β∧RV P (aS S0 w0.heap.size β st.aa w') w' β (ay st.aa) r (.pv (.ro (bytesRow l))):=by
 have hsz:(⟨l.toArray⟩:ByteArray).size=l.length:=by show l.toArray.size=_;simp
 have hrun:=run_bytes_of_string (P:=P) w src dst e ⟨l.toArray⟩ hs hd he;rw[hsz]at hrun;generalize hob:Obj.cells (_root_.Go.bytesRow ⟨l.toArray⟩ (grownCap w l.length 0 e)) e ((_root_.Go.bytesRow ⟨l.toArray⟩ (grownCap w l.length 0 e)).size,(_root_.Go.bytesRow ⟨l.toArray⟩ (grownCap w l.length 0 e)).size+1)=ob at hrun;have hg:w.grownBy (w.drew.alloc ob) none:=⟨rfl,rfl,rfl,by simp,fun k hk _=>Below.heap_alloc w.drew _ k hk⟩;obtain⟨hR,hm⟩:=h.grow hg;have hlen:(bytesRow l).length=l.length:=by simp[bytesRow]
 have hrun2:(execOp a.eval o).run P w=.ok (.value (.slice (some ⟨w.heap.size,0,none⟩) l.length (grownCap w l.length 0 e))) (w.drew.alloc ob):=by simp[execOp,ho,hx,hrun]
 refine⟨_,_,hrun2,hR,.pv _ _ ?_⟩;have hat:∀i,i<l.length→(bytesRow l)[i]?=some [.int .u8 ((l.getD i 0).toNat:Int)]:=by intro i hi;simp[bytesRow,hi]
 have hge:l.length≤grownCap w l.length 0 e:=grownCap_ge w _ 0 e;rw[←hlen]at hge;rw[←hlen];refine .ro ⟨w.heap.size,0,none⟩ _ (bytesRow l) 1 (fun k _=>.int .u8 ((l.getD k 0).toNat:Int)) ⟨.inr h.bK.size,?_,?_⟩ ?_ (fun r hr=>?_) (fun k j hk hj=>?_) (fun k j r p hr hp=>rfl) (fun k j r p hr hp=>?_);·show w.heap.size<(w.heap.push _).size;simp
 ·rintro⟨s,o',hs,hb⟩;exact Nat.lt_irrefl _ (h.lt ⟨o',hs⟩ hb)
 ·rw[hlen]at hge ⊢;exact hge
 ·simp only[bytesRow,List.mem_map]at hr;obtain⟨c,_,rfl⟩:=hr;rfl
 ·rw[hlen]at hk;have hj:j=0:=by omega
  subst hj;rw[Addr.add_lit];show World.cell? _ _=_;have hnew:(w.drew.alloc ob).heap[w.heap.size]?=some ob:=heap_alloc_new w.drew _;simp only[World.cell?,hnew];rw[←hob];show(_root_.Go.bytesRow ⟨l.toArray⟩ (grownCap w l.length 0 e))[0+(k*1+0)]?=_;simp[_root_.Go.bytesRow,hk,Array.getElem?_append]
 ·have hk:=(List.getElem?_eq_some_iff.1 hr).1;rw[hlen]at hk;rw[hat k hk]at hr;cases hr;have hj:j<1:=(List.getElem?_eq_some_iff.1 hp).1;have hj:j=0:=by omega
  subst hj;cases hp;exact .int _ _
end
end Go.Proofs.YtlicclncicbajaaGreat.Ab
