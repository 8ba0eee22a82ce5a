/- Chapter 14: rows in order, each number once; slices.Compact at uint64; two rows of numbers. -/
import Derived.Test.YthblkhafehanfaaY10
import Derived.Test.YthblkhafehanfaaChecked
import Derived.Sort.Defs
import Derived.Sort.WalkC
set_option linter.unusedVariables false
set_option linter.unusedSimpArgs false
set_option linter.unnecessarySimpa false
set_option maxHeartbeats 40000000
set_option maxRecDepth 100000
namespace Go.Proofs.Ythblkhafehanfaa.Ab
open Go Go.RowKit R
def stC (acc:List Int) (x:Int):List Int:=if acc.getLast? = some x then acc else acc ++ [x]
def cmpU (l:List Int):List Int:=l.foldl stC []
theorem cmpU_snoc (l:List Int) (x:Int):cmpU (l ++ [x]) = stC (cmpU l) x:=by simp [cmpU,List.foldl_append]
theorem stC_last (acc:List Int) (x:Int):(stC acc x).getLast? = some x:=by
 unfold stC
 split
 ·assumption
 ·simp
theorem cmpU_take {l:List Int} {i:Nat} (h:i < l.length):cmpU (l.take (i + 1)) = stC (cmpU (l.take i)) l[i]:=by
 rw [List.take_succ_eq_append_getElem h,cmpU_snoc]
theorem cmpU_last {l:List Int} {i:Nat} (h:i < l.length):(cmpU (l.take (i + 1))).getLast? = some l[i]:=by
 rw [cmpU_take h,stC_last]
theorem stC_len (acc:List Int) (x:Int):(stC acc x).length≤acc.length + 1:=by
 unfold stC;split<;>simp
theorem cmpU_len (l:List Int):∀ i,(cmpU (l.take i)).length≤i
 | 0=>by simp [cmpU]
 | i + 1=>by
  by_cases h:i < l.length
  ·rw [cmpU_take h];have:=stC_len (cmpU (l.take i)) l[i];have:=cmpU_len l i;omega
  ·rw [List.take_of_length_le (by omega)]
   have:=cmpU_len l i
   rw [List.take_of_length_le (by omega)] at this
   omega
theorem stC_mem (acc:List Int) (x y:Int):y∈stC acc x↔y∈acc∨y = x:=by
 unfold stC
 split
 ·rename_i h
  constructor
  ·exact .inl
  ·rintro (h1 | rfl)
   ·exact h1
   ·exact List.mem_of_getLast? h
 ·simp
theorem stC_sorted (acc:List Int) (x:Int) (h:acc.Pairwise (· < ·)) (hx:∀ y∈acc,y≤x):(stC acc x).Pairwise (· < ·):=by
 unfold stC
 split
 ·exact h
 ·rename_i hl
  rw [List.pairwise_append]
  refine ⟨h,by simp,?_⟩
  intro a ha b hb
  simp at hb
  subst hb
  have h1:=hx a ha
  rcases Int.lt_or_eq_of_le h1 with h2 | rfl
  ·exact h2
  ·exfalso
   apply hl
   obtain ⟨l1,l2,rfl⟩:=List.append_of_mem ha
   cases l2 with
   | nil=>simp
   | cons c l2=>
    have:=(List.pairwise_append.1 h).2.1
    have h3:=(List.pairwise_cons.1 this).1 c (by simp)
    have h4:=hx c (by simp)
    omega
theorem fold_sorted:∀ (l acc:List Int),l.Pairwise (·≤·)→acc.Pairwise (· < ·)→(∀ y∈acc,∀ x∈l,y≤x)→(l.foldl stC acc).Pairwise (· < ·)
 | [],acc,_,h,_=>h
 | x :: l,acc,h1,h2,h3=>by
  rw [List.pairwise_cons] at h1
  refine fold_sorted l _ h1.2 (stC_sorted acc x h2 fun y hy=>h3 y hy x (by simp)) ?_
  intro y hy z hz
  rcases (stC_mem acc x y).1 hy with h | rfl
  ·exact h3 y h z (by simp [hz])
  ·exact h1.1 z hz
theorem fold_mem (y:Int):∀ (l acc:List Int),y∈l.foldl stC acc↔y∈acc∨y∈l
 | [],acc=>by simp
 | x :: l,acc=>by
  rw [List.foldl_cons,fold_mem y l,stC_mem,List.mem_cons,or_assoc]
theorem strict_ext:∀ (a b:List Int),a.Pairwise (· < ·)→b.Pairwise (· < ·)→(∀ y,y∈a↔y∈b)→a = b
 | [],[],_,_,_=>rfl
 | [],y :: b,_,_,h=>by have:=(h y).2 (by simp);simp at this
 | x :: a,[],_,_,h=>by have:=(h x).1 (by simp);simp at this
 | x :: a,y :: b,ha,hb,h=>by
  rw [List.pairwise_cons] at ha hb
  have hxy:x = y:=by
   have h1:=(h x).1 (by simp)
   have h2:=(h y).2 (by simp)
   rw [List.mem_cons] at h1 h2
   rcases h1 with h1 | h1
   ·exact h1
   ·rcases h2 with h2 | h2
    ·exact h2.symm
    ·have:=ha.1 y h2;have:=hb.1 x h1;omega
  subst hxy
  rw [strict_ext a b ha.2 hb.2 fun z=>?_]
  have hz:=h z
  rw [List.mem_cons,List.mem_cons] at hz
  constructor
  ·intro h1
   rcases hz.1 (.inr h1) with rfl | h2
   ·have:=ha.1 z h1;omega
   ·exact h2
  ·intro h1
   rcases hz.2 (.inr h1) with rfl | h2
   ·have:=hb.1 z h1;omega
   ·exact h2
def srtU (l:List Int):List Int:=l.mergeSort fun x y=>decide (x≤y)
def versL (l:List Int):List Int:=cmpU (srtU l)
theorem srtU_sorted (l:List Int):(srtU l).Pairwise (·≤·):=by
 have:=List.pairwise_mergeSort (le:=fun x y:Int=>decide (x≤y)) (fun a b c h1 h2=>by simp at h1 h2 ⊢;omega) (fun a b=>by simp;omega) l
 exact this.imp (by simp)
theorem versL_eq {l a:List Int} (h:a.Pairwise (· < ·)) (hm:∀ y,y∈a↔y∈l):a = versL l:=by
 apply strict_ext _ _ h
 ·exact fold_sorted _ _ (srtU_sorted l) .nil (by simp)
 ·intro y
  unfold versL cmpU
  rw [fold_mem,hm y]
  simp [srtU]
theorem versL_len (l:List Int):(versL l).length≤l.length:=by
 have:=cmpU_len (srtU l) (srtU l).length
 rw [List.take_of_length_le (Nat.le_refl _)] at this
 unfold versL;simpa [srtU] using this
theorem rowsN_set (l:List Int) (i:Nat) (x:Int):(rowsN l).set i [.int .u64 x] = rowsN (l.set i x):=by
 unfold rowsN
 rw [List.map_set]
 rfl
theorem rowsN_one (l:List Int):∀ r∈rowsN l,r.length = 1:=by
 intro r hr
 simp only [rowsN,List.mem_map] at hr
 obtain ⟨c,_,rfl⟩:=hr
 rfl
noncomputable def GCmp:List AV→Option (Prop × AV)
 | [.fr e a]=>if e = 81 then (dec rowN a).map fun l=>(l.length≤1000000,.fr 81 (rowsN (cmpU l))) else none
 | _=>none
@[simp] theorem GCmp_eq (e:TypeId) (a:List (List PV)):GCmp [.fr e a] = if e = 81 then (dec rowN a).map fun l=>(l.length≤1000000,.fr 81 (rowsN (cmpU l))) else none:=rfl
theorem c_Cmp:ConTU Try.prog 103 GCmp:=by
 intro ys φ r h hφ
 unfold GCmp at h
 split at h
 ·rename_i e ra
  split at h
  ·rename_i he
   subst he
   obtain ⟨a,ha,h⟩:=Option.map_eq_some_iff.1 h
   cases h
   cases dec_rowsN_inv ha
   have hl6:a.length≤1000000:=hφ
   refine con_ofU tab_nil (by kernel_rfl) fn103 (by simp) (by simp [resOK,res1,resC]) (by simp) ?_
   unfold body103
   by_cases h2:a.length < 2
   ·have h2':(a.length:Int) < 2:=by omega
    have hc:cmpU a = a:=by
     match a,h2 with
     | [],_=>rfl
     | [x],_=>rfl
    simp (config := { maxSteps := 3000000 }) [h2,h2',hc]
   ·have h2':¬ (a.length:Int) < 2:=by omega
    have w1:IntKind.i64.wrap 1 = 1:=wrap_i64 (by omega)
    apply vwp_cut
    ·simp (config := { maxSteps := 3000000 })
     exact ⟨rfl,rfl⟩
    apply vwp_cut
    ·simp (config := { maxSteps := 3000000 }) [h2,h2']
     exact ⟨rfl,rfl⟩
    rw [vwp_seq]
    simp (config := { maxSteps := 3000000 })
    refine vwp_loop (fun i:Nat=>1≤i∧i≤a.length∧cmpU (a.take i) = a.take i) (fun i=>⟨[(0,.own 998),(3,.pv (.int .i64 i))],[(998,.arr 81 (rowsN a))]⟩) (fun i=>a.length - i) [] 1 ⟨by omega,by omega,by cases a with
     | nil=>rfl
     | cons x a=>rfl⟩ ?_ ?_
    ·simp [w1]
    ·rintro i ⟨hi1,hi2,hi3⟩
     have w2:IntKind.i64.wrap ((i:Int) + 1) = (i:Int) + 1:=wrap_i64 (by omega)
     by_cases hlt:i < a.length
     ·obtain ⟨p,rfl⟩:∃ p,i = p + 1:=⟨i - 1,by omega⟩
      have hpl:p < a.length:=by omega
      have w3:IntKind.i64.wrap (p:Int) = (p:Int):=wrap_i64 (by omega)
      have r1:rowAt (rowsN a) ((p:Int) + 1) = [.int .u64 a[p + 1]]:=by have:=rowsN_at hlt;simpa using this
      have r2:=rowsN_at hpl
      have q1:(0:Int)≤(p:Int) + 1:=by omega
      have q2:(p:Int) + 1 < a.length:=by omega
      have q3:(p:Int) < a.length:=by omega
      have hla:=cmpU_last hpl
      by_cases hq:a[p + 1] = a[p]
      ·apply vwp_cut
       ·simp (config := { maxSteps := 3000000 }) [hlt,q2]
        exact ⟨rfl,rfl⟩
       rw [vwp_seq]
       rw [vwp_block]
       apply vwp_cut
       ·simp (config := { maxSteps := 3000000 }) [w3,r1,r2,q1,q2,q3,hq]
        exact ⟨hpl,rfl,rfl⟩
       apply vwp_cT rfl
       apply vwp_cut
       ·simp (config := { maxSteps := 3000000 }) [q1,q2]
        exact ⟨⟨by omega,rowsN_one a⟩,rfl,rfl⟩
       rw [vwp_seq]
       apply vwp_cut
       ·simp (config := { maxSteps := 3000000 })
        exact ⟨rfl,rfl⟩
       rw [vwp_block]
       obtain ⟨i,hi⟩:∃ i,i = p + 1:=⟨_,rfl⟩
       have hst:cmpU (a.take (i + 1)) = a.take i:=by
        subst hi
        rw [cmpU_take hlt,stC,if_pos (by rw [hla,hq]),hi3]
       refine vwp_loop (fun x:Nat × Nat × List Int=>1≤x.2.1∧x.1 < i + x.2.1∧i + x.2.1≤a.length∧x.2.2.length = a.length∧x.2.2.take x.1 = cmpU (a.take (i + x.2.1))∧x.2.2.drop (i + x.2.1 - 1) = a.drop (i + x.2.1 - 1))
        (fun x=>⟨[(0,.own 998),(3,.pv (.int .i64 x.1)),(4,.sub 998 81 i a.length),(5,.pv (.int .i64 x.2.1))],[(998,.arr 81 (rowsN x.2.2))]⟩) (fun x=>a.length - x.2.1) [] (i,1,a) ?_ ?_ ?_
       ·exact ⟨Nat.le_refl _,by show i < i + 1;omega,by show i + 1≤a.length;omega,rfl,hst.symm,rfl⟩
       ·simp
        omega
       ·rintro ⟨k,j,b⟩ ⟨h1,h3,h4,h5,h6,h7⟩
        dsimp only at h1 h3 h4 h5 h6 h7
        obtain ⟨m,hm⟩:∃ m,m = i + j - 1:=⟨_,rfl⟩
        rw [← hm] at h7
        have hm1:i + j = m + 1:=by omega
        rw [hm1] at h6
        have u2:IntKind.i64.wrap ((j:Int) + 1) = (j:Int) + 1:=wrap_i64 (by omega)
        have u3:IntKind.i64.wrap ((k:Int) + 1) = (k:Int) + 1:=wrap_i64 (by omega)
        have u4:IntKind.i64.wrap ((j:Int) - 1) = (j:Int) - 1:=wrap_i64 (by omega)
        have u5:(i:Int) + ((j:Int) - 1) = (m:Int):=by omega
        obtain ⟨n,hn⟩:∃ n,n = m + 1:=⟨_,rfl⟩
        have u6:(i:Int) + (j:Int) = (n:Int):=by omega
        rw [← hn] at h6
        by_cases hjl:(j:Int) < (a.length:Int) - (i:Int)
        ·have hna:n < a.length:=by omega
         have hma:m < a.length:=by omega
         have hnb:n < b.length:=by omega
         have hmb:m < b.length:=by omega
         have hkb:k < b.length:=by omega
         have e1:=List.drop_eq_getElem_cons hmb
         have e2:=List.drop_eq_getElem_cons hma
         have e3:b[m] = a[m]∧b.drop n = a.drop n:=by
          rw [h7,e2] at e1
          injection e1 with e1 e4
          exact ⟨e1.symm,by rw [hn];exact e4.symm⟩
         have e4:b[n] = a[n]:=by
          have e5:=List.drop_eq_getElem_cons hnb
          have e6:=List.drop_eq_getElem_cons hna
          rw [e3.2,e6] at e5
          injection e5 with e5 _;exact e5.symm
         have r3:=rowsN_at hnb
         have r4:=rowsN_at hmb
         have r5:=rowsN_at hkb
         rw [e4] at r3
         rw [e3.1] at r4
         have hla:(cmpU (a.take n)).getLast? = some a[m]:=by rw [hn];exact cmpU_last hma
         have hstep:=cmpU_take hna
         have hin:i + (j + 1) = n + 1:=by omega
         have j1:(0:Int)≤(j:Int) - 1:=by omega
         have j2:(j:Int) - 1 < (a.length:Int) - (i:Int):=by omega
         have j3:(k:Int) < (b.length:Int):=by omega
         by_cases hq2:a[n] = a[m]
         ·rw [stC,if_pos (by rw [hla,hq2])] at hstep
          simp (config := { maxSteps := 3000000 }) [hjl,u2,u3,u4,u5,u6,r3,r4,j1,j2,j3,hq2]
          exact ⟨hnb,by omega,hmb,k,j + 1,b,⟨by omega,by omega,by omega,h5,by rw [hin,hstep,h6],by rw [hin];exact e3.2⟩,⟨⟨rfl,by omega⟩,rfl⟩,by omega⟩
         ·rw [stC,if_neg (by rw [hla];simp;exact fun h=>hq2 h.symm)] at hstep
          simp (config := { maxSteps := 3000000 }) [hjl,u2,u3,u4,u5,u6,r3,r4,j1,j2,j3,hq2,rowsN_set,r5]
          refine ⟨hnb,by omega,hmb,hnb,hkb,k + 1,j + 1,b.set k a[n],⟨by omega,by omega,by omega,by rw [List.length_set];exact h5,?_,?_⟩,⟨⟨by omega,by omega⟩,rfl⟩,by omega⟩
          ·rw [hin,hstep,← h6,List.take_succ_eq_append_getElem (by simp;omega)]
           simp [List.take_set_of_le]
          ·rw [hin,Nat.add_sub_cancel,List.drop_set_of_lt (by omega)]
           exact e3.2
        ·have hma:m + 1 = a.length:=by omega
         have h6:b.take k = cmpU a:=by rw [h6,hn,hma,List.take_length]
         have h3r:=rowsN_one b
         simp (config := { maxSteps := 3000000 }) [hjl]
         refine ⟨⟨by omega,h3r⟩,⟨by omega,?_⟩,?_⟩
         ·rintro x (hx | ⟨_,rfl⟩ | hx)
          ·exact h3r x (List.mem_of_mem_take hx)
          ·rfl
          ·exact h3r x (List.mem_of_mem_drop hx)
         ·rw [List.take_append_of_le_length (by simp;omega),List.take_take,Nat.min_self,← h6]
          simp [rowsN,List.map_take]
      ·have hst:cmpU (a.take (p + 1 + 1)) = a.take (p + 1 + 1):=by
        rw [cmpU_take hlt,stC,if_neg (by rw [hla];simp;exact fun h=>hq h.symm),hi3,← List.take_succ_eq_append_getElem hlt]
       simp (config := { maxSteps := 3000000 }) [w2,w3,r1,r2,q1,q2,q3,hq]
       exact ⟨hpl,p + 2,⟨by omega,by omega,hst⟩,by rw [wrap_i64 (by omega)];omega,by omega⟩
     ·have hia:i = a.length:=by omega
      subst hia
      rw [List.take_length] at hi3
      simp (config := { maxSteps := 3000000 }) [hi3]
  ·cases h
 ·cases h
noncomputable def Gnums:List AV→Option (Prop × AV)
 | [.pv (.ro a),.pv (.ro b)]=>(dec rowN a).bind fun la=>(dec rowN b).map fun lb=>(la.length≤1000000000,.pv (.bool (decide (la = lb))))
 | _=>none
@[simp] theorem Gnums_eq (a b:List (List PV)):Gnums [.pv (.ro a),.pv (.ro b)] = (dec rowN a).bind fun la=>(dec rowN b).map fun lb=>(la.length≤1000000000,.pv (.bool (decide (la = lb)))):=rfl
theorem c_nums:ConT Try.prog 53 Gnums:=by
 intro ys φ r h hφ
 unfold Gnums at h
 split at h
 ·rename_i ra rb
  obtain ⟨a,ha,h⟩:=Option.bind_eq_some_iff.1 h
  obtain ⟨b,hb,h⟩:=Option.map_eq_some_iff.1 h
  cases h
  cases dec_rowsN_inv ha
  cases dec_rowsN_inv hb
  refine con_of tab_nil (by kernel_rfl) fn53 (by simp) ?_
  unfold body53
  by_cases hl:a.length = b.length
  ·have hli:(a.length:Int) = b.length:=by omega
   simp (config := { maxSteps := 3000000 }) [hl]
   refine vwp_loop (fun i:Nat=>i≤a.length∧a.take i = b.take i) (fun i=>⟨[(0,.pv (.ro (rowsN a))),(1,.pv (.ro (rowsN b))),(5,.pv (.int .i64 i))],[]⟩) (fun i=>a.length - i) [] 0 (by simp) ?_ ?_
   ·simp
   ·rintro i ⟨hi,ht⟩
    have w2:IntKind.i64.wrap ((i:Int) + 1) = (i:Int) + 1:=wrap_i64 (by omega)
    by_cases hlt:i < a.length
    ·have hltb:i < b.length:=by omega
     have r1:=rowsN_at hlt
     have r2:=rowsN_at hltb
     by_cases hq:a[i] = b[i]
     ·simp (config := { maxSteps := 3000000 }) [w2,hltb,r1,r2,hq,hl]
      refine ⟨i + 1,⟨by omega,?_⟩,by omega,by omega⟩
      rw [List.take_succ_eq_append_getElem hlt,List.take_succ_eq_append_getElem hltb,ht,hq]
     ·have hne:¬ (a = b):=by intro h;subst h;exact hq rfl
      simp (config := { maxSteps := 3000000 }) [w2,hltb,r1,r2,hq,hl,hne]
    ·have hltb:¬ i < b.length:=by omega
     have hab:a = b:=by
      rw [List.take_of_length_le (by omega),List.take_of_length_le (by omega)] at ht;exact ht
     subst hab
     simp (config := { maxSteps := 3000000 }) [hlt]
  ·have hne:¬ (a = b):=by intro h;subst h;exact hl rfl
   have hli:¬ ((a.length:Int) = b.length):=by omega
   simp (config := { maxSteps := 3000000 }) [hli,hne]
 ·cases h
def remL (n:Int):List Pn→List Pn
 | []=>[]
 | e :: l=>if e.i = n then l else e :: remL n l
def hasI (l:List Pn) (n:Int):Bool:=l.any fun e=>decide (e.i = n)
def remP (l:List Pn) (n:Int):List Pn × Int:=if hasI l n = true then (remL n l,0) else ([],80)
theorem remL_len (n:Int):∀ l:List Pn,(remL n l).length≤l.length
 | []=>by simp [remL]
 | e :: l=>by
  have:=remL_len n l
  unfold remL
  split
  ·simp
  ·simp;exact this
theorem remL_snoc (n:Int) (e:Pn):∀ l:List Pn,remL n (l ++ [e]) = if hasI l n = true then remL n l ++ [e] else if e.i = n then l else l ++ [e]
 | []=>by simp [remL,hasI]
 | x :: l=>by
  have ih:=remL_snoc n e l
  by_cases hx:x.i = n
  ·simp [remL,hasI,hx]
  ·have:hasI (x :: l) n = hasI l n:=by simp [hasI,hx]
   simp only [List.cons_append,remL,if_neg hx,ih,this]
   split
   ·rfl
   ·split<;>rfl
theorem remL_none {n:Int}:∀ {l:List Pn},hasI l n = false→remL n l = l
 | [],_=>rfl
 | x :: l,h=>by
  simp only [hasI,List.any_cons,Bool.or_eq_false_iff,decide_eq_false_iff_not] at h
  simp only [remL,if_neg h.1,remL_none (n:=n) (l:=l) h.2]
theorem hasI_snoc (l:List Pn) (e:Pn) (n:Int):hasI (l ++ [e]) n = (hasI l n || decide (e.i = n)):=by simp [hasI]
theorem remL_idx (n:Int):∀ l:List Pn,hasI l n = true→∃ k:Nat,idxP (fun e=>decide (e.i = n)) l = (k:Int)∧k < l.length∧remL n l = l.take k ++ l.drop (k + 1)
 | [],h=>by simp [hasI] at h
 | x :: l,h=>by
  by_cases hx:x.i = n
  ·refine ⟨0,?_,by simp,by simp [remL,hx]⟩
   exact idxP_at (i:=0) (by simp) (by simpa using hx) (by simp)
  ·have h':hasI l n = true:=by simpa [hasI,hx] using h
   obtain ⟨k,h1,h2,h3⟩:=remL_idx n l h'
   refine ⟨k + 1,?_,by simp;omega,by simp [remL,hx,h3]⟩
   unfold idxP at h1 ⊢
   split at h1
   ·rename_i hlt
    have hf:(x :: l).findIdx (fun e=>decide (e.i = n)) = l.findIdx (fun e=>decide (e.i = n)) + 1:=by
     rw [List.findIdx_cons];simp [hx]
    rw [hf,if_pos (by rw [List.length_cons];omega)]
    omega
   ·omega
noncomputable def GGrow:List AV→Option (Prop × AV)
 | [.pv .nil,.pv (.int .i64 n)]=>some (0≤n∧n≤1000000,.fr 83 [])
 | _=>none
@[simp] theorem GGrow_eq (n:Int):GGrow [.pv .nil,.pv (.int .i64 n)] = some (0≤n∧n≤1000000,.fr 83 []):=rfl
theorem c_Grow:ConTU Try.prog 138 GGrow:=by
 intro ys φ r h hφ
 unfold GGrow at h
 split at h
 ·rename_i n
  cases h
  obtain ⟨h1,h2⟩:=hφ
  have hinf:(Try.prog.info? 83).isSome = true:=by kernel_rfl
  have w0:IntKind.i64.wrap 0 = 0:=wrap_i64 (by omega)
  have w1:IntKind.i64.wrap n = n:=wrap_i64 (by omega)
  refine con_ofU tab_nil (by kernel_rfl) fn138 (by simp) (by simp [resOK,res1,resC]) (by simp) ?_
  unfold body138
  have hn0:¬ n < 0:=by omega
  by_cases h0 : 0 < n
  ·simp (config := { maxSteps := 3000000 }) [hn0,h0,w0,w1,hinf]
   exact ⟨h1,by omega,by omega⟩
  ·simp (config := { maxSteps := 3000000 }) [hn0,h0,w0,w1,hinf]
 ·cases h
noncomputable def GCat:List AV→Option (Prop × AV)
 | [.pv (.ro [[.ro a],[.ro b]])]=>(dec rowP a).bind fun la=>(dec rowP b).map fun lb=>(la.length≤100000∧lb.length≤100000,.fr 83 (rowsP (la ++ lb)))
 | _=>none
@[simp] theorem GCat_eq (a b:List (List PV)):GCat [.pv (.ro [[.ro a],[.ro b]])] = (dec rowP a).bind fun la=>(dec rowP b).map fun lb=>(la.length≤100000∧lb.length≤100000,.fr 83 (rowsP (la ++ lb))):=rfl
theorem c_Cat:ConT Try.prog 98 GCat:=by
 intro ys φ r h hφ
 unfold GCat at h
 split at h
 ·rename_i ra rb
  obtain ⟨a,ha,h⟩:=Option.bind_eq_some_iff.1 h
  obtain ⟨b,hb,h⟩:=Option.map_eq_some_iff.1 h
  cases h
  cases dec_rowsP_inv ha
  cases dec_rowsP_inv hb
  obtain ⟨hla,hlb⟩:=hφ
  have h3a:=rowsP_three a
  have h3b:=rowsP_three b
  have w1:IntKind.i64.wrap 1 = 1:=wrap_i64 (by omega)
  have w2:IntKind.i64.wrap 2 = 2:=wrap_i64 (by omega)
  have wa:IntKind.i64.wrap (a.length:Int) = a.length:=wrap_i64 (by omega)
  have wab:IntKind.i64.wrap ((a.length:Int) + (b.length:Int)) = (a.length:Int) + (b.length:Int):=wrap_i64 (by omega)
  have r0:rowAt [[PV.ro (rowsP a)],[PV.ro (rowsP b)]] 0 = [.ro (rowsP a)]:=rfl
  have r1:rowAt [[PV.ro (rowsP a)],[PV.ro (rowsP b)]] 1 = [.ro (rowsP b)]:=rfl
  have ga:¬ ((a.length:Int) < 0):=by omega
  have gab:¬ ((a.length:Int) + (b.length:Int) < 0):=by omega
  have gc:(a.length:Int) + (b.length:Int)≤1000000:=by omega
  have gd:(0:Int)≤(a.length:Int) + (b.length:Int):=by omega
  refine con_of (tab_consU (p:=0) (k:=997) c_Grow (by kernel_rfl) tab_nil) (by kernel_rfl) fn98 (by simp) ?_
  unfold body98
  simp (config := { maxSteps := 3000000 })
  refine vwp_loop (fun i:Nat=>i = 0∨i = 1∨i = 2) (fun i=>⟨[(0,.pv (.ro [[.ro (rowsP a)],[.ro (rowsP b)]])),(2,.own 2),(3,.pv (.int .i64 (if i = 0 then 0 else if i = 1 then (a.length:Int) else (a.length:Int) + (b.length:Int)))),(9,.pv (.ro [[.ro (rowsP a)],[.ro (rowsP b)]])),(10,.pv (.int .i64 2)),(11,.pv (.int .i64 i))],[(2,.arr 83 [])]⟩) (fun i=>2 - i) [] 0 (by simp) ?_ ?_
  ·simp
  ·rintro i (rfl | rfl | rfl)
   ·simp (config := { maxSteps := 3000000 }) [r0,wa,ga,w1]
   ·simp (config := { maxSteps := 3000000 }) [r1,wab,gab,w2]
   ·simp (config := { maxSteps := 3000000 }) [gc,gd]
    refine vwp_loop (fun i:Nat=>i = 0∨i = 1∨i = 2) (fun i=>⟨[(0,.pv (.ro [[.ro (rowsP a)],[.ro (rowsP b)]])),(2,.own 2),(6,.own 24),(25,.pv (.ro [[.ro (rowsP a)],[.ro (rowsP b)]])),(26,.pv (.int .i64 2)),(27,.pv (.int .i64 i))],[(2,.arr 83 []),(24,.arr 83 (if i = 0 then [] else if i = 1 then rowsP a else rowsP (a ++ b)))]⟩) (fun i=>2 - i) [] 0 (by simp) ?_ ?_
    ·simp
    ·rintro i (rfl | rfl | rfl)
     ·simp (config := { maxSteps := 3000000 }) [r0,w1,maxLen_eq]
      exact ⟨by omega,by omega,h3a⟩
     ·simp (config := { maxSteps := 3000000 }) [r1,w2,maxLen_eq]
      exact ⟨⟨by omega,by omega,h3b⟩,(rowsP_append a b).symm⟩
     ·simp (config := { maxSteps := 3000000 })
 ·cases h
noncomputable def GpRem:List AV→Option (Prop × AV)
 | [.agg [.pv (.ro a)],.pv (.int .u64 n)]=>(dec rowP a).map fun l=>(l.length≤100000,.tup [.agg [.fr 83 (rowsP (remP l n).1)],.pv (.int .i64 (remP l n).2)])
 | _=>none
@[simp] theorem GpRem_eq (a:List (List PV)) (n:Int):GpRem [.agg [.pv (.ro a)],.pv (.int .u64 n)] = (dec rowP a).map fun l=>(l.length≤100000,.tup [.agg [.fr 83 (rowsP (remP l n).1)],.pv (.int .i64 (remP l n).2)]):=rfl
theorem cut_rowsP (l:List Pn) (i j:Int):cut (rowsP l) i j = rowsP ((l.take j.toNat).drop i.toNat):=by
 unfold cut rowsP
 rw [List.map_drop,List.map_take]
theorem c_pRem:ConT Try.prog 48 GpRem:=by
 intro ys φ r h hφ
 unfold GpRem at h
 split at h
 ·rename_i ra n
  obtain ⟨a,ha,h⟩:=Option.map_eq_some_iff.1 h
  cases h
  cases dec_rowsP_inv ha
  have hl9:a.length≤1000000000:=by omega
  have hinf:(Try.prog.info? 83).isSome = true:=by kernel_rfl
  have h3:=rowsP_three a
  have his:isP 97 n = fun e=>decide (e.i = n):=by
   funext e
   unfold isP
   rw [if_neg (by decide)]
  refine con_of (tab_cons c_Ix (tab_cons c_Cat tab_nil)) (by kernel_rfl) fn48 (by simp) ?_
  unfold body48
  unfold remP
  by_cases hh:hasI a n = true
  ·obtain ⟨k,hk,hkl,hke⟩:=remL_idx n a hh
   have hn0:¬ ((k:Int) < 0):=by omega
   have w1:IntKind.i64.wrap ((k:Int) + 1) = (k:Int) + 1:=wrap_i64 (by omega)
   have c1:cut (rowsP a) 0 (k:Int) = rowsP (a.take k):=by rw [cut_rowsP];simp
   have c2:cut (rowsP a) ((k:Int) + 1) (a.length:Int) = rowsP (a.drop (k + 1)):=by
    rw [cut_rowsP,show ((k:Int) + 1).toNat = k + 1 from by omega];simp
   have hl1:(a.take k).length≤100000:=by rw [List.length_take];omega
   have hl2:(a.drop (k + 1)).length≤100000:=by rw [List.length_drop];omega
   have hf:∀ l,flatRows (rowsP l):=flat_rowsP
   simp (config := { maxSteps := 3000000 }) [hh,hl9,his,hk,hn0,w1,c1,c2,hl1,hl2,hke,hf,hinf]
   exact ⟨⟨by omega,h3⟩,⟨by omega,by omega,h3⟩,by omega,by omega⟩
  ·have hh':hasI a n = false:=by simpa using hh
   have hk:idxP (fun e=>decide (e.i = n)) a = -1:=by
    apply idxP_none
    intro e he
    unfold hasI at hh'
    rw [List.any_eq_false] at hh'
    simpa using hh' e he
   simp (config := { maxSteps := 3000000 }) [hh,hl9,his,hk,hinf]
 ·cases h
noncomputable def GrRem:List AV→Option (Prop × AV)
 | [.pv (.ro a),.pv (.int .u64 n)]=>(dec rowP a).map fun l=>(l.length≤100000,.tup [.fr 86 (rowsP (remP l n).1),.pv (.int .i64 (remP l n).2)])
 | _=>none
@[simp] theorem GrRem_eq (a:List (List PV)) (n:Int):GrRem [.pv (.ro a),.pv (.int .u64 n)] = (dec rowP a).map fun l=>(l.length≤100000,.tup [.fr 86 (rowsP (remP l n).1),.pv (.int .i64 (remP l n).2)]):=rfl
theorem c_rRem:ConT Try.prog 46 GrRem:=by
 intro ys φ r h hφ
 unfold GrRem at h
 split at h
 ·rename_i ra n
  obtain ⟨a,ha,h⟩:=Option.map_eq_some_iff.1 h
  cases h
  cases dec_rowsP_inv ha
  refine con_of tab_nil (by kernel_rfl) fn46 (by simp) ?_
  unfold body46
  simp (config := { maxSteps := 3000000 })
  refine vwp_loop (fun i:Nat=>i≤a.length) (fun i=>⟨[(0,.pv (.ro (rowsP a))),(1,.pv (.int .u64 n)),(4,.own 4),(6,.own 6),(7,.pv (.bool (hasI (a.take i) n))),(8,.pv (.int .i64 i))],[(4,.arr 86 []),(6,.arr 86 (rowsP (remL n (a.take i))))]⟩) (fun i=>a.length - i) [] 0 (by simp) ?_ ?_
  ·simp [remL,hasI]
  ·intro i hi
   have w2:IntKind.i64.wrap ((i:Int) + 1) = (i:Int) + 1:=wrap_i64 (by omega)
   by_cases hlt:i < a.length
   ·have r1:=rowsP_at hlt
    have hs:=remL_snoc n a[i] (a.take i)
    have ht:=hasI_snoc (a.take i) a[i] n
    rw [← List.take_succ_eq_append_getElem hlt] at hs ht
    have hll:=remL_len n (a.take i)
    rw [List.length_take] at hll
    have hap:∀ m:List Pn,rowsP m ++ [[PV.int .u64 a[i].i,.int .u64 a[i].v,.int .u64 a[i].u]] = rowsP (m ++ [a[i]]):=fun m=>by rw [rowsP_append];rfl
    cases hg:hasI (a.take i) n with
    | true=>
     rw [hg] at hs ht
     rw [if_pos rfl] at hs
     by_cases he:a[i].i = n
     ·simp (config := { maxSteps := 3000000 }) [w2,hlt,r1,he,maxLen_eq]
      exact ⟨⟨by omega,by omega⟩,i + 1,by omega,⟨⟨by simp [ht],by omega⟩,by rw [hs,rowsP_append];simp [rowsP,rowP,he]⟩,by omega⟩
     ·simp (config := { maxSteps := 3000000 }) [w2,hlt,r1,he,maxLen_eq]
      exact ⟨⟨by omega,by omega⟩,i + 1,by omega,⟨⟨by simp [ht],by omega⟩,by rw [hs,rowsP_append];rfl⟩,by omega⟩
    | false=>
     rw [hg] at hs ht
     rw [if_neg (by simp)] at hs
     have hrn:=remL_none hg
     by_cases he:a[i].i = n
     ·rw [if_pos he] at hs
      simp (config := { maxSteps := 3000000 }) [w2,hlt,r1,he]
      exact ⟨i + 1,by omega,⟨⟨by simp [ht,he],by omega⟩,by rw [hs,hrn]⟩,by omega⟩
     ·rw [if_neg he] at hs
      simp (config := { maxSteps := 3000000 }) [w2,hlt,r1,he,maxLen_eq]
      exact ⟨⟨by omega,by omega⟩,i + 1,by omega,⟨⟨by simp [ht,he],by omega⟩,by rw [hs,hrn,List.take_succ_eq_append_getElem hlt,rowsP_append];rfl⟩,by omega⟩
   ·have hia:i = a.length:=by omega
    subst hia
    have hinf:(Try.prog.info? 86).isSome = true:=by kernel_rfl
    unfold remP
    by_cases hh:hasI a n = true
    ·simp (config := { maxSteps := 3000000 }) [hh]
    ·have hh':hasI a n = false:=by simpa using hh
     simp (config := { maxSteps := 3000000 }) [hh',hinf]
 ·cases h
def ofP (l:List Pn) (n:Int):Bool:=l.any fun e=>decide (e.v = n)
noncomputable def GpOfC:List AV→Option (Prop × AV)
 | [.pv (.ro a),.clo f [.rp [.int .u64 n]]]=>if f = 106 then (dec rowP a).map fun l=>(l.length≤1000000000,.pv (.bool (ofP l n))) else none
 | _=>none
@[simp] theorem GpOfC_eq (a:List (List PV)) (f:FuncId) (n:Int):GpOfC [.pv (.ro a),.clo f [.rp [.int .u64 n]]] = if f = 106 then (dec rowP a).map fun l=>(l.length≤1000000000,.pv (.bool (ofP l n))) else none:=rfl
theorem c_OfC:ConT Try.prog 105 GpOfC:=by
 intro ys φ r h hφ
 unfold GpOfC at h
 split at h
 ·rename_i ra f n
  split at h
  ·rename_i hf
   subst hf
   obtain ⟨a,ha,h⟩:=Option.map_eq_some_iff.1 h
   cases h
   cases dec_rowsP_inv ha
   have hq:decide (0≤idxP (isP 106 n) a) = ofP a n:=by
    have:=idxP_neg (isP 106 n) a
    have he:a.any (isP 106 n) = ofP a n:=rfl
    rw [he] at this
    cases ho:ofP a n<;>rw [ho] at this<;>simp [this]
   refine con_of (tab_cons c_Ix tab_nil) (by kernel_rfl) fn105 (by simp) ?_
   unfold body105
   simp (config := { maxSteps := 3000000 }) [hφ,hq]
  ·cases h
 ·cases h
noncomputable def GpOf:List AV→Option (Prop × AV)
 | [.agg [.pv (.ro a)],.pv (.int .u64 n)]=>(dec rowP a).map fun l=>(l.length≤1000000000,.pv (.bool (ofP l n)))
 | _=>none
@[simp] theorem GpOf_eq (a:List (List PV)) (n:Int):GpOf [.agg [.pv (.ro a)],.pv (.int .u64 n)] = (dec rowP a).map fun l=>(l.length≤1000000000,.pv (.bool (ofP l n))):=rfl
theorem c_pOf:ConT Try.prog 58 GpOf:=by
 intro ys φ r h hφ
 unfold GpOf at h
 split at h
 ·rename_i ra n
  obtain ⟨a,ha,h⟩:=Option.map_eq_some_iff.1 h
  cases h
  cases dec_rowsP_inv ha
  refine con_of (tab_cons c_OfC tab_nil) (by kernel_rfl) fn58 (by simp) ?_
  unfold body58
  simp (config := { maxSteps := 3000000 }) [hφ]
 ·cases h
noncomputable def GrOf:List AV→Option (Prop × AV)
 | [.pv (.ro a),.pv (.int .u64 n)]=>(dec rowP a).map fun l=>(l.length≤1000000000,.pv (.bool (ofP l n)))
 | _=>none
@[simp] theorem GrOf_eq (a:List (List PV)) (n:Int):GrOf [.pv (.ro a),.pv (.int .u64 n)] = (dec rowP a).map fun l=>(l.length≤1000000000,.pv (.bool (ofP l n))):=rfl
theorem c_rOf:ConT Try.prog 59 GrOf:=by
 intro ys φ r h hφ
 unfold GrOf at h
 split at h
 ·rename_i ra n
  obtain ⟨a,ha,h⟩:=Option.map_eq_some_iff.1 h
  cases h
  cases dec_rowsP_inv ha
  refine con_of tab_nil (by kernel_rfl) fn59 (by simp) ?_
  unfold body59
  simp (config := { maxSteps := 3000000 })
  refine vwp_loop (fun i:Nat=>i≤a.length∧ofP (a.take i) n = false) (fun i=>⟨[(0,.pv (.ro (rowsP a))),(1,.pv (.int .u64 n)),(4,.pv (.bool false)),(5,.pv (.int .i64 i))],[]⟩) (fun i=>a.length - i) [] 0 (by simp [ofP]) ?_ ?_
  ·simp
  ·rintro i ⟨hi,ht⟩
   have w2:IntKind.i64.wrap ((i:Int) + 1) = (i:Int) + 1:=wrap_i64 (by omega)
   by_cases hlt:i < a.length
   ·have r1:=rowsP_at hlt
    by_cases he:a[i].v = n
    ·have hv:ofP a n = true:=by
      unfold ofP
      rw [List.any_eq_true]
      exact ⟨a[i],List.getElem_mem hlt,by simpa using he⟩
     simp (config := { maxSteps := 3000000 }) [w2,hlt,r1,he,hv]
    ·simp (config := { maxSteps := 3000000 }) [w2,hlt,r1,he]
     refine ⟨i + 1,⟨by omega,?_⟩,by omega,by omega⟩
     rw [List.take_succ_eq_append_getElem hlt]
     unfold ofP at ht ⊢
     rw [List.any_append,ht]
     simp [he]
   ·rw [List.take_of_length_le (by omega)] at ht
    simp (config := { maxSteps := 3000000 }) [hlt,ht]
 ·cases h
theorem ins_swap {o L:List Int} {k:Nat} {x:Int} (hk:k < o.length) (hL:L = o.take (k + 1) ++ x :: o.drop (k + 1)):(L.set k x).set (k + 1) o[k] = o.take k ++ x :: o.drop k:=by
 subst hL
 have h1:o.take (k + 1) = o.take k ++ [o[k]]:=List.take_succ_eq_append_getElem hk
 have h2:o.drop k = o[k] :: o.drop (k + 1):=List.drop_eq_getElem_cons hk
 have h3:(o.take k).length = k:=by rw [List.length_take];omega
 generalize o[k] = y at *
 generalize o.drop (k + 1) = B at *
 rw [h1,h2]
 generalize o.take k = A at *
 subst h3
 simp [List.set_append]
theorem ins_sorted {o:List Int} {k:Nat} {x:Int} (hkl:k≤o.length) (ho:o.Pairwise (· < ·)) (h:∀ y∈o.drop k,x < y) (hk:∀ j (hj:j < o.length),k = j + 1→o[j] < x):(o.take k ++ x :: o.drop k).Pairwise (· < ·):=by
 have hto:∀ y∈o.take k,y < x:=by
  intro y hy
  rw [List.mem_take_iff_getElem] at hy
  obtain ⟨i,hi,rfl⟩:=hy
  cases k with
  | zero=>omega
  | succ j=>
   have h1:=hk j (by omega) rfl
   by_cases hij:i = j
   ·subst hij;exact h1
   ·have:=(List.pairwise_iff_getElem.1 ho) i j (by omega) (by omega) (by omega)
    omega
 have hsp:=ho
 rw [← List.take_append_drop k o,List.pairwise_append] at hsp
 rw [List.pairwise_append,List.pairwise_cons]
 refine ⟨hsp.1,⟨h,hsp.2.1⟩,?_⟩
 intro a ha b hb
 rw [List.mem_cons] at hb
 rcases hb with rfl | hb
 ·exact hto a ha
 ·exact hsp.2.2 a ha b hb
noncomputable def GrV:List AV→Option (Prop × AV)
 | [.pv (.ro a)]=>(dec rowP a).map fun l=>(l.length≤1000000,.fr 81 (rowsN (versL (l.map Pn.v))))
 | _=>none
@[simp] theorem GrV_eq (a:List (List PV)):GrV [.pv (.ro a)] = (dec rowP a).map fun l=>(l.length≤1000000,.fr 81 (rowsN (versL (l.map Pn.v)))):=rfl
theorem c_rV:ConT Try.prog 54 GrV:=by
 intro ys φ r h hφ
 unfold GrV at h
 split at h
 ·rename_i ra
  obtain ⟨a,ha,h⟩:=Option.map_eq_some_iff.1 h
  cases h
  cases dec_rowsP_inv ha
  have hl6:a.length≤1000000:=hφ
  refine con_of (tab_cons c_rOf tab_nil) (by kernel_rfl) fn54 (by simp) ?_
  unfold body54
  simp (config := { maxSteps := 3000000 })
  refine vwp_loop (fun x:Nat × List Int=>x.1≤a.length∧x.2.Pairwise (· < ·)∧(∀ y,y∈x.2↔y∈(a.take x.1).map Pn.v)∧x.2.length≤x.1) (fun x=>⟨[(0,.pv (.ro (rowsP a))),(3,.own 3),(4,.pv (.int .i64 (x.1:Int)))],[(3,.arr 81 (rowsN x.2))]⟩) (fun x=>a.length - x.1) [] (0,[]) ⟨by simp,.nil,by simp,by simp⟩ ?_ ?_
  ·simp
  ·rintro ⟨i,o⟩ ⟨hi,ho,hm,hol⟩
   have hi:i≤a.length:=hi
   have ho:o.Pairwise (· < ·):=ho
   have hm:∀ y,y∈o↔y∈(a.take i).map Pn.v:=hm
   have hol:o.length≤i:=hol
   have w2:IntKind.i64.wrap ((i:Int) + 1) = (i:Int) + 1:=wrap_i64 (by omega)
   by_cases hlt:i < a.length
   ·have r1:=rowsP_at hlt
    have htk:(a.take (i + 1)).map Pn.v = (a.take i).map Pn.v ++ [a[i].v]:=by
     rw [List.take_succ_eq_append_getElem hlt,List.map_append];rfl
    have hofm:ofP (a.take i) a[i].v = true↔a[i].v∈o:=by
     rw [hm];unfold ofP;simp only [List.any_eq_true,decide_eq_true_eq,List.mem_map]
    obtain ⟨x,hx⟩:∃ x,x = a[i].v:=⟨_,rfl⟩
    rw [← hx] at r1 htk hofm
    have htl:(a.take i).length≤1000000000:=by rw [List.length_take];omega
    have h3:=rowsP_three a
    by_cases hof:ofP (a.take i) x = true
    ·simp (config := { maxSteps := 3000000 }) [w2,hlt,r1,cut_rowsP,hof,htl,h3]
     refine ⟨⟨by omega,h3⟩,by omega,i + 1,o,⟨by omega,ho,?_,by omega⟩,⟨by omega,rfl⟩,by omega⟩
     intro y
     rw [← List.map_take,htk,List.mem_append,← hm y,List.mem_singleton]
     constructor
     ·exact .inl
     ·rintro (h | rfl)
      ·exact h
      ·exact hofm.1 hof
    ·have hof':ofP (a.take i) x = false:=by simpa using hof
     have hxo:x∉o:=fun h=>hof (hofm.2 h)
     have hap:rowsN o ++ [[PV.int .u64 x]] = rowsN (o ++ [x]):=by rw [rowsN_append];rfl
     have w4:IntKind.i64.wrap ((o.length:Int) + 1 - 1) = (o.length:Int):=by rw [wrap_i64 (by omega)];omega
     apply vwp_cut
     ·simp (config := { maxSteps := 3000000 }) [hlt]
      exact ⟨rfl,rfl⟩
     rw [vwp_seq]
     rw [vwp_block]
     apply vwp_cut
     ·simp (config := { maxSteps := 3000000 }) [hlt,r1,cut_rowsP,hof',htl,h3]
      exact ⟨⟨by omega,h3⟩,by omega,rfl,rfl⟩
     apply vwp_cut
     ·simp (config := { maxSteps := 3000000 }) [hlt,r1,hap,maxLen_eq]
      exact ⟨⟨by omega,by omega⟩,rfl,rfl⟩
     apply vwp_cut
     ·simp (config := { maxSteps := 3000000 }) [w4]
      exact ⟨rfl,rfl⟩
     rw [vwp_block]
     have w6:IntKind.i64.wrap (o.length:Int) = (o.length:Int):=wrap_i64 (by omega)
     refine vwp_loop (fun y:Nat × List Int=>y.1≤o.length∧y.2 = o.take y.1 ++ x :: o.drop y.1∧∀ z∈o.drop y.1,x < z) (fun y=>⟨[(0,.pv (.ro (rowsP a))),(3,.own 3),(4,.pv (.int .i64 (i:Int))),(5,.pv (.int .i64 (y.1:Int)))],[(3,.arr 81 (rowsN y.2))]⟩) (fun y=>y.1) [] (o.length,o ++ [x]) ⟨Nat.le_refl _,by simp,by simp⟩ ?_ ?_
     ·simp [w6]
     ·rintro ⟨k,L⟩ ⟨hk,hL,hgt⟩
      have hk:k≤o.length:=hk
      have hL:L = o.take k ++ x :: o.drop k:=hL
      have hgt:∀ z∈o.drop k,x < z:=hgt
      have hLl:L.length = o.length + 1:=by rw [hL];simp;omega
      have hout:(∀ j (hj:j < o.length),k = j + 1→o[j] < x)→(i + 1≤a.length∧L.Pairwise (· < ·)∧(∀ y,y∈L↔y∈(a.take (i + 1)).map Pn.v)∧L.length≤i + 1):=by
       intro h
       refine ⟨by omega,by rw [hL];exact ins_sorted hk ho hgt h,?_,by omega⟩
       intro y
       rw [htk,List.mem_append,← hm y,hL,List.mem_append,List.mem_cons,List.mem_singleton]
       conv=>rhs;rw [← List.take_append_drop k o,List.mem_append]
       constructor
       ·rintro (h | h | h)
        ·exact .inl (.inl h)
        ·exact .inr h
        ·exact .inl (.inr h)
       ·rintro ((h | h) | h)
        ·exact .inl h
        ·exact .inr (.inr h)
        ·exact .inr (.inl h)
      have r3:=rowsN_at (l:=L) (i:=k) (by omega)
      have e3:L[k] = x:=by subst hL;rw [List.getElem_append_right (by simp;omega)];simp [Nat.min_eq_left hk]
      rw [e3] at r3
      cases k with
      | zero=>
       have w3:IntKind.i64.wrap (-1) = -1:=wrap_i64 (by omega)
       have r4:rowAt (rowsN L) (-1) = [.int .u64 x]:=r3
       have r3:rowAt (rowsN L) 0 = [.int .u64 x]:=r3
       simp (config := { maxSteps := 3000000 }) [w3,r3,r4,w2]
       have h:=hout (fun j hj hj2=>absurd hj2 (by omega))
       exact ⟨i + 1,L,by rw [← List.map_take];exact h,⟨by omega,rfl⟩,by omega⟩
      | succ j=>
       have w3:IntKind.i64.wrap ((j:Int) + 1 - 1) = (j:Int):=by rw [wrap_i64 (by omega)];omega
       have w5:IntKind.i64.wrap (j:Int) = (j:Int):=wrap_i64 (by omega)
       have r3:rowAt (rowsN L) ((j:Int) + 1) = [.int .u64 x]:=by simpa using r3
       have hjo:j < o.length:=by omega
       have r4:=rowsN_at (l:=L) (i:=j) (by omega)
       have e4:L[j] = o[j]:=by subst hL;rw [List.getElem_append_left (by simp;omega)];simp
       rw [e4] at r4
       have q2:(0:Int)≤(j:Int) + 1:=by omega
       have q3:(j:Int) + 1 < (L.length:Int):=by omega
       have q4:(j:Int) < (L.length:Int):=by omega
       have q5:(0:Int) < (j:Int) + 1:=by omega
       have q4':j < L.length:=by omega
       have r5:rowAt (rowsN (L.set j x)) ((j:Int) + 1) = [.int .u64 x]:=by
        have h1:=rowsN_at (l:=L.set j x) (i:=j + 1) (by rw [List.length_set];omega)
        rw [List.getElem_set_ne (by omega),e3] at h1
        simpa using h1
       have e5:=ins_swap hjo hL
       have hgt2:∀ z∈o.drop j,x < o[j]→x < z:=by
        intro z hz h
        rw [List.drop_eq_getElem_cons hjo,List.mem_cons] at hz
        rcases hz with rfl | hz
        ·exact h
        ·exact hgt z hz
       by_cases hq:x < o[j]
       ·simp (config := { maxSteps := 3000000 }) [w3,w5,r3,r4,q2,q3,q4,q5,hq,rowsN_set,r5]
        exact ⟨q4',j,(L.set j x).set (j + 1) o[j],⟨by omega,e5,fun z hz=>hgt2 z hz hq⟩,⟨rfl,rfl⟩,by omega⟩
       ·simp (config := { maxSteps := 3000000 }) [w3,w5,r3,r4,q2,q3,q4,q5,hq,w2]
        have h:=hout (fun j' hj' hj2=>by
         obtain rfl:j' = j:=by omega
         have:o[j']≠x:=fun h=>hxo (h ▸ List.getElem_mem hj')
         omega)
        exact ⟨q4',i + 1,L,by rw [← List.map_take];exact h,⟨by omega,rfl⟩,by omega⟩
   ·have hia:i = a.length:=by omega
    subst hia
    have hv:=versL_eq ho (l:=a.map Pn.v) (by rw [List.take_length] at hm;exact hm)
    simp (config := { maxSteps := 3000000 }) [← hv]
 ·cases h
noncomputable def GSp:List AV→Option (Prop × AV)
 | [.tup [.agg [.fr e a]]]=>if e = 83 then (dec rowP a).map fun l=>(l.length≤1000000,.clo 0 [.tup [],.agg [.fr 83 (rowsP (l.map fun _=>⟨77,77,0⟩))]]) else none
 | _=>none
@[simp] theorem GSp_eq (e:TypeId) (a:List (List PV)):GSp [.tup [.agg [.fr e a]]] = if e = 83 then (dec rowP a).map fun l=>(l.length≤1000000,.clo 0 [.tup [],.agg [.fr 83 (rowsP (l.map fun _=>⟨77,77,0⟩))]]) else none:=rfl
theorem c_spoil:ConTG Try.prog 55 GSp:=by
 intro ys φ r h hφ
 unfold GSp at h
 split at h
 ·rename_i e ra
  split at h
  ·rename_i he
   subst he
   obtain ⟨a,ha,h⟩:=Option.map_eq_some_iff.1 h
   cases h
   cases dec_rowsP_inv ha
   have hl6:a.length≤1000000:=hφ
   refine con_ofG tab_nil (by kernel_rfl) fn55 (by simp) rfl (by simp) ?_
   unfold body55
   apply vwp_cut
   ·simp (config := { maxSteps := 3000000 })
    exact ⟨rfl,rfl⟩
   apply vwp_cut
   ·simp (config := { maxSteps := 3000000 })
    exact ⟨rfl,rfl⟩
   rw [vwp_block]
   refine vwp_loop (fun x:Nat × List Pn=>x.1≤a.length∧x.2.length = a.length∧x.2.take x.1 = (a.take x.1).map fun _=>⟨77,77,0⟩) (fun x=>⟨[(1,.ptr 1 0),(2,.pv (.int .i64 (x.1:Int)))],[(1,.box [.own 999]),(999,.arr 83 (rowsP x.2))]⟩) (fun x=>a.length - x.1) [] (0,a) ⟨by simp,rfl,by simp⟩ ?_ ?_
   ·simp
   ·rintro ⟨i,b⟩ ⟨hi,hb,ht⟩
    have hi:i≤a.length:=hi
    have hb:b.length = a.length:=hb
    have ht:b.take i = (a.take i).map fun _=>⟨77,77,0⟩:=ht
    have w2:IntKind.i64.wrap ((i:Int) + 1) = (i:Int) + 1:=wrap_i64 (by omega)
    by_cases hlt:i < a.length
    ·have r1:=rowsP_at (l:=b) (i:=i) (by omega)
     have hs:(rowsP b).set i [.int .u64 77,.int .u64 77,.int .u64 0] = rowsP (b.set i ⟨77,77,0⟩):=rowsP_set b i ⟨77,77,0⟩
     simp (config := { maxSteps := 3000000 }) [w2,hlt,r1,hs,hb]
     refine ⟨i + 1,b.set i ⟨77,77,0⟩,⟨by omega,by rw [List.length_set];exact hb,?_⟩,⟨by omega,rfl⟩,by omega⟩
     rw [← List.map_take,List.take_succ_eq_append_getElem (by rw [List.length_set];omega),List.take_succ_eq_append_getElem hlt,List.map_append,← ht]
     simp [List.take_set_of_le]
    ·have hia:i = a.length:=by omega
     subst hia
     rw [List.take_length,List.take_of_length_le (by omega)] at ht
     subst ht
     simp (config := { maxSteps := 3000000 })
  ·cases h
 ·cases h
end Go.Proofs.Ythblkhafehanfaa.Ab
namespace Go.Proofs.Ythblkhafehanfaa.Ab
open Go Go.RowKit
abbrev keep172:List Nat:=[0,1,2,6,7,8,9,10,19,30]
def body172:AC:=
 .seq (.reg [.m 11 1,.m 6 11] false keep172)
 (.seq (.reg [.a 7 .mov [ci 0]] false keep172)
 (.seq (.reg [.m 12 2,.m 13 1,.w 14 (.bin .sub) 12 13,.m 8 14] false keep172)
 (.seq (.seq (.reg [.m 15 8,.c 16 (.bin .sub) 15 1,.c 17 (.bin .quo) 16 2,.m 9 17] false keep172)
 (.block 0 (.loop (.seq (.seq (.reg [.m 18 9,.c 19 (.bin .geq) 18 0] false keep172)
 (.cond (.tmp 19) (.skip) (.exit 0)))
 (.seq (.block 1 (.reg [.m 22 0,.m 23 9,.m 24 8,.m 25 6,.a 26 (.call 190) [.tmp 22,.tmp 23,.tmp 24,.tmp 25]] false keep172))
 (.reg [.m 20 9,.c 21 (.bin .sub) 20 1,.m 9 21] false keep172))))))
 (.seq (.reg [.m 27 8,.c 28 (.bin .sub) 27 1,.m 10 28] false keep172)
 (.block 2 (.loop (.seq (.seq (.reg [.m 29 10,.c 30 (.bin .geq) 29 0] false keep172)
 (.cond (.tmp 30) (.skip) (.exit 2)))
 (.seq (.block 3 (.seq (.reg [.m 33 0,.m 34 6,.m 35 0,.m 36 6,.m 37 10,.w 38 (.bin .add) 36 37,.m 39 0,.m 40 6,.m 41 10,.w 42 (.bin .add) 40 41,.w 43 (.ixa 81 1) 39 42,.u 44 (.load none) 43,.m 45 0,.m 46 6,.w 47 (.ixa 81 1) 45 46,.u 48 (.load none) 47,.w 49 (.ixa 81 1) 33 34,.s (.store none) [.tmp 49,.tmp 44],.w 50 (.ixa 81 1) 35 38,.s (.store none) [.tmp 50,.tmp 48]] true keep172)
 (.reg [.m 51 0,.m 52 7,.m 53 10,.m 54 6,.a 55 (.call 190) [.tmp 51,.tmp 52,.tmp 53,.tmp 54]] false keep172)))
 (.reg [.m 31 10,.c 32 (.bin .sub) 31 1,.m 10 32] false keep172)))))))))
theorem fn172:compFn Try.prog 172 keep172 = some ⟨56,3,[],body172⟩:=by kernel_rfl
abbrev keep173:List Nat:=[0,1,2,6,7,8,9,10,15,33,43]
def body173:AC:=
 .seq (.reg [.m 11 2,.m 12 1,.w 13 (.bin .sub) 11 12,.m 6 13] false keep173)
 (.seq (.reg [.m 14 6,.c 15 (.bin .geq) 14 8] false keep173)
 (.cond (.tmp 15) (.seq (.reg [.m 16 6,.u 17 (.cvi .u64) 16,.a 7 (.alloc [(.int .u64 0)]) [],.s (.store none) [.tmp 7,.tmp 17]] false keep173)
 (.seq (.reg [.m 18 6,.u 19 (.call 182) 18,.m 8 19] false keep173)
 (.seq (.reg [.m 20 1,.m 21 6,.c 22 (.bin .quo) 21 4,.c 23 (.bin .mul) 22 2,.w 24 (.bin .add) 20 23,.c 25 (.bin .sub) 24 1,.m 9 25] false keep173)
 (.block 0 (.loop (.seq (.seq (.reg [.m 26 9,.m 27 1,.m 28 6,.c 29 (.bin .quo) 28 4,.c 30 (.bin .mul) 29 2,.w 31 (.bin .add) 27 30,.c 32 (.bin .add) 31 1,.w 33 (.bin .leq) 26 32] false keep173)
 (.cond (.tmp 33) (.skip) (.exit 0)))
 (.seq (.block 1 (.seq (.reg [.u 36 (.call 183) 7,.m 37 8,.a 38 (.bin .sub) [.tmp 37,.const (.int .u64 1)],.w 39 (.bin .and) 36 38,.u 40 (.cvi .i64) 39,.m 10 40] false keep173)
 (.seq (.seq (.reg [.m 41 10,.m 42 6,.w 43 (.bin .geq) 41 42] false keep173)
 (.cond (.tmp 43) (.reg [.m 44 10,.m 45 6,.w 46 (.bin .sub) 44 45,.m 10 46] false keep173) (.skip)))
 (.reg [.m 47 0,.m 48 9,.m 49 0,.m 50 1,.m 51 10,.w 52 (.bin .add) 50 51,.m 53 0,.m 54 1,.m 55 10,.w 56 (.bin .add) 54 55,.w 57 (.ixa 81 1) 53 56,.u 58 (.load none) 57,.m 59 0,.m 60 9,.w 61 (.ixa 81 1) 59 60,.u 62 (.load none) 61,.w 63 (.ixa 81 1) 47 48,.s (.store none) [.tmp 63,.tmp 58],.w 64 (.ixa 81 1) 49 52,.s (.store none) [.tmp 64,.tmp 62]] true keep173))))
 (.reg [.m 34 9,.c 35 (.bin .add) 34 1,.m 9 35] false keep173)))))))) (.skip)))
theorem fn173:compFn Try.prog 173 keep173 = some ⟨65,3,[],body173⟩:=by kernel_rfl
abbrev keep174:List Nat:=[0,1,2,6,7,8,9,10,11,12,32,34,49,51,54]
def body174:AC:=
 .seq (.reg [.a 6 .mov [ci 0],.a 7 .mov [ci 0]] false keep174)
 (.seq (.reg [.m 13 2,.m 14 1,.w 15 (.bin .sub) 13 14,.m 8 15] false keep174)
 (.seq (.reg [.a 9 (.alloc [(.int .i64 0)]) []] false keep174)
 (.seq (.reg [.m 16 1,.m 17 8,.c 18 (.bin .quo) 17 4,.c 19 (.bin .mul) 18 1,.w 20 (.bin .add) 16 19,.m 10 20] false keep174)
 (.seq (.reg [.m 21 1,.m 22 8,.c 23 (.bin .quo) 22 4,.c 24 (.bin .mul) 23 2,.w 25 (.bin .add) 21 24,.m 11 25] false keep174)
 (.seq (.reg [.m 26 1,.m 27 8,.c 28 (.bin .quo) 27 4,.c 29 (.bin .mul) 28 3,.w 30 (.bin .add) 26 29,.m 12 30] false keep174)
 (.seq (.seq (.reg [.m 31 8,.c 32 (.bin .geq) 31 8] false keep174)
 (.cond (.tmp 32) (.seq (.seq (.reg [.m 33 8,.c 34 (.bin .geq) 33 50] false keep174)
 (.cond (.tmp 34) (.seq (.reg [.m 35 0,.m 36 10,.a 37 (.call 191) [.tmp 35,.tmp 36,.tmp 9],.m 10 37] false keep174)
 (.seq (.reg [.m 38 0,.m 39 11,.a 40 (.call 191) [.tmp 38,.tmp 39,.tmp 9],.m 11 40] false keep174)
 (.reg [.m 41 0,.m 42 12,.a 43 (.call 191) [.tmp 41,.tmp 42,.tmp 9],.m 12 43] false keep174))) (.skip)))
 (.reg [.m 44 0,.m 45 10,.m 46 11,.m 47 12,.a 48 (.call 192) [.tmp 44,.tmp 45,.tmp 46,.tmp 47,.tmp 9],.m 11 48] false keep174)) (.skip)))
 (.seq (.reg [.u 49 (.load none) 9] false keep174)
 (.block 0 (.seq (.reg [.c 52 (.bin .eql) 49 0,.m 51 52] false keep174)
 (.cond (.tmp 51) (.seq (.reg [.m 53 11,.m 6 53,.a 7 .mov [ci 1]] false keep174)
 (.ret)) (.seq (.reg [.c 55 (.bin .eql) 49 12,.m 54 55] false keep174)
 (.cond (.tmp 54) (.seq (.reg [.m 56 11,.m 6 56,.a 7 .mov [ci 2]] false keep174)
 (.ret)) (.seq (.reg [.m 50 11,.m 6 50,.a 7 .mov [ci 0]] false keep174)
 (.ret))))))))))))))
theorem fn174:compFn Try.prog 174 keep174 = some ⟨57,3,[(6,none),(7,none)],body174⟩:=by kernel_rfl
abbrev keep175:List Nat:=[0,1,2,6,7,13]
def body175:AC:=
 .seq (.reg [.m 8 1,.m 6 8] false keep175)
 (.seq (.reg [.m 9 2,.c 10 (.bin .sub) 9 1,.m 7 10] false keep175)
 (.block 0 (.loop (.seq (.seq (.reg [.m 11 6,.m 12 7,.w 13 (.bin .lss) 11 12] false keep175)
 (.cond (.tmp 13) (.skip) (.exit 0)))
 (.block 1 (.seq (.reg [.m 14 0,.m 15 6,.m 16 0,.m 17 7,.m 18 0,.m 19 7,.w 20 (.ixa 81 1) 18 19,.u 21 (.load none) 20,.m 22 0,.m 23 6,.w 24 (.ixa 81 1) 22 23,.u 25 (.load none) 24,.w 26 (.ixa 81 1) 14 15,.s (.store none) [.tmp 26,.tmp 21],.w 27 (.ixa 81 1) 16 17,.s (.store none) [.tmp 27,.tmp 25]] true keep175)
 (.seq (.reg [.m 28 6,.c 29 (.bin .add) 28 1,.m 6 29] false keep175)
 (.reg [.m 30 7,.c 31 (.bin .sub) 30 1,.m 7 31] false keep175))))))))
theorem fn175:compFn Try.prog 175 keep175 = some ⟨32,3,[],body175⟩:=by kernel_rfl
abbrev keep176:List Nat:=[0,1,2,6,7,8,9,10,14,32,37,41,61,65,78,98,103,116]
def body176:AC:=
 .seq (.reg [.a 6 .mov [.const (.bool false)]] false keep176)
 (.seq (.reg [.m 11 1,.c 12 (.bin .add) 11 1,.m 7 12] false keep176)
 (.seq (.seq (.reg [.a 8 .mov [ci 0]] false keep176)
 (.block 0 (.loop (.seq (.seq (.reg [.m 13 8,.c 14 (.bin .lss) 13 5] false keep176)
 (.cond (.tmp 14) (.skip) (.exit 0)))
 (.seq (.block 1 (.seq (.block 2 (.loop (.seq (.seq (.reg [.m 17 7,.m 18 2,.w 19 (.bin .lss) 17 18,.m 20 19,.mg 21 0 20 true,.mg 22 7 20 true,.bw 23 (.ixa 81 1) 21 22 20 true,.bu 24 (.load none) 23 20 true,.mg 25 0 20 true,.mg 26 7 20 true,.bc 27 (.bin .sub) 26 1 20 true,.bw 28 (.ixa 81 1) 25 27 20 true,.bu 29 (.load none) 28 20 true,.bw 30 (.call 177) 24 29 20 true,.bu 31 .not 30 20 true,.pa 32 20 31] true keep176)
 (.cond (.tmp 32) (.skip) (.exit 2)))
 (.block 3 (.reg [.m 33 7,.c 34 (.bin .add) 33 1,.m 7 34] false keep176)))))
 (.seq (.seq (.reg [.m 35 7,.m 36 2,.w 37 (.bin .eql) 35 36] false keep176)
 (.cond (.tmp 37) (.seq (.reg [.a 6 .mov [.const (.bool true)]] false keep176)
 (.ret)) (.skip)))
 (.seq (.seq (.reg [.m 38 2,.m 39 1,.w 40 (.bin .sub) 38 39,.c 41 (.bin .lss) 40 50] false keep176)
 (.cond (.tmp 41) (.seq (.reg [.a 6 .mov [.const (.bool false)]] false keep176)
 (.ret)) (.skip)))
 (.seq (.reg [.m 42 0,.m 43 7,.m 44 0,.m 45 7,.c 46 (.bin .sub) 45 1,.m 47 0,.m 48 7,.c 49 (.bin .sub) 48 1,.w 50 (.ixa 81 1) 47 49,.u 51 (.load none) 50,.m 52 0,.m 53 7,.w 54 (.ixa 81 1) 52 53,.u 55 (.load none) 54,.w 56 (.ixa 81 1) 42 43,.s (.store none) [.tmp 56,.tmp 51],.w 57 (.ixa 81 1) 44 46,.s (.store none) [.tmp 57,.tmp 55]] true keep176)
 (.seq (.seq (.reg [.m 58 7,.m 59 1,.w 60 (.bin .sub) 58 59,.c 61 (.bin .geq) 60 2] false keep176)
 (.cond (.tmp 61) (.seq (.reg [.m 62 7,.c 63 (.bin .sub) 62 1,.m 9 63] false keep176)
 (.block 4 (.loop (.seq (.seq (.reg [.m 64 9,.c 65 (.bin .geq) 64 1] false keep176)
 (.cond (.tmp 65) (.skip) (.exit 4)))
 (.seq (.block 5 (.seq (.seq (.reg [.m 68 0,.m 69 9,.w 70 (.ixa 81 1) 68 69,.u 71 (.load none) 70,.m 72 0,.m 73 9,.c 74 (.bin .sub) 73 1,.w 75 (.ixa 81 1) 72 74,.u 76 (.load none) 75,⟨some 77,(.call 177),[.tmp 71,.tmp 76],none,[],(some 999999)⟩,.u 78 .not 77] true keep176)
 (.cond (.tmp 78) (.exit 4) (.skip)))
 (.reg [.m 79 0,.m 80 9,.m 81 0,.m 82 9,.c 83 (.bin .sub) 82 1,.m 84 0,.m 85 9,.c 86 (.bin .sub) 85 1,.w 87 (.ixa 81 1) 84 86,.u 88 (.load none) 87,.m 89 0,.m 90 9,.w 91 (.ixa 81 1) 89 90,.u 92 (.load none) 91,.w 93 (.ixa 81 1) 79 80,.s (.store none) [.tmp 93,.tmp 88],.w 94 (.ixa 81 1) 81 83,.s (.store none) [.tmp 94,.tmp 92]] true keep176)))
 (.reg [.m 66 9,.c 67 (.bin .sub) 66 1,.m 9 67] false keep176)))))) (.skip)))
 (.seq (.reg [.m 95 2,.m 96 7,.w 97 (.bin .sub) 95 96,.c 98 (.bin .geq) 97 2] false keep176)
 (.cond (.tmp 98) (.seq (.reg [.m 99 7,.c 100 (.bin .add) 99 1,.m 10 100] false keep176)
 (.block 6 (.loop (.seq (.seq (.reg [.m 101 10,.m 102 2,.w 103 (.bin .lss) 101 102] false keep176)
 (.cond (.tmp 103) (.skip) (.exit 6)))
 (.seq (.block 7 (.seq (.seq (.reg [.m 106 0,.m 107 10,.w 108 (.ixa 81 1) 106 107,.u 109 (.load none) 108,.m 110 0,.m 111 10,.c 112 (.bin .sub) 111 1,.w 113 (.ixa 81 1) 110 112,.u 114 (.load none) 113,⟨some 115,(.call 177),[.tmp 109,.tmp 114],none,[],(some 999999)⟩,.u 116 .not 115] true keep176)
 (.cond (.tmp 116) (.exit 6) (.skip)))
 (.reg [.m 117 0,.m 118 10,.m 119 0,.m 120 10,.c 121 (.bin .sub) 120 1,.m 122 0,.m 123 10,.c 124 (.bin .sub) 123 1,.w 125 (.ixa 81 1) 122 124,.u 126 (.load none) 125,.m 127 0,.m 128 10,.w 129 (.ixa 81 1) 127 128,.u 130 (.load none) 129,.w 131 (.ixa 81 1) 117 118,.s (.store none) [.tmp 131,.tmp 126],.w 132 (.ixa 81 1) 119 121,.s (.store none) [.tmp 132,.tmp 130]] true keep176)))
 (.reg [.m 104 10,.c 105 (.bin .add) 104 1,.m 10 105] false keep176)))))) (.skip)))))))))
 (.reg [.m 15 8,.c 16 (.bin .add) 15 1,.m 8 16] false keep176))))))
 (.seq (.reg [.a 6 .mov [.const (.bool false)]] false keep176)
 (.ret))))
theorem fn176:compFn Try.prog 176 keep176 = some ⟨133,3,[(6,none)],body176⟩:=by kernel_rfl
abbrev keep178:List Nat:=[0,1,2,3,8,9,10,43,59,64]
def body178:AC:=
 .seq (.reg [.a 8 .mov [ci 0]] false keep178)
 (.seq (.reg [.m 11 0,.m 12 1,.m 13 0,.m 14 3,.m 15 0,.m 16 3,.w 17 (.ixa 81 1) 15 16,.u 18 (.load none) 17,.m 19 0,.m 20 1,.w 21 (.ixa 81 1) 19 20,.u 22 (.load none) 21,.w 23 (.ixa 81 1) 11 12,.s (.store none) [.tmp 23,.tmp 18],.w 24 (.ixa 81 1) 13 14,.s (.store none) [.tmp 24,.tmp 22]] true keep178)
 (.seq (.reg [.m 25 1,.c 26 (.bin .add) 25 1,.m 27 2,.c 28 (.bin .sub) 27 1,.m 9 26,.m 10 28] false keep178)
 (.seq (.block 0 (.loop (.block 1 (.seq (.block 2 (.loop (.seq (.seq (.reg [.m 29 9,.m 30 10,.w 31 (.bin .leq) 29 30,.m 32 31,.mg 33 0 32 true,.mg 34 1 32 true,.bw 35 (.ixa 81 1) 33 34 32 true,.bu 36 (.load none) 35 32 true,.mg 37 0 32 true,.mg 38 9 32 true,.bw 39 (.ixa 81 1) 37 38 32 true,.bu 40 (.load none) 39 32 true,.bw 41 (.call 177) 36 40 32 true,.bu 42 .not 41 32 true,.pa 43 32 42] true keep178)
 (.cond (.tmp 43) (.skip) (.exit 2)))
 (.block 3 (.reg [.m 44 9,.c 45 (.bin .add) 44 1,.m 9 45] false keep178)))))
 (.seq (.block 4 (.loop (.seq (.seq (.reg [.m 46 9,.m 47 10,.w 48 (.bin .leq) 46 47,.m 49 48,.mg 50 0 49 true,.mg 51 1 49 true,.bw 52 (.ixa 81 1) 50 51 49 true,.bu 53 (.load none) 52 49 true,.mg 54 0 49 true,.mg 55 10 49 true,.bw 56 (.ixa 81 1) 54 55 49 true,.bu 57 (.load none) 56 49 true,.bw 58 (.call 177) 53 57 49 true,.pa 59 49 58] true keep178)
 (.cond (.tmp 59) (.skip) (.exit 4)))
 (.block 5 (.reg [.m 60 10,.c 61 (.bin .sub) 60 1,.m 10 61] false keep178)))))
 (.seq (.seq (.reg [.m 62 9,.m 63 10,.w 64 (.bin .gtr) 62 63] false keep178)
 (.cond (.tmp 64) (.exit 0) (.skip)))
 (.seq (.reg [.m 65 0,.m 66 9,.m 67 0,.m 68 10,.m 69 0,.m 70 10,.w 71 (.ixa 81 1) 69 70,.u 72 (.load none) 71,.m 73 0,.m 74 9,.w 75 (.ixa 81 1) 73 74,.u 76 (.load none) 75,.w 77 (.ixa 81 1) 65 66,.s (.store none) [.tmp 77,.tmp 72],.w 78 (.ixa 81 1) 67 68,.s (.store none) [.tmp 78,.tmp 76]] true keep178)
 (.seq (.reg [.m 79 9,.c 80 (.bin .add) 79 1,.m 9 80] false keep178)
 (.reg [.m 81 10,.c 82 (.bin .sub) 81 1,.m 10 82] false keep178)))))))))
 (.seq (.reg [.m 83 9,.m 8 83] false keep178)
 (.ret)))))
theorem fn178:compFn Try.prog 178 keep178 = some ⟨84,4,[(8,none)],body178⟩:=by kernel_rfl
abbrev keep179:List Nat:=[0,1,2,3,8,9,10,11,43,60,65,112,129,134]
def body179:AC:=
 .seq (.reg [.a 8 .mov [ci 0],.a 9 .mov [.const (.bool false)]] false keep179)
 (.seq (.reg [.m 12 0,.m 13 1,.m 14 0,.m 15 3,.m 16 0,.m 17 3,.w 18 (.ixa 81 1) 16 17,.u 19 (.load none) 18,.m 20 0,.m 21 1,.w 22 (.ixa 81 1) 20 21,.u 23 (.load none) 22,.w 24 (.ixa 81 1) 12 13,.s (.store none) [.tmp 24,.tmp 19],.w 25 (.ixa 81 1) 14 15,.s (.store none) [.tmp 25,.tmp 23]] true keep179)
 (.seq (.reg [.m 26 1,.c 27 (.bin .add) 26 1,.m 28 2,.c 29 (.bin .sub) 28 1,.m 10 27,.m 11 29] false keep179)
 (.seq (.block 0 (.loop (.seq (.seq (.reg [.m 30 10,.m 31 11,.w 32 (.bin .leq) 30 31,.m 33 32,.mg 34 0 33 true,.mg 35 10 33 true,.bw 36 (.ixa 81 1) 34 35 33 true,.bu 37 (.load none) 36 33 true,.mg 38 0 33 true,.mg 39 1 33 true,.bw 40 (.ixa 81 1) 38 39 33 true,.bu 41 (.load none) 40 33 true,.bw 42 (.call 177) 37 41 33 true,.pa 43 33 42] true keep179)
 (.cond (.tmp 43) (.skip) (.exit 0)))
 (.block 1 (.reg [.m 44 10,.c 45 (.bin .add) 44 1,.m 10 45] false keep179)))))
 (.seq (.block 2 (.loop (.seq (.seq (.reg [.m 46 10,.m 47 11,.w 48 (.bin .leq) 46 47,.m 49 48,.mg 50 0 49 true,.mg 51 11 49 true,.bw 52 (.ixa 81 1) 50 51 49 true,.bu 53 (.load none) 52 49 true,.mg 54 0 49 true,.mg 55 1 49 true,.bw 56 (.ixa 81 1) 54 55 49 true,.bu 57 (.load none) 56 49 true,.bw 58 (.call 177) 53 57 49 true,.bu 59 .not 58 49 true,.pa 60 49 59] true keep179)
 (.cond (.tmp 60) (.skip) (.exit 2)))
 (.block 3 (.reg [.m 61 11,.c 62 (.bin .sub) 61 1,.m 11 62] false keep179)))))
 (.seq (.seq (.reg [.m 63 10,.m 64 11,.w 65 (.bin .gtr) 63 64] false keep179)
 (.cond (.tmp 65) (.seq (.reg [.m 66 0,.m 67 11,.m 68 0,.m 69 1,.m 70 0,.m 71 1,.w 72 (.ixa 81 1) 70 71,.u 73 (.load none) 72,.m 74 0,.m 75 11,.w 76 (.ixa 81 1) 74 75,.u 77 (.load none) 76,.w 78 (.ixa 81 1) 66 67,.s (.store none) [.tmp 78,.tmp 73],.w 79 (.ixa 81 1) 68 69,.s (.store none) [.tmp 79,.tmp 77]] true keep179)
 (.seq (.reg [.m 80 11,.m 8 80,.a 9 .mov [.const (.bool true)]] false keep179)
 (.ret))) (.skip)))
 (.seq (.reg [.m 81 0,.m 82 10,.m 83 0,.m 84 11,.m 85 0,.m 86 11,.w 87 (.ixa 81 1) 85 86,.u 88 (.load none) 87,.m 89 0,.m 90 10,.w 91 (.ixa 81 1) 89 90,.u 92 (.load none) 91,.w 93 (.ixa 81 1) 81 82,.s (.store none) [.tmp 93,.tmp 88],.w 94 (.ixa 81 1) 83 84,.s (.store none) [.tmp 94,.tmp 92]] true keep179)
 (.seq (.reg [.m 95 10,.c 96 (.bin .add) 95 1,.m 10 96] false keep179)
 (.seq (.reg [.m 97 11,.c 98 (.bin .sub) 97 1,.m 11 98] false keep179)
 (.seq (.block 4 (.loop (.block 5 (.seq (.block 6 (.loop (.seq (.seq (.reg [.m 99 10,.m 100 11,.w 101 (.bin .leq) 99 100,.m 102 101,.mg 103 0 102 true,.mg 104 10 102 true,.bw 105 (.ixa 81 1) 103 104 102 true,.bu 106 (.load none) 105 102 true,.mg 107 0 102 true,.mg 108 1 102 true,.bw 109 (.ixa 81 1) 107 108 102 true,.bu 110 (.load none) 109 102 true,.bw 111 (.call 177) 106 110 102 true,.pa 112 102 111] true keep179)
 (.cond (.tmp 112) (.skip) (.exit 6)))
 (.block 7 (.reg [.m 113 10,.c 114 (.bin .add) 113 1,.m 10 114] false keep179)))))
 (.seq (.block 8 (.loop (.seq (.seq (.reg [.m 115 10,.m 116 11,.w 117 (.bin .leq) 115 116,.m 118 117,.mg 119 0 118 true,.mg 120 11 118 true,.bw 121 (.ixa 81 1) 119 120 118 true,.bu 122 (.load none) 121 118 true,.mg 123 0 118 true,.mg 124 1 118 true,.bw 125 (.ixa 81 1) 123 124 118 true,.bu 126 (.load none) 125 118 true,.bw 127 (.call 177) 122 126 118 true,.bu 128 .not 127 118 true,.pa 129 118 128] true keep179)
 (.cond (.tmp 129) (.skip) (.exit 8)))
 (.block 9 (.reg [.m 130 11,.c 131 (.bin .sub) 130 1,.m 11 131] false keep179)))))
 (.seq (.seq (.reg [.m 132 10,.m 133 11,.w 134 (.bin .gtr) 132 133] false keep179)
 (.cond (.tmp 134) (.exit 4) (.skip)))
 (.seq (.reg [.m 135 0,.m 136 10,.m 137 0,.m 138 11,.m 139 0,.m 140 11,.w 141 (.ixa 81 1) 139 140,.u 142 (.load none) 141,.m 143 0,.m 144 10,.w 145 (.ixa 81 1) 143 144,.u 146 (.load none) 145,.w 147 (.ixa 81 1) 135 136,.s (.store none) [.tmp 147,.tmp 142],.w 148 (.ixa 81 1) 137 138,.s (.store none) [.tmp 148,.tmp 146]] true keep179)
 (.seq (.reg [.m 149 10,.c 150 (.bin .add) 149 1,.m 10 150] false keep179)
 (.reg [.m 151 11,.c 152 (.bin .sub) 151 1,.m 11 152] false keep179)))))))))
 (.seq (.reg [.m 153 0,.m 154 11,.m 155 0,.m 156 1,.m 157 0,.m 158 1,.w 159 (.ixa 81 1) 157 158,.u 160 (.load none) 159,.m 161 0,.m 162 11,.w 163 (.ixa 81 1) 161 162,.u 164 (.load none) 163,.w 165 (.ixa 81 1) 153 154,.s (.store none) [.tmp 165,.tmp 160],.w 166 (.ixa 81 1) 155 156,.s (.store none) [.tmp 166,.tmp 164]] true keep179)
 (.seq (.reg [.m 167 11,.m 8 167,.a 9 .mov [.const (.bool false)]] false keep179)
 (.ret))))))))))))
theorem fn179:compFn Try.prog 179 keep179 = some ⟨168,4,[(8,none),(9,none)],body179⟩:=by kernel_rfl
def body182:AC:=
 .seq (.reg [.a 2 .mov [.const (.int .u64 0)]] false [0,2])
 (.seq (.reg [.m 3 0,.u 4 (.cvi .u64) 3,.u 5 (.call 114) 4,.a 6 (.bin .shl) [.const (.int .u64 1),.tmp 5],.m 2 6] false [0,2])
 (.ret))
def keep182:List Nat:=[0,2]
theorem fn182:compFn Try.prog 182 keep182 = some ⟨7,1,[(2,none)],body182⟩:=by kernel_rfl
def body183:AC:=
 .seq (.reg [.a 2 .mov [.const (.int .u64 0)]] false [0,2])
 (.seq (.reg [.m 3 0,.u 4 .nck 3,.u 5 (.load none) 4,.m 6 0,.u 7 .nck 6,.u 8 (.load none) 7,.a 9 (.bin .shl) [.tmp 8,.const (.int .u64 13)],.w 10 (.bin .xor) 5 9,.u 11 .nck 3,.s (.store none) [.tmp 11,.tmp 10]] true [0,2])
 (.seq (.reg [.m 12 0,.u 13 .nck 12,.u 14 (.load none) 13,.m 15 0,.u 16 .nck 15,.u 17 (.load none) 16,.a 18 (.bin .shr) [.tmp 17,.const (.int .u64 7)],.w 19 (.bin .xor) 14 18,.u 20 .nck 12,.s (.store none) [.tmp 20,.tmp 19]] true [0,2])
 (.seq (.reg [.m 21 0,.u 22 .nck 21,.u 23 (.load none) 22,.m 24 0,.u 25 .nck 24,.u 26 (.load none) 25,.a 27 (.bin .shl) [.tmp 26,.const (.int .u64 17)],.w 28 (.bin .xor) 23 27,.u 29 .nck 21,.s (.store none) [.tmp 29,.tmp 28]] true [0,2])
 (.seq (.reg [.m 30 0,.u 31 .nck 30,.u 32 (.load none) 31,.m 2 32] false [0,2])
 (.ret)))))
def keep183:List Nat:=[0,2]
theorem fn183:compFn Try.prog 183 keep183 = some ⟨33,1,[(2,none)],body183⟩:=by kernel_rfl
abbrev keep190:List Nat:=[0,1,2,3,8,9,16,36,52]
def body190:AC:=
 .seq (.reg [.m 10 1,.m 8 10] false keep190)
 (.block 0 (.loop (.block 1 (.seq (.reg [.m 11 8,.a 12 (.bin .mul) [ci 2,.tmp 11],.c 13 (.bin .add) 12 1,.m 9 13] false keep190)
 (.seq (.seq (.reg [.m 14 9,.m 15 2,.w 16 (.bin .geq) 14 15] false keep190)
 (.cond (.tmp 16) (.exit 0) (.skip)))
 (.seq (.seq (.reg [.m 17 9,.c 18 (.bin .add) 17 1,.m 19 2,.w 20 (.bin .lss) 18 19,.m 21 20,.mg 22 0 21 true,.mg 23 3 21 true,.mg 24 9 21 true,.bw 25 (.bin .add) 23 24 21 true,.bw 26 (.ixa 81 1) 22 25 21 true,.bu 27 (.load none) 26 21 true,.mg 28 0 21 true,.mg 29 3 21 true,.mg 30 9 21 true,.bw 31 (.bin .add) 29 30 21 true,.bc 32 (.bin .add) 31 1 21 true,.bw 33 (.ixa 81 1) 28 32 21 true,.bu 34 (.load none) 33 21 true,.bw 35 (.call 177) 27 34 21 true,.pa 36 21 35] true keep190)
 (.cond (.tmp 36) (.reg [.m 37 9,.c 38 (.bin .add) 37 1,.m 9 38] false keep190) (.skip)))
 (.seq (.seq (.reg [.m 39 0,.m 40 3,.m 41 8,.w 42 (.bin .add) 40 41,.w 43 (.ixa 81 1) 39 42,.u 44 (.load none) 43,.m 45 0,.m 46 3,.m 47 9,.w 48 (.bin .add) 46 47,.w 49 (.ixa 81 1) 45 48,.u 50 (.load none) 49,⟨some 51,(.call 177),[.tmp 44,.tmp 50],none,[],(some 999999)⟩,.u 52 .not 51] true keep190)
 (.cond (.tmp 52) (.ret) (.skip)))
 (.seq (.reg [.m 53 0,.m 54 3,.m 55 8,.w 56 (.bin .add) 54 55,.m 57 0,.m 58 3,.m 59 9,.w 60 (.bin .add) 58 59,.m 61 0,.m 62 3,.m 63 9,.w 64 (.bin .add) 62 63,.w 65 (.ixa 81 1) 61 64,.u 66 (.load none) 65,.m 67 0,.m 68 3,.m 69 8,.w 70 (.bin .add) 68 69,.w 71 (.ixa 81 1) 67 70,.u 72 (.load none) 71,.w 73 (.ixa 81 1) 53 56,.s (.store none) [.tmp 73,.tmp 66],.w 74 (.ixa 81 1) 57 60,.s (.store none) [.tmp 74,.tmp 72]] true keep190)
 (.reg [.m 75 9,.m 8 75] false keep190)))))))))
theorem fn190:compFn Try.prog 190 keep190 = some ⟨76,4,[],body190⟩:=by kernel_rfl
abbrev keep191:List Nat:=[0,1,2,6]
def body191:AC:=
 .seq (.reg [.a 6 .mov [ci 0]] false keep191)
 (.seq (.reg [.m 7 0,.m 8 1,.c 9 (.bin .sub) 8 1,.m 10 1,.m 11 1,.c 12 (.bin .add) 11 1,.m 13 2,.a 14 (.call 192) [.tmp 7,.tmp 9,.tmp 10,.tmp 12,.tmp 13],.m 6 14] false keep191)
 (.ret))
theorem fn191:compFn Try.prog 191 keep191 = some ⟨15,3,[(6,none)],body191⟩:=by kernel_rfl
abbrev keep192:List Nat:=[0,1,2,3,4,10]
def body192:AC:=
 .seq (.reg [.a 10 .mov [ci 0]] false keep192)
 (.seq (.reg [.m 12 0,.m 13 1,.m 14 2,.m 15 4,.a 16 (.call 205) [.tmp 12,.tmp 13,.tmp 14,.tmp 15],.m 11 16,.u 17 (.ext 0) 11,.u 18 (.ext 1) 11,.m 1 17,.m 2 18] false keep192)
 (.seq (.reg [.m 20 0,.m 21 2,.m 22 3,.m 23 4,.a 24 (.call 205) [.tmp 20,.tmp 21,.tmp 22,.tmp 23],.m 19 24,.u 25 (.ext 0) 19,.u 26 (.ext 1) 19,.m 2 25,.m 3 26] false keep192)
 (.seq (.reg [.m 28 0,.m 29 1,.m 30 2,.m 31 4,.a 32 (.call 205) [.tmp 28,.tmp 29,.tmp 30,.tmp 31],.m 27 32,.u 33 (.ext 0) 27,.u 34 (.ext 1) 27,.m 1 33,.m 2 34] false keep192)
 (.seq (.reg [.m 35 2,.m 10 35] false keep192)
 (.ret)))))
theorem fn192:compFn Try.prog 192 keep192 = some ⟨36,5,[(10,none)],body192⟩:=by kernel_rfl
abbrev keep205:List Nat:=[0,1,2,3,8,9,18]
def body205:AC:=
 .seq (.reg [.a 8 .mov [ci 0],.a 9 .mov [ci 0]] false keep205)
 (.seq (.seq (.reg [.m 10 0,.m 11 2,.w 12 (.ixa 81 1) 10 11,.u 13 (.load none) 12,.m 14 0,.m 15 1,.w 16 (.ixa 81 1) 14 15,.u 17 (.load none) 16,⟨some 18,(.call 177),[.tmp 13,.tmp 17],none,[],(some 999999)⟩] true keep205)
 (.cond (.tmp 18) (.seq (.reg [.m 19 3,.u 20 .nck 19,.u 21 (.load none) 20,.c 22 (.bin .add) 21 1,.u 23 .nck 19,.s (.store none) [.tmp 23,.tmp 22]] false keep205)
 (.seq (.reg [.m 24 2,.m 25 1,.m 8 24,.m 9 25] false keep205)
 (.ret))) (.skip)))
 (.seq (.reg [.m 26 1,.m 27 2,.m 8 26,.m 9 27] false keep205)
 (.ret)))
theorem fn205:compFn Try.prog 205 keep205 = some ⟨28,4,[(8,none),(9,none)],body205⟩:=by kernel_rfl
end Go.Proofs.Ythblkhafehanfaa.Ab
namespace Go.Proofs.Ythblkhafehanfaa.Ab
open Go Go.RowKit Go.Sort R
noncomputable def Gnan:List AV→Option (Prop × AV)
 | [.pv (.int .u64 a)]=>some (True,.pv (.bool false))
 | _=>none
@[simp] theorem Gnan_eq (a:Int):Gnan [.pv (.int .u64 a)] = some (True,.pv (.bool false)):=rfl
theorem c_nan:ConT Try.prog 193 Gnan:=by
 intro ys φ r h hφ
 unfold Gnan at h
 split at h
 ·cases h
  refine con_of tab_nil (by kernel_rfl) fn193 (by simp) ?_
  unfold body193
  simp (config := { maxSteps := 3000000 })
 ·cases h
noncomputable def Gless:List AV→Option (Prop × AV)
 | [.pv (.int k a),.pv (.int m b)]=>some (k = .u64∧m = .u64,.pv (.bool (ltInt a b)))
 | _=>none
@[simp] theorem Gless_eq (k m:IntKind) (a b:Int):Gless [.pv (.int k a),.pv (.int m b)] = some (k = .u64∧m = .u64,.pv (.bool (ltInt a b))):=rfl
theorem c_less:ConT Try.prog 177 Gless:=by
 intro ys φ r h hφ
 unfold Gless at h
 split at h
 ·cases h
  obtain ⟨rfl,rfl⟩:=hφ
  refine con_of (tab_cons c_nan tab_nil) (by kernel_rfl) fn177 (by simp) ?_
  unfold body177
  simp (config := { maxSteps := 3000000 }) [ltInt]
 ·cases h
def rA (d:Array Int):List (List PV):=rowsN d.toList
@[simp] theorem rA_length (d:Array Int):(rA d).length = d.size:=by simp [rA]
def gA (d:Array Int) (i:Nat):Int:=d[i]!
theorem rA_at {d:Array Int} {i:Nat} (h:i < d.size):rowAt (rA d) (i:Int) = [.int .u64 (gA d i)]:=by
 have:=rowsN_at (l:=d.toList) (i:=i) (by simpa using h)
 unfold rA gA
 rw [this,getElem!_pos d i h]
 rfl
@[simp] theorem rA_set (d:Array Int) (i:Nat) (x:Int):(rA d).set i [.int .u64 x] = rA (d.setIfInBounds i x):=by
 unfold rA rowsN
 rw [Array.toList_setIfInBounds,List.map_set]
 rfl
theorem rA_of (l:List Int):rowsN l = rA l.toArray:=rfl
theorem size_swp (d:Array Int) (i j:Nat):(swp d i j).size = d.size:=by simp [swp]
noncomputable def Ginp (F:Array Int→Nat→Nat→Array Int):List AV→Option (Prop × AV)
 | [.tup [.fr e a],.pv (.int .i64 p),.pv (.int .i64 q)]=>if e = 81 then (dec rowN a).map fun l=>(0≤p∧p≤q∧q≤(l.length:Int)∧l.length≤1000000,.clo 0 [.tup [],.fr 81 (rA (F l.toArray p.toNat q.toNat))]) else none
 | _=>none
theorem dec_rA (d:Array Int):dec rowN (rA d) = some d.toList:=dec_rowsN _
@[simp] theorem Ginp_eq (F:Array Int→Nat→Nat→Array Int) (e:TypeId) (d:Array Int) (p q:Int):Ginp F [.tup [.fr e (rA d)],.pv (.int .i64 p),.pv (.int .i64 q)] = if e = 81 then some (0≤p∧p≤q∧q≤(d.size:Int)∧d.size≤1000000,.clo 0 [.tup [],.fr 81 (rA (F d p.toNat q.toNat))]) else none:=by
 show (if e = 81 then (dec rowN (rA d)).map _ else none) = _
 rw [dec_rA]
 simp
theorem Ginp_inv {F:Array Int→Nat→Nat→Array Int} {ys:List AV} {φ:Prop} {r:AV} (h:Ginp F ys = some (φ,r)):∃ (d:Array Int) (p q:Int),ys = [.tup [.fr 81 (rA d)],.pv (.int .i64 p),.pv (.int .i64 q)]∧φ = (0≤p∧p≤q∧q≤(d.size:Int)∧d.size≤1000000)∧r = .clo 0 [.tup [],.fr 81 (rA (F d p.toNat q.toNat))]:=by
 unfold Ginp at h
 split at h
 ·split at h
  ·rename_i e
   subst e
   obtain ⟨l,hl,h⟩:=Option.map_eq_some_iff.1 h
   cases h
   cases dec_rowsN_inv hl
   exact ⟨l.toArray,_,_,by rw [rA_of],by simp,rfl⟩
  ·cases h
 ·cases h
theorem insInner_size (a:Nat):∀ (j:Nat) (d:Array Int),(insInner ltInt a j d).size = d.size
 | 0,d=>rfl
 | j + 1,d=>by
  unfold insInner
  split
  ·rw [insInner_size a j,size_swp]
  ·rfl
theorem c_insG:ConTG Try.prog 171 (Ginp (insertionSort ltInt)):=by
 intro ys φ r h hφ
 obtain ⟨d,p,q,rfl,rfl,rfl⟩:=Ginp_inv h
 obtain ⟨h1,h2,h3,h4⟩:=hφ
 obtain ⟨a,rfl⟩:∃ a:Nat,p = a:=⟨p.toNat,by omega⟩
 obtain ⟨b,rfl⟩:∃ b:Nat,q = b:=⟨q.toNat,by omega⟩
 rw [Int.toNat_natCast,Int.toNat_natCast]
 refine con_ofG (tab_cons c_less tab_nil) (by kernel_rfl) fn171 (by simp) rfl (by simp) ?_
 unfold body171
 have w0:IntKind.i64.wrap ((a:Int) + 1) = (a:Int) + 1:=wrap_i64 (by omega)
 generalize hW:insertionSort ltInt d a b = W
 simp (config := { maxSteps := 3000000 }) [w0]
 refine vwp_loop (fun x:Nat × Array Int=>(a + 1≤x.1∧x.1≤max (a + 1) b)∧x.2.size = d.size∧insOuter ltInt a b x.1 x.2 = W) (fun x=>⟨[(0,.own 999),(1,.pv (.int .i64 (a:Int))),(2,.pv (.int .i64 (b:Int))),(6,.pv (.int .i64 (x.1:Int)))],[(999,.arr 81 (rA x.2))]⟩) (fun x=>max (a + 1) b - x.1) [] (a + 1,d) ⟨⟨Nat.le_refl _,Nat.le_max_left _ _⟩,rfl,hW⟩ ?_ ?_
 ·simp
 ·rintro ⟨i,D⟩ ⟨⟨hi1,hi2⟩,hD,hI⟩
  have hi1:a + 1≤i:=hi1
  have hi2:i≤max (a + 1) b:=hi2
  have hD:D.size = d.size:=hD
  have hI:insOuter ltInt a b i D = W:=hI
  have w2:IntKind.i64.wrap ((i:Int) + 1) = (i:Int) + 1:=wrap_i64 (by omega)
  by_cases hlt:i < b
  ·unfold insOuter at hI
   rw [if_pos hlt] at hI
   obtain ⟨T,hT⟩:∃ T,T = insInner ltInt a i D:=⟨_,rfl⟩
   rw [← hT] at hI
   have hTs:T.size = d.size:=by rw [hT,insInner_size,hD]
   apply vwp_cut
   ·simp (config := { maxSteps := 3000000 }) [hlt]
    exact ⟨rfl,rfl⟩
   rw [vwp_seq]
   rw [vwp_block]
   apply vwp_cut
   ·simp (config := { maxSteps := 3000000 })
    exact ⟨rfl,rfl⟩
   rw [vwp_block]
   refine vwp_loop (fun y:Nat × Array Int=>(a≤y.1∧y.1≤i)∧y.2.size = d.size∧insInner ltInt a y.1 y.2 = T) (fun y=>⟨[(0,.own 999),(1,.pv (.int .i64 (a:Int))),(2,.pv (.int .i64 (b:Int))),(6,.pv (.int .i64 (i:Int))),(7,.pv (.int .i64 (y.1:Int)))],[(999,.arr 81 (rA y.2))]⟩) (fun y=>y.1) [] (i,D) ⟨⟨by omega,Nat.le_refl _⟩,hD,hT.symm⟩ ?_ ?_
   ·simp
   ·rintro ⟨j,E⟩ ⟨⟨hj1,hj2⟩,hE,hJ⟩
    have hj1:a≤j:=hj1
    have hj2:j≤i:=hj2
    have hE:E.size = d.size:=hE
    have hJ:insInner ltInt a j E = T:=hJ
    have q3:(j:Int) < (E.size:Int):=by omega
    have r1:=rA_at (d:=E) (i:=j) (by omega)
    cases j with
    | zero=>
     have ha0:a = 0:=by omega
     subst ha0
     have hJ:E = T:=hJ
     subst hJ
     have w3:IntKind.i64.wrap (-1) = -1:=wrap_i64 (by omega)
     have r2:rowAt (rA E) (-1) = [.int .u64 (gA E 0)]:=rA_at (d:=E) (i:=0) (by omega)
     have r1:rowAt (rA E) 0 = [.int .u64 (gA E 0)]:=r1
     simp (config := { maxSteps := 3000000 }) [w3,r1,r2,w2]
     exact ⟨i + 1,E,⟨by omega,hE,hI⟩,⟨by omega,rfl⟩,by omega⟩
    | succ k=>
     have w3:IntKind.i64.wrap ((k:Int) + 1 - 1) = (k:Int):=by rw [wrap_i64 (by omega)];omega
     have w4:IntKind.i64.wrap (k:Int) = (k:Int):=wrap_i64 (by omega)
     have r1:rowAt (rA E) ((k:Int) + 1) = [.int .u64 (gA E (k + 1))]:=by simpa using r1
     have r2:=rA_at (d:=E) (i:=k) (by omega)
     have q2:(0:Int)≤(k:Int) + 1:=by omega
     have q3:(k:Int) + 1 < (E.size:Int):=by omega
     have q4:(k:Int) < (E.size:Int):=by omega
     unfold insInner at hJ
     by_cases hja:a < k + 1
     ·have q1:(a:Int) < (k:Int) + 1:=by omega
      cases hl:ltInt E[k + 1]! E[k]! with
      | true=>
       have hl2:ltInt (gA E (k + 1)) (gA E k) = true:=hl
       rw [hl,if_pos (by simp;omega)] at hJ
       have r3:=rA_at (d:=E.setIfInBounds (k + 1) (gA E k)) (i:=k) (by rw [Array.size_setIfInBounds];omega)
       simp (config := { maxSteps := 3000000 }) [w3,w4,r1,r2,r3,q1,q2,q3,q4,hl2]
       exact ⟨by omega,k,swp E (k + 1) k,⟨by omega,by rw [size_swp,hE],hJ⟩,⟨rfl,rfl⟩,by omega⟩
      | false=>
       have hl2:ltInt (gA E (k + 1)) (gA E k) = false:=hl
       rw [hl,if_neg (by simp)] at hJ
       subst hJ
       simp (config := { maxSteps := 3000000 }) [w3,w4,r1,r2,q1,q2,q3,q4,hl2,w2]
       exact ⟨by omega,i + 1,E,⟨by omega,hE,hI⟩,⟨by omega,rfl⟩,by omega⟩
     ·have q1:¬ (a:Int) < (k:Int) + 1:=by omega
      rw [if_neg (by simp;omega)] at hJ
      subst hJ
      simp (config := { maxSteps := 3000000 }) [w3,w4,r1,r2,q1,q2,q3,q4,w2]
      exact ⟨i + 1,E,⟨by omega,hE,hI⟩,⟨by omega,rfl⟩,by omega⟩
  ·unfold insOuter at hI
   rw [if_neg hlt] at hI
   subst hI
   simp (config := { maxSteps := 3000000 }) [hlt]
theorem rA_out {d:Array Int} {i:Nat} (h:d.size≤i):rowAt (rA d) (i:Int) = []:=by
 unfold rowAt
 rw [Int.toNat_natCast,List.getD_eq_getElem?_getD,List.getElem?_eq_none (by rw [rA_length];exact h)]
 rfl
theorem Fr_st (f:Fr):f.st = ⟨look f.vs,lookO f.os⟩:=rfl
noncomputable def Gsft:List AV→Option (Prop × AV)
 | [.tup [.fr e a],.pv (.int .i64 lo),.pv (.int .i64 hi),.pv (.int .i64 fi)]=>if e = 81 then (dec rowN a).map fun l=>((0≤lo∧lo≤1000000)∧0≤hi∧0≤fi∧fi + hi≤(l.length:Int)∧l.length≤1000000,.clo 0 [.tup [],.fr 81 (rA (siftDown ltInt hi.toNat fi.toNat lo.toNat l.toArray))]) else none
 | _=>none
@[simp] theorem Gsft_eq (e:TypeId) (d:Array Int) (lo hi fi:Int):Gsft [.tup [.fr e (rA d)],.pv (.int .i64 lo),.pv (.int .i64 hi),.pv (.int .i64 fi)] = if e = 81 then some ((0≤lo∧lo≤1000000)∧0≤hi∧0≤fi∧fi + hi≤(d.size:Int)∧d.size≤1000000,.clo 0 [.tup [],.fr 81 (rA (siftDown ltInt hi.toNat fi.toNat lo.toNat d))]) else none:=by
 show (if e = 81 then (dec rowN (rA d)).map _ else none) = _
 rw [dec_rA]
 simp
theorem c_sft:ConTG Try.prog 190 Gsft:=by
 intro ys φ r h hφ
 unfold Gsft at h
 split at h
 ·rename_i e ra lo hi fi
  split at h
  ·rename_i he
   subst he
   obtain ⟨l,hl,h⟩:=Option.map_eq_some_iff.1 h
   cases h
   cases dec_rowsN_inv hl
   obtain ⟨⟨h1,h2⟩,h3,h4,h5,h6⟩:=hφ
   obtain ⟨lo,rfl⟩:∃ a:Nat,lo = a:=⟨lo.toNat,by omega⟩
   obtain ⟨hi,rfl⟩:∃ a:Nat,hi = a:=⟨hi.toNat,by omega⟩
   obtain ⟨fi,rfl⟩:∃ a:Nat,fi = a:=⟨fi.toNat,by omega⟩
   rw [Int.toNat_natCast,Int.toNat_natCast,Int.toNat_natCast,rA_of]
   obtain ⟨d,hd⟩:∃ d,d = l.toArray:=⟨_,rfl⟩
   have hds:d.size = l.length:=by rw [hd];simp
   rw [← hd]
   generalize hW:siftDown ltInt hi fi lo d = W
   refine con_ofG (tab_cons c_less tab_nil) (by kernel_rfl) fn190 (by simp) rfl (by simp) ?_
   unfold body190
   simp (config := { maxSteps := 3000000 })
   refine vwp_loop (fun x:Nat × Array Int=>x.1≤1000000∧x.2.size = l.length∧siftDown ltInt hi fi x.1 x.2 = W) (fun x=>⟨[(0,.own 999),(1,.pv (.int .i64 (lo:Int))),(2,.pv (.int .i64 (hi:Int))),(3,.pv (.int .i64 (fi:Int))),(8,.pv (.int .i64 (x.1:Int)))],[(999,.arr 81 (rA x.2))]⟩) (fun x=>hi - x.1) [] (lo,d) ⟨by show lo≤_;omega,hds,hW⟩ ?_ ?_
   ·simp
   ·rintro ⟨i,D⟩ ⟨hi1,hD,hI⟩
    have hi1:i≤1000000:=hi1
    have hD:D.size = l.length:=hD
    have hI:siftDown ltInt hi fi i D = W:=hI
    have w1:IntKind.i64.wrap (2 * (i:Int)) = 2 * (i:Int):=wrap_i64 (by omega)
    have w2:IntKind.i64.wrap (2 * (i:Int) + 1) = 2 * (i:Int) + 1:=wrap_i64 (by omega)
    have w3:IntKind.i64.wrap (2 * (i:Int) + 1 + 1) = 2 * (i:Int) + 2:=by rw [wrap_i64 (by omega)];omega
    obtain ⟨r0,e0⟩:∃ r0,r0 = fi + i:=⟨_,rfl⟩
    obtain ⟨c1,e1⟩:∃ c1,c1 = fi + (2 * i + 1):=⟨_,rfl⟩
    obtain ⟨c2,e2⟩:∃ c2,c2 = fi + (2 * i + 2):=⟨_,rfl⟩
    have w4:IntKind.i64.wrap ((fi:Int) + (2 * (i:Int) + 1)) = (c1:Int):=by rw [wrap_i64 (by omega)];omega
    have w5:IntKind.i64.wrap ((c1:Int) + 1) = (c2:Int):=by rw [wrap_i64 (by omega)];omega
    have w6:IntKind.i64.wrap ((fi:Int) + (i:Int)) = (r0:Int):=by rw [wrap_i64 (by omega)];omega
    have w7:IntKind.i64.wrap ((fi:Int) + (2 * (i:Int) + 2)) = (c2:Int):=by rw [wrap_i64 (by omega)];omega
    unfold siftDown at hI
    rw [← e0,← e1,← e2,show c1 + 1 = c2 by omega] at hI
    by_cases hc : 2 * i + 1≥hi
    ·rw [dif_pos hc] at hI
     subst hI
     have hc2:(hi:Int)≤2 * (i:Int) + 1:=by omega
     simp (config := { maxSteps := 3000000 }) [w1,w2,hc2]
    ·rw [dif_neg hc] at hI
     have hc2:¬ (hi:Int)≤2 * (i:Int) + 1:=by omega
     have q1:r0 < D.size:=by omega
     have r1:=rA_at q1
     have q2:c1 < D.size:=by omega
     have r2:=rA_at q2
     rw [Fr_st,vwp_block]
     apply vwp_cut
     ·simp (config := { maxSteps := 3000000 }) [w1,w2]
      exact ⟨rfl,rfl⟩
     apply vwp_cut
     ·simp (config := { maxSteps := 3000000 }) [hc2]
      exact ⟨rfl,rfl⟩
     by_cases hg1 : 2 * i + 2 < hi
     ·have g1 : 2 * (i:Int) + 2 < (hi:Int):=by omega
      have q4:c2 < D.size:=by omega
      have r4:=rA_at q4
      cases hg2:ltInt D[c1]! D[c2]! with
      | true=>
       have hg3:ltInt (gA D c1) (gA D c2) = true:=hg2
       rw [if_pos (by rw [hg2];simp;omega),dif_pos hg1] at hI
       apply vwp_cut
       ·simp (config := { maxSteps := 3000000 }) [w3,w4,w5,g1,q2,q4,r2,r4,hg3]
        exact ⟨rfl,rfl⟩
       cases hb:ltInt D[r0]! D[c2]! with
       | false=>
        have hb2:ltInt (gA D r0) (gA D c2) = false:=hb
        rw [hb,if_pos (by simp)] at hI
        subst hI
        simp (config := { maxSteps := 3000000 }) [w6,w7,q1,q4,r1,r4,hb2]
       | true=>
        have hb2:ltInt (gA D r0) (gA D c2) = true:=hb
        rw [hb,if_neg (by simp)] at hI
        have z1:=rA_at (d:=D.setIfInBounds r0 (gA D c2)) (i:=c2) (by rw [Array.size_setIfInBounds];omega)
        apply vwp_cut
        ·simp (config := { maxSteps := 3000000 }) [w6,w7,q1,q4,r1,r4,hb2]
         exact ⟨rfl,rfl⟩
        simp (config := { maxSteps := 3000000 }) [w6,w7,q1,q4,r1,r4,z1]
        exact ⟨2 * i + 2,swp D r0 c2,⟨by omega,by rw [size_swp,hD],hI⟩,⟨by omega,rfl⟩,by omega⟩
      | false=>
       have hg3:ltInt (gA D c1) (gA D c2) = false:=hg2
       rw [if_neg (by rw [hg2];simp)] at hI
       apply vwp_cut
       ·simp (config := { maxSteps := 3000000 }) [w3,w4,w5,g1,q2,q4,r2,r4,hg3]
        exact ⟨rfl,rfl⟩
       cases hb:ltInt D[r0]! D[c1]! with
       | false=>
        have hb2:ltInt (gA D r0) (gA D c1) = false:=hb
        rw [hb,if_pos (by simp)] at hI
        subst hI
        simp (config := { maxSteps := 3000000 }) [w6,w4,q1,q2,r1,r2,hb2]
       | true=>
        have hb2:ltInt (gA D r0) (gA D c1) = true:=hb
        rw [hb,if_neg (by simp)] at hI
        have z1:=rA_at (d:=D.setIfInBounds r0 (gA D c1)) (i:=c1) (by rw [Array.size_setIfInBounds];omega)
        apply vwp_cut
        ·simp (config := { maxSteps := 3000000 }) [w6,w4,q1,q2,r1,r2,hb2]
         exact ⟨rfl,rfl⟩
        simp (config := { maxSteps := 3000000 }) [w6,w4,q1,q2,r1,r2,z1]
        exact ⟨2 * i + 1,swp D r0 c1,⟨by omega,by rw [size_swp,hD],hI⟩,⟨by omega,rfl⟩,by omega⟩
     ·have g1:¬ 2 * (i:Int) + 2 < (hi:Int):=by omega
      rw [if_neg (by simp;omega)] at hI
      rcases Nat.lt_or_ge c2 D.size with q4 | q4
      ·have r4:=rA_at q4
       apply vwp_cut
       ·simp (config := { maxSteps := 3000000 }) [w3,w4,w5,g1,q2,q4,r2,r4]
        exact ⟨rfl,rfl⟩
       cases hb:ltInt D[r0]! D[c1]! with
       | false=>
        have hb2:ltInt (gA D r0) (gA D c1) = false:=hb
        rw [hb,if_pos (by simp)] at hI
        subst hI
        simp (config := { maxSteps := 3000000 }) [w6,w4,q1,q2,r1,r2,hb2]
       | true=>
        have hb2:ltInt (gA D r0) (gA D c1) = true:=hb
        rw [hb,if_neg (by simp)] at hI
        have z1:=rA_at (d:=D.setIfInBounds r0 (gA D c1)) (i:=c1) (by rw [Array.size_setIfInBounds];omega)
        apply vwp_cut
        ·simp (config := { maxSteps := 3000000 }) [w6,w4,q1,q2,r1,r2,hb2]
         exact ⟨rfl,rfl⟩
        simp (config := { maxSteps := 3000000 }) [w6,w4,q1,q2,r1,r2,z1]
        exact ⟨2 * i + 1,swp D r0 c1,⟨by omega,by rw [size_swp,hD],hI⟩,⟨by omega,rfl⟩,by omega⟩
      ·have r4:=rA_out q4
       apply vwp_cut
       ·simp (config := { maxSteps := 3000000 }) [w3,w4,w5,g1,q2,r2,r4]
        exact ⟨rfl,rfl⟩
       cases hb:ltInt D[r0]! D[c1]! with
       | false=>
        have hb2:ltInt (gA D r0) (gA D c1) = false:=hb
        rw [hb,if_pos (by simp)] at hI
        subst hI
        simp (config := { maxSteps := 3000000 }) [w6,w4,q1,q2,r1,r2,hb2]
       | true=>
        have hb2:ltInt (gA D r0) (gA D c1) = true:=hb
        rw [hb,if_neg (by simp)] at hI
        have z1:=rA_at (d:=D.setIfInBounds r0 (gA D c1)) (i:=c1) (by rw [Array.size_setIfInBounds];omega)
        apply vwp_cut
        ·simp (config := { maxSteps := 3000000 }) [w6,w4,q1,q2,r1,r2,hb2]
         exact ⟨rfl,rfl⟩
        simp (config := { maxSteps := 3000000 }) [w6,w4,q1,q2,r1,r2,z1]
        exact ⟨2 * i + 1,swp D r0 c1,⟨by omega,by rw [size_swp,hD],hI⟩,⟨by omega,rfl⟩,by omega⟩
  ·cases h
 ·cases h
theorem sft_size (hi fi:Nat):∀ (n root:Nat) (d:Array Int),hi - root≤n→(siftDown ltInt hi fi root d).size = d.size:=by
 intro n
 induction n with
 | zero=>
  intro root d h
  unfold siftDown
  rw [dif_pos (by omega)]
 | succ n ih=>
  intro root d h
  unfold siftDown
  split
  ·rfl
  ·split
   ·split
    ·rfl
    ·split
     ·rw [ih _ _ (by omega),size_swp]
     ·rfl
   ·split
    ·rfl
    ·rw [ih _ _ (by omega),size_swp]
theorem build_size (hi fi:Nat):∀ (k:Nat) (d:Array Int),(heapBuild ltInt hi fi k d).size = d.size
 | 0,d=>rfl
 | k + 1,d=>by
  unfold heapBuild
  rw [build_size hi fi k,sft_size hi fi hi k d (by omega)]
theorem c_heap:ConTG Try.prog 172 (Ginp (heapSort ltInt)):=by
 intro ys φ r h hφ
 obtain ⟨d,p,q,rfl,rfl,rfl⟩:=Ginp_inv h
 obtain ⟨h1,h2,h3,h4⟩:=hφ
 obtain ⟨a,rfl⟩:∃ a:Nat,p = a:=⟨p.toNat,by omega⟩
 obtain ⟨b,rfl⟩:∃ b:Nat,q = b:=⟨q.toNat,by omega⟩
 rw [Int.toNat_natCast,Int.toNat_natCast]
 refine con_ofG (tab_consG (ks:=[2,0,0,0]) c_sft (by kernel_rfl) tab_nil) (by kernel_rfl) fn172 (by simp) rfl (by simp) ?_
 unfold body172
 obtain ⟨m,hm⟩:∃ m,m = b - a:=⟨_,rfl⟩
 have w0:IntKind.i64.wrap ((b:Int) - (a:Int)) = (m:Int):=by rw [wrap_i64 (by omega)];omega
 have w1:IntKind.i64.wrap ((m:Int) - 1) = (m:Int) - 1:=wrap_i64 (by omega)
 obtain ⟨k0,hk0⟩:∃ k0,k0 = (m - 1) / 2 + 1:=⟨_,rfl⟩
 have w2:((m:Int) - 1).tdiv 2 = (k0:Int) - 1:=by
  rcases Nat.eq_zero_or_pos m with h0 | h0
  ·have:k0 = 1:=by omega
   rw [h0,this];decide
  ·rw [Int.tdiv_eq_ediv_of_nonneg (by omega)];omega
 have w3:IntKind.i64.wrap ((k0:Int) - 1) = (k0:Int) - 1:=wrap_i64 (by omega)
 unfold heapSort
 rw [← hm,← hk0]
 generalize hW:heapPop ltInt a m (heapBuild ltInt m a k0 d) = W
 generalize hB:heapBuild ltInt m a k0 d = B at hW
 apply vwp_cut
 ·simp (config := { maxSteps := 3000000 })
  exact ⟨rfl,rfl⟩
 apply vwp_cut
 ·simp (config := { maxSteps := 3000000 })
  exact ⟨rfl,rfl⟩
 apply vwp_cut
 ·simp (config := { maxSteps := 3000000 }) [w0]
  exact ⟨rfl,rfl⟩
 apply vwp_cut
 ·simp (config := { maxSteps := 3000000 }) [w1,w2,w3]
  refine vwp_loop (fun x:Nat × Array Int=>x.1≤k0∧x.2.size = d.size∧heapBuild ltInt m a x.1 x.2 = B) (fun x=>⟨[(0,.own 999),(6,.pv (.int .i64 (a:Int))),(7,.pv (.int .i64 0)),(8,.pv (.int .i64 (m:Int))),(9,.pv (.int .i64 ((x.1:Int) - 1)))],[(999,.arr 81 (rA x.2))]⟩) (fun x=>x.1) [] (k0,d) ⟨Nat.le_refl _,rfl,hB⟩ ?_ ?_
  ·simp
  ·rintro ⟨k,D⟩ ⟨hk,hD,hI⟩
   have hk:k≤k0:=hk
   have hD:D.size = d.size:=hD
   have hI:heapBuild ltInt m a k D = B:=hI
   cases k with
   | zero=>
    have hI:D = B:=hI
    rw [hI]
    simp (config := { maxSteps := 3000000 })
    exact ⟨rfl,rfl⟩
   | succ k=>
    have hI:heapBuild ltInt m a k (siftDown ltInt m a k D) = B:=hI
    have hs:=sft_size m a m k D (by omega)
    have v1:(k:Int) + 1 - 1 = (k:Int):=by omega
    have v2:IntKind.i64.wrap ((k:Int) - 1) = (k:Int) - 1:=wrap_i64 (by omega)
    have v3:(k:Int)≤1000000:=by omega
    have v4:(a:Int) + (m:Int)≤(D.size:Int):=by omega
    have v5:D.size≤1000000:=by omega
    simp (config := { maxSteps := 3000000 }) [v1,v2,v3,v4,v5]
    exact ⟨k,siftDown ltInt m a k D,⟨by omega,by rw [hs,hD],hI⟩,⟨rfl,rfl⟩,by omega⟩
 have hBs:B.size = d.size:=by rw [← hB,build_size]
 apply vwp_cut
 ·simp (config := { maxSteps := 3000000 }) [w1]
  exact ⟨rfl,rfl⟩
 rw [vwp_block]
 refine vwp_loop (fun x:Nat × Array Int=>x.1≤m∧x.2.size = d.size∧heapPop ltInt a x.1 x.2 = W) (fun x=>⟨[(0,.own 999),(6,.pv (.int .i64 (a:Int))),(7,.pv (.int .i64 0)),(10,.pv (.int .i64 ((x.1:Int) - 1)))],[(999,.arr 81 (rA x.2))]⟩) (fun x=>x.1) [] (m,B) ⟨Nat.le_refl _,hBs,hW⟩ ?_ ?_
 ·simp
 ·rintro ⟨k,D⟩ ⟨hk,hD,hI⟩
  have hk:k≤m:=hk
  have hD:D.size = d.size:=hD
  have hI:heapPop ltInt a k D = W:=hI
  cases k with
  | zero=>
   have hI:D = W:=hI
   rw [hI]
   simp (config := { maxSteps := 3000000 })
  | succ k=>
   have hI:heapPop ltInt a k (siftDown ltInt k a 0 (swp D a (a + k))) = W:=hI
   have hs:=sft_size k a k 0 (swp D a (a + k)) (by omega)
   have v1:(k:Int) + 1 - 1 = (k:Int):=by omega
   have v2:IntKind.i64.wrap ((k:Int) - 1) = (k:Int) - 1:=wrap_i64 (by omega)
   obtain ⟨c,hc⟩:∃ c,c = a + k:=⟨_,rfl⟩
   rw [← hc] at hI hs
   have v3:IntKind.i64.wrap ((a:Int) + (k:Int)) = (c:Int):=by rw [wrap_i64 (by omega)];omega
   have q1:a < D.size:=by omega
   have q2:c < D.size:=by omega
   have r1:=rA_at q1
   have r2:=rA_at q2
   have r3:=rA_at (d:=D.setIfInBounds a (gA D c)) (i:=c) (by rw [Array.size_setIfInBounds];omega)
   have v4:(a:Int) + (k:Int)≤(D.size:Int):=by omega
   have v5:D.size≤1000000:=by omega
   apply vwp_cut
   ·simp (config := { maxSteps := 3000000 }) [v1]
    exact ⟨rfl,rfl⟩
   rw [vwp_seq]
   rw [vwp_block]
   apply vwp_cut
   ·simp (config := { maxSteps := 3000000 }) [v1,v3,q1,q2,r1,r2,r3]
    exact ⟨rfl,rfl⟩
   rw [show (D.setIfInBounds a (gA D c)).setIfInBounds c (gA D a) = swp D a c from rfl]
   have v6:(swp D a c).size = D.size:=size_swp _ _ _
   simp (config := { maxSteps := 3000000 }) [v1,v2,v4,v5,v6]
   exact ⟨k,siftDown ltInt k a 0 (swp D a c),⟨by omega,by rw [hs,size_swp,hD],hI⟩,⟨rfl,rfl⟩,by omega⟩
theorem c_rev:ConTG Try.prog 175 (Ginp reverseRange):=by
 intro ys φ r h hφ
 obtain ⟨d,p,q,rfl,rfl,rfl⟩:=Ginp_inv h
 obtain ⟨h1,h2,h3,h4⟩:=hφ
 obtain ⟨a,rfl⟩:∃ a:Nat,p = a:=⟨p.toNat,by omega⟩
 obtain ⟨b,rfl⟩:∃ b:Nat,q = b:=⟨q.toNat,by omega⟩
 rw [Int.toNat_natCast,Int.toNat_natCast]
 refine con_ofG tab_nil (by kernel_rfl) fn175 (by simp) rfl (by simp) ?_
 unfold body175
 have w0:IntKind.i64.wrap ((b:Int) - 1) = (b:Int) - 1:=wrap_i64 (by omega)
 unfold reverseRange
 generalize hW:reverseLoop a (b - 1) d = W
 simp (config := { maxSteps := 3000000 }) [w0]
 refine vwp_loop (fun x:(Nat × Nat) × Array Int=>(a≤x.1.1∧x.1.1≤b)∧x.1.2≤b∧x.2.size = d.size∧reverseLoop x.1.1 (x.1.2 - 1) x.2 = W) (fun x=>⟨[(0,.own 999),(6,.pv (.int .i64 (x.1.1:Int))),(7,.pv (.int .i64 ((x.1.2:Int) - 1)))],[(999,.arr 81 (rA x.2))]⟩) (fun x=>x.1.2) [] ((a,b),d) ⟨⟨Nat.le_refl _,by show a≤b;omega⟩,Nat.le_refl _,rfl,hW⟩ ?_ ?_
 ·simp
 ·rintro ⟨⟨i,j⟩,D⟩ ⟨⟨hi1,hi2⟩,hj,hD,hI⟩
  have hi1:a≤i:=hi1
  have hi2:i≤b:=hi2
  have hj:j≤b:=hj
  have hD:D.size = d.size:=hD
  have hI:reverseLoop i (j - 1) D = W:=hI
  unfold reverseLoop at hI
  by_cases hlt:i < j - 1
  ·rw [if_pos hlt] at hI
   obtain ⟨c,hc⟩:∃ c,c = j - 1:=⟨_,rfl⟩
   rw [← hc] at hI
   have e1:(j:Int) - 1 = (c:Int):=by omega
   have g1:i < c:=by omega
   have w1:IntKind.i64.wrap ((i:Int) + 1) = (i:Int) + 1:=wrap_i64 (by omega)
   have w2:IntKind.i64.wrap ((c:Int) - 1) = (c:Int) - 1:=wrap_i64 (by omega)
   have q1:i < D.size:=by omega
   have q2:c < D.size:=by omega
   have r1:=rA_at q1
   have r2:=rA_at q2
   have r3:=rA_at (d:=D.setIfInBounds i (gA D c)) (i:=c) (by rw [Array.size_setIfInBounds];omega)
   simp (config := { maxSteps := 3000000 }) [e1,g1,w1,w2,q1,q2,r1,r2,r3]
   exact ⟨i + 1,c,swp D i c,⟨by omega,by omega,by rw [size_swp,hD],hI⟩,⟨⟨by omega,rfl⟩,rfl⟩,by omega⟩
  ·rw [if_neg hlt] at hI
   subst hI
   have g1:¬ (i:Int) < (j:Int) - 1:=by omega
   simp (config := { maxSteps := 3000000 }) [g1]
theorem rA_all {rows:List (List PV)} {l:List Int} (h:dec rowN rows = some l):∃ d:Array Int,rows = rA d∧l = d.toList:=⟨l.toArray,by rw [dec_rowsN_inv h,rA_of],by simp⟩
noncomputable def Go2:List AV→Option (Prop × AV)
 | [.pv (.ro a),.pv (.int .i64 p),.pv (.int .i64 q),.tup [.bx [.pv (.int .i64 s)]]]=>(dec rowN a).map fun l=>((0≤p∧p < (l.length:Int))∧(0≤q∧q < (l.length:Int))∧(0≤s∧s≤1000)∧l.length≤1000000,
   .clo 0 [.tup [.pv (.int .i64 ((order2 ltInt l.toArray p.toNat q.toNat s.toNat).1:Int)),.pv (.int .i64 ((order2 ltInt l.toArray p.toNat q.toNat s.toNat).2.1:Int))],.bx [.pv (.int .i64 ((order2 ltInt l.toArray p.toNat q.toNat s.toNat).2.2:Int))]])
 | _=>none
@[simp] theorem Go2_eq (d:Array Int) (p q s:Int):Go2 [.pv (.ro (rA d)),.pv (.int .i64 p),.pv (.int .i64 q),.tup [.bx [.pv (.int .i64 s)]]] = some ((0≤p∧p < (d.size:Int))∧(0≤q∧q < (d.size:Int))∧(0≤s∧s≤1000)∧d.size≤1000000,
   .clo 0 [.tup [.pv (.int .i64 ((order2 ltInt d p.toNat q.toNat s.toNat).1:Int)),.pv (.int .i64 ((order2 ltInt d p.toNat q.toNat s.toNat).2.1:Int))],.bx [.pv (.int .i64 ((order2 ltInt d p.toNat q.toNat s.toNat).2.2:Int))]]):=by
 show (dec rowN (rA d)).map _ = _
 rw [dec_rA]
 simp
theorem c_ord:ConTG Try.prog 205 Go2:=by
 intro ys φ r h hφ
 unfold Go2 at h
 split at h
 ·rename_i ra p q s
  obtain ⟨l,hl,h⟩:=Option.map_eq_some_iff.1 h
  cases h
  obtain ⟨d,rfl,rfl⟩:=rA_all hl
  obtain ⟨⟨h1,h2⟩,⟨h3,h4⟩,⟨h5,h6⟩,h7⟩:=hφ
  obtain ⟨a,rfl⟩:∃ a:Nat,p = a:=⟨p.toNat,by omega⟩
  obtain ⟨b,rfl⟩:∃ a:Nat,q = a:=⟨q.toNat,by omega⟩
  obtain ⟨m,rfl⟩:∃ a:Nat,s = a:=⟨s.toNat,by omega⟩
  rw [Array.length_toList] at h2 h4 h7
  rw [Int.toNat_natCast,Int.toNat_natCast,Int.toNat_natCast,Array.toArray_toList]
  have q1:a < d.size:=by omega
  have q2:b < d.size:=by omega
  have r1:=rA_at q1
  have r2:=rA_at q2
  have w1:IntKind.i64.wrap ((m:Int) + 1) = (m:Int) + 1:=wrap_i64 (by omega)
  refine con_ofG (tab_cons c_less tab_nil) (by kernel_rfl) fn205 (by simp) rfl (by simp) ?_
  unfold body205
  cases hb:ltInt d[b]! d[a]! with
  | true=>
   have hb2:ltInt (gA d b) (gA d a) = true:=hb
   have hx:order2 ltInt d a b m = (b,a,m + 1):=by unfold order2;rw [hb,if_pos rfl]
   simp (config := { maxSteps := 3000000 }) [q1,q2,r1,r2,hb2,hx,w1]
  | false=>
   have hb2:ltInt (gA d b) (gA d a) = false:=hb
   have hx:order2 ltInt d a b m = (a,b,m):=by unfold order2;rw [hb,if_neg (by simp)]
   simp (config := { maxSteps := 3000000 }) [q1,q2,r1,r2,hb2,hx,w1]
 ·cases h
theorem ord_mem (d:Array Int) (a b s:Nat):(order2 ltInt d a b s).2.2≤s + 1∧(((order2 ltInt d a b s).1 = a∧(order2 ltInt d a b s).2.1 = b)∨((order2 ltInt d a b s).1 = b∧(order2 ltInt d a b s).2.1 = a)):=by
 unfold order2
 split
 ·exact ⟨Nat.le_refl _,.inr ⟨rfl,rfl⟩⟩
 ·exact ⟨Nat.le_add_right _ _,.inl ⟨rfl,rfl⟩⟩
noncomputable def Gmed:List AV→Option (Prop × AV)
 | [.pv (.ro a),.pv (.int .i64 p),.pv (.int .i64 q),.pv (.int .i64 u),.tup [.bx [.pv (.int .i64 s)]]]=>(dec rowN a).map fun l=>((0≤p∧p < (l.length:Int))∧(0≤q∧q < (l.length:Int))∧(0≤u∧u < (l.length:Int))∧(0≤s∧s≤900)∧l.length≤1000000,
   .clo 0 [.pv (.int .i64 ((median ltInt l.toArray p.toNat q.toNat u.toNat s.toNat).1:Int)),.bx [.pv (.int .i64 ((median ltInt l.toArray p.toNat q.toNat u.toNat s.toNat).2:Int))]])
 | _=>none
@[simp] theorem Gmed_eq (d:Array Int) (p q u s:Int):Gmed [.pv (.ro (rA d)),.pv (.int .i64 p),.pv (.int .i64 q),.pv (.int .i64 u),.tup [.bx [.pv (.int .i64 s)]]] = some ((0≤p∧p < (d.size:Int))∧(0≤q∧q < (d.size:Int))∧(0≤u∧u < (d.size:Int))∧(0≤s∧s≤900)∧d.size≤1000000,
   .clo 0 [.pv (.int .i64 ((median ltInt d p.toNat q.toNat u.toNat s.toNat).1:Int)),.bx [.pv (.int .i64 ((median ltInt d p.toNat q.toNat u.toNat s.toNat).2:Int))]]):=by
 show (dec rowN (rA d)).map _ = _
 rw [dec_rA]
 simp
theorem med_eq (d:Array Int) (a b c s:Nat):median ltInt d a b c s = ((order2 ltInt d (order2 ltInt d a b s).1 (order2 ltInt d (order2 ltInt d a b s).2.1 c (order2 ltInt d a b s).2.2).1 (order2 ltInt d (order2 ltInt d a b s).2.1 c (order2 ltInt d a b s).2.2).2.2).2.1,(order2 ltInt d (order2 ltInt d a b s).1 (order2 ltInt d (order2 ltInt d a b s).2.1 c (order2 ltInt d a b s).2.2).1 (order2 ltInt d (order2 ltInt d a b s).2.1 c (order2 ltInt d a b s).2.2).2.2).2.2):=rfl
theorem med_mem (d:Array Int) (a b c s n:Nat) (ha:a < n) (hb:b < n) (hc:c < n):(median ltInt d a b c s).1 < n∧(median ltInt d a b c s).2≤s + 3:=by
 rw [med_eq]
 have h1:=ord_mem d a b s
 generalize order2 ltInt d a b s = r1 at *
 have h2:=ord_mem d r1.2.1 c r1.2.2
 generalize order2 ltInt d r1.2.1 c r1.2.2 = r2 at *
 have h3:=ord_mem d r1.1 r2.1 r2.2.2
 show (order2 ltInt d r1.1 r2.1 r2.2.2).2.1 < n∧(order2 ltInt d r1.1 r2.1 r2.2.2).2.2≤s + 3
 generalize order2 ltInt d r1.1 r2.1 r2.2.2 = r3 at *
 omega
theorem c_med:ConTG Try.prog 192 Gmed:=by
 intro ys φ r h hφ
 unfold Gmed at h
 split at h
 ·rename_i ra p q u s
  obtain ⟨l,hl,h⟩:=Option.map_eq_some_iff.1 h
  cases h
  obtain ⟨d,rfl,rfl⟩:=rA_all hl
  obtain ⟨⟨h1,h2⟩,⟨h3,h4⟩,⟨h8,h9⟩,⟨h5,h6⟩,h7⟩:=hφ
  obtain ⟨a,rfl⟩:∃ a:Nat,p = a:=⟨p.toNat,by omega⟩
  obtain ⟨b,rfl⟩:∃ a:Nat,q = a:=⟨q.toNat,by omega⟩
  obtain ⟨c,rfl⟩:∃ a:Nat,u = a:=⟨u.toNat,by omega⟩
  obtain ⟨m,rfl⟩:∃ a:Nat,s = a:=⟨s.toNat,by omega⟩
  rw [Array.length_toList] at h2 h4 h7 h9
  rw [Int.toNat_natCast,Int.toNat_natCast,Int.toNat_natCast,Int.toNat_natCast,Array.toArray_toList]
  refine con_ofG (tab_consG (ks:=[0,0,0,2]) c_ord (by kernel_rfl) tab_nil) (by kernel_rfl) fn192 (by simp) rfl (by simp) ?_
  unfold body192
  have e1:=ord_mem d a b m
  generalize hr1:order2 ltInt d a b m = r1 at *
  have e2:=ord_mem d r1.2.1 c r1.2.2
  generalize hr2:order2 ltInt d r1.2.1 c r1.2.2 = r2 at *
  have e3:=ord_mem d r1.1 r2.1 r2.2.2
  have hx:median ltInt d a b c m = ((order2 ltInt d r1.1 r2.1 r2.2.2).2.1,(order2 ltInt d r1.1 r2.1 r2.2.2).2.2):=by rw [med_eq,hr1,hr2]
  generalize hr3:order2 ltInt d r1.1 r2.1 r2.2.2 = r3 at *
  rw [hx]
  have n1:a < d.size:=by omega
  have n2:b < d.size:=by omega
  have n3:c < d.size:=by omega
  have n4:r1.1 < d.size:=by omega
  have n5:r1.2.1 < d.size:=by omega
  have n6:r2.1 < d.size:=by omega
  have n7:(m:Int)≤1000:=by omega
  have n8:(r1.2.2:Int)≤1000:=by omega
  have n9:(r2.2.2:Int)≤1000:=by omega
  apply vwp_cut
  ·simp (config := { maxSteps := 3000000 })
   exact ⟨rfl,rfl⟩
  apply vwp_cut
  ·simp (config := { maxSteps := 3000000 }) [n1,n2,n7,h7,hr1]
   exact ⟨rfl,rfl⟩
  apply vwp_cut
  ·simp (config := { maxSteps := 3000000 }) [n3,n5,n8,h7,hr2]
   exact ⟨rfl,rfl⟩
  apply vwp_cut
  ·simp (config := { maxSteps := 3000000 }) [n4,n6,n9,h7,hr3]
   exact ⟨rfl,rfl⟩
  simp (config := { maxSteps := 3000000 })
 ·cases h
noncomputable def Gadj:List AV→Option (Prop × AV)
 | [.pv (.ro a),.pv (.int .i64 p),.tup [.bx [.pv (.int .i64 s)]]]=>(dec rowN a).map fun l=>((1≤p∧p + 1 < (l.length:Int))∧(0≤s∧s≤900)∧l.length≤1000000,
   .clo 0 [.pv (.int .i64 ((medianAdjacent ltInt l.toArray p.toNat s.toNat).1:Int)),.bx [.pv (.int .i64 ((medianAdjacent ltInt l.toArray p.toNat s.toNat).2:Int))]])
 | _=>none
@[simp] theorem Gadj_eq (d:Array Int) (p s:Int):Gadj [.pv (.ro (rA d)),.pv (.int .i64 p),.tup [.bx [.pv (.int .i64 s)]]] = some ((1≤p∧p + 1 < (d.size:Int))∧(0≤s∧s≤900)∧d.size≤1000000,
   .clo 0 [.pv (.int .i64 ((medianAdjacent ltInt d p.toNat s.toNat).1:Int)),.bx [.pv (.int .i64 ((medianAdjacent ltInt d p.toNat s.toNat).2:Int))]]):=by
 show (dec rowN (rA d)).map _ = _
 rw [dec_rA]
 simp
theorem c_adj:ConTG Try.prog 191 Gadj:=by
 intro ys φ r h hφ
 unfold Gadj at h
 split at h
 ·rename_i ra p s
  obtain ⟨l,hl,h⟩:=Option.map_eq_some_iff.1 h
  cases h
  obtain ⟨d,rfl,rfl⟩:=rA_all hl
  obtain ⟨⟨h1,h2⟩,⟨h5,h6⟩,h7⟩:=hφ
  obtain ⟨a,rfl⟩:∃ a:Nat,p = a:=⟨p.toNat,by omega⟩
  obtain ⟨m,rfl⟩:∃ a:Nat,s = a:=⟨s.toNat,by omega⟩
  rw [Array.length_toList] at h2 h7
  rw [Int.toNat_natCast,Int.toNat_natCast,Array.toArray_toList]
  have w1:IntKind.i64.wrap ((a:Int) - 1) = ((a - 1:Nat):Int):=by rw [wrap_i64 (by omega)];omega
  have w2:IntKind.i64.wrap ((a:Int) + 1) = ((a + 1:Nat):Int):=by rw [wrap_i64 (by omega)];omega
  unfold medianAdjacent
  obtain ⟨x,hx⟩:∃ x,x = a - 1:=⟨_,rfl⟩
  obtain ⟨y,hy⟩:∃ y,y = a + 1:=⟨_,rfl⟩
  rw [← hx] at w1 ⊢
  rw [← hy] at w2 ⊢
  generalize hR:median ltInt d x a y m = R
  have n1:x < d.size:=by omega
  have n2:a < d.size:=by omega
  have n3:y < d.size:=by omega
  have n4:(m:Int)≤900:=by omega
  refine con_ofG (tab_consG (ks:=[0,0,0,0,2]) c_med (by kernel_rfl) tab_nil) (by kernel_rfl) fn191 (by simp) rfl (by simp) ?_
  unfold body191
  simp (config := { maxSteps := 3000000 }) [w1,w2,n1,n2,n3,n4,h7,hR]
 ·cases h
def hintN:Hint→Int
 | .unknown=>0
 | .increasing=>1
 | .decreasing=>2
theorem adj_mem (d:Array Int) (a s n:Nat) (h1 : 1≤a) (h2:a + 1 < n):(medianAdjacent ltInt d a s).1 < n∧(medianAdjacent ltInt d a s).2≤s + 3:=med_mem d _ _ _ s n (by omega) (by omega) h2
theorem chp_small {d:Array Int} {a b:Nat} (h:¬ b - a≥8):choosePivot ltInt d a b = (a + (b - a) / 4 * 2,.increasing):=by
 unfold choosePivot
 simp only [if_neg h]
 rfl
theorem chp_mid {d:Array Int} {a b:Nat} (h:b - a≥8) (h2:¬ b - a≥50):choosePivot ltInt d a b = ((median ltInt d (a + (b - a) / 4 * 1) (a + (b - a) / 4 * 2) (a + (b - a) / 4 * 3) 0).1,if (median ltInt d (a + (b - a) / 4 * 1) (a + (b - a) / 4 * 2) (a + (b - a) / 4 * 3) 0).2 = 0 then .increasing else if (median ltInt d (a + (b - a) / 4 * 1) (a + (b - a) / 4 * 2) (a + (b - a) / 4 * 3) 0).2 = 12 then .decreasing else .unknown):=by
 unfold choosePivot
 simp only [if_pos h,if_neg h2]
theorem chp_big {d:Array Int} {a b:Nat} (h2:b - a≥50) {ri rj rk m:Nat × Nat} (e1:medianAdjacent ltInt d (a + (b - a) / 4 * 1) 0 = ri) (e2:medianAdjacent ltInt d (a + (b - a) / 4 * 2) ri.2 = rj) (e3:medianAdjacent ltInt d (a + (b - a) / 4 * 3) rj.2 = rk) (e4:median ltInt d ri.1 rj.1 rk.1 rk.2 = m) :
  choosePivot ltInt d a b = (m.1,if m.2 = 0 then .increasing else if m.2 = 12 then .decreasing else .unknown):=by
 unfold choosePivot
 simp only [if_pos (show b - a≥8 by omega),if_pos h2,e1,e2,e3,e4]
noncomputable def Gchp:List AV→Option (Prop × AV)
 | [.pv (.ro a),.pv (.int .i64 p),.pv (.int .i64 q)]=>(dec rowN a).map fun l=>(0≤p∧p≤q∧q≤(l.length:Int)∧l.length≤1000000,
   .tup [.pv (.int .i64 ((choosePivot ltInt l.toArray p.toNat q.toNat).1:Int)),.pv (.int .i64 (hintN (choosePivot ltInt l.toArray p.toNat q.toNat).2))])
 | _=>none
@[simp] theorem Gchp_eq (d:Array Int) (p q:Int):Gchp [.pv (.ro (rA d)),.pv (.int .i64 p),.pv (.int .i64 q)] = some (0≤p∧p≤q∧q≤(d.size:Int)∧d.size≤1000000,
   .tup [.pv (.int .i64 ((choosePivot ltInt d p.toNat q.toNat).1:Int)),.pv (.int .i64 (hintN (choosePivot ltInt d p.toNat q.toNat).2))]):=by
 show (dec rowN (rA d)).map _ = _
 rw [dec_rA]
 simp
theorem c_chp:ConT Try.prog 174 Gchp:=by
 intro ys φ r h hφ
 unfold Gchp at h
 split at h
 ·rename_i ra p q
  obtain ⟨l,hl,h⟩:=Option.map_eq_some_iff.1 h
  cases h
  obtain ⟨d,rfl,rfl⟩:=rA_all hl
  obtain ⟨h1,h2,h3,h7⟩:=hφ
  obtain ⟨a,rfl⟩:∃ a:Nat,p = a:=⟨p.toNat,by omega⟩
  obtain ⟨b,rfl⟩:∃ a:Nat,q = a:=⟨q.toNat,by omega⟩
  rw [Array.length_toList] at h3 h7
  rw [Int.toNat_natCast,Int.toNat_natCast,Array.toArray_toList]
  obtain ⟨n,hn⟩:∃ n,n = b - a:=⟨_,rfl⟩
  obtain ⟨f,hf⟩:∃ f,f = n / 4:=⟨_,rfl⟩
  obtain ⟨i,hi⟩:∃ i,i = a + f * 1:=⟨_,rfl⟩
  obtain ⟨j,hj⟩:∃ j,j = a + f * 2:=⟨_,rfl⟩
  obtain ⟨k,hk⟩:∃ k,k = a + f * 3:=⟨_,rfl⟩
  have w0:IntKind.i64.wrap ((b:Int) - (a:Int)) = (n:Int):=by rw [wrap_i64 (by omega)];omega
  have w1:(n:Int).tdiv 4 = (f:Int):=by rw [Int.tdiv_eq_ediv_of_nonneg (by omega)];omega
  have w2:IntKind.i64.wrap (f:Int) = (f:Int):=wrap_i64 (by omega)
  have w3:IntKind.i64.wrap ((f:Int) * 2) = (f:Int) * 2:=wrap_i64 (by omega)
  have w4:IntKind.i64.wrap ((f:Int) * 3) = (f:Int) * 3:=wrap_i64 (by omega)
  have w5:IntKind.i64.wrap ((a:Int) + (f:Int)) = (i:Int):=by rw [wrap_i64 (by omega)];omega
  have w6:IntKind.i64.wrap ((a:Int) + (f:Int) * 2) = (j:Int):=by rw [wrap_i64 (by omega)];omega
  have w7:IntKind.i64.wrap ((a:Int) + (f:Int) * 3) = (k:Int):=by rw [wrap_i64 (by omega)];omega
  refine con_of (tab_consG (ks:=[0,0,2]) c_adj (by kernel_rfl) (tab_consG (ks:=[0,0,0,0,2]) c_med (by kernel_rfl) tab_nil)) (by kernel_rfl) fn174 (by simp) ?_
  unfold body174
  generalize hC:choosePivot ltInt d a b = C
  apply vwp_cut
  ·simp (config := { maxSteps := 3000000 })
   exact ⟨rfl,rfl⟩
  apply vwp_cut
  ·simp (config := { maxSteps := 3000000 }) [w0]
   exact ⟨rfl,rfl⟩
  apply vwp_cut
  ·simp (config := { maxSteps := 3000000 })
   exact ⟨rfl,rfl⟩
  apply vwp_cut
  ·simp (config := { maxSteps := 3000000 }) [w1,w2,w5]
   exact ⟨rfl,rfl⟩
  apply vwp_cut
  ·simp (config := { maxSteps := 3000000 }) [w1,w2,w3,w6]
   exact ⟨rfl,rfl⟩
  apply vwp_cut
  ·simp (config := { maxSteps := 3000000 }) [w1,w2,w4,w7]
   exact ⟨rfl,rfl⟩
  by_cases g8:n≥8
  ·have c8:(8:Int)≤(n:Int):=by omega
   by_cases g50:n≥50
   ·have c50:(50:Int)≤(n:Int):=by omega
    obtain ⟨ri,e1⟩:∃ ri,medianAdjacent ltInt d i 0 = ri:=⟨_,rfl⟩
    obtain ⟨rj,e2⟩:∃ rj,medianAdjacent ltInt d j ri.2 = rj:=⟨_,rfl⟩
    obtain ⟨rk,e3⟩:∃ rk,medianAdjacent ltInt d k rj.2 = rk:=⟨_,rfl⟩
    obtain ⟨m,e4⟩:∃ m,median ltInt d ri.1 rj.1 rk.1 rk.2 = m:=⟨_,rfl⟩
    have m1:=adj_mem d i 0 d.size (by omega) (by omega)
    have m2:=adj_mem d j ri.2 d.size (by omega) (by omega)
    have m3:=adj_mem d k rj.2 d.size (by omega) (by omega)
    rw [e1] at m1
    rw [e2] at m2
    rw [e3] at m3
    have hx:=chp_big (d:=d) (a:=a) (b:=b) (by omega) (ri:=ri) (rj:=rj) (rk:=rk) (m:=m) (by rw [← hn,← hf,← hi,e1]) (by rw [← hn,← hf,← hj,e2]) (by rw [← hn,← hf,← hk,e3]) e4
    rw [hC] at hx
    have p1:(1:Int)≤(i:Int)∧(i:Int) + 1 < (d.size:Int):=by omega
    have p2:(1:Int)≤(j:Int)∧(j:Int) + 1 < (d.size:Int):=by omega
    have p3:(1:Int)≤(k:Int)∧(k:Int) + 1 < (d.size:Int):=by omega
    have s1:(ri.2:Int)≤900:=by omega
    have s2:(rj.2:Int)≤900:=by omega
    have s3:(rk.2:Int)≤900:=by omega
    have t1:ri.1 < d.size:=m1.1
    have t2:rj.1 < d.size:=m2.1
    have t3:rk.1 < d.size:=m3.1
    apply vwp_cut
    ·apply vwp_cut
     ·simp (config := { maxSteps := 3000000 }) [c8]
      exact ⟨rfl,rfl⟩
     apply vwp_cT rfl
     apply vwp_cut
     ·apply vwp_cut
      ·simp (config := { maxSteps := 3000000 }) [c50]
       exact ⟨rfl,rfl⟩
      apply vwp_cT rfl
      apply vwp_cut
      ·simp (config := { maxSteps := 3000000 }) [p1,h7,e1]
       exact ⟨rfl,rfl⟩
      apply vwp_cut
      ·simp (config := { maxSteps := 3000000 }) [p2,s1,h7,e2]
       exact ⟨rfl,rfl⟩
      simp (config := { maxSteps := 3000000 }) [p3,s2,h7,e3]
      exact ⟨rfl,rfl⟩
     simp (config := { maxSteps := 3000000 }) [t1,t2,t3,s3,h7,e4]
     exact ⟨rfl,rfl⟩
    by_cases z0:m.2 = 0
    ·rw [if_pos z0] at hx
     subst hx
     have y0:(m.2:Int) = 0:=by omega
     simp (config := { maxSteps := 3000000 }) [y0,hintN]
    ·rw [if_neg z0] at hx
     have y0:¬ (m.2:Int) = 0:=by omega
     by_cases z1:m.2 = 12
     ·rw [if_pos z1] at hx
      subst hx
      have y1:(m.2:Int) = 12:=by omega
      simp (config := { maxSteps := 3000000 }) [z0,y0,y1,hintN]
     ·rw [if_neg z1] at hx
      subst hx
      have y1:¬ (m.2:Int) = 12:=by omega
      simp (config := { maxSteps := 3000000 }) [z0,z1,y0,y1,hintN]
   ·have c50:¬ (50:Int)≤(n:Int):=by omega
    have hx:=chp_mid (d:=d) (a:=a) (b:=b) (by omega) (by omega)
    rw [← hn,← hf,← hi,← hj,← hk,hC] at hx
    obtain ⟨m,e4⟩:∃ m,median ltInt d i j k 0 = m:=⟨_,rfl⟩
    rw [e4] at hx
    have t1:i < d.size:=by omega
    have t2:j < d.size:=by omega
    have t3:k < d.size:=by omega
    apply vwp_cut
    ·apply vwp_cut
     ·simp (config := { maxSteps := 3000000 }) [c8]
      exact ⟨rfl,rfl⟩
     apply vwp_cT rfl
     apply vwp_cut
     ·simp (config := { maxSteps := 3000000 }) [c50]
      exact ⟨rfl,rfl⟩
     simp (config := { maxSteps := 3000000 }) [t1,t2,t3,h7,e4]
     exact ⟨rfl,rfl⟩
    by_cases z0:m.2 = 0
    ·rw [if_pos z0] at hx
     subst hx
     have y0:(m.2:Int) = 0:=by omega
     simp (config := { maxSteps := 3000000 }) [y0,hintN]
    ·rw [if_neg z0] at hx
     have y0:¬ (m.2:Int) = 0:=by omega
     by_cases z1:m.2 = 12
     ·rw [if_pos z1] at hx
      subst hx
      have y1:(m.2:Int) = 12:=by omega
      simp (config := { maxSteps := 3000000 }) [z0,y0,y1,hintN]
     ·rw [if_neg z1] at hx
      subst hx
      have y1:¬ (m.2:Int) = 12:=by omega
      simp (config := { maxSteps := 3000000 }) [z0,z1,y0,y1,hintN]
  ·have c8:¬ (8:Int)≤(n:Int):=by omega
   have hx:=chp_small (d:=d) (a:=a) (b:=b) (by omega)
   rw [← hn,← hf,← hj,hC] at hx
   subst hx
   simp (config := { maxSteps := 3000000 }) [c8,hintN]
 ·cases h
def lenTab:List UInt8:=0 :: 1 :: (List.replicate 2 2 ++ (List.replicate 4 3 ++ (List.replicate 8 4 ++ (List.replicate 16 5 ++ (List.replicate 32 6 ++ (List.replicate 64 7 ++ List.replicate 128 8))))))
theorem pow_le2:∀ n:Nat,n < 256→1≤n→1 <<< bitsLen n≤2 * n:=by decide +kernel
noncomputable def GLen:List AV→Option (Prop × AV)
 | [.pv (.int .u64 n)]=>some (0≤n∧n < 256,.pv (.int .i64 (bitsLen n.toNat:Int)))
 | _=>none
@[simp] theorem GLen_eq (n:Int):GLen [.pv (.int .u64 n)] = some (0≤n∧n < 256,.pv (.int .i64 (bitsLen n.toNat:Int))):=rfl
theorem lenTab_at:∀ n:Nat,n < 256→lenTab[n]? = some (bitsLen n).toUInt8∧bitsLen n≤8:=by decide +kernel
theorem c_Len64:ConT Try.prog 155 GLen:=by
 intro ys φ r h hφ
 unfold GLen at h
 split at h
 ·rename_i x
  cases h
  obtain ⟨h1,h2⟩:=hφ
  obtain ⟨n,rfl⟩:∃ n:Nat,x = n:=⟨x.toNat,by omega⟩
  rw [Int.toNat_natCast]
  obtain ⟨e1,e2⟩:=lenTab_at n (by omega)
  have w1:IntKind.u8.wrap (n:Int) = (n:Int):=by rw [wrap_u8];omega
  have c1:¬ (4294967296:Int)≤(n:Int):=by omega
  have c2:¬ (65536:Int)≤(n:Int):=by omega
  have c3:¬ (256:Int)≤(n:Int):=by omega
  refine con_of tab_nil (by kernel_rfl) fn155 (by simp) ?_
  unfold body155
  apply vwp_cut
  ·simp (config := { maxSteps := 3000000 })
   exact ⟨rfl,rfl⟩
  apply vwp_cut
  ·simp (config := { maxSteps := 3000000 }) [c1]
   exact ⟨rfl,rfl⟩
  apply vwp_cut
  ·simp (config := { maxSteps := 3000000 }) [c2]
   exact ⟨rfl,rfl⟩
  apply vwp_cut
  ·simp (config := { maxSteps := 3000000 }) [c3]
   exact ⟨rfl,rfl⟩
  simp (config := { maxSteps := 3000000 }) [w1]
  refine ⟨by omega,?_⟩
  show IntKind.i64.wrap (IntKind.i64.wrap ((lenTab[n]?.getD 0).toNat:Int)) = _
  rw [e1]
  have e3:((bitsLen n).toUInt8.toNat:Int) = (bitsLen n:Int):=by
   rw [show (bitsLen n).toUInt8.toNat = bitsLen n % 256 from rfl,Nat.mod_eq_of_lt (by omega)]
  show IntKind.i64.wrap (IntKind.i64.wrap ((bitsLen n).toUInt8.toNat:Int)) = _
  have e4:IntKind.i64.wrap (bitsLen n:Int) = (bitsLen n:Int):=wrap_i64 (by omega)
  rw [e3,e4,e4]
 ·cases h
theorem c_Len:ConT Try.prog 114 GLen:=by
 intro ys φ r h hφ
 unfold GLen at h
 split at h
 ·rename_i x
  cases h
  refine con_of (tab_cons c_Len64 tab_nil) (by kernel_rfl) fn114 (by simp) ?_
  unfold body114
  simp (config := { maxSteps := 3000000 }) [hφ]
 ·cases h
theorem xor_u64 (a b:UInt64):sbit .xor .u64 (a.toNat:Int) (b.toNat:Int) = .int .u64 ((a ^^^ b).toNat:Int):=by
 have h1:(BitVec.ofInt 64 (a.toNat:Int)).toNat = a.toNat:=by rw [BitVec.ofInt_natCast,BitVec.toNat_ofNat,Nat.mod_eq_of_lt a.toNat_lt]
 have h2:(BitVec.ofInt 64 (b.toNat:Int)).toNat = b.toNat:=by rw [BitVec.ofInt_natCast,BitVec.toNat_ofNat,Nat.mod_eq_of_lt b.toNat_lt]
 unfold sbit
 have h4:(BitVec.ofInt IntKind.u64.bits (a.toNat:Int) ^^^ BitVec.ofInt IntKind.u64.bits (b.toNat:Int)).toNat = (a ^^^ b).toNat:=by
  show (BitVec.ofInt 64 (a.toNat:Int) ^^^ BitVec.ofInt 64 (b.toNat:Int)).toNat = _
  rw [BitVec.toNat_xor,h1,h2,UInt64.toNat_xor]
 simp only [h4]
 refine congrArg _ ?_
 exact wrap_u64 (by have:=(a ^^^ b).toNat_lt;omega)
theorem and_u64 (a b:UInt64):sbit .and .u64 (a.toNat:Int) (b.toNat:Int) = .int .u64 ((a.toNat &&& b.toNat:Nat):Int):=by
 have h1:(BitVec.ofInt 64 (a.toNat:Int)).toNat = a.toNat:=by rw [BitVec.ofInt_natCast,BitVec.toNat_ofNat,Nat.mod_eq_of_lt a.toNat_lt]
 have h2:(BitVec.ofInt 64 (b.toNat:Int)).toNat = b.toNat:=by rw [BitVec.ofInt_natCast,BitVec.toNat_ofNat,Nat.mod_eq_of_lt b.toNat_lt]
 unfold sbit
 have h4:(BitVec.ofInt IntKind.u64.bits (a.toNat:Int) &&& BitVec.ofInt IntKind.u64.bits (b.toNat:Int)).toNat = a.toNat &&& b.toNat:=by
  show (BitVec.ofInt 64 (a.toNat:Int) &&& BitVec.ofInt 64 (b.toNat:Int)).toNat = _
  rw [BitVec.toNat_and,h1,h2]
 simp only [h4]
 refine congrArg _ ?_
 exact wrap_u64 (by have:=(a &&& b).toNat_lt;rw [UInt64.toNat_and] at this;omega)
theorem wrap_u64_mod (n:Nat):IntKind.u64.wrap (n:Int) = ((n % 2 ^ 64:Nat):Int):=by
 simp only [IntKind.wrap,IntKind.bits,IntKind.signed]
 simp
theorem shl_u64 (a:UInt64) (k:UInt64) (h:k.toNat < 64):IntKind.u64.wrap ((a.toNat:Int) * 2 ^ k.toNat) = ((a <<< k).toNat:Int):=by
 rw [show (a.toNat:Int) * 2 ^ k.toNat = ((a.toNat * 2 ^ k.toNat:Nat):Int) by simp,wrap_u64_mod,UInt64.toNat_shiftLeft,Nat.mod_eq_of_lt h,Nat.shiftLeft_eq]
theorem shr_u64 (a:UInt64) (k:UInt64) (h:k.toNat < 64):(a.toNat:Int).fdiv (2 ^ k.toNat) = ((a >>> k).toNat:Int):=by
 rw [UInt64.toNat_shiftRight,Nat.mod_eq_of_lt h,Nat.shiftRight_eq_div_pow,show ((2:Int) ^ k.toNat) = ((2 ^ k.toNat:Nat):Int) by simp]
 rw [Int.natCast_ediv]
 exact Int.fdiv_eq_ediv_of_nonneg _ (Int.natCast_nonneg _)
noncomputable def Gxor:List AV→Option (Prop × AV)
 | [.tup [.bx [.pv (.int .u64 n)]]]=>some (0≤n∧n < 18446744073709551616,.clo 0 [.pv (.int .u64 ((xorNext (UInt64.ofNat n.toNat)).toNat:Int)),.bx [.pv (.int .u64 ((xorNext (UInt64.ofNat n.toNat)).toNat:Int))]])
 | _=>none
@[simp] theorem Gxor_eq (n:Int):Gxor [.tup [.bx [.pv (.int .u64 n)]]] = some (0≤n∧n < 18446744073709551616,.clo 0 [.pv (.int .u64 ((xorNext (UInt64.ofNat n.toNat)).toNat:Int)),.bx [.pv (.int .u64 ((xorNext (UInt64.ofNat n.toNat)).toNat:Int))]]):=rfl
theorem c_xor:ConTG Try.prog 183 Gxor:=by
 intro ys φ r h hφ
 unfold Gxor at h
 split at h
 ·rename_i x
  cases h
  obtain ⟨h1,h2⟩:=hφ
  obtain ⟨a,rfl⟩:∃ a:UInt64,x = a.toNat:=⟨UInt64.ofNat x.toNat,by rw [UInt64.toNat_ofNat'];omega⟩
  rw [Int.toNat_natCast,UInt64.ofNat_toNat]
  obtain ⟨b1,hb1⟩:∃ b1,b1 = a <<< 13:=⟨_,rfl⟩
  obtain ⟨c1,hc1⟩:∃ c1,c1 = a ^^^ b1:=⟨_,rfl⟩
  obtain ⟨b2,hb2⟩:∃ b2,b2 = c1 >>> 7:=⟨_,rfl⟩
  obtain ⟨c2,hc2⟩:∃ c2,c2 = c1 ^^^ b2:=⟨_,rfl⟩
  obtain ⟨b3,hb3⟩:∃ b3,b3 = c2 <<< 17:=⟨_,rfl⟩
  obtain ⟨c3,hc3⟩:∃ c3,c3 = c2 ^^^ b3:=⟨_,rfl⟩
  have s1:IntKind.u64.wrap ((a.toNat:Int) * 2 ^ min 13 IntKind.u64.bits) = (b1.toNat:Int):=by rw [hb1];exact shl_u64 a 13 (by decide)
  have s2:(c1.toNat:Int).fdiv (2 ^ min 7 IntKind.u64.bits) = (b2.toNat:Int):=by rw [hb2];exact shr_u64 c1 7 (by decide)
  have s3:IntKind.u64.wrap ((c2.toNat:Int) * 2 ^ min 17 IntKind.u64.bits) = (b3.toNat:Int):=by rw [hb3];exact shl_u64 c2 17 (by decide)
  have x1:=xor_u64 a b1
  have x2:=xor_u64 c1 b2
  have x3:=xor_u64 c2 b3
  rw [← hc1] at x1
  rw [← hc2] at x2
  rw [← hc3] at x3
  have hx:xorNext a = c3:=by rw [hc3,hb3,hc2,hb2,hc1,hb1];rfl
  rw [hx]
  refine con_ofG tab_nil (by kernel_rfl) fn183 (by simp) rfl (by simp) ?_
  unfold body183
  apply vwp_cut
  ·simp (config := { maxSteps := 3000000 })
   exact ⟨rfl,rfl⟩
  apply vwp_cut
  ·simp (config := { maxSteps := 3000000 }) [s1,x1]
   exact ⟨rfl,rfl⟩
  apply vwp_cut
  ·simp (config := { maxSteps := 3000000 }) [s2,x2]
   exact ⟨rfl,rfl⟩
  apply vwp_cut
  ·simp (config := { maxSteps := 3000000 }) [s3,x3]
   exact ⟨rfl,rfl⟩
  simp (config := { maxSteps := 3000000 })
 ·cases h
noncomputable def Gnp2:List AV→Option (Prop × AV)
 | [.pv (.int .i64 n)]=>some (0≤n∧n < 256,.pv (.int .u64 ((1 <<< bitsLen n.toNat:Nat):Int)))
 | _=>none
@[simp] theorem Gnp2_eq (n:Int):Gnp2 [.pv (.int .i64 n)] = some (0≤n∧n < 256,.pv (.int .u64 ((1 <<< bitsLen n.toNat:Nat):Int))):=rfl
theorem c_np2:ConT Try.prog 182 Gnp2:=by
 intro ys φ r h hφ
 unfold Gnp2 at h
 split at h
 ·rename_i x
  cases h
  obtain ⟨h1,h2⟩:=hφ
  obtain ⟨n,rfl⟩:∃ n:Nat,x = n:=⟨x.toNat,by omega⟩
  rw [Int.toNat_natCast]
  have e2:=(lenTab_at n (by omega)).2
  have w1:IntKind.u64.wrap (n:Int) = (n:Int):=wrap_u64 (by omega)
  have h3:n < 256:=by omega
  obtain ⟨m,hm⟩:∃ m,m = bitsLen n:=⟨_,rfl⟩
  rw [← hm] at e2 ⊢
  have hp : 1 <<< m = 2 ^ m:=by rw [Nat.shiftLeft_eq,Nat.one_mul]
  have hle : 2 ^ m≤2 ^ 8:=Nat.pow_le_pow_right (by omega) e2
  have w2:IntKind.u64.wrap (2 ^ min m IntKind.u64.bits) = ((1 <<< m:Nat):Int):=by
   rw [show min m IntKind.u64.bits = m from Nat.min_eq_left (by show m≤64;omega),hp,show ((2:Int) ^ m) = ((2 ^ m:Nat):Int) by simp]
   exact wrap_u64 ⟨Int.natCast_nonneg _,Int.le_trans (Int.ofNat_le.2 hle) (by decide)⟩
  generalize 1 <<< m = M at *
  refine con_of (tab_cons c_Len tab_nil) (by kernel_rfl) fn182 (by simp) ?_
  unfold body182
  simp (config := { maxSteps := 3000000 }) [w1,h3,← hm,w2]
  exact h2
 ·cases h
theorem brk_size (a n m:Nat) (st:UInt64 × Array Int) (idx:Nat):(breakStep a n m st idx).2.size = st.2.size:=by
 unfold breakStep
 exact size_swp _ _ _
noncomputable def GinpS (F:Array Int→Nat→Nat→Array Int):List AV→Option (Prop × AV)
 | [.tup [.fr e a],.pv (.int .i64 p),.pv (.int .i64 q)]=>if e = 81 then (dec rowN a).map fun l=>(0≤p∧p≤q∧q≤(l.length:Int)∧l.length≤200,.clo 0 [.tup [],.fr 81 (rA (F l.toArray p.toNat q.toNat))]) else none
 | _=>none
@[simp] theorem GinpS_eq (F:Array Int→Nat→Nat→Array Int) (e:TypeId) (d:Array Int) (p q:Int):GinpS F [.tup [.fr e (rA d)],.pv (.int .i64 p),.pv (.int .i64 q)] = if e = 81 then some (0≤p∧p≤q∧q≤(d.size:Int)∧d.size≤200,.clo 0 [.tup [],.fr 81 (rA (F d p.toNat q.toNat))]) else none:=by
 show (if e = 81 then (dec rowN (rA d)).map _ else none) = _
 rw [dec_rA]
 simp
theorem GinpS_inv {F:Array Int→Nat→Nat→Array Int} {ys:List AV} {φ:Prop} {r:AV} (h:GinpS F ys = some (φ,r)):∃ (d:Array Int) (p q:Int),ys = [.tup [.fr 81 (rA d)],.pv (.int .i64 p),.pv (.int .i64 q)]∧φ = (0≤p∧p≤q∧q≤(d.size:Int)∧d.size≤200)∧r = .clo 0 [.tup [],.fr 81 (rA (F d p.toNat q.toNat))]:=by
 unfold GinpS at h
 split at h
 ·split at h
  ·rename_i e
   subst e
   obtain ⟨l,hl,h⟩:=Option.map_eq_some_iff.1 h
   cases h
   cases dec_rowsN_inv hl
   exact ⟨l.toArray,_,_,by rw [rA_of],by simp,rfl⟩
  ·cases h
 ·cases h
theorem c_brk:ConTG Try.prog 173 (GinpS breakPatterns):=by
 intro ys φ r h hφ
 obtain ⟨d,p,q,rfl,rfl,rfl⟩:=GinpS_inv h
 obtain ⟨h1,h2,h3,h4⟩:=hφ
 obtain ⟨a,rfl⟩:∃ a:Nat,p = a:=⟨p.toNat,by omega⟩
 obtain ⟨b,rfl⟩:∃ b:Nat,q = b:=⟨q.toNat,by omega⟩
 rw [Int.toNat_natCast,Int.toNat_natCast]
 obtain ⟨n,hn⟩:∃ n,n = b - a:=⟨_,rfl⟩
 have w0:IntKind.i64.wrap ((b:Int) - (a:Int)) = (n:Int):=by rw [wrap_i64 (by omega)];omega
 refine con_ofG (tab_cons c_np2 (tab_consG (ks:=[2]) c_xor (by kernel_rfl) tab_nil)) (by kernel_rfl) fn173 (by simp) rfl (by simp) ?_
 unfold body173
 generalize hW:breakPatterns d a b = W
 unfold breakPatterns at hW
 rw [← hn] at hW
 apply vwp_cut
 ·simp (config := { maxSteps := 3000000 }) [w0]
  exact ⟨rfl,rfl⟩
 by_cases h8:n≥8
 ·have c8:(8:Int)≤(n:Int):=by omega
  simp only [if_pos h8] at hW
  obtain ⟨f,hf⟩:∃ f,f = n / 4:=⟨_,rfl⟩
  obtain ⟨ix,hix⟩:∃ ix,ix = a + f * 2 - 1:=⟨_,rfl⟩
  obtain ⟨M,hM⟩:∃ M,M = 1 <<< bitsLen n:=⟨_,rfl⟩
  rw [← hf,← hix,← hM] at hW
  have h2b:=(lenTab_at n (by omega)).2
  have hMp : 1≤M∧M≤256:=by
   have hp:M = 2 ^ bitsLen n:=by rw [hM,Nat.shiftLeft_eq,Nat.one_mul]
   have hle : 2 ^ bitsLen n≤2 ^ 8:=Nat.pow_le_pow_right (by omega) h2b
   have : 0 < 2 ^ bitsLen n:=Nat.pow_pos (by omega)
   omega
  have v1:(n:Int).tdiv 4 = (f:Int):=by rw [Int.tdiv_eq_ediv_of_nonneg (by omega)];omega
  have v2:IntKind.i64.wrap (f:Int) = (f:Int):=wrap_i64 (by omega)
  have v3:IntKind.i64.wrap ((f:Int) * 2) = (f:Int) * 2:=wrap_i64 (by omega)
  obtain ⟨y,hy⟩:∃ y,y = a + f * 2:=⟨_,rfl⟩
  have v4:IntKind.i64.wrap ((a:Int) + (f:Int) * 2) = (y:Int):=by rw [wrap_i64 (by omega)];omega
  have v5:IntKind.i64.wrap ((y:Int) - 1) = (ix:Int):=by rw [wrap_i64 (by omega)];omega
  have v6:IntKind.i64.wrap ((y:Int) + 1) = (y:Int) + 1:=wrap_i64 (by omega)
  have v7:IntKind.u64.wrap (n:Int) = (n:Int):=wrap_u64 (by omega)
  have v8:(n:Int) < 256:=by omega
  obtain ⟨r0,hr0⟩:∃ r0,r0 = UInt64.ofNat n:=⟨_,rfl⟩
  have hr1:(r0.toNat:Int) = (n:Int):=by rw [hr0,UInt64.toNat_ofNat',Nat.mod_eq_of_lt (by omega)]
  rw [← hr0] at hW
  obtain ⟨st,hst⟩:∃ st:Nat→UInt64 × Array Int,(st 0 = (r0,d))∧∀ t,st (t + 1) = breakStep a n M (st t) (ix + t):=⟨Nat.rec (r0,d) fun t s=>breakStep a n M s (ix + t),rfl,fun _=>rfl⟩
  have hW3:(st 3).2 = W:=by
   rw [hst.2 2,hst.2 1,hst.2 0,hst.1]
   exact hW
  have hsz:∀ t,(st t).2.size = d.size:=by
   intro t
   induction t with
   | zero=>rw [hst.1]
   | succ t ih=>rw [hst.2,brk_size,ih]
  apply vwp_cut
  ·simp (config := { maxSteps := 3000000 }) [c8]
   exact ⟨rfl,rfl⟩
  apply vwp_cT rfl
  apply vwp_cut
  ·simp (config := { maxSteps := 3000000 }) [v7]
   exact ⟨rfl,rfl⟩
  apply vwp_cut
  ·simp (config := { maxSteps := 3000000 }) [v8,← hM]
   exact ⟨rfl,rfl⟩
  apply vwp_cut
  ·simp (config := { maxSteps := 3000000 }) [v1,v2,v3,v4,v5]
   exact ⟨rfl,rfl⟩
  rw [vwp_block]
  refine vwp_loop (fun t:Nat=>t≤3) (fun t=>⟨[(0,.own 999),(1,.pv (.int .i64 (a:Int))),(6,.pv (.int .i64 (n:Int))),(7,.ptr 7 0),(8,.pv (.int .u64 (M:Int))),(9,.pv (.int .i64 ((ix:Int) + (t:Int))))],[(999,.arr 81 (rA (st t).2)),(7,.box [.pv (.int .u64 ((st t).1.toNat:Int))])]⟩) (fun t=>3 - t) [] 0 (by omega) ?_ ?_
  ·simp [hst.1,hr1]
  ·intro t ht
   have hD:=hsz t
   have hs:=hst.2 t
   have hM2:M≤2 * n:=by rw [hM];exact pow_le2 n (by omega) (by omega)
   rcases hq:st t with ⟨r,D⟩
   rw [hq] at hD hs
   have hD:D.size = d.size:=hD
   rw [Fr_st]
   dsimp only
   by_cases ht3:t < 3
   ·obtain ⟨i,hi⟩:∃ i,i = ix + t:=⟨_,rfl⟩
    obtain ⟨r',hr'⟩:∃ r',r' = xorNext r:=⟨_,rfl⟩
    obtain ⟨o,ho⟩:∃ o,o = r'.toNat &&& (M - 1):=⟨_,rfl⟩
    obtain ⟨o2,ho2⟩:∃ o2,o2 = if o≥n then o - n else o:=⟨_,rfl⟩
    have hs:st (t + 1) = (r',swp D i (a + o2)):=by
     rw [hs,ho2,ho,hr',hi];rfl
    have ole:o≤M - 1:=by rw [ho];exact Nat.and_le_right
    have o2lt:o2 < n:=by rw [ho2];split<;>omega
    obtain ⟨c,hc⟩:∃ c,c = a + o2:=⟨_,rfl⟩
    rw [← hc] at hs
    have z1:(ix:Int) + (t:Int) = (i:Int):=by omega
    have z2:(i:Int)≤(y:Int) + 1:=by omega
    have z3:(r.toNat:Int) < 18446744073709551616:=by have:=r.toNat_lt;omega
    have z4:IntKind.u64.wrap ((M:Int) - 1) = (M:Int) - 1:=wrap_u64 (by omega)
    have z5:sbit .and .u64 (r'.toNat:Int) ((M:Int) - 1) = .int .u64 (o:Int):=by
     have:=and_u64 r' (UInt64.ofNat (M - 1))
     rw [UInt64.toNat_ofNat',Nat.mod_eq_of_lt (by omega:M - 1 < 2 ^ 64)] at this
     rw [show (M:Int) - 1 = ((M - 1:Nat):Int) by omega,this,ho]
    have z6:IntKind.i64.wrap (o:Int) = (o:Int):=wrap_i64 (by omega)
    have z7:IntKind.i64.wrap ((i:Int) + 1) = (i:Int) + 1:=wrap_i64 (by omega)
    have z8:IntKind.i64.wrap ((a:Int) + (o2:Int)) = (c:Int):=by rw [wrap_i64 (by omega)];omega
    have q1:i < D.size:=by omega
    have q2:c < D.size:=by omega
    have r1:=rA_at q1
    have r2:=rA_at q2
    have r3:=rA_at (d:=D.setIfInBounds i (gA D c)) (i:=c) (by rw [Array.size_setIfInBounds];omega)
    apply vwp_cut
    ·simp (config := { maxSteps := 3000000 }) [v1,v2,v3,v4,v6,z1,z2]
     exact ⟨rfl,rfl⟩
    rw [vwp_seq]
    rw [vwp_block]
    apply vwp_cut
    ·simp (config := { maxSteps := 3000000 }) [z3,← hr',z4,z5,z6,z1]
     exact ⟨rfl,rfl⟩
    by_cases hon:o≥n
    ·rw [if_pos hon] at ho2
     have k1:(n:Int)≤(o:Int):=by omega
     have k2:IntKind.i64.wrap ((o:Int) - (n:Int)) = (o2:Int):=by rw [wrap_i64 (by omega)];omega
     apply vwp_cut
     ·simp (config := { maxSteps := 3000000 }) [k1,k2]
      exact ⟨rfl,rfl⟩
     simp (config := { maxSteps := 3000000 }) [z8,z7,q1,q2,r1,r2,r3]
     exact ⟨t + 1,by omega,⟨by omega,by rw [hs];rfl,by rw [hs]⟩,by omega⟩
    ·rw [if_neg hon] at ho2
     subst ho2
     have k1:¬ (n:Int)≤(o2:Int):=by omega
     apply vwp_cut
     ·simp (config := { maxSteps := 3000000 }) [k1]
      exact ⟨rfl,rfl⟩
     simp (config := { maxSteps := 3000000 }) [z8,z7,q1,q2,r1,r2,r3]
     exact ⟨t + 1,by omega,⟨by omega,by rw [hs];rfl,by rw [hs]⟩,by omega⟩
   ·have:t = 3:=by omega
    subst this
    have z1:¬ (ix:Int) + 3≤(y:Int) + 1:=by omega
    rw [hq] at hW3
    have hW3:D = W:=hW3
    subst hW3
    simp (config := { maxSteps := 3000000 }) [v1,v2,v3,v4,v6,z1]
 ·have c8:¬ (8:Int)≤(n:Int):=by omega
  simp only [if_neg h8] at hW
  subst hW
  simp (config := { maxSteps := 3000000 }) [c8]
noncomputable def Gpeq:List AV→Option (Prop × AV)
 | [.tup [.fr e a],.pv (.int .i64 p),.pv (.int .i64 q),.pv (.int .i64 v)]=>if e = 81 then (dec rowN a).map fun l=>((0≤p∧p≤v)∧v < q∧q≤(l.length:Int)∧l.length≤1000000,.clo 0 [.pv (.int .i64 ((partitionEqual ltInt l.toArray p.toNat q.toNat v.toNat).1:Int)),.fr 81 (rA (partitionEqual ltInt l.toArray p.toNat q.toNat v.toNat).2)]) else none
 | _=>none
@[simp] theorem Gpeq_eq (e:TypeId) (d:Array Int) (p q v:Int):Gpeq [.tup [.fr e (rA d)],.pv (.int .i64 p),.pv (.int .i64 q),.pv (.int .i64 v)] = if e = 81 then some ((0≤p∧p≤v)∧v < q∧q≤(d.size:Int)∧d.size≤1000000,.clo 0 [.pv (.int .i64 ((partitionEqual ltInt d p.toNat q.toNat v.toNat).1:Int)),.fr 81 (rA (partitionEqual ltInt d p.toNat q.toNat v.toNat).2)]) else none:=by
 show (if e = 81 then (dec rowN (rA d)).map _ else none) = _
 rw [dec_rA]
 simp
theorem c_peq:ConTG Try.prog 178 Gpeq:=by
 intro ys φ r h hφ
 unfold Gpeq at h
 split at h
 ·rename_i e ra p q v
  split at h
  ·rename_i he
   subst he
   obtain ⟨l,hl,h⟩:=Option.map_eq_some_iff.1 h
   cases h
   obtain ⟨d,rfl,rfl⟩:=rA_all hl
   obtain ⟨⟨h1,h2⟩,h3,h4,h5⟩:=hφ
   rw [Array.length_toList] at h4 h5
   obtain ⟨a,rfl⟩:∃ a:Nat,p = a:=⟨p.toNat,by omega⟩
   obtain ⟨b,rfl⟩:∃ a:Nat,q = a:=⟨q.toNat,by omega⟩
   obtain ⟨c,rfl⟩:∃ a:Nat,v = a:=⟨v.toNat,by omega⟩
   rw [Int.toNat_natCast,Int.toNat_natCast,Int.toNat_natCast,Array.toArray_toList]
   refine con_ofG (tab_cons c_less tab_nil) (by kernel_rfl) fn178 (by simp) rfl (by simp) ?_
   unfold body178
   unfold partitionEqual
   generalize hW:partEqLoop ltInt a (a + 1) (b - 1) (swp d a c) = W
   have q1:a < d.size:=by omega
   have q2:c < d.size:=by omega
   have r1:=rA_at q1
   have r2:=rA_at q2
   have r3:=rA_at (d:=d.setIfInBounds a (gA d c)) (i:=c) (by rw [Array.size_setIfInBounds];omega)
   obtain ⟨i0,hi0⟩:∃ i0,i0 = a + 1:=⟨_,rfl⟩
   obtain ⟨j0,hj0⟩:∃ j0,j0 = b - 1:=⟨_,rfl⟩
   have w1:IntKind.i64.wrap ((a:Int) + 1) = (i0:Int):=by rw [wrap_i64 (by omega)];omega
   have w2:IntKind.i64.wrap ((b:Int) - 1) = (j0:Int):=by rw [wrap_i64 (by omega)];omega
   rw [← hi0,← hj0] at hW
   apply vwp_cut
   ·simp (config := { maxSteps := 3000000 })
    exact ⟨rfl,rfl⟩
   apply vwp_cut
   ·simp (config := { maxSteps := 3000000 }) [q1,q2,r1,r2,r3]
    exact ⟨rfl,rfl⟩
   rw [show (d.setIfInBounds a (gA d c)).setIfInBounds c (gA d a) = swp d a c from rfl]
   apply vwp_cut
   ·simp (config := { maxSteps := 3000000 }) [w1,w2]
    exact ⟨rfl,rfl⟩
   rw [vwp_seq]
   ·rw [vwp_block]
    refine vwp_loop (fun x:(Nat × Nat) × Array Int=>(a < x.1.1∧x.1.1≤x.1.2 + 1)∧x.1.2 < b∧x.2.size = d.size∧partEqLoop ltInt a x.1.1 x.1.2 x.2 = W) (fun x=>⟨[(0,.own 999),(1,.pv (.int .i64 (a:Int))),(9,.pv (.int .i64 (x.1.1:Int))),(10,.pv (.int .i64 (x.1.2:Int)))],[(999,.arr 81 (rA x.2))]⟩) (fun x=>x.1.2) [] ((i0,j0),swp d a c) ⟨⟨by show a < i0;omega,by show i0≤j0 + 1;omega⟩,by show j0 < b;omega,size_swp _ _ _,hW⟩ ?_ ?_
    ·simp
    ·rintro ⟨⟨i,j⟩,D⟩ ⟨⟨g1,g2⟩,g3,g4,g5⟩
     have g1:a < i:=g1
     have g2:i≤j + 1:=g2
     have g3:j < b:=g3
     have g4:D.size = d.size:=g4
     have g5:partEqLoop ltInt a i j D = W:=g5
     have qa:a < D.size:=by omega
     have ra:=rA_at qa
     obtain ⟨pU,hpU⟩:∃ pU:Int→Bool,pU = fun x=>!ltInt D[a]! x:=⟨_,rfl⟩
     obtain ⟨pD,hpD⟩:∃ pD:Int→Bool,pD = fun x=>ltInt D[a]! x:=⟨_,rfl⟩
     obtain ⟨i2,hi2⟩:∃ i2,i2 = scanUp pU D j i:=⟨_,rfl⟩
     obtain ⟨j2,hj2⟩:∃ j2,j2 = scanDown pD D i2 j:=⟨_,rfl⟩
     have u1:=scanUp_spec pU D j _ i rfl
     rw [← hi2] at u1
     have u2:=scanDown_spec pD D i2 j
     rw [← hj2] at u2
     have u3:i≤i2∧i2≤j + 1:=⟨u1.1,u1.2.1 g2⟩
     have u4:j2≤j∧i2≤j2 + 1:=⟨u2.1,u2.2.1 u3.2⟩
     rw [Fr_st]
     dsimp only
     rw [vwp_block]
     apply vwp_cut
     ·rw [vwp_block]
      refine vwp_loop (fun s:Nat=>i≤s∧s≤j + 1∧scanUp pU D j s = i2) (fun s=>⟨[(0,.own 999),(1,.pv (.int .i64 (a:Int))),(9,.pv (.int .i64 (s:Int))),(10,.pv (.int .i64 (j:Int)))],[(999,.arr 81 (rA D))]⟩) (fun s=>j + 1 - s) [] i (by refine ⟨?_,?_,?_⟩<;>first | omega | exact hi2.symm) ?_ ?_
      ·simp
      ·rintro s ⟨l1,l2,l3⟩
       by_cases hc:s≤j
       ·have ws:IntKind.i64.wrap ((s:Int) + 1) = ((s + 1:Nat):Int):=by rw [wrap_i64 (by omega)];omega
        have c1:(s:Int)≤(j:Int):=by omega
        have q1:s < D.size:=by omega
        have r1:=rA_at q1
        cases hb:(!ltInt (gA D a) (gA D s)) with
        | true=>
         have e:=scanUp_go pU D j s hc (by rw [hpU];exact hb)
         rw [e] at l3
         obtain ⟨s',hs'⟩:∃ s',s' = s + 1:=⟨_,rfl⟩
         rw [← hs'] at ws l3
         simp (config := { maxSteps := 3000000 }) [c1,q1,qa,r1,ra,hb,ws]
         exact ⟨s',⟨by omega,by omega,l3⟩,rfl,by omega⟩
        | false=>
         have e:=scanUp_end pU D j s (.inr (by rw [hpU];exact hb))
         rw [e] at l3
         subst l3
         simp (config := { maxSteps := 3000000 }) [c1,q1,qa,r1,ra,hb]
         try exact ⟨rfl,rfl⟩
       ·have c1:¬ (s:Int)≤(j:Int):=by omega
        have e:=scanUp_end pU D j s (.inl hc)
        rw [e] at l3
        subst l3
        rcases Nat.lt_or_ge s D.size with q1 | q1
        ·have r1:=rA_at q1
         simp (config := { maxSteps := 3000000 }) [c1,q1,qa,r1,ra]
         try exact ⟨rfl,rfl⟩
        ·have r1:=rA_out q1
         simp (config := { maxSteps := 3000000 }) [c1,qa,r1,ra]
         try exact ⟨rfl,rfl⟩
     apply vwp_cut
     ·rw [vwp_block]
      refine vwp_loop (fun s:Nat=>i2≤s + 1∧s≤j∧scanDown pD D i2 s = j2) (fun s=>⟨[(0,.own 999),(1,.pv (.int .i64 (a:Int))),(9,.pv (.int .i64 (i2:Int))),(10,.pv (.int .i64 (s:Int)))],[(999,.arr 81 (rA D))]⟩) (fun s=>s) [] j (by refine ⟨?_,?_,?_⟩<;>first | omega | exact hj2.symm) ?_ ?_
      ·simp
      ·rintro s ⟨l1,l2,l3⟩
       by_cases hc:i2≤s
       ·have ws:IntKind.i64.wrap ((s:Int) - 1) = ((s - 1:Nat):Int):=by rw [wrap_i64 (by omega)];omega
        have c1:(i2:Int)≤(s:Int):=by omega
        have q1:s < D.size:=by omega
        have r1:=rA_at q1
        cases hb:ltInt (gA D a) (gA D s) with
        | true=>
         have e:=scanDown_go pD D i2 s hc (by omega) (by rw [hpD];exact hb)
         rw [e] at l3
         obtain ⟨s',hs'⟩:∃ s',s' = s - 1:=⟨_,rfl⟩
         rw [← hs'] at ws l3
         simp (config := { maxSteps := 3000000 }) [c1,q1,qa,r1,ra,hb,ws]
         exact ⟨s',⟨by omega,by omega,l3⟩,rfl,by omega⟩
        | false=>
         have e:=scanDown_end pD D i2 s (.inr (by rw [hpD];exact hb))
         rw [e] at l3
         subst l3
         simp (config := { maxSteps := 3000000 }) [c1,q1,qa,r1,ra,hb]
         try exact ⟨rfl,rfl⟩
       ·have c1:¬ (i2:Int)≤(s:Int):=by omega
        have e:=scanDown_end pD D i2 s (.inl hc)
        rw [e] at l3
        subst l3
        rcases Nat.lt_or_ge s D.size with q1 | q1
        ·have r1:=rA_at q1
         simp (config := { maxSteps := 3000000 }) [c1,q1,qa,r1,ra]
         try exact ⟨rfl,rfl⟩
        ·have r1:=rA_out q1
         simp (config := { maxSteps := 3000000 }) [c1,qa,r1,ra]
         try exact ⟨rfl,rfl⟩
     by_cases hgt:i2 > j2
     ·have k1:(j2:Int) < (i2:Int):=by omega
      have e:=partEq_break ltInt a i j D (by rw [hi2,hpU]) (by rw [hj2,hpD]) hgt
      rw [e] at g5
      have e1:(i2:Int) = (W.1:Int):=by rw [← g5]
      have e2:rA D = rA W.2:=by rw [← g5]
      simp (config := { maxSteps := 3000000 }) [k1]
      exact ⟨e1,e2⟩
     ·have k1:¬ (j2:Int) < (i2:Int):=by omega
      have e:=partEq_go ltInt a i j D (by rw [hi2,hpU]) (by rw [hj2,hpD]) hgt
      rw [e] at g5
      have lt2:=scans_lt ltInt a i j D (by omega) (i2:=i2) (j2:=j2) (by rw [hi2,hpU]) (by rw [hj2,hpD]) (by omega)
      have z1:i2 < D.size:=by omega
      have z2:j2 < D.size:=by omega
      have r1:=rA_at z1
      have r2:=rA_at z2
      have r3:=rA_at (d:=D.setIfInBounds i2 (gA D j2)) (i:=j2) (by rw [Array.size_setIfInBounds];omega)
      have v1:IntKind.i64.wrap ((i2:Int) + 1) = (i2:Int) + 1:=wrap_i64 (by omega)
      obtain ⟨j3,hj3⟩:∃ j3,j3 = j2 - 1:=⟨_,rfl⟩
      have v2:IntKind.i64.wrap ((j2:Int) - 1) = (j3:Int):=by rw [wrap_i64 (by omega)];omega
      rw [← hj3] at g5
      apply vwp_cut
      ·simp (config := { maxSteps := 3000000 }) [k1]
       exact ⟨rfl,rfl⟩
      apply vwp_cut
      ·simp (config := { maxSteps := 3000000 }) [z1,z2,r1,r2,r3]
       exact ⟨rfl,rfl⟩
      simp (config := { maxSteps := 3000000 }) [v1,v2]
      exact ⟨i2 + 1,j3,swp D i2 j2,⟨⟨by omega,by omega⟩,by omega,by rw [size_swp,g4],g5⟩,⟨⟨by omega,rfl⟩,rfl⟩,by omega⟩
  ·cases h
 ·cases h
end Go.Proofs.Ythblkhafehanfaa.Ab
