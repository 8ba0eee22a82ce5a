import Derived.Test.YtfpmjcdcpicmaaaAb22
import Derived.Test.YtfpmjcdcpicmaaaAb23
import Derived.Test.YtfpmjcdcpicmaaaCodeW
import Derived.Test.YtfpmjcdcpicmaaaAb24
namespace Go.Proofs.Ytfpmjcdcpicmaaa.Ab
open Go Go.RowKit R
set_option linter.unusedVariables false
set_option maxRecDepth 100000
set_option linter.unusedSimpArgs false
def S1 (n : Nat) : Nat := n / 2 ^^^ (if n % 2 = 1 then 2197175160 else 0)
def S8 (n : Nat) : Nat := S1 (S1 (S1 (S1 (S1 (S1 (S1 (S1 n)))))))
def itS : Nat → Nat → Nat
 | 0, n => n
 | k + 1, n => S1 (itS k n)
theorem itS_8 (n : Nat) : itS 8 n = S8 n := rfl
theorem xor_div2 (a b : Nat) : (a ^^^ b) / 2 = a / 2 ^^^ b / 2 := by
 apply Nat.eq_of_testBit_eq
 intro i
 simp [Nat.testBit_div_two, Nat.testBit_xor]
theorem xor_mod2 (a b : Nat) : (a ^^^ b) % 2 = (a % 2 + b % 2) % 2 := by
 rcases Nat.mod_two_eq_zero_or_one a with ha | ha <;> rcases Nat.mod_two_eq_zero_or_one b with hb | hb <;>
   (have h := Nat.testBit_xor (x := a) (y := b) (i := 0)
    simp only [Nat.testBit_zero, ha, hb] at h
    rcases Nat.mod_two_eq_zero_or_one (a ^^^ b) with hc | hc <;> simp_all)
theorem S1_xor (a b : Nat) : S1 (a ^^^ b) = S1 a ^^^ S1 b := by
 unfold S1
 rw [xor_div2, xor_mod2]
 rcases Nat.mod_two_eq_zero_or_one a with ha | ha <;> rcases Nat.mod_two_eq_zero_or_one b with hb | hb <;> simp only [ha, hb]
 · simp
 · simp [Nat.xor_assoc]
 · simp only [Nat.reduceAdd, Nat.reduceMod, if_true, if_false, Nat.zero_ne_one, Nat.xor_zero]
   rw [Nat.xor_assoc, Nat.xor_assoc, Nat.xor_comm 2197175160]
 · simp only [Nat.reduceAdd, Nat.reduceMod, if_true, if_false, Nat.zero_ne_one, Nat.xor_zero]
   rw [Nat.xor_assoc, Nat.xor_comm 2197175160, Nat.xor_assoc, Nat.xor_self, Nat.xor_zero]
theorem S8_xor (a b : Nat) : S8 (a ^^^ b) = S8 a ^^^ S8 b := by
 unfold S8; simp only [S1_xor]
theorem S1_two (m : Nat) : S1 (2 * m) = m := by
 unfold S1; simp
theorem S8_256 (m : Nat) : S8 (256 * m) = m := by
 have : 256 * m = 2 * (2 * (2 * (2 * (2 * (2 * (2 * (2 * m))))))) := by omega
 unfold S8; rw [this]; simp only [S1_two]
theorem S1_lt {n : Nat} (h : n < 4294967296) : S1 n < 4294967296 := by
 unfold S1
 apply Nat.xor_lt_two_pow (n := 32) (by omega)
 split <;> decide
theorem S8_lt {n : Nat} (h : n < 4294967296) : S8 n < 4294967296 := by
 unfold S8; exact S1_lt (S1_lt (S1_lt (S1_lt (S1_lt (S1_lt (S1_lt (S1_lt h)))))))
theorem itS_lt {n : Nat} (h : n < 4294967296) : ∀ k, itS k n < 4294967296
 | 0 => h
 | k + 1 => S1_lt (itS_lt h k)
theorem split8 (n : Nat) : n = (n % 256) ^^^ (256 * (n / 256)) := by
 apply Nat.eq_of_testBit_eq
 intro i
 rw [Nat.testBit_xor, show (256 : Nat) = 2 ^ 8 from rfl, Nat.testBit_mod_two_pow, Nat.testBit_two_pow_mul, Nat.testBit_div_two_pow]
 by_cases h : i < 8
 · simp [h, show ¬ 8 ≤ i from by omega]
 · simp [h, show 8 ≤ i from by omega, show i - 8 + 8 = i from by omega]
theorem xor_mod256 (a b : Nat) : (a ^^^ b) % 256 = a % 256 ^^^ b % 256 := by
 rw [show (256 : Nat) = 2 ^ 8 from rfl, Nat.xor_mod_two_pow]
theorem xor_div256 (a b : Nat) : (a ^^^ b) / 256 = a / 256 ^^^ b / 256 := by
 rw [show (256 : Nat) = 2 ^ 8 from rfl, Nat.xor_div_two_pow]
def byS (c x : Nat) : Nat := S8 (c % 256 ^^^ x) ^^^ c / 256
theorem byS_eq {c x : Nat} (h : x < 256) : byS c x = S8 (c ^^^ x) := by
 have e := split8 (c ^^^ x)
 rw [e, S8_xor, S8_256, xor_mod256, xor_div256, Nat.mod_eq_of_lt h, Nat.div_eq_of_lt h, Nat.xor_zero]
 rfl
theorem byS_lt {c x : Nat} (hc : c < 4294967296) (h : x < 256) : byS c x < 4294967296 := by
 rw [byS_eq h]
 exact S8_lt (Nat.xor_lt_two_pow (n := 32) (by omega) (by omega))
def dgS (c x : Nat) : Nat → Nat
 | 0 => c
 | k + 1 => S1 (dgS c x k ^^^ (x / 2 ^ k) % 2)
theorem dgS_lt {c x : Nat} (hc : c < 4294967296) : ∀ k, dgS c x k < 4294967296
 | 0 => hc
 | k + 1 => S1_lt (Nat.xor_lt_two_pow (n := 32) (dgS_lt hc k) (by omega))
theorem dgS_xor (c x : Nat) : ∀ k, dgS c x k = itS k c ^^^ dgS 0 x k
 | 0 => by simp [dgS, itS]
 | k + 1 => by
   simp only [dgS, itS]
   rw [dgS_xor c x k, Nat.xor_assoc, S1_xor]
theorem dgS_zero : ∀ x, x < 256 → dgS 0 x 8 = S8 x := by decide
theorem dgS_eq {c x : Nat} (h : x < 256) : dgS c x 8 = byS c x := by
 rw [dgS_xor, itS_8, dgS_zero x h, ← S8_xor, byS_eq h]
def updF (c : Nat) (l : List UInt8) : Nat := l.foldl (fun c x => byS c x.toNat) c
theorem updF_snoc (c : Nat) (l : List UInt8) (x : UInt8) : updF c (l ++ [x]) = byS (updF c l) x.toNat := by simp [updF]
theorem updF_lt {c : Nat} (h : c < 4294967296) : ∀ l : List UInt8, updF c l < 4294967296 := by
 intro l
 induction l generalizing c with
 | nil => exact h
 | cons x l ih => exact ih (byS_lt h (by have := x.toNat_lt; omega))
def updN (c : Nat) (l : List UInt8) : Nat := updF (c ^^^ 4294967295) l ^^^ 4294967295
theorem updN_lt {c : Nat} (h : c < 4294967296) (l : List UInt8) : updN c l < 4294967296 :=
 Nat.xor_lt_two_pow (n := 32) (updF_lt (Nat.xor_lt_two_pow (n := 32) h (by omega)) l) (by omega)
def sumN (l : List UInt8) : Nat := updN 0 l
theorem wrap_u32 {n : Int} (h : 0 ≤ n) (h' : n < 4294967296) : IntKind.u32.wrap n = n := by
 simp only [IntKind.wrap, IntKind.bits, IntKind.signed]
 simp
 omega
theorem ofInt_nat (w a : Nat) (h : a < 2 ^ w) : (BitVec.ofInt w (a : Int)).toNat = a := by
 rw [BitVec.ofInt_natCast, BitVec.toNat_ofNat, Nat.mod_eq_of_lt h]
theorem xor_u32 {a b : Nat} (ha : a < 4294967296) (hb : b < 4294967296) : sbit .xor .u32 (a : Int) (b : Int) = .int .u32 ((a ^^^ b : Nat) : Int) := by
 have hx : a ^^^ b < 4294967296 := Nat.xor_lt_two_pow (n := 32) ha hb
 have h4 : (BitVec.ofInt IntKind.u32.bits (a : Int) ^^^ BitVec.ofInt IntKind.u32.bits (b : Int)).toNat = a ^^^ b := by
   show (BitVec.ofInt 32 (a : Int) ^^^ BitVec.ofInt 32 (b : Int)).toNat = _
   rw [BitVec.toNat_xor, ofInt_nat 32 a ha, ofInt_nat 32 b hb]
 unfold sbit
 simp only [h4]
 exact congrArg _ (wrap_u32 (by omega) (by omega))
theorem and_u32 {a b : Nat} (ha : a < 4294967296) (hb : b < 4294967296) : sbit .and .u32 (a : Int) (b : Int) = .int .u32 ((a &&& b : Nat) : Int) := by
 have hx : a &&& b < 4294967296 := Nat.lt_of_le_of_lt Nat.and_le_left ha
 have h4 : (BitVec.ofInt IntKind.u32.bits (a : Int) &&& BitVec.ofInt IntKind.u32.bits (b : Int)).toNat = a &&& b := by
   show (BitVec.ofInt 32 (a : Int) &&& BitVec.ofInt 32 (b : Int)).toNat = _
   rw [BitVec.toNat_and, ofInt_nat 32 a ha, ofInt_nat 32 b hb]
 unfold sbit
 simp only [h4]
 exact congrArg _ (wrap_u32 (by omega) (by omega))
theorem xor_u8 {a b : Nat} (ha : a < 256) (hb : b < 256) : sbit .xor .u8 (a : Int) (b : Int) = .int .u8 ((a ^^^ b : Nat) : Int) := by
 have hx : a ^^^ b < 256 := Nat.xor_lt_two_pow (n := 8) ha hb
 have h4 : (BitVec.ofInt IntKind.u8.bits (a : Int) ^^^ BitVec.ofInt IntKind.u8.bits (b : Int)).toNat = a ^^^ b := by
   show (BitVec.ofInt 8 (a : Int) ^^^ BitVec.ofInt 8 (b : Int)).toNat = _
   rw [BitVec.toNat_xor, ofInt_nat 8 a ha, ofInt_nat 8 b hb]
 unfold sbit
 simp only [h4]
 exact congrArg _ ((wrap_u8 _).trans (by omega))
end Go.Proofs.Ytfpmjcdcpicmaaa.Ab
namespace Go.Proofs.Ytfpmjcdcpicmaaa.Ab
open Go Go.RowKit R
set_option linter.unusedVariables false
set_option linter.unusedSimpArgs false
set_option maxHeartbeats 4000000
set_option maxRecDepth 100000
def u32A (l : List Int) : List AV := l.map fun n => .pv (.int .u32 n)
def u32P (l : List Int) : List PV := l.map fun n => .int .u32 n
@[simp] theorem u32A_len (l : List Int) : (u32A l).length = l.length := by simp [u32A]
@[simp] theorem u32A_set (l : List Int) (i : Nat) (n : Int) : (u32A l).set i (.pv (.int .u32 n)) = u32A (l.set i n) := by simp [u32A, List.map_set]
@[simp] theorem u32A_take (l : List Int) (n : Nat) : (u32A l).take n = u32A (l.take n) := by simp [u32A, List.map_take]
@[simp] theorem u32A_drop (l : List Int) (n : Nat) : (u32A l).drop n = u32A (l.drop n) := by simp [u32A, List.map_drop]
@[simp] theorem u32A_ones : ∀ l : List Int, ones (u32A l) = true
 | [] => rfl
 | n :: l => by
   have := u32A_ones l
   unfold u32A at this ⊢
   simp only [List.map_cons, ones, oneAV, Bool.true_and]; exact this
theorem u32A_splice {l m : List Int} (h : l.length ≤ m.length) : splice (u32A l) 0 (u32A m) = u32A m := by
 simp [splice, List.drop_eq_nil_of_le, u32A_len, h]
@[simp] theorem u32A_resCs : ∀ l : List Int, resCs (u32A l) = true
 | [] => rfl
 | n :: l => by
   have := u32A_resCs l
   unfold u32A at this ⊢
   simp only [List.map_cons, resCs, resC, Bool.true_and]; exact this
@[simp] theorem u32A_mapC (d : Nat) : ∀ (l : List Int) (j : Nat), mapCs (tagC d) j (u32A l) = u32A l
 | [], _ => rfl
 | n :: l, j => by
   have := u32A_mapC d l (j + 1)
   unfold u32A at this ⊢
   simp only [List.map_cons, mapCs, this]; rfl
@[simp] theorem u32A_frs : ∀ (l : List Int) (j : Nat), frsCs j (u32A l) = []
 | [], _ => rfl
 | n :: l, j => u32A_frs l (j + 1)
@[simp] theorem u32A_flat : ∀ l : List Int, flatL (u32A l)
 | [] => trivial
 | n :: l => ⟨rfl, u32A_flat l⟩
@[simp] theorem u32A_fz (P : Program) (objs : Nat → Option AO) : ∀ l : List Int, fzCs P objs (u32A l) (u32A l)
 | [] => trivial
 | n :: l => ⟨⟨rfl, rfl⟩, u32A_fz P objs l⟩
@[simp] theorem u32A_pub : ∀ l m : List Int, pubCs (u32A l) (u32A m) = []
 | [], [] => rfl
 | [], _ :: _ => rfl
 | _ :: _, [] => rfl
 | n :: l, k :: m => u32A_pub l m
@[simp] theorem u32A_pl : ∀ (l : List Int) (j : Nat), plCs j (u32A l) = []
 | [], _ => rfl
 | n :: l, j => u32A_pl l (j + 1)
@[simp] theorem u32A_rei (objs : Nat → Option AO) : ∀ l : List Int, reiPs objs (u32A l) = some (u32P l)
 | [] => rfl
 | n :: l => by
   have := u32A_rei objs l
   unfold u32A at this ⊢
   simp only [List.map_cons, reiPs, reiP, this]; rfl
@[simp] theorem u32A_kill (t : Nat) : ∀ l : List Int, killCs t (u32A l) = u32A l
 | [] => rfl
 | n :: l => by
   have := u32A_kill t l
   unfold u32A at this ⊢
   simp only [List.map_cons, killCs, this]; rfl
@[simp] theorem u32A_live (os : List (Nat × AO)) : ∀ l : List Int, liveCs os (u32A l)
 | [] => trivial
 | n :: l => ⟨trivial, u32A_live os l⟩
def zc : Value := .int .u32 0
theorem zc_all (n : Nat) : (List.replicate n (Value.int .u32 0)).all (·.oneCell') = true := by
 rw [List.all_eq_true]
 intro v hv
 rw [List.eq_of_mem_replicate hv]
 rfl
theorem zc_map (n : Nat) : (List.replicate n (Value.int .u32 0)).map cv = u32A (List.replicate n 0) := by
 simp only [List.map_replicate, u32A]
 rfl
def tabI (i : Nat) : List Int := (List.range 256).map fun j => if j < i then ((S8 j : Nat) : Int) else 0
@[simp] theorem tabI_len (i : Nat) : (tabI i).length = 256 := by simp [tabI]
theorem tabI_zero : tabI 0 = List.replicate 256 0 := by
 apply List.ext_getElem
 · simp
 · intro k h1 h2
   rw [List.getElem_replicate]
   simp [tabI]
theorem tabI_set {i : Nat} (h : i < 256) : (tabI i).set i ((S8 i : Nat) : Int) = tabI (i + 1) := by
 apply List.ext_getElem
 · simp
 · intro k h1 h2
   rw [List.getElem_set]
   simp only [tabI, List.getElem_map, List.getElem_range]
   by_cases hk : i = k
   · subst hk; simp
   · rw [if_neg hk]
     by_cases hl : k < i
     · simp [hl, show k < i + 1 from by omega]
     · simp [hl, show ¬ k < i + 1 from by omega]
def tab : List Int := tabI 256
theorem tab_len : tab.length = 256 := tabI_len 256
theorem tab_at {j : Nat} (h : j < 256) : (u32P tab).drop j = .int .u32 ((S8 j : Nat) : Int) :: u32P (tab.drop (j + 1)) := by
 have hl : j < (u32P tab).length := by simp [u32P, tab]; exact h
 rw [List.drop_eq_getElem_cons hl]
 congr 1
 · simp [u32P, tab, tabI, h]
 · simp [u32P, List.map_drop]
def GTab : List AV → Option (Prop × AV)
 | [] => some (True, .agg (u32A tab))
 | _ => none
@[simp] theorem GTab_eq : GTab [] = some (True, .agg (u32A tab)) := rfl
theorem and_one (n : Nat) (h : n < 4294967296) : sbit .and .u32 (n : Int) 1 = .int .u32 ((n % 2 : Nat) : Int) := by
 have := and_u32 (a := n) (b := 1) h (by omega)
 rw [Nat.and_one_is_mod] at this
 exact this
def mB (n : Nat) : Nat := if n % 2 = 1 then 4294967295 else 0
def pB (n : Nat) : Nat := if n % 2 = 1 then 2197175160 else 0
theorem neg_bit (n : Nat) : IntKind.u32.wrap (-((n : Int) % 2)) = ((mB n : Nat) : Int) := by
 unfold mB
 have e : ((n : Int) % 2) = ((n % 2 : Nat) : Int) := by omega
 rw [e]
 rcases Nat.mod_two_eq_zero_or_one n with h | h <;> rw [h] <;> decide
theorem poly_bit (n : Nat) : sbit .and .u32 2197175160 ((mB n : Nat) : Int) = .int .u32 ((pB n : Nat) : Int) := by
 unfold mB pB
 rcases Nat.mod_two_eq_zero_or_one n with h | h <;> rw [h]
 · exact and_u32 (a := 2197175160) (b := 0) (by omega) (by omega)
 · exact (and_u32 (a := 2197175160) (b := 4294967295) (by omega) (by omega)).trans (congrArg _ (by decide))
theorem fdiv_1 (n : Nat) : (n : Int).fdiv (2 ^ min 1 IntKind.u32.bits) = (n : Int) / 2 := by
 show (n : Int).fdiv 2 = _
 exact Int.fdiv_eq_ediv_of_nonneg _ (by omega)
theorem fdiv_8 (n : Nat) : (n : Int).fdiv (2 ^ min 8 IntKind.u32.bits) = (n : Int) / 256 := by
 show (n : Int).fdiv 256 = _
 exact Int.fdiv_eq_ediv_of_nonneg _ (by omega)
theorem fdiv_k (n : Nat) {k : Nat} (hk : k ≤ 8) : (n : Int).fdiv (2 ^ min k IntKind.u8.bits) = ((n / 2 ^ k : Nat) : Int) := by
 have hp : (0 : Int) ≤ 2 ^ k := Int.le_of_lt (Int.pow_pos (by omega))
 rw [show min k IntKind.u8.bits = k from Nat.min_eq_left hk, Int.fdiv_eq_ediv_of_nonneg _ hp]
 simp
theorem c_Tab : ConT Try.prog 161 GTab := by
 intro ys φ r h hφ
 unfold GTab at h
 split at h
 · cases h
   refine con_of tab_nil (by kernel_rfl) fn161 (by simp) ?_
   unfold body161
   have hz1 := zc_all 256
   have hz2 := zc_map 256
   generalize List.replicate 256 (Value.int .u32 0) = R at hz1 hz2
   rw [← tabI_zero] at hz2
   simp (config := { maxSteps := 3000000 }) [hz1, hz2]
   refine vwp_loop (fun i : Nat => i ≤ 256) (fun i => ⟨[(0, .ptr 0 0), (1, .ptr 1 0), (4, .pv (.int .i64 i))], [(0, .box (u32A (tabI 0))), (1, .box (u32A (tabI i)))]⟩) (fun i => 256 - i) [] 0 (by simp) ?_ ?_
   · simp
   · rintro i hi
     have w2 : IntKind.i64.wrap ((i : Int) + 1) = (i : Int) + 1 := wrap_i64 (by omega)
     by_cases hlt : i < 256
     · have hlt' : (i : Int) < 256 := by omega
       have w3 : IntKind.u32.wrap (i : Int) = (i : Int) := wrap_u32 (by omega) (by omega)
       simp (config := { maxSteps := 3000000 }) [w2, w3, hlt, hlt']
       refine vwp_loop (fun k : Nat => k ≤ 8) (fun k => ⟨[(0, .ptr 0 0), (1, .ptr 1 0), (2, .pv (.int .i64 i)), (3, .pv (.int .u32 ((itS k i : Nat) : Int))), (4, .pv (.int .i64 i)), (9, .pv (.int .i64 k))], [(0, .box (u32A (tabI 0))), (1, .box (u32A (tabI i)))]⟩) (fun k => 8 - k) [] 0 (by simp) ?_ ?_
       · simp [itS]
       · rintro k hk
         have w4 : IntKind.i64.wrap ((k : Int) + 1) = (k : Int) + 1 := wrap_i64 (by omega)
         by_cases hkl : k < 8
         · have hkl' : (k : Int) < 8 := by omega
           have hs : itS k i < 4294967296 := itS_lt (by omega) k
           generalize hc : itS k i = c at hs
           have f1 := and_one c hs
           have f2 := neg_bit c
           have f3 := poly_bit c
           have f5 := fdiv_1 c
           have f4 : sbit .xor .u32 ((c : Int) / 2) ((pB c : Nat) : Int) = .int .u32 ((S1 c : Nat) : Int) :=
             xor_u32 (a := c / 2) (b := pB c) (by omega) (by unfold pB; split <;> omega)
           simp (config := { maxSteps := 3000000 }) [w4, hkl', f1, f2, f3, f4, f5]
           exact ⟨k + 1, by omega, ⟨by simp only [itS, hc], by omega⟩, by omega⟩
         · have hk8 : k = 8 := by omega
           subst hk8
           have hS : itS 8 i = S8 i := itS_8 i
           simp (config := { maxSteps := 3000000 }) [w2, hlt', hS, tabI_set hlt]
           rw [if_pos hlt]
           exact ⟨trivial, i + 1, by omega, ⟨by omega, ⟨fun h => absurd h Nat.zero_ne_one, rfl⟩⟩, by omega⟩
     · have hi6 : i = 256 := by omega
       subst hi6
       simp (config := { maxSteps := 3000000 }) [u32A_splice]
       have ht : (tabI 256).take 256 = tab := List.take_of_length_le (by simp)
       rw [ht]
       exact u32A_fz _ _ _
 · cases h
def Gupd : List AV → Option (Prop × AV)
 | [.rp ps, .pv (.int .u32 c), .pv (.ro b)] => (bytesOf b).map fun l => (ps = u32P tab ∧ 0 ≤ c ∧ c < 4294967296 ∧ l.length ≤ 1000000000, .pv (.int .u32 ((updN c.toNat l : Nat) : Int)))
 | _ => none
@[simp] theorem Gupd_eq (ps : List PV) (c : Int) (b : List (List PV)) : Gupd [.rp ps, .pv (.int .u32 c), .pv (.ro b)] = (bytesOf b).map fun l => (ps = u32P tab ∧ 0 ≤ c ∧ c < 4294967296 ∧ l.length ≤ 1000000000, .pv (.int .u32 ((updN c.toNat l : Nat) : Int))) := rfl
theorem bytesOf_row : ∀ {rows : List (List PV)} {l : List UInt8}, bytesOf rows = some l → rows = bytesRow l
 | [], l, h => by simp [bytesOf] at h; subst h; rfl
 | r :: rows, l, h => by
   simp only [bytesOf, Option.bind_eq_some_iff, Option.map_eq_some_iff] at h
   obtain ⟨c, hc, m, hm, rfl⟩ := h
   have ih := bytesOf_row hm
   unfold byteOf at hc
   split at hc
   · rename_i n
     split at hc
     · rename_i hn
       simp only [Option.some.injEq] at hc
       subst hc
       have e : ((UInt8.ofNat n.toNat).toNat : Int) = n := by
         rw [UInt8.toNat_ofNat']; omega
       rw [ih]
       simp only [bytesRow, List.map_cons, e]
     · cases hc
   · cases hc
theorem bytes_at {l : List UInt8} {i : Nat} (h : i < l.length) : rowAt (bytesRow l) (i : Int) = [.int .u8 ((l[i].toNat : Nat) : Int)] := by
 simp [rowAt, bytesRow, h]
theorem c_upd : ConT Try.prog 162 Gupd := by
 intro ys φ r h hφ
 unfold Gupd at h
 split at h
 · rename_i ps c0 rb
   obtain ⟨b, hb, h⟩ := Option.map_eq_some_iff.1 h
   cases h
   obtain ⟨rfl, hc0, hc1, hbl⟩ := hφ
   cases bytesOf_row hb
   obtain ⟨c0, rfl⟩ : ∃ m : Nat, c0 = (m : Int) := ⟨c0.toNat, by omega⟩
   rw [Int.toNat_natCast]
   have hc2 : c0 < 4294967296 := by omega
   refine con_of tab_nil (by kernel_rfl) fn162 (by simp) ?_
   unfold body162
   have x1 := xor_u32 (a := c0) (b := 4294967295) hc2 (by omega)
   have x1' : sbit .xor .u32 (c0 : Int) 4294967295 = .int .u32 ((c0 ^^^ 4294967295 : Nat) : Int) := x1
   have hq : c0 ^^^ 4294967295 < 4294967296 := Nat.xor_lt_two_pow (n := 32) hc2 (by omega)
   generalize hC : c0 ^^^ 4294967295 = C at x1' hq
   simp (config := { maxSteps := 3000000 }) [x1']
   refine vwp_loop (fun i : Nat => i ≤ b.length) (fun i => ⟨[(0, .rp (u32P tab)), (1, .pv (.int .u32 ((updF C (b.take i) : Nat) : Int))), (11, .pv (.ro (bytesRow b))), (12, .pv (.int .i64 b.length)), (13, .pv (.int .i64 i))], []⟩) (fun i => b.length - i) [] 0 (by simp) ?_ ?_
   · simp [updF]
   · rintro i hi
     have w2 : IntKind.i64.wrap ((i : Int) + 1) = (i : Int) + 1 := wrap_i64 (by omega)
     have hlt4 := updF_lt hq (b.take i)
     by_cases hlt : i < b.length
     · have hlt' : (i : Int) < (b.length : Int) := by omega
       have r1 := bytes_at hlt
       have hs : updF C (b.take (i + 1)) = byS (updF C (b.take i)) b[i].toNat := by rw [List.take_succ_eq_append_getElem hlt, updF_snoc]
       generalize updF C (b.take i) = c at hlt4 hs
       have hx : b[i].toNat < 256 := b[i].toNat_lt
       generalize b[i].toNat = x at hx r1 hs
       have w3 : IntKind.u8.wrap (c : Int) = ((c % 256 : Nat) : Int) := (wrap_u8 _).trans (by omega)
       have w3' : IntKind.u8.wrap (c : Int) = (c : Int) % 256 := wrap_u8 _
       have x2 : sbit .xor .u8 ((c : Int) % 256) (x : Int) = .int .u8 ((c % 256 ^^^ x : Nat) : Int) := xor_u8 (a := c % 256) (b := x) (by omega) hx
       have hj : c % 256 ^^^ x < 256 := Nat.xor_lt_two_pow (n := 8) (by omega) hx
       have x4 : sbit .xor .u32 ((S8 (c % 256 ^^^ x) : Nat) : Int) ((c : Int) / 256) = .int .u32 ((byS c x : Nat) : Int) := xor_u32 (a := S8 (c % 256 ^^^ x)) (b := c / 256) (S8_lt (by omega)) (by omega)
       generalize hJ : c % 256 ^^^ x = j at x2 hj x4
       have hj' : (j : Int) < 256 := by omega
       have t1 := tab_at hj
       have f5 := fdiv_8 c
       simp (config := { maxSteps := 3000000 }) [w2, w3', hlt', r1, x2, hj', t1, f5, x4]
       exact ⟨i + 1, by omega, ⟨by rw [hs], by omega⟩, by omega⟩
     · have : i = b.length := by omega
       subst this
       have x3 : sbit .xor .u32 ((updF C b : Nat) : Int) 4294967295 = .int .u32 ((updN c0 b : Nat) : Int) := by
         unfold updN
         rw [hC]
         exact xor_u32 (a := updF C b) (b := 4294967295) (updF_lt hq b) (by omega)
       simp (config := { maxSteps := 3000000 }) [x3, List.take_length]
 · cases h
theorem c_Stp (c : Nat) (hc : c < 4294967296) : Con Try.prog 205 [] [.pv (.int .u32 c)] [] (.pv (.int .u32 ((S1 c : Nat) : Int))) := by
 refine con_of tab_nil (by kernel_rfl) fn205 (by simp) ?_
 unfold body205
 rcases Nat.mod_two_eq_zero_or_one c with h | h
 · have e : (c : Int).tmod 2 = 0 := by rw [Int.tmod_eq_emod_of_nonneg (by omega)]; omega
   have q : (c : Int).tdiv 2 = (c : Int) / 2 := Int.tdiv_eq_ediv_of_nonneg (by omega)
   have q1 : ((S1 c : Nat) : Int) = (c : Int) / 2 := by unfold S1; rw [h]; simp
   have w := wrap_u32 (n := (c : Int) / 2) (by omega) (by omega)
   simp (config := { maxSteps := 3000000 }) [e, q, q1, w]
 · have e : (c : Int).tmod 2 = 1 := by rw [Int.tmod_eq_emod_of_nonneg (by omega)]; omega
   have q : (c : Int).tdiv 2 = (c : Int) / 2 := Int.tdiv_eq_ediv_of_nonneg (by omega)
   have w := wrap_u32 (n := (c : Int) / 2) (by omega) (by omega)
   have x1 : sbit .xor .u32 ((c : Int) / 2) 2197175160 = .int .u32 ((S1 c : Nat) : Int) := by
     unfold S1; rw [h, if_pos rfl]
     exact xor_u32 (a := c / 2) (b := 2197175160) (by omega) (by omega)
   simp (config := { maxSteps := 3000000 }) [e, q, w, x1]
def GStp : List AV → Option (Prop × AV)
 | [.pv (.int .u32 c)] => some (0 ≤ c ∧ c < 4294967296, .pv (.int .u32 ((S1 c.toNat : Nat) : Int)))
 | _ => none
@[simp] theorem GStp_eq (c : Int) : GStp [.pv (.int .u32 c)] = some (0 ≤ c ∧ c < 4294967296, .pv (.int .u32 ((S1 c.toNat : Nat) : Int))) := rfl
theorem c_Step : ConT Try.prog 205 GStp := by
 intro ys φ r h hφ
 unfold GStp at h
 split at h
 · rename_i c
   cases h
   obtain ⟨c, rfl⟩ : ∃ m : Nat, c = (m : Int) := ⟨c.toNat, by omega⟩
   rw [Int.toNat_natCast]
   exact c_Stp c (by omega)
 · cases h
def GrUpd : List AV → Option (Prop × AV)
 | [.pv (.int .u32 c), .pv (.ro b)] => (bytesOf b).map fun l => (0 ≤ c ∧ c < 4294967296 ∧ l.length ≤ 1000000000, .pv (.int .u32 ((updN c.toNat l : Nat) : Int)))
 | _ => none
@[simp] theorem GrUpd_eq (c : Int) (b : List (List PV)) : GrUpd [.pv (.int .u32 c), .pv (.ro b)] = (bytesOf b).map fun l => (0 ≤ c ∧ c < 4294967296 ∧ l.length ≤ 1000000000, .pv (.int .u32 ((updN c.toNat l : Nat) : Int))) := rfl
theorem c_rUpd : ConT Try.prog 197 GrUpd := by
 intro ys φ r h hφ
 unfold GrUpd at h
 split at h
 · rename_i c0 rb
   obtain ⟨b, hb, h⟩ := Option.map_eq_some_iff.1 h
   cases h
   obtain ⟨hc0, hc1, hbl⟩ := hφ
   cases bytesOf_row hb
   obtain ⟨c0, rfl⟩ : ∃ m : Nat, c0 = (m : Int) := ⟨c0.toNat, by omega⟩
   rw [Int.toNat_natCast]
   have hc2 : c0 < 4294967296 := by omega
   refine con_of (tab_cons c_Step tab_nil) (by kernel_rfl) fn197 (by simp) ?_
   unfold body197
   have x1 : sbit .xor .u32 (c0 : Int) 4294967295 = .int .u32 ((c0 ^^^ 4294967295 : Nat) : Int) := xor_u32 (a := c0) (b := 4294967295) hc2 (by omega)
   have hq : c0 ^^^ 4294967295 < 4294967296 := Nat.xor_lt_two_pow (n := 32) hc2 (by omega)
   generalize hC : c0 ^^^ 4294967295 = C at x1 hq
   simp (config := { maxSteps := 3000000 }) [x1]
   refine vwp_loop (fun i : Nat => i ≤ b.length) (fun i => ⟨[(0, .pv (.int .u32 ((updF C (b.take i) : Nat) : Int))), (1, .pv (.ro (bytesRow b))), (5, .pv (.int .i64 i))], []⟩) (fun i => b.length - i) [] 0 (by simp) ?_ ?_
   · simp [updF]
   · rintro i hi
     have w2 : IntKind.i64.wrap ((i : Int) + 1) = (i : Int) + 1 := wrap_i64 (by omega)
     have hlt4 := updF_lt hq (b.take i)
     by_cases hlt : i < b.length
     · have hlt' : (i : Int) < (b.length : Int) := by omega
       have r1 := bytes_at hlt
       have hs : updF C (b.take (i + 1)) = byS (updF C (b.take i)) b[i].toNat := by rw [List.take_succ_eq_append_getElem hlt, updF_snoc]
       generalize updF C (b.take i) = c at hlt4 hs
       have hx : b[i].toNat < 256 := b[i].toNat_lt
       generalize b[i].toNat = x at hx r1 hs
       simp (config := { maxSteps := 3000000 }) [hlt']
       refine vwp_loop (fun k : Nat => k ≤ 8) (fun k => ⟨[(0, .pv (.int .u32 ((dgS c x k : Nat) : Int))), (1, .pv (.ro (bytesRow b))), (5, .pv (.int .i64 i)), (6, .pv (.int .i64 k))], []⟩) (fun k => 8 - k) [] 0 (by simp) ?_ ?_
       · simp [dgS]
       · rintro k hk
         have w4 : IntKind.i64.wrap ((k : Int) + 1) = (k : Int) + 1 := wrap_i64 (by omega)
         by_cases hkl : k < 8
         · have hkl' : (k : Int) < 8 := by omega
           have hd := dgS_lt (x := x) hlt4 k
           have he : dgS c x (k + 1) = S1 (dgS c x k ^^^ (x / 2 ^ k) % 2) := rfl
           have hD : x / 2 ^ k < 256 := Nat.lt_of_le_of_lt (Nat.div_le_self _ _) hx
           have hf := fdiv_k x (k := k) (by omega)
           generalize x / 2 ^ k = D at hf hD he
           have w5 : IntKind.u32.wrap (D : Int) = (D : Int) := wrap_u32 (by omega) (by omega)
           have w6 : (D : Int).tmod 2 = ((D % 2 : Nat) : Int) := by rw [Int.tmod_eq_emod_of_nonneg (by omega)]; omega
           have hE : D % 2 < 2 := by omega
           generalize D % 2 = E at w6 hE he
           generalize dgS c x k = y at hd he
           have x2 := xor_u32 (a := y) (b := E) hd (by omega)
           have hz : y ^^^ E < 4294967296 := Nat.xor_lt_two_pow (n := 32) hd (by omega)
           generalize y ^^^ E = z at x2 hz he
           have hz' : (z : Int) < 4294967296 := by omega
           have hk0 : (0 : Int) ≤ (k : Int) := by omega
           simp (config := { maxSteps := 3000000 }) [w4, hkl', hlt', r1, hf, w5, w6, x2, hz', hz, hk0]
           exact ⟨k + 1, by omega, ⟨by rw [he], by omega⟩, by omega⟩
         · have hk8 : k = 8 := by omega
           subst hk8
           simp (config := { maxSteps := 3000000 }) [w2]
           exact ⟨i + 1, by omega, ⟨by rw [hs, dgS_eq hx], by omega⟩, by omega⟩
     · have : i = b.length := by omega
       subst this
       have x3 : sbit .xor .u32 ((updF C b : Nat) : Int) 4294967295 = .int .u32 ((updN c0 b : Nat) : Int) := by
         unfold updN
         rw [hC]
         exact xor_u32 (a := updF C b) (b := 4294967295) (updF_lt hq b) (by omega)
       simp (config := { maxSteps := 3000000 }) [x3, List.take_length]
 · cases h
def GSum : List AV → Option (Prop × AV)
 | [.pv (.ro [[.ro b]])] => (bytesOf b).map fun l => (l.length ≤ 1000000000, .pv (.int .u32 ((sumN l : Nat) : Int)))
 | _ => none
@[simp] theorem GSum_eq (b : List (List PV)) : GSum [.pv (.ro [[.ro b]])] = (bytesOf b).map fun l => (l.length ≤ 1000000000, .pv (.int .u32 ((sumN l : Nat) : Int))) := rfl
theorem sumN_lt (l : List UInt8) : sumN l < 4294967296 := updN_lt (by omega) l
theorem bytesOf_bytes : ∀ l : List UInt8, bytesOf (bytesRow l) = some l
 | [] => rfl
 | c :: l => by
   have ih := bytesOf_bytes l
   have h := c.toNat_lt
   simp only [bytesRow, List.map_cons] at ih ⊢
   simp only [bytesOf, ih, byteOf]
   rw [if_pos (by omega)]
   simp
theorem c_Sum : ConT Try.prog 127 GSum := by
 intro ys φ r h hφ
 unfold GSum at h
 split at h
 · rename_i rb
   obtain ⟨b, hb, h⟩ := Option.map_eq_some_iff.1 h
   cases h
   cases bytesOf_row hb
   have hbb := bytesOf_bytes b
   refine con_of (tab_cons c_Tab (tab_cons c_upd tab_nil)) (by kernel_rfl) fn127 (by simp) ?_
   unfold body127
   have hz1 := zc_all 256
   have hz2 := zc_map 256
   generalize List.replicate 256 (Value.int .u32 0) = R at hz1 hz2
   rw [← tabI_zero] at hz2
   have hsp : splice (u32A (tabI 0)) 0 (u32A tab) = u32A tab := u32A_splice (by simp [tab])
   have ht := tab_len
   simp (config := { maxSteps := 3000000 }) [hz1, hz2, hsp, ht]
   refine vwp_loop (fun i : Nat => i ≤ 1) (fun i => ⟨[(3, .ptr 3 0), (4, .pv (.int .u32 (if i = 0 then 0 else ((sumN b : Nat) : Int)))), (8, .pv (.ro [[.ro (bytesRow b)]])), (9, .pv (.int .i64 1)), (10, .pv (.int .i64 i))], [(3, .box (u32A tab))]⟩) (fun i => 1 - i) [] 0 (by simp) ?_ ?_
   · simp
     show u32A ((tabI 0).drop 256) = []
     rw [List.drop_eq_nil_of_le (by simp)]; rfl
   · rintro i hi
     by_cases h0 : i = 0
     · subst h0
       have hr : rowAt [[PV.ro (bytesRow b)]] 0 = [.ro (bytesRow b)] := rfl
       have hs : updN 0 b = sumN b := rfl
       simp (config := { maxSteps := 3000000 }) [hr, hbb, hφ, hs]
       exact ⟨1, by omega, ⟨fun h => absurd h (by omega), by decide⟩, by omega⟩
     · have : i = 1 := by omega
       subst this
       simp (config := { maxSteps := 3000000 })
 · cases h
theorem c_rSum : ConT Try.prog 179 GSum := by
 intro ys φ r h hφ
 unfold GSum at h
 split at h
 · rename_i rb
   obtain ⟨b, hb, h⟩ := Option.map_eq_some_iff.1 h
   cases h
   cases bytesOf_row hb
   have hbb := bytesOf_bytes b
   refine con_of (tab_cons c_rUpd tab_nil) (by kernel_rfl) fn179 (by simp) ?_
   unfold body179
   simp (config := { maxSteps := 3000000 })
   refine vwp_loop (fun i : Nat => i ≤ 1) (fun i => ⟨[(0, .pv (.ro [[.ro (bytesRow b)]])), (3, .own 3), (4, .pv (.int .i64 i))], [(3, .arr 5 (if i = 0 then [] else bytesRow b))]⟩) (fun i => 1 - i) [] 0 (by simp) ?_ ?_
   · simp
   · rintro i hi
     by_cases h0 : i = 0
     · subst h0
       have hr : rowAt [[PV.ro (bytesRow b)]] 0 = [.ro (bytesRow b)] := rfl
       simp (config := { maxSteps := 3000000 }) [hr, maxLen_eq]
       refine ⟨⟨by omega, by omega, ?_⟩, 1, by omega, ⟨by decide, fun h => absurd h (by omega)⟩, by omega⟩
       intro q hq
       simp only [bytesRow, List.mem_map] at hq
       obtain ⟨c, _, rfl⟩ := hq
       rfl
     · have : i = 1 := by omega
       subst this
       have hs : updN 0 b = sumN b := rfl
       simp (config := { maxSteps := 3000000 }) [hbb, hφ, hs]
 · cases h
def GOf : List AV → Option (Prop × AV)
 | [.pv (.ro b)] => (bytesOf b).map fun l => (l.length ≤ 1000000000, .agg [.pv (.int .u64 l.length), .pv (.int .u64 ((sumN l : Nat) : Int))])
 | _ => none
@[simp] theorem GOf_eq (b : List (List PV)) : GOf [.pv (.ro b)] = (bytesOf b).map fun l => (l.length ≤ 1000000000, .agg [.pv (.int .u64 l.length), .pv (.int .u64 ((sumN l : Nat) : Int))]) := rfl
theorem c_Of : ConT Try.prog 70 GOf := by
 intro ys φ r h hφ
 unfold GOf at h
 split at h
 · rename_i rb
   obtain ⟨b, hb, h⟩ := Option.map_eq_some_iff.1 h
   cases h
   cases bytesOf_row hb
   have hbb := bytesOf_bytes b
   have hS := sumN_lt b
   have w1 : IntKind.u64.wrap (b.length : Int) = b.length := wrap_u64 (by omega)
   have w2 : IntKind.u64.wrap ((sumN b : Nat) : Int) = (sumN b : Nat) := wrap_u64 (by omega)
   refine con_of (tab_cons c_Sum tab_nil) (by kernel_rfl) fn70 (by simp) ?_
   unfold body70
   simp (config := { maxSteps := 3000000 }) [hbb, hφ, w1, w2]
 · cases h
theorem c_rOf : ConT Try.prog 163 GOf := by
 intro ys φ r h hφ
 unfold GOf at h
 split at h
 · rename_i rb
   obtain ⟨b, hb, h⟩ := Option.map_eq_some_iff.1 h
   cases h
   cases bytesOf_row hb
   have hbb := bytesOf_bytes b
   have hS := sumN_lt b
   have w1 : IntKind.u64.wrap (b.length : Int) = b.length := wrap_u64 (by omega)
   have w2 : IntKind.u64.wrap ((sumN b : Nat) : Int) = (sumN b : Nat) := wrap_u64 (by omega)
   refine con_of (tab_cons c_rSum tab_nil) (by kernel_rfl) fn163 (by simp) ?_
   unfold body163
   simp (config := { maxSteps := 3000000 }) [hbb, hφ, w1, w2]
 · cases h
end Go.Proofs.Ytfpmjcdcpicmaaa.Ab
