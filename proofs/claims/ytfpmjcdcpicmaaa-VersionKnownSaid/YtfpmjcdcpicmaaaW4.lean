import Derived.Test.YtfpmjcdcpicmaaaW3
namespace Go.Proofs.Ytfpmjcdcpicmaaa.Ab
open Go Go.RowKit R
set_option linter.unusedVariables false
set_option linter.unusedSimpArgs false
set_option maxHeartbeats 40000000
set_option maxRecDepth 100000
noncomputable def GClV : List AV → Option (Prop × AV)
 | [.pv (.ro a)] => (dec rowV a).map fun l => (l.length ≤ 1000000, .fr 70 (rowsV l))
 | _ => none
@[simp] theorem GClV_eq (a : List (List PV)) : GClV [.pv (.ro a)] = (dec rowV a).map fun l => (l.length ≤ 1000000, .fr 70 (rowsV l)) := rfl
theorem c_ClV : ConT Try.prog 118 GClV := by
 intro ys φ r h hφ
 unfold GClV at h
 split at h
 · rename_i ra
   obtain ⟨a, ha, h⟩ := Option.map_eq_some_iff.1 h
   cases h
   cases dec_rowsV_inv ha
   refine con_of tab_nil (by kernel_rfl) fn118 (by simp) ?_
   unfold body118
   cases a with
   | nil =>
     simp (config := { maxSteps := 3000000 }) [exNil_eq]
   | cons x l =>
     have hx : rowsV (x :: l) = rowV x :: rowsV l := rfl
     simp (config := { maxSteps := 3000000 }) [hx, maxLen_eq]
     simp only [List.length_cons] at hφ
     exact ⟨by omega, by omega, rfl, rowsV_ten l⟩
 · cases h
def Gplain : List AV → Option (Prop × AV)
 | [.pv (.int .u64 n), .pv (.str t)] => some (True, .agg [.pv (.int .u64 n), .pv (.int .u64 0), .pv (.int .u64 0), .pv (.int .u64 0), .pv (.int .u64 0), .pv (.int .u64 0), .pv (.int .u64 0), .pv (.str t), .pv (.bool true), .pv (.bool false)])
 | _ => none
@[simp] theorem Gplain_eq (n : Int) (t : List UInt8) : Gplain [.pv (.int .u64 n), .pv (.str t)] = some (True, .agg [.pv (.int .u64 n), .pv (.int .u64 0), .pv (.int .u64 0), .pv (.int .u64 0), .pv (.int .u64 0), .pv (.int .u64 0), .pv (.int .u64 0), .pv (.str t), .pv (.bool true), .pv (.bool false)]) := rfl
theorem c_plain : ConT Try.prog 122 Gplain := by
 intro ys φ r h hφ
 unfold Gplain at h
 split at h
 · cases h
   refine con_of tab_nil (by kernel_rfl) fn122 (by simp) ?_
   unfold body122
   simp (config := { maxSteps := 3000000 })
 · cases h
def plainV (n : Int) (t : List UInt8) : Vn := ⟨n, 0, 0, 0, 0, 0, 0, t, true, false⟩
def lastN (l : List Vn) : Int := ((l.getLast?).getD v0).n
theorem right_step {l : List Vn} (hr : rightV l = true) {i : Nat} (h : i + 1 < l.length) : l[i].n < l[i + 1].n := by
 have := (rightV_iff l).1 hr (i + 1) h
 unfold okAt at this
 rw [Bool.and_eq_true] at this
 have h1 := this.1
 simp only [prevN, List.getElem?_eq_getElem h, List.getElem?_eq_getElem (show i < l.length by omega), Option.getD_some, decide_eq_true_eq] at h1
 exact h1
theorem right_mono {l : List Vn} (hr : rightV l = true) {i : Nat} : ∀ (d : Nat) (h : i + d < l.length), l[i].n ≤ l[i + d].n
 | 0, h => Int.le_refl _
 | d + 1, h => by
   have h1 := right_mono hr d (show i + d < l.length by omega)
   have h2 := right_step hr (i := i + d) (by omega)
   have : l[i + (d + 1)].n = l[i + d + 1].n := rfl
   omega
theorem right_last {l : List Vn} (hr : rightV l = true) {i : Nat} (h : i < l.length) : l[i].n ≤ lastN l := by
 have hlt : l.length - 1 < l.length := by omega
 have := right_mono hr (i := i) (l.length - 1 - i) (by omega)
 have he : i + (l.length - 1 - i) = l.length - 1 := by omega
 simp only [he] at this
 unfold lastN
 rw [List.getLast?_eq_getElem?, List.getElem?_eq_getElem hlt]
 exact this
def rowSt (s : List UInt8) : List PV := [.str s]
theorem rowSt_inj : ∀ a b, rowSt a = rowSt b → a = b := by
 intro a b h
 simpa [rowSt] using h
def rowsSt (l : List (List UInt8)) : List (List PV) := l.map rowSt
@[simp] theorem rowsSt_nil : rowsSt [] = [] := rfl
@[simp] theorem rowsSt_length (l : List (List UInt8)) : (rowsSt l).length = l.length := by simp [rowsSt]
theorem rowsSt_at {l : List (List UInt8)} {i : Nat} (h : i < l.length) : rowAt (rowsSt l) (i : Int) = [.str l[i]] := by
 simp [rowAt, rowsSt, h, rowSt]
@[simp] theorem dec_rowsSt (l : List (List UInt8)) : dec rowSt (rowsSt l) = some l := dec_map rowSt_inj l
theorem dec_rowsSt_inv {rows : List (List PV)} {l : List (List UInt8)} (h : dec rowSt rows = some l) : rows = rowsSt l := dec_inv h
end Go.Proofs.Ytfpmjcdcpicmaaa.Ab
