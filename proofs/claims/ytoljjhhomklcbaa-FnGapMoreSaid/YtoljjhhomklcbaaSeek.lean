/- The walks of the place where a number is sought. Conditions: what is read fits the model's sizes. -/
import Derived.Test.YtoljjhhomklcbaaUp
namespace Go.Proofs.Ytoljjhhomklcbaa
open Go.RowKit

def cntLt (xs : List Int) (v : Int) : Nat → Nat
  | 0 => 0
  | k + 1 => cntLt xs v k + (if nthI xs k < v then 1 else 0)
theorem cntLt_yes {xs : List Int} {v : Int} {k : Nat} (h : nthI xs k < v) : cntLt xs v (k + 1) = cntLt xs v k + 1 := by rw [cntLt, if_pos h]
theorem cntLt_no {xs : List Int} {v : Int} {k : Nat} (h : ¬ nthI xs k < v) : cntLt xs v (k + 1) = cntLt xs v k := by rw [cntLt, if_neg h]; omega
theorem cntLt_le (xs : List Int) (v : Int) : ∀ k, cntLt xs v k ≤ k := by
  intro k; induction k with
  | zero => exact Nat.le_refl _
  | succ k ih => rw [cntLt]; split <;> omega
theorem up_lt {n : Nat} {xs : List Int} (h : upAsc n xs = true) : ∀ {i j : Nat}, i < j → j < n → nthI xs i < nthI xs j := by
  intro i j hij hj
  rw [upAsc, allN_iff] at h
  induction j with
  | zero => omega
  | succ j ih =>
    have h1 := h (j + 1) hj
    simp only [upAt, Bool.and_eq_true, Bool.or_eq_true, decide_eq_true_eq] at h1
    rcases h1.2 with h2 | h2
    · omega
    · rw [Nat.add_sub_cancel] at h2
      rcases Nat.lt_or_ge i j with h3 | h3
      · have := ih h3 (by omega); omega
      · obtain rfl : i = j := by omega
        exact h2
theorem up_num {n : Nat} {xs : List Int} (h : upAsc n xs = true) {j : Nat} (hj : j < n) : 0 ≤ nthI xs j ∧ nthI xs j ≤ 999999999 := by
  rw [upAsc, allN_iff] at h
  have h1 := h j hj
  simp only [upAt, numOk, Bool.and_eq_true, decide_eq_true_eq] at h1
  exact h1.1
theorem cnt_stop {n : Nat} {xs : List Int} {v : Int} (h : upAsc n xs = true) {k : Nat} (hv : ¬ nthI xs k < v) : ∀ m, k ≤ m → m ≤ n → cntLt xs v m = cntLt xs v k := by
  intro m
  induction m with
  | zero => intro hk _; obtain rfl : k = 0 := by omega
            rfl
  | succ m ih =>
    intro hk hm
    rcases Nat.lt_or_ge m k with h1 | h1
    · obtain rfl : k = m + 1 := by omega
      rfl
    · rw [cntLt_no, ih h1 (by omega)]
      rcases Nat.lt_or_ge k m with h2 | h2
      · have := up_lt h h2 (by omega); omega
      · obtain rfl : k = m := by omega
        exact hv
def setSeek (n : Nat) (xs : List Int) (v : Int) : Int := if upOk n xs then (cntLt xs v n : Int) else -1
end Go.Proofs.Ytoljjhhomklcbaa
