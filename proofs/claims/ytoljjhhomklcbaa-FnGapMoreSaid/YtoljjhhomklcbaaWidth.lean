/- The walks of how many bits the greatest number has. Conditions: what is read fits the model's sizes. -/
import Derived.Test.YtoljjhhomklcbaaUp
namespace Go.Proofs.Ytoljjhhomklcbaa
open Go.RowKit

/-- How many bits a number has. -/
def blen (n : Nat) : Nat := if _h : n = 0 then 0 else blen (n / 2) + 1
theorem blen_zero : blen 0 = 0 := by rw [blen]; rfl
theorem blen_pos {n : Nat} (h : 0 < n) : blen n = blen (n / 2) + 1 := by rw [blen, dif_neg (by omega)]
theorem blen_le : ∀ (w n : Nat), blen n ≤ w ↔ n < 2 ^ w := by
  intro w
  induction w with
  | zero =>
    intro n
    rcases Nat.eq_zero_or_pos n with h | h
    · subst h; simp [blen_zero]
    · rw [blen_pos h]; simp; omega
  | succ w ih =>
    intro n
    rcases Nat.eq_zero_or_pos n with h | h
    · subst h; rw [blen_zero]; exact ⟨fun _ => Nat.pow_pos (by omega), fun _ => by omega⟩
    · rw [blen_pos h, Nat.pow_succ]
      have := ih (n / 2)
      omega
theorem blen_max (a b : Nat) : blen (max a b) = max (blen a) (blen b) := by
  apply Nat.le_antisymm
  · rw [blen_le]
    have h1 := (blen_le (max (blen a) (blen b)) a).1 (by omega)
    have h2 := (blen_le (max (blen a) (blen b)) b).1 (by omega)
    omega
  · have h := (blen_le (blen (max a b)) (max a b)).1 (Nat.le_refl _)
    have h1 := (blen_le (blen (max a b)) a).2 (by omega)
    have h2 := (blen_le (blen (max a b)) b).2 (by omega)
    omega
/-- The greatest of the first k numbers. -/
def maxTo (xs : List Int) : Nat → Nat
  | 0 => 0
  | k + 1 => max (maxTo xs k) (nthI xs k).toNat
def numsOk (n : Nat) (xs : List Int) : Bool := allN n fun j => numOk (nthI xs j)
def packWidth (n : Nat) (xs : List Int) : Int := if numsOk n xs && decide (n ≤ 60) then (blen (maxTo xs n) : Int) else -1
theorem numOk_bd {x : Int} (h : numOk x = true) : 0 ≤ x ∧ x ≤ 999999999 := by
  simpa only [numOk, Bool.and_eq_true, decide_eq_true_eq] using h
theorem maxTo_le (xs : List Int) : ∀ k, allN k (fun j => numOk (nthI xs j)) = true → maxTo xs k ≤ 999999999 := by
  intro k
  induction k with
  | zero => intro _; show 0 ≤ _; omega
  | succ k ih =>
    intro h
    rw [allN_iff] at h
    have h1 := numOk_bd (h k (by omega))
    have h2 := ih (allN_iff.2 fun j hj => h j (by omega))
    show max _ _ ≤ _
    omega
theorem blen_num {n : Nat} (h : n ≤ 999999999) : blen n ≤ 30 := (blen_le 30 n).2 (Nat.lt_of_le_of_lt h (by decide))
theorem shr_nat (x d : Nat) : (x : Int) / 2 ^ d = ((x / 2 ^ d : Nat) : Int) := by rw [Int.natCast_ediv, Int.natCast_pow]; rfl
end Go.Proofs.Ytoljjhhomklcbaa
