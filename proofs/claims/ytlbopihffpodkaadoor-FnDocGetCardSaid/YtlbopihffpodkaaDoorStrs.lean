/- The walks of the laws' helpers on slices of strings: how much they hold, their copy, whether two are the same. Conditions: what is read fits the model's sizes. -/
import Derived.Test.YtlbopihffpodkaaDoorMem
namespace Go.Proofs.YtlbopihffpodkaaDoor
set_option maxRecDepth 100000
open Go.RowKit

def szTo (xs : List ByteArray) (k : Nat) : Nat := sumTo (fun j => (nthS xs j).size) k
def szStrs (xs : List ByteArray) (n : Nat) (left : Int) : Int := if left - n - (szTo xs n : Int) < 0 then -1 else left - n - (szTo xs n : Int)
theorem szTo_succ (xs : List ByteArray) (k : Nat) : szTo xs (k + 1) = szTo xs k + (nthS xs k).size := rfl
theorem szTo_le (xs : List ByteArray) {k n : Nat} (h : k ≤ n) : szTo xs k ≤ szTo xs n := sumTo_le _ h
theorem szStrs_neg {xs : List ByteArray} {n k : Nat} {left : Int} (hk : k ≤ n) (h : left - n - (szTo xs k : Int) < 0) : szStrs xs n left = -1 := by
  have := szTo_le xs hk; unfold szStrs; rw [if_pos (by omega)]
theorem szStrs_pos {xs : List ByteArray} {n : Nat} {left : Int} (h : 0 ≤ left - n - (szTo xs n : Int)) : szStrs xs n left = left - n - (szTo xs n : Int) := by
  unfold szStrs; rw [if_neg (by omega)]
theorem szStrs_bound {xs : List ByteArray} {n : Nat} {left : Int} (h : 0 ≤ szStrs xs n left) : szStrs xs n left ≤ left ∧ (n : Int) ≤ left ∧ (szTo xs n : Int) ≤ left := by
  unfold szStrs at *; split at h <;> omega
theorem szStrs_le {xs : List ByteArray} {n : Nat} {left : Int} (h : 0 ≤ left) : szStrs xs n left ≤ left ∧ -1 ≤ szStrs xs n left := by unfold szStrs; split <;> omega

theorem info_str : (Tryd.prog.info? 9).map (fun i => (i.zero, i.size, i.bytes)) = some (some (.string ByteArray.empty), 1, 16) := by kernel_rfl
def eqStrs (n m : Nat) (xs ys : List ByteArray) : Bool := decide (n = m) && allN n fun j => (nthS xs j).toList == (nthS ys j).toList
theorem eqStrs_refl (n : Nat) (xs : List ByteArray) : eqStrs n n xs xs = true := by
  rw [eqStrs, Bool.and_eq_true, allN_iff]; exact ⟨by simp, fun j _ => by simp⟩
end Go.Proofs.YtlbopihffpodkaaDoor
