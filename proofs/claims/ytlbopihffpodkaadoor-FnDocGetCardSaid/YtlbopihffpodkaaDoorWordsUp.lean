/- The walks of what tells whether words ascend. Conditions: what is read fits the model's sizes. -/
import Derived.Test.YtlbopihffpodkaaDoorStrs
import Derived.Test.YtlbopihffpodkaaDoorWord
namespace Go.Proofs.YtlbopihffpodkaaDoor
set_option maxRecDepth 100000
open Go.RowKit

/-- One text is less than another. -/
def lessS (a b : ByteArray) : Bool := Op.bytesLess a.toList b.toList
theorem lessS_iff (a b : ByteArray) : lessS a b = true ↔ a.toList < b.toList := by rw [lessS, bytesLess_eq]; simp
theorem lessS_not (a b : ByteArray) : (lessS b a || b.toList == a.toList) = !(lessS a b) := by
  rw [Bool.eq_iff_iff]
  simp only [Bool.or_eq_true, beq_iff_eq, Bool.not_eq_true', Bool.eq_false_iff, ne_eq, lessS_iff]
  constructor
  · rintro (h | h) h2
    · exact absurd (List.lt_trans h h2) (List.lt_irrefl _)
    · rw [h] at h2; exact absurd h2 (List.lt_irrefl _)
  · intro h
    rcases List.le_iff_lt_or_eq.1 (List.not_lt.1 h) with h | h
    · exact .inl h
    · exact .inr h
def ascAt (xs : List ByteArray) (j : Nat) : Bool := wordOk (nthS xs j) && (decide (j = 0) || lessS (nthS xs (j - 1)) (nthS xs j))
/-- The first n texts are words that ascend. -/
def wordsAsc (n : Nat) (xs : List ByteArray) : Bool := allN n (ascAt xs)
def wordsUp (n : Nat) (xs : List ByteArray) : Bool := decide (n ≤ 40) && wordsAsc n xs

end Go.Proofs.YtlbopihffpodkaaDoor
