/- The laws on where words stand, on words of two texts, on words put together again. Conditions: what is read fits the model's sizes. -/
import Derived.Test.YtejooloflcldiaaLawS
namespace Go.Proofs.Ytejooloflcldiaa
open Go.RowKit
theorem wordsOf_good {s : ByteArray} (h : textOk s = true) {i : Nat} (hi : i < (wordsOf s).length) :
    (nthW (wordsOf s) i).at_ = i ∧ (nthW (wordsOf s) i).from_ < (nthW (wordsOf s) i).to_ ∧ (nthW (wordsOf s) i).to_ ≤ s.size ∧ wordOk (nthW (wordsOf s) i).text = true ∧ (nthW (wordsOf s) i).text.size = min 12 ((nthW (wordsOf s) i).to_ - (nthW (wordsOf s) i).from_) ∧ (0 < i → (nthW (wordsOf s) (i - 1)).to_ < (nthW (wordsOf s) i).from_) := by
  have e : wordsOf s = wds s 0 0 := by rw [wordsOf, if_pos h]
  rw [e] at hi ⊢
  obtain ⟨a, b, c, d, f, g, _⟩ := wGood_at _ 0 0 i (wds_good s _ 0 0 0 rfl (.inl (Nat.le_refl _))) hi
  exact ⟨by omega, b, c, d, f, g⟩
end Go.Proofs.Ytejooloflcldiaa
