/- The laws on words, where they stand, and endings. Conditions: what is read fits the model's sizes. -/
import Derived.Test.YtejooloflcldiaaWordsX
import Derived.Test.YtejooloflcldiaaDrawS
import Derived.Test.YtejooloflcldiaaStem
namespace Go.Proofs.Ytejooloflcldiaa
open Go.RowKit
theorem str_nonempty {s : ByteArray} (h : 0 < s.size) : s.toList.isEmpty = false ∧ ¬ s.toList = [] := by
  have h1 : s.toList ≠ [] := by
    rw [ByteArray.toList_eq]
    intro e
    have h2 : s.size = 0 := by have := congrArg List.length e; simpa using this
    omega
  exact ⟨by simp [h1], h1⟩
theorem str_eq_f {a b : ByteArray} (h : a ≠ b) : (a.toList == b.toList) = false := by
  simp only [beq_eq_false_iff_ne, ne_eq, ByteArray.toList_eq]
  intro e
  exact h (ByteArray.ext (Array.ext' e))
theorem str_eq_t {a b : ByteArray} (h : a = b) : (a.toList == b.toList) = true := by rw [h]; simp
theorem cutAt_ext (s : ByteArray) (j : Nat) : cutAt s j = s.extract 0 (cutAt s j).size := by
  rw [cutAt_size]; rfl
theorem once_ext (s : ByteArray) : onceB s = s.extract 0 (onceB s).size ∧ (onceB s).size ≤ s.size ∧ (onceB s = s ∨ 3 ≤ (onceB s).size) := by
  have full : s = s.extract 0 s.size := by
    refine ByteArray.ext ?_
    simp
  by_cases h : allN 5 (fun j => !canCut s j) = true
  · rw [once_none h]
    exact ⟨full, Nat.le_refl _, .inl rfl⟩
  · have h' : ∃ k, k < 5 ∧ canCut s k = true ∧ allN k (fun j => !canCut s j) = true := by
      apply Classical.byContradiction
      intro hn
      apply h
      have : ∀ m, m ≤ 5 → allN m (fun j => !canCut s j) = true := by
        intro m
        induction m with
        | zero => intro _; rfl
        | succ m ih =>
          intro hm
          refine allN_step (ih (by omega)) ?_
          cases hc : canCut s m
          · rfl
          · exact absurd ⟨m, by omega, hc, ih (by omega)⟩ hn
      exact this 5 (Nat.le_refl _)
    obtain ⟨k, hk, hc, ha⟩ := h'
    have h1 := canCut_size hc
    rw [once_at hk ha hc]
    have h2 := cutAt_size s k
    exact ⟨cutAt_ext s k, by omega, .inr (by omega)⟩
theorem extract_extract0 (s : ByteArray) {a b : Nat} (h : b ≤ a) : (s.extract 0 a).extract 0 b = s.extract 0 b := by
  rw [ByteArray.extract_extract]
  congr 1
  omega
theorem stemN_facts : ∀ (n : Nat) (s : ByteArray), s.size ≤ n → stemN n s = s.extract 0 (stemN n s).size ∧ (stemN n s).size ≤ s.size ∧ (stemN n s = s ∨ 3 ≤ (stemN n s).size) ∧ onceB (stemN n s) = stemN n s := by
  intro n
  induction n with
  | zero =>
    intro s hs
    have : onceB s = s := by rcases once_or s with h | h; exact h; omega
    rw [stemN]
    refine ⟨?_, Nat.le_refl _, .inl rfl, this⟩
    refine ByteArray.ext ?_
    simp
  | succ n ih =>
    intro s hs
    obtain ⟨h1, h2, h3⟩ := once_ext s
    rcases once_or s with h | h
    · rw [stemN_fix h]
      refine ⟨?_, Nat.le_refl _, .inl rfl, h⟩
      refine ByteArray.ext ?_
      simp
    · obtain ⟨i1, i2, i3, i4⟩ := ih (onceB s) (by omega)
      rw [stemN]
      refine ⟨?_, by omega, ?_, i4⟩
      · have h5 := extract_extract0 s i2
        rw [← h1] at h5
        rw [← h5]; exact i1
      · rcases i3 with i3 | i3
        · rw [i3]
          rcases h3 with h3 | h3
          · rw [h3] at h; omega
          · exact .inr h3
        · exact .inr i3
theorem stemB_facts (s : ByteArray) : stemB s = s.extract 0 (stemB s).size ∧ (stemB s).size ≤ s.size ∧ (stemB s = s ∨ 3 ≤ (stemB s).size) ∧ stemB (stemB s) = stemB s := by
  obtain ⟨h1, h2, h3, h4⟩ := stemN_facts s.size s (Nat.le_refl _)
  exact ⟨h1, h2, h3, stemB_fix h4⟩
theorem word_prefix {s : ByteArray} {k : Nat} (h : wordOk s = true) (h0 : 0 < k) (h1 : k ≤ s.size) : wordOk (s.extract 0 k) = true := by
  obtain ⟨a, b, c⟩ := word_bytes h
  have hz : (s.extract 0 k).size = k := by simp only [ByteArray.size_extract]; omega
  rw [wordOk, Bool.and_eq_true, byWb, hz]
  refine ⟨fun j hj => ?_, decide_eq_true (by omega)⟩
  have e : byW (s.extract 0 k) j = byW s j := by
    rw [← byW_get _ j (by omega), ← byW_get s j (by omega), ByteArray.getElem_extract]
    simp
  rw [e]; exact a j (by omega)
theorem stem_word {s : ByteArray} (h : wordOk s = true) : wordOk (stemB s) = true ∧ 0 < (stemB s).size := by
  obtain ⟨h1, h2, h3, h4⟩ := stemB_facts s
  obtain ⟨a, b, c⟩ := word_bytes h
  have hp : 0 < (stemB s).size := by
    rcases h3 with h3 | h3
    · rw [h3]; omega
    · omega
  refine ⟨?_, hp⟩
  rw [h1]; exact word_prefix h hp h2
end Go.Proofs.Ytejooloflcldiaa
