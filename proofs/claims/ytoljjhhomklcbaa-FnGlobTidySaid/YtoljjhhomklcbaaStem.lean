/- The walks of a word without its endings. Conditions: the string fits the model's sizes. -/
import Derived.Test.YtoljjhhomklcbaaStrs
import Derived.Test.YtoljjhhomklcbaaWord
namespace Go.Proofs.Ytoljjhhomklcbaa
open Go.RowKit

/-- The endings, the longest first. -/
def endsL : List ByteArray := [⟨#[105, 110, 103]⟩, ⟨#[101, 100]⟩, ⟨#[101, 115]⟩, ⟨#[108, 121]⟩, ⟨#[115]⟩]
/-- A text ends with an ending. -/
def hasSuf (s e : ByteArray) : Bool := decide (e.size ≤ s.size) && ((s.extract (s.size - e.size) s.size).toList == e.toList)
/-- The ending number j can be left out. -/
def canCut (s : ByteArray) (j : Nat) : Bool := hasSuf s (nthS endsL j) && decide (3 + (nthS endsL j).size ≤ s.size)
def cutAt (s : ByteArray) (j : Nat) : ByteArray := s.extract 0 (s.size - (nthS endsL j).size)
def cutFrom (s : ByteArray) : Nat → Nat → ByteArray
  | 0, _ => s
  | n + 1, j => if canCut s j then cutAt s j else cutFrom s n (j + 1)
/-- Without one ending. -/
def onceB (s : ByteArray) : ByteArray := cutFrom s 5 0
def stemN : Nat → ByteArray → ByteArray
  | 0, s => s
  | n + 1, s => stemN n (onceB s)
/-- Without endings. -/
def stemB (s : ByteArray) : ByteArray := stemN s.size s
def stemOf (s : ByteArray) : ByteArray := if wordOk s then stemB s else ByteArray.empty

theorem ends_size (j : Nat) (h : j < 5) : 1 ≤ (nthS endsL j).size ∧ (nthS endsL j).size ≤ 3 := by
  match j, h with
  | 0, _ => decide
  | 1, _ => decide
  | 2, _ => decide
  | 3, _ => decide
  | 4, _ => decide
theorem ends_fit (j : Nat) : (nthS endsL j).size ≤ maxLen := by
  rcases Nat.lt_or_ge j 5 with h | h
  · have := ends_size j h; unfold maxLen; omega
  · rw [nthS, List.getElem?_eq_none (by simpa [endsL] using h)]; simp
theorem cutAt_size (s : ByteArray) (j : Nat) : (cutAt s j).size = s.size - (nthS endsL j).size := by simp [cutAt, ByteArray.size_extract]
theorem cutFrom_eq (s : ByteArray) : ∀ (n j k : Nat), k ≤ n → (∀ i, i < k → canCut s (j + i) = false) → cutFrom s n j = cutFrom s (n - k) (j + k) := by
  intro n j k
  induction k generalizing n j with
  | zero => intro _ _; rfl
  | succ k ih =>
    intro hk h
    obtain ⟨m, rfl⟩ : ∃ m, n = m + 1 := ⟨n - 1, by omega⟩
    have h0 := h 0 (by omega)
    rw [Nat.add_zero] at h0
    rw [cutFrom, h0]
    simp only [Bool.false_eq_true, if_false]
    rw [ih m (j + 1) (by omega) (fun i hi => by have := h (i + 1) (by omega); rwa [show j + (i + 1) = j + 1 + i from by omega] at this)]
    rw [show m + 1 - (k + 1) = m - k from by omega, show j + 1 + k = j + (k + 1) from by omega]
theorem once_at {s : ByteArray} {k : Nat} (hk : k < 5) (h : allN k (fun j => !canCut s j) = true) (hc : canCut s k = true) : onceB s = cutAt s k := by
  rw [allN_iff] at h
  rw [onceB, cutFrom_eq s 5 0 k (by omega) (fun i hi => by simpa using h i hi), show 5 - k = (4 - k) + 1 from by omega, cutFrom, Nat.zero_add, hc, if_pos rfl]
theorem once_none {s : ByteArray} (h : allN 5 (fun j => !canCut s j) = true) : onceB s = s := by
  rw [allN_iff] at h
  rw [onceB, cutFrom_eq s 5 0 5 (by omega) (fun i hi => by simpa using h i hi)]; rfl
theorem canCut_size {s : ByteArray} {k : Nat} (h : canCut s k = true) : 3 + (nthS endsL k).size ≤ s.size := by
  simp only [canCut, Bool.and_eq_true, decide_eq_true_eq] at h; exact h.2
theorem once_or (s : ByteArray) : onceB s = s ∨ (onceB s).size < s.size := by
  by_cases h : allN 5 (fun j => !canCut s j) = true
  · exact .inl (once_none h)
  · right
    have h' : ∃ k, k < 5 ∧ canCut s k = true ∧ allN k (fun j => !canCut s j) = true := by
      apply Classical.byContradiction
      intro hn
      apply h
      have : ∀ m, m ≤ 5 → allN m (fun j => !canCut s j) = true := by
        intro m
        induction m with
        | zero => intro _; rfl
        | succ m ih =>
          intro hm
          refine allN_step (ih (by omega)) ?_
          cases hc : canCut s m
          · rfl
          · exact absurd ⟨m, by omega, hc, ih (by omega)⟩ hn
      exact this 5 (Nat.le_refl _)
    obtain ⟨k, hk, hc, ha⟩ := h'
    have h1 := canCut_size hc
    have h2 := ends_size k hk
    rw [once_at hk ha hc, cutAt_size]
    omega
theorem stemN_fix {s : ByteArray} (h : onceB s = s) : ∀ n, stemN n s = s := by
  intro n; induction n with
  | zero => rfl
  | succ n ih => rw [stemN, h, ih]
theorem stemN_more : ∀ (n : Nat) (s : ByteArray), s.size ≤ n → stemN (n + 1) s = stemN n s := by
  intro n; induction n with
  | zero =>
    intro s hs
    have : onceB s = s := by rcases once_or s with h | h; exact h; omega
    rw [stemN_fix this, stemN_fix this]
  | succ n ih =>
    intro s hs
    rcases once_or s with h | h
    · rw [stemN_fix h, stemN_fix h]
    · rw [stemN, ih _ (by omega)]; rfl
theorem stemN_big (s : ByteArray) : ∀ (n : Nat), s.size ≤ n → stemN n s = stemB s := by
  intro n h
  obtain ⟨d, rfl⟩ : ∃ d, n = s.size + d := ⟨n - s.size, by omega⟩
  clear h
  induction d with
  | zero => rfl
  | succ d ih => rw [← Nat.add_assoc, stemN_more _ _ (by omega), ih]
theorem stemB_once (s : ByteArray) : stemB (onceB s) = stemB s := by
  rcases once_or s with h | h
  · rw [h]
  · have : stemN (s.size + 1) s = stemN s.size (onceB s) := rfl
    rw [stemN_big s _ (by omega), stemN_big (onceB s) _ (by omega)] at this
    exact this.symm
theorem stemB_fix {s : ByteArray} (h : onceB s = s) : stemB s = s := stemN_fix h _

def szV : Value → Nat | .string s => s.size | _ => 0
def flV : Value → Nat | .bool true => 1 | _ => 0
def EndsAt (w : World) (g : Nat) : Prop := ∀ j, j < 5 → w.cell? ⟨g, j, none⟩ = some (.string (nthS endsL j))
theorem ends_made (w : World) : EndsAt (w.alloc (.cells #[.string ⟨#[105, 110, 103]⟩, .string ⟨#[101, 100]⟩, .string ⟨#[101, 115]⟩, .string ⟨#[108, 121]⟩, .string ⟨#[115]⟩] 9)) w.heap.size := by
  intro j hj
  rw [World.cell?_alloc_at _ _ _ _ rfl]
  match j, hj with
  | 0, _ => rfl
  | 1, _ => rfl
  | 2, _ => rfl
  | 3, _ => rfl
  | 4, _ => rfl
end Go.Proofs.Ytoljjhhomklcbaa
