/- How far words are: the same both ways, no way round is shorter; one byte more, less or turned is one far: plain laws. No condition. -/
import Derived.Test.YtoljjhhomklcbaaNear
namespace Go.Proofs.Ytoljjhhomklcbaa
open Go.RowKit

theorem lev_ss (a b : Nat → Int) (i j : Nat) : lev a b (i + 1) (j + 1) = min (lev a b i j + (if a i = b j then 0 else 1)) (min (lev a b i (j + 1) + 1) (lev a b (i + 1) j + 1)) := rfl
theorem lev_0 (a b : Nat → Int) (j : Nat) : lev a b 0 j = j := rfl
theorem lev_sym (a b : Nat → Int) : ∀ i j, lev a b i j = lev b a j i := by
  intro i
  induction i with
  | zero => intro j; rw [lev_0, lev_zero]
  | succ i ih =>
    intro j
    induction j with
    | zero => rw [lev_0, lev_zero]
    | succ j ihj =>
      rw [lev_ss, lev_ss, ih j, ih (j + 1), ihj]
      by_cases h : a i = b j
      · rw [if_pos h, if_pos h.symm]; omega
      · rw [if_neg h, if_neg (fun e => h e.symm)]; omega
theorem lev_bd (a b : Nat → Int) : ∀ i j, i ≤ lev a b i j + j ∧ j ≤ lev a b i j + i ∧ lev a b i j ≤ max i j := by
  intro i
  induction i with
  | zero => intro j; rw [lev_0]; omega
  | succ i ih =>
    intro j
    induction j with
    | zero => rw [lev_zero]; omega
    | succ j ihj =>
      have h1 := ih j
      have h2 := ih (j + 1)
      rw [lev_ss]
      split <;> omega
theorem lev_nought (a b : Nat → Int) : ∀ i j, lev a b i j = 0 → i = j ∧ ∀ k, k < i → a k = b k := by
  intro i
  induction i with
  | zero => intro j h; rw [lev_0] at h; exact ⟨h.symm, fun k hk => by omega⟩
  | succ i ih =>
    intro j h
    cases j with
    | zero => rw [lev_zero] at h; omega
    | succ j =>
      rw [lev_ss] at h
      by_cases he : a i = b j
      · rw [if_pos he] at h
        obtain ⟨h1, h2⟩ := ih j (by omega)
        subst h1
        refine ⟨rfl, fun k hk => ?_⟩
        rcases Nat.lt_or_ge k i with h3 | h3
        · exact h2 k h3
        · obtain rfl : k = i := by omega
          exact he
      · rw [if_neg he] at h; omega
theorem lev_same (a b : Nat → Int) : ∀ i, (∀ k, k < i → a k = b k) → lev a b i i = 0 := by
  intro i
  induction i with
  | zero => intro _; rfl
  | succ i ih =>
    intro h
    rw [lev_ss, ih (fun k hk => h k (by omega)), if_pos (h i (by omega))]
    omega
theorem lev_tri (a b c : Nat → Int) : ∀ n i k j, i + k + j = n → lev a b i j ≤ lev a c i k + lev c b k j := by
  intro n
  induction n using Nat.strongRecOn with
  | ind n ih =>
    intro i k j hn
    cases i with
    | zero =>
      have := (lev_bd c b k j).2.1
      rw [lev_0, lev_0]; omega
    | succ i =>
      cases j with
      | zero =>
        have := (lev_bd a c (i + 1) k).1
        rw [lev_zero, lev_zero]; omega
      | succ j =>
        cases k with
        | zero =>
          have := (lev_bd a b (i + 1) (j + 1)).2.2
          rw [lev_zero, lev_0]; omega
        | succ k =>
          have t1 := ih (i + k + j) (by omega) i k j rfl
          have t2 := ih (i + (k + 1) + (j + 1)) (by omega) i (k + 1) (j + 1) rfl
          have t3 := ih (i + 1 + (k + 1) + j) (by omega) (i + 1) (k + 1) j rfl
          have t4 := ih (i + 1 + k + (j + 1)) (by omega) (i + 1) k (j + 1) rfl
          have t5 := ih (i + 1 + k + j) (by omega) (i + 1) k j rfl
          have t6 := ih (i + k + (j + 1)) (by omega) i k (j + 1) rfl
          have e1 := lev_ss a b i j
          have e2 := lev_ss a c i k
          have e3 := lev_ss c b k j
          by_cases h1 : a i = c k
          · rw [if_pos h1] at e2
            by_cases h2 : c k = b j
            · rw [if_pos h2] at e3
              rw [if_pos (h1.trans h2)] at e1
              omega
            · rw [if_neg h2] at e3
              split at e1 <;> omega
          · rw [if_neg h1] at e2
            split at e1 <;> split at e3 <;> omega
/-- One byte put in at k. -/
theorem lev_ins (a w : Nat → Int) (k : Nat) : ∀ n, (∀ j, j < k → a j = w j) → (∀ j, k ≤ j → j < n → a j = w (j + 1)) → k ≤ n → lev a w n (n + 1) ≤ 1 := by
  intro n h0 h1 hk
  obtain ⟨d, rfl⟩ : ∃ d, n = k + d := ⟨n - k, by omega⟩
  clear hk
  induction d with
  | zero =>
    have e := lev_same a w k h0
    cases k with
    | zero => rw [Nat.zero_add, lev_0]; omega
    | succ k =>
      have e2 := lev_ss a w k (k + 1)
      show lev a w (k + 1) (k + 1 + 1) ≤ 1
      split at e2 <;> omega
  | succ d ih =>
    have h2 := ih fun j h3 h4 => h1 j h3 (by omega)
    have e2 := lev_ss a w (k + d) (k + d + 1)
    rw [if_pos (h1 (k + d) (by omega) (by omega))] at e2
    show lev a w (k + d + 1) (k + d + 1 + 1) ≤ 1
    omega
/-- One byte turned at k. -/
theorem lev_turn (a w : Nat → Int) (k : Nat) : ∀ n, (∀ j, j < n → j ≠ k → a j = w j) → lev a w n n ≤ 1 := by
  intro n
  induction n with
  | zero => intro _; rw [lev_0]; omega
  | succ n ih =>
    intro h
    by_cases hk : n ≤ k
    · have e := lev_same a w n fun j hj => h j (by omega) (by omega)
      have e2 := lev_ss a w n n
      split at e2 <;> omega
    · have h2 := ih fun j h3 h4 => h j (by omega) h4
      have e2 := lev_ss a w n n
      rw [if_pos (h n (by omega) (by omega))] at e2
      omega
theorem byI_ext {a b : ByteArray} (h : a.size = b.size) (h1 : ∀ k, k < a.size → byI a k = byI b k) : a = b := by
  refine ByteArray.ext (Array.ext (by simpa using h) fun k hk hk2 => ?_)
  have hk' : k < a.size := hk
  have hk2' : k < b.size := hk2
  have h3 := h1 k hk'
  rw [← byI_get a k hk', ← byI_get b k hk2'] at h3
  have h4 : a[k].toNat = b[k].toNat := by omega
  exact UInt8.toNat_inj.1 h4
theorem farI_nn (a b : ByteArray) : 0 ≤ farI a b := (levI_bd a b _ _).1
theorem farI_sym (a b : ByteArray) : farI a b = farI b a := by unfold farI levI; rw [lev_sym]
theorem farI_zero (a b : ByteArray) : farI a b = 0 ↔ a = b := by
  unfold farI levI
  constructor
  · intro h
    obtain ⟨h1, h2⟩ := lev_nought (byI a) (byI b) a.size b.size (by omega)
    exact byI_ext h1 h2
  · intro h; subst h
    rw [lev_same _ _ _ fun _ _ => rfl]; rfl
theorem farI_bd (a b : ByteArray) : farI a b ≤ max a.size b.size ∧ (a.size : Int) - b.size ≤ farI a b ∧ (b.size : Int) - a.size ≤ farI a b := by
  have := lev_bd (byI a) (byI b) a.size b.size
  unfold farI levI; omega
theorem farI_tri (a b c : ByteArray) : farI a b ≤ farI a c + farI c b := by
  have := lev_tri (byI a) (byI b) (byI c) _ a.size c.size b.size rfl
  unfold farI levI; omega
theorem nearFar_words {a b : ByteArray} (ha : wordOk a = true) (hb : wordOk b = true) : nearFar a b = farI a b := by rw [nearFar, ha, hb]; rfl
theorem nearFar_yes {a b : ByteArray} (h : ¬ nearFar a b < 0) : wordOk a = true ∧ wordOk b = true := by
  unfold nearFar at h
  split at h
  · rename_i h1; simpa only [Bool.and_eq_true] using h1
  · omega
end Go.Proofs.Ytoljjhhomklcbaa
