/- Numbers are read back from their bits: plain laws. Conditions: numbers that are not too great. -/
import Derived.Test.YtoljjhhomklcbaaVarLaw
import Derived.Test.YtoljjhhomklcbaaPackGet
namespace Go.Proofs.Ytoljjhhomklcbaa
open Go.RowKit

theorem tb_bit {v : Nat} (hv : v < 2) (c b : Nat) : (v * 2 ^ c).testBit b = (decide (b = c) && decide (v = 1)) := by
  rw [Nat.testBit_mul_two_pow]
  rcases (show v = 0 ∨ v = 1 by omega) with rfl | rfl
  · simp
  · by_cases h : b = c
    · subst h; simp
    · by_cases h2 : c ≤ b
      · have h3 : b - c ≠ 0 := by omega
        have h4 : Nat.testBit 1 (b - c) = false := by rw [Nat.testBit_eq_decide_div_mod_eq, Nat.div_eq_of_lt (Nat.one_lt_two_pow h3)]; rfl
        simp [h, h4]
      · simp [h, h2]
theorem tb_dec (x b : Nat) : x / 2 ^ b % 2 = (x.testBit b).toNat := by
  rw [Nat.testBit_eq_decide_div_mod_eq]
  have : x / 2 ^ b % 2 < 2 := Nat.mod_lt _ (by decide)
  by_cases h : x / 2 ^ b % 2 = 1
  · simp [h]
  · have h0 : x / 2 ^ b % 2 = 0 := by omega
    simp [h0]
theorem byteAt_tb (W : Nat) (xs : List Int) : ∀ t j b, b < 8 → (byteAt W xs t j).testBit b = (decide (8 * j + b < t) && decide (nthBit W xs (8 * j + b) = 1)) := by
  intro t
  induction t with
  | zero => intro j b _; simp [byteAt]
  | succ t ih =>
    intro j b hb
    rw [byteAt]
    by_cases h : j = t / 8
    · rw [if_pos h, Nat.testBit_or, ih j b hb, tb_bit (show nthBit W xs t < 2 from bitI_lt _ _)]
      by_cases h2 : 8 * j + b < t
      · have h3 : ¬ b = t % 8 := by omega
        simp [h2, h3, show 8 * j + b < t + 1 by omega]
      · by_cases h3 : b = t % 8
        · have h4 : 8 * j + b = t := by omega
          rw [show nthBit W xs (8 * j + b) = nthBit W xs t by rw [h4]]
          simp [h3, show 8 * j + t % 8 < t + 1 by omega]
        · simp [h2, h3, show ¬ 8 * j + b < t + 1 by omega]
    · rw [if_neg h, ih j b hb]
      congr 1
      exact decide_eq_decide.2 (by omega)
theorem byteAt_bit {W : Nat} {xs : List Int} {T i : Nat} (h : i < T) : byteAt W xs T (i / 8) / 2 ^ (i % 8) % 2 = nthBit W xs i := by
  have hv : nthBit W xs i < 2 := bitI_lt _ _
  rw [tb_dec, byteAt_tb W xs T (i / 8) (i % 8) (by omega), show 8 * (i / 8) + i % 8 = i by omega]
  rcases (show nthBit W xs i = 0 ∨ nthBit W xs i = 1 by omega) with h1 | h1
  · simp [h1]
  · simp [h1, h]
theorem byN_pack {W : Nat} {xs : List Int} {T : Nat} (A : ByteArray) {j : Nat} (h : j < (T + 7) / 8) : byN (A ++ strOfNums (packB W xs T)) (A.size + j) = byteAt W xs T j := by
  rw [byN_app_r, byN_nums (by rw [packB_len]; exact h) (fun x hx => by
    simp only [packB, List.mem_map] at hx
    obtain ⟨i, _, rfl⟩ := hx
    have := byteAt_lt W xs T i
    omega)]
  simp [packB, List.getD, h]
theorem numB_is {u : ByteArray} {o B x : Nat} : ∀ j, (∀ i, i < j → bitS u o (B + i) = x / 2 ^ i % 2) → numB u o B j = x % 2 ^ j := by
  intro j
  induction j with
  | zero => intro _; rw [numB, Nat.pow_zero, Nat.mod_one]
  | succ j ih =>
    intro h
    have h1 := ih fun i hi => h i (by omega)
    rw [numB, or_above _ _ _ (numB_lt u o B j), h1, h j (by omega), Nat.mod_pow_succ, Nat.mul_comm]
theorem maxTo_ge (xs : List Int) : ∀ n k, k < n → (nthI xs k).toNat ≤ maxTo xs n := by
  intro n
  induction n with
  | zero => intro k h; omega
  | succ n ih =>
    intro k h
    show _ ≤ max _ _
    rcases Nat.lt_or_ge k n with h1 | h1
    · have := ih k h1; omega
    · obtain rfl : k = n := by omega
      omega
theorem packPut_parts {n : Nat} {xs : List Int} (h : ¬ packWidth n xs < 0) : ∃ W : Nat, packWidth n xs = W ∧ n ≤ 60 ∧ numsOk n xs = true ∧ W ≤ 30 ∧ W = blen (maxTo xs n) ∧ packPut n xs = varS n ++ varS W ++ strOfNums (packB W xs (n * W)) := by
  obtain ⟨hn60, hnum, W, hW, hW30⟩ := packWidth_yes h
  refine ⟨W, hW, hn60, hnum, hW30, ?_, by rw [packPut, if_neg h, hW]; rfl⟩
  have h2 := hW
  unfold packWidth at h2
  rw [hnum, decide_eq_true hn60] at h2
  simp only [Bool.and_self, if_true] at h2
  omega
theorem packPut_len {n : Nat} {xs : List Int} (h : ¬ packWidth n xs < 0) : ((packPut n xs).size : Int) = 2 + ((n : Int) * packWidth n xs + 7) / 8 := by
  obtain ⟨W, hW, hn60, hnum, hW30, _, hp⟩ := packPut_parts h
  rw [hp, hW, ByteArray.size_append, ByteArray.size_append, varS_one (by omega), varS_one (by omega), strOfNums_size, packB_len]
  have : (n : Int) * (W : Int) = ((n * W : Nat) : Int) := by rw [Int.natCast_mul]
  rw [this]; omega
theorem unpack_pack {n : Nat} {xs : List Int} (hl : xs.length = n) (h : ¬ packWidth n xs < 0) {W : Nat} (hW : packWidth n xs = W) : unpack (packPut n xs) 2 W n = xs := by
  obtain ⟨W', hW', hn60, hnum, hW30, hbl, hp⟩ := packPut_parts h
  obtain rfl : W' = W := by omega
  have hA : (varS n ++ varS W').size = 2 := by rw [ByteArray.size_append, varS_one (by omega), varS_one (by omega)]
  refine List.ext_getElem (by rw [unpack_len, hl]) fun k hk hk2 => ?_
  rw [unpack_len] at hk
  obtain ⟨x, hx, hx9⟩ := nums_nat hnum hk
  have hmul : k * W' + W' ≤ n * W' := by rw [← Nat.succ_mul]; exact Nat.mul_le_mul_right _ hk
  have hlt : x < 2 ^ W' := by
    have h1 := maxTo_ge xs n k hk
    rw [hx, Int.toNat_natCast] at h1
    have h2 := (blen_le W' (maxTo xs n)).1 (by omega)
    omega
  have hb : ∀ i, i < W' → bitS (packPut n xs) 2 (k * W' + i) = x / 2 ^ i % 2 := fun i hi => by
    have hj : (k * W' + i) / 8 < (n * W' + 7) / 8 := by omega
    have h3 := byN_pack (W := W') (xs := xs) (T := n * W') (varS n ++ varS W') hj
    rw [hA] at h3
    rw [bitS, hp, h3, byteAt_bit (by omega), nthBit_at xs hi, hx]
    unfold bitI
    rw [Int.toNat_natCast]
  have hn := numB_is (u := packPut n xs) (o := 2) (B := k * W') (x := x) W' hb
  rw [Nat.mod_eq_of_lt hlt] at hn
  simp only [unpack, List.getElem_map, List.getElem_range, hn]
  rw [← hx, nthI_eq hk2]
/-- Numbers are read back from their bits. -/
theorem packGet_put {n : Nat} {xs : List Int} (hl : xs.length = n) (h : ¬ packWidth n xs < 0) : packGet (packPut n xs) = (xs, true) := by
  obtain ⟨W, hW, hn60, hnum, hW30, hbl, hp⟩ := packPut_parts h
  have hu := unpack_pack hl h hW
  have hz := packPut_len h
  rw [hW] at hz
  have hwn : (n : Int) * (W : Int) = ((n * W : Nat) : Int) := by rw [Int.natCast_mul]
  rw [hwn] at hz
  have hv : varGet (packPut n xs) = (n, 1) := by
    rw [hp, ba_append_assoc, varGet_var (by omega), varS_one (by omega)]
  have hv2 : vgAt (packPut n xs) 1 = (W, 1) := by
    have h1 := vgAt_var (n := W) (by omega) (varS n) (strOfNums (packB W xs (n * W)))
    rw [varS_one (by omega), varS_one (by omega), ← ba_append_assoc, ← hp] at h1
    exact h1
  rw [packGet, hv]
  simp only
  rw [if_neg (by omega), hv2]
  simp only
  rw [if_neg (by omega), hu, if_pos rfl]
theorem packGet_is {t : ByteArray} (h : (packGet t).2 = true) : packPut (packGet t).1.length (packGet t).1 = t := by
  unfold packGet at h ⊢
  split at h
  · cases h
  · rename_i h1
    split at h
    · cases h
    · rename_i h2
      split at h
      · rename_i h3
        rw [if_neg h1, if_neg h2, if_pos h3]
        simp only [unpack_len]
        exact h3
      · cases h
/-- So wide that the greatest has room, and no wider. -/
theorem width_room {n k W : Nat} {xs : List Int} (hW : packWidth n xs = W) (hk : k < n) : (nthI xs k).toNat < 2 ^ W := by
  have h : ¬ packWidth n xs < 0 := by omega
  obtain ⟨W', hW', _, _, _, hbl, _⟩ := packPut_parts h
  have h1 := maxTo_ge xs n k hk
  have h2 := (blen_le W' (maxTo xs n)).1 (by omega)
  obtain rfl : W' = W := by omega
  omega
theorem maxTo_at (xs : List Int) : ∀ n, maxTo xs n = 0 ∨ ∃ k, k < n ∧ (nthI xs k).toNat = maxTo xs n := by
  intro n
  induction n with
  | zero => exact .inl rfl
  | succ n ih =>
    show max _ _ = 0 ∨ ∃ k, k < n + 1 ∧ _ = max _ _
    rcases Nat.le_total (maxTo xs n) (nthI xs n).toNat with h | h
    · exact .inr ⟨n, by omega, by omega⟩
    · rcases ih with h1 | ⟨k, hk, h1⟩
      · exact .inl (by omega)
      · exact .inr ⟨k, by omega, by omega⟩
theorem width_least {n W : Nat} {xs : List Int} (hW : packWidth n xs = W) (h0 : 0 < W) : ∃ k, k < n ∧ 2 ^ (W - 1) ≤ (nthI xs k).toNat := by
  have h : ¬ packWidth n xs < 0 := by omega
  obtain ⟨W', hW', _, _, _, hbl, _⟩ := packPut_parts h
  obtain rfl : W' = W := by omega
  have h2 : ¬ maxTo xs n < 2 ^ (W' - 1) := fun hc => by
    have := (blen_le (W' - 1) (maxTo xs n)).2 hc; omega
  rcases maxTo_at xs n with h1 | ⟨k, hk, h1⟩
  · have : 0 < 2 ^ (W' - 1) := Nat.pow_pos (by decide)
    omega
  · exact ⟨k, hk, by omega⟩
end Go.Proofs.Ytoljjhhomklcbaa
