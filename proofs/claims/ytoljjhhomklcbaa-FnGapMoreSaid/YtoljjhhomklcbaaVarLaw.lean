/- Numbers and lists of numbers are read back from their bytes; what is read is written just so: plain laws. Conditions: numbers that are not too great. -/
import Derived.Test.YtoljjhhomklcbaaGapGet
namespace Go.Proofs.Ytoljjhhomklcbaa
open Go.RowKit

theorem byN_list (s : ByteArray) (k : Nat) : byN s k = ((s.data.toList[k]?).map UInt8.toNat).getD 0 := by
  unfold byN; split
  · rename_i h; rw [List.getElem?_eq_getElem (by simpa using h)]; rfl
  · rename_i h; rw [List.getElem?_eq_none (by simpa using h)]; rfl
theorem byN_app_l {A B : ByteArray} {k : Nat} (h : k < A.size) : byN (A ++ B) k = byN A k := by
  rw [byN_list, byN_list, ByteArray.data_append, Array.toList_append, List.getElem?_append_left (by simpa using h)]
theorem byN_app_r {A B : ByteArray} {k : Nat} : byN (A ++ B) (A.size + k) = byN B k := by
  rw [byN_list, byN_list, ByteArray.data_append, Array.toList_append, List.getElem?_append_right (by simp)]; simp
theorem byN_nums {L : List Int} {k : Nat} (h : k < L.length) (h1 : ∀ x ∈ L, 0 ≤ x ∧ x < 256) : byN (strOfNums L) k = (L.getD k 0).toNat := by
  have h2 := h1 L[k] (List.getElem_mem h)
  rw [byN_list, strOfNums_data, List.getElem?_map, List.getElem?_eq_getElem h, List.getD_eq_getElem?_getD, List.getElem?_eq_getElem h]
  simp only [Option.map_some, Option.getD_some, UInt8.toNat_ofNat']
  omega
theorem byN_out {s : ByteArray} {k : Nat} (h : s.size ≤ k) : byN s k = 0 := by rw [byN, dif_neg (by omega)]
theorem ba_ext {a b : ByteArray} (h : a.size = b.size) (h1 : ∀ k, k < a.size → byN a k = byN b k) : a = b := by
  refine ByteArray.ext (Array.ext (by simpa using h) fun k hk hk2 => ?_)
  have hk' : k < a.size := hk
  have hk2' : k < b.size := hk2
  have h3 := h1 k hk'
  rw [byN, dif_pos hk', byN, dif_pos hk2'] at h3
  exact UInt8.toNat_inj.1 h3
theorem byN_extract {t : ByteArray} {a b k : Nat} (hb : b ≤ t.size) (hk : a + k < b) : byN (t.extract a b) k = byN t (a + k) := by
  unfold byN
  have h1 : k < (t.extract a b).size := by simp only [ByteArray.size_extract]; omega
  rw [dif_pos h1, dif_pos (by omega), ByteArray.getElem_extract]
theorem ext_app (A B : ByteArray) : (A ++ B).extract A.size (A ++ B).size = B := by
  refine ba_ext (by simp only [ByteArray.size_extract, ByteArray.size_append]; omega) fun k hk => ?_
  simp only [ByteArray.size_extract, ByteArray.size_append] at hk
  rw [byN_extract (Nat.le_refl _) (by rw [ByteArray.size_append]; omega), byN_app_r]
theorem ext_head (A B : ByteArray) : (A ++ B).extract 0 A.size = A := by
  refine ba_ext (by simp only [ByteArray.size_extract, ByteArray.size_append]; omega) fun k hk => ?_
  simp only [ByteArray.size_extract, ByteArray.size_append] at hk
  rw [byN_extract (by rw [ByteArray.size_append]; omega) (by omega), Nat.zero_add, byN_app_l (by omega)]
theorem ext_join {t : ByteArray} {a b : Nat} (h : a ≤ b) (hb : b ≤ t.size) : t.extract 0 a ++ t.extract a b = t.extract 0 b := by
  refine ba_ext (by simp only [ByteArray.size_extract, ByteArray.size_append]; omega) fun k hk => ?_
  simp only [ByteArray.size_extract, ByteArray.size_append] at hk
  have hz : (t.extract 0 a).size = a := by simp only [ByteArray.size_extract]; omega
  rw [byN_extract hb (by omega), Nat.zero_add]
  rcases Nat.lt_or_ge k a with h1 | h1
  · rw [byN_app_l (by omega), byN_extract (by omega) (by omega), Nat.zero_add]
  · obtain ⟨j, rfl⟩ : ∃ j, k = a + j := ⟨k - a, by omega⟩
    have := byN_app_r (A := t.extract 0 a) (B := t.extract a b) (k := j)
    rw [hz] at this
    rw [this, byN_extract hb (by omega)]
theorem ext_ext {t : ByteArray} {a e : Nat} (h : a + e ≤ t.size) : (t.extract a t.size).extract 0 e = t.extract a (a + e) := by
  refine ba_ext (by simp only [ByteArray.size_extract]; omega) fun k hk => ?_
  simp only [ByteArray.size_extract] at hk
  rw [byN_extract (by simp only [ByteArray.size_extract]; omega) (by omega), Nat.zero_add, byN_extract (Nat.le_refl _) (by omega), byN_extract h (by omega)]

theorem varI_byte : ∀ n : Nat, ∀ x ∈ varI n, 0 ≤ x ∧ x < 256 := by
  intro n
  induction n using Nat.strongRecOn with
  | ind n ih =>
    by_cases h : n < 128
    · rw [varI_small h]; intro x hx; simp at hx; subst hx; omega
    · rw [varI_big h]; intro x hx
      rcases List.mem_cons.1 hx with h1 | h1
      · subst h1; omega
      · exact ih (n / 128) (by omega) x h1
theorem varI_pos (n : Nat) : 0 < (varI n).length := by
  by_cases h : n < 128
  · rw [varI_small h]; simp
  · rw [varI_big h]; simp
theorem mul_split (m u : Nat) : m / 128 * (u * 128) + m % 128 * u = m * u := by
  have h : m * u = (128 * (m / 128) + m % 128) * u := by rw [Nat.div_add_mod]
  rw [h, Nat.add_mul]
  congr 1
  rw [Nat.mul_comm u 128, ← Nat.mul_assoc, Nat.mul_comm (m / 128) 128]
/-- What is written is read. -/
theorem vgF_var (s : ByteArray) : ∀ (m f k : Nat), (∀ j, j < (varI m).length → k + j < s.size ∧ byN s (k + j) = ((varI m).getD j 0).toNat) → (varI m).length ≤ f → pv s k + m * 128 ^ k ≤ 999999999 → (k = 0 ∨ 0 < m) → vgF s f k = (pv s k + m * 128 ^ k, k + (varI m).length) := by
  intro m
  induction m using Nat.strongRecOn with
  | ind m ih =>
    intro f k hb hf hp hk
    obtain ⟨f, rfl⟩ : ∃ f', f = f' + 1 := ⟨f - 1, by have := varI_pos m; omega⟩
    by_cases h : m < 128
    · obtain ⟨h1, h2⟩ := hb 0 (varI_pos m)
      rw [varI_small h] at h2 ⊢
      rw [Nat.add_zero] at h1 h2
      have h3 : byN s k = m := by rw [h2]; simp
      have h4 : pv s (k + 1) = pv s k + m * 128 ^ k := by rw [pv_succ, h3, Nat.mod_eq_of_lt h]
      have h5 : vgBad s k = false := by
        unfold vgBad; rw [h3, h4]
        simp only [Bool.or_eq_false_iff, Bool.and_eq_false_iff, decide_eq_false_iff_not]
        omega
      rw [vgF_good h1 (by omega) h5, h4]; rfl
    · obtain ⟨h1, h2⟩ := hb 0 (varI_pos m)
      rw [varI_big h] at h2 hb hf ⊢
      rw [Nat.add_zero] at h1 h2
      have h3 : byN s k = m % 128 + 128 := by rw [h2]; simp; omega
      have h4 : pv s (k + 1) = pv s k + m % 128 * 128 ^ k := by rw [pv_succ, h3]; congr 2; omega
      have h5 := mul_split m (128 ^ k)
      rw [vgF_more h1 (by omega)]
      have hih := ih (m / 128) (by omega) f (k + 1) (fun j hj => by
        have := hb (j + 1) (by simp only [List.length_cons]; omega)
        rw [show k + 1 + j = k + (j + 1) by omega]
        exact this) (by simp only [List.length_cons] at hf; omega) (by rw [h4, Nat.pow_succ]; omega) (.inr (by omega))
      rw [hih, h4, Nat.pow_succ]
      refine Prod.ext ?_ ?_
      · show _ + _ = _; omega
      · show _ + _ = _; simp only [List.length_cons]; omega
theorem varGet_var {n : Nat} (h : n ≤ 999999999) (u : ByteArray) : varGet (varS n ++ u) = (n, (varS n).size) := by
  have hl : (varI n).length ≤ 5 := varI_le 5 n (by omega) (Nat.lt_of_le_of_lt h (by decide))
  have := vgF_var (varS n ++ u) n 5 0 (fun j hj => by
    rw [Nat.zero_add]
    refine ⟨by rw [ByteArray.size_append, varS_size]; omega, ?_⟩
    rw [byN_app_l (by rw [varS_size]; exact hj)]
    exact byN_nums hj (varI_byte n)) hl (by show 0 + n * 1 ≤ _; omega) (.inl rfl)
  rw [varGet, this, varS_size]
  refine Prod.ext ?_ ?_
  · show 0 + n * 1 = n; omega
  · show 0 + _ = _; omega
theorem vgAt_var {n : Nat} (h : n ≤ 999999999) (A u : ByteArray) : vgAt (A ++ (varS n ++ u)) A.size = (n, (varS n).size) := by
  rw [vgAt, ext_app, varGet_var h]

/-- The number that d groups from k on are. -/
def tv (s : ByteArray) : Nat → Nat → Nat
  | 0, _ => 0
  | d + 1, k => byN s k % 128 + 128 * tv s d (k + 1)
theorem pv_tv (s : ByteArray) : ∀ d k, pv s (k + d) = pv s k + 128 ^ k * tv s d k := by
  intro d
  induction d with
  | zero => intro k; simp [tv]
  | succ d ih =>
    intro k
    rw [show k + (d + 1) = (k + 1) + d by omega, ih, pv_succ, tv, Nat.pow_succ, Nat.mul_add, Nat.mul_comm (byN s k % 128), Nat.mul_assoc, Nat.add_assoc]
theorem vgF_inv (s : ByteArray) : ∀ (f k v e : Nat), vgF s f k = (v, e) → e ≠ 0 → ∃ d, d < f ∧ e = k + d + 1 ∧ v = pv s e ∧ e ≤ s.size ∧ (∀ j, j < d → 128 ≤ byN s (k + j)) ∧ byN s (k + d) < 128 ∧ vgBad s (k + d) = false := by
  intro f
  induction f with
  | zero => intro k v e h h0; simp only [vgF, Prod.mk.injEq] at h; omega
  | succ f ih =>
    intro k v e h h0
    by_cases h1 : k < s.size
    · by_cases h2 : byN s k < 128
      · cases hb : vgBad s k
        · rw [vgF_good h1 h2 hb] at h
          simp only [Prod.mk.injEq] at h
          exact ⟨0, by omega, by omega, by rw [← h.1, ← h.2], by omega, fun j hj => by omega, h2, hb⟩
        · rw [vgF_bad h1 h2 hb] at h
          simp only [Prod.mk.injEq] at h; omega
      · rw [vgF_more h1 h2] at h
        obtain ⟨d, hd, he, hv, hs, hj, hl, hb⟩ := ih _ _ _ h h0
        refine ⟨d + 1, by omega, by omega, hv, hs, fun j hj' => ?_, by rw [show k + (d + 1) = k + 1 + d by omega]; exact hl, by rw [show k + (d + 1) = k + 1 + d by omega]; exact hb⟩
        rcases Nat.eq_zero_or_pos j with rfl | hp
        · rw [Nat.add_zero]; omega
        · have := hj (j - 1) (by omega)
          rwa [show k + 1 + (j - 1) = k + j by omega] at this
    · rw [vgF_end (by omega)] at h
      simp only [Prod.mk.injEq] at h; omega
theorem tv_pos (s : ByteArray) : ∀ d k, 0 < byN s (k + d) → byN s (k + d) < 128 → 0 < tv s (d + 1) k := by
  intro d
  induction d with
  | zero => intro k h h1; rw [tv, tv]; rw [Nat.add_zero] at h h1; omega
  | succ d ih =>
    intro k h h1
    have := ih (k + 1) (by rwa [show k + 1 + d = k + (d + 1) by omega]) (by rwa [show k + 1 + d = k + (d + 1) by omega])
    rw [tv]; omega
theorem varI_tv (s : ByteArray) : ∀ d k, (∀ j, j < d → 128 ≤ byN s (k + j)) → byN s (k + d) < 128 → (d = 0 ∨ 0 < byN s (k + d)) → varI (tv s (d + 1) k) = (List.range (d + 1)).map fun j => ((byN s (k + j) : Nat) : Int) := by
  intro d
  induction d with
  | zero =>
    intro k _ h _
    rw [Nat.add_zero] at h
    have e : tv s 1 k = byN s k := by rw [tv, tv]; omega
    rw [e, varI_small h]; simp [List.range_succ]
  | succ d ih =>
    intro k hj hl h0
    have e1 : k + 1 + d = k + (d + 1) := by omega
    have hp := tv_pos s d (k + 1) (by rw [e1]; omega) (by rw [e1]; exact hl)
    have hih := ih (k + 1) (fun j h => by have := hj (j + 1) (by omega); rwa [show k + (j + 1) = k + 1 + j by omega] at this) (by rw [e1]; exact hl) (.inr (by rw [e1]; omega))
    have hb := byN_lt s k
    have hb2 := hj 0 (by omega)
    rw [Nat.add_zero] at hb2
    have e2 : tv s (d + 1 + 1) k = byN s k % 128 + 128 * tv s (d + 1) (k + 1) := rfl
    rw [e2, varI_big (by omega), show (byN s k % 128 + 128 * tv s (d + 1) (k + 1)) / 128 = tv s (d + 1) (k + 1) by omega, hih, List.range_succ_eq_map (n := d + 1), List.map_cons, List.map_map]
    congr 1
    · show ((_ : Nat) : Int) = ((byN s k : Nat) : Int); omega
    · refine List.map_congr_left fun j _ => ?_
      simp only [Function.comp_apply, Nat.succ_eq_add_one]
      rw [show k + 1 + j = k + (j + 1) by omega]
theorem nums_bytes {s : ByteArray} {e : Nat} (h : e ≤ s.size) : strOfNums ((List.range e).map fun j => ((byN s j : Nat) : Int)) = s.extract 0 e := by
  refine ba_ext (by rw [strOfNums_size]; simp only [List.length_map, List.length_range, ByteArray.size_extract]; omega) fun k hk => ?_
  rw [strOfNums_size] at hk
  have hk' : k < e := by simpa using hk
  rw [byN_nums hk (fun x hx => by
    simp only [List.mem_map] at hx
    obtain ⟨j, _, rfl⟩ := hx
    have := byN_lt s j
    omega), byN_extract h (by omega), Nat.zero_add]
  simp [List.getD, hk']
/-- What is read is written just so. -/
theorem varGet_put {t : ByteArray} (h : (varGet t).2 ≠ 0) : varS (varGet t).1 = t.extract 0 (varGet t).2 := by
  obtain ⟨d, hd, he, hv, hs, hj, hl, hb⟩ := vgF_inv t 5 0 (varGet t).1 (varGet t).2 rfl h
  simp only [Nat.zero_add] at hj hl hb he
  have h1 := pv_tv t (d + 1) 0
  rw [Nat.zero_add] at h1
  have h2 : pv t (d + 1) = tv t (d + 1) 0 := by rw [h1]; show 0 + 1 * _ = _; omega
  have h3 : d = 0 ∨ 0 < byN t d := by
    unfold vgBad at hb
    simp only [Bool.or_eq_false_iff, Bool.and_eq_false_iff, decide_eq_false_iff_not] at hb
    omega
  have h4 := varI_tv t d 0 (fun j h => by rw [Nat.zero_add]; exact hj j h) (by rw [Nat.zero_add]; exact hl) (by rw [Nat.zero_add]; exact h3)
  rw [hv, he, h2, varS, h4]
  rw [he] at hs
  rw [← nums_bytes hs]
  simp only [Nat.zero_add]
theorem vgAt_put {t : ByteArray} {k : Nat} (hk : k ≤ t.size) (h : (vgAt t k).2 ≠ 0) : varS (vgAt t k).1 = t.extract k (k + (vgAt t k).2) := by
  have h1 : varS (vgAt t k).1 = (t.extract k t.size).extract 0 (vgAt t k).2 := varGet_put (t := t.extract k t.size) h
  rw [ext_ext (vgAt_le t k hk)] at h1
  exact h1
theorem vg_le5 (t : ByteArray) : (varGet t).2 ≤ 5 := by
  by_cases h : (varGet t).2 = 0
  · omega
  · obtain ⟨d, hd, he, _⟩ := vgF_inv t 5 0 (varGet t).1 (varGet t).2 rfl h
    omega

/-- The gaps of the first k numbers. -/
def gapsS (xs : List Int) : Nat → ByteArray
  | 0 => ByteArray.empty
  | k + 1 => gapsS xs k ++ varS (gapN xs k)
theorem ba_append_assoc (a b c : ByteArray) : a ++ b ++ c = a ++ (b ++ c) := ByteArray.append_assoc
theorem gapTo_gaps (n : Nat) (xs : List Int) : ∀ k, gapTo n xs k = varS n ++ gapsS xs k := by
  intro k
  induction k with
  | zero => rw [gapTo, gapsS, ByteArray.append_empty]
  | succ k ih => rw [gapTo_succ, ih, gapsS, ba_append_assoc]
/-- What stands behind all but the last d numbers. -/
def restS (xs : List Int) (n : Nat) (u : ByteArray) : Nat → ByteArray
  | 0 => u
  | d + 1 => varS (gapN xs (n - (d + 1))) ++ restS xs n u d
theorem rest_all (xs : List Int) (n : Nat) (u : ByteArray) : ∀ d, d ≤ n → gapTo n xs (n - d) ++ restS xs n u d = gapTo n xs n ++ u := by
  intro d
  induction d with
  | zero => intro _; rfl
  | succ d ih =>
    intro h
    rw [restS, ← ba_append_assoc, ← gapTo_succ, show n - (d + 1) + 1 = n - d by omega, ih (by omega)]
theorem drop_nthI {xs : List Int} {i : Nat} (h : i < xs.length) : xs.drop i = nthI xs i :: xs.drop (i + 1) := by
  rw [nthI_eq h]; exact List.drop_eq_getElem_cons h
theorem gp_put {n : Nat} {xs : List Int} (hl : xs.length = n) (hu : upAsc n xs = true) (u : ByteArray) : ∀ d, d ≤ n → gp (gapTo n xs n ++ u) d (gapTo n xs (n - d)).size (lastI xs (n - d)) = some (xs.drop (n - d), (gapTo n xs n).size) := by
  intro d
  induction d with
  | zero => intro _; rw [gp, Nat.sub_zero, List.drop_of_length_le (by omega)]
  | succ d ih =>
    intro h
    obtain ⟨i, hi⟩ : ∃ i, i = n - (d + 1) := ⟨_, rfl⟩
    have hid : n - d = i + 1 := by omega
    have hin : i < n := by omega
    obtain ⟨g1, g2⟩ := gapN_eq hu hin
    have hv : vgAt (gapTo n xs n ++ u) (gapTo n xs i).size = (gapN xs i, (varS (gapN xs i)).size) := by
      rw [← rest_all xs n u (d + 1) h, restS, ← hi]
      exact vgAt_var g2 _ _
    have hz : (varS (gapN xs i)).size ≠ 0 := by rw [varS_size]; have := varI_pos (gapN xs i); omega
    have hnum := up_num hu hin
    have hlast : lastI xs i + (gapN xs i : Int) + 1 = nthI xs i := by omega
    have hih := ih (by omega)
    rw [hid, lastI_succ, gapTo_succ, ByteArray.size_append] at hih
    rw [← hi, gp, hv]
    simp only
    rw [if_neg hz, hlast, if_neg (show ¬ 999999999 < nthI xs i by omega), hih, drop_nthI (i := i) (by omega)]
    rfl
theorem gapPut_ok {n : Nat} {xs : List Int} (h : upOk n xs = true) : gapPut n xs = gapTo n xs n ∧ upAsc n xs = true ∧ n ≤ 60 := by
  rw [gapPut, if_pos h]
  simp only [upOk, Bool.and_eq_true, decide_eq_true_eq] at h
  exact ⟨rfl, h.1, h.2⟩
/-- Numbers that ascend are read back from their gaps, whatever stands behind. -/
theorem gapGet_put {n : Nat} {xs : List Int} (hl : xs.length = n) (h : upOk n xs = true) (u : ByteArray) : gapGet (gapPut n xs ++ u) = (xs, (gapPut n xs).size) := by
  obtain ⟨e, hu, h60⟩ := gapPut_ok h
  rw [e]
  have hv : varGet (gapTo n xs n ++ u) = (n, (varS n).size) := by
    rw [gapTo_gaps, ba_append_assoc]; exact varGet_var (by omega) _
  have hz : (varS n).size ≠ 0 := by rw [varS_size]; have := varI_pos n; omega
  have hg := gp_put hl hu u n (Nat.le_refl _)
  rw [Nat.sub_self] at hg
  rw [gapGet, hv, if_neg (by simp only; omega), gapRes]
  simp only
  rw [show gp (gapTo n xs n ++ u) n (varS n).size (-1) = gp (gapTo n xs n ++ u) n (gapTo n xs 0).size (lastI xs 0) from rfl, hg]
  simp
theorem varS_one {n : Nat} (h : n < 128) : (varS n).size = 1 := by rw [varS_size, varI_small h]; rfl
theorem gapTo_one {n : Nat} {xs : List Int} (hu : upAsc n xs = true) (h60 : n ≤ 60) (hc : n = 0 ∨ nthI xs (n - 1) < 128) : ∀ k, k ≤ n → (gapTo n xs k).size = k + 1 := by
  intro k
  induction k with
  | zero => intro _; exact varS_one (by omega)
  | succ k ih =>
    intro hk
    have h1 := up_num hu (show k < n by omega)
    have h2 := up_last hu (show k < n by omega)
    obtain ⟨g1, g2⟩ := gapN_eq hu (show k < n by omega)
    have h3 : nthI xs k ≤ nthI xs (n - 1) := by
      rcases Nat.lt_or_ge k (n - 1) with h4 | h4
      · have := up_lt hu h4 (show n - 1 < n by omega); omega
      · obtain rfl : k = n - 1 := by omega
        omega
    rw [gapTo_succ, ByteArray.size_append, ih (by omega), varS_one (by omega)]
theorem gapN_app {xs : List Int} {x : Int} {k : Nat} (h : k < xs.length) : gapN (xs ++ [x]) k = gapN xs k := by
  unfold gapN lastI
  rw [nthI_app h]
  split
  · rfl
  · rw [nthI_app (by omega)]
theorem gapsS_app {xs : List Int} {x : Int} : ∀ k, k ≤ xs.length → gapsS (xs ++ [x]) k = gapsS xs k := by
  intro k
  induction k with
  | zero => intro _; rfl
  | succ k ih => intro h; rw [gapsS, gapsS, ih (by omega), gapN_app (by omega)]
theorem gapN_last {xs : List Int} {v : Nat} : gapN (xs ++ [lastI xs xs.length + v + 1]) xs.length = v := by
  unfold gapN
  rw [nthI_last]
  have e : lastI (xs ++ [lastI xs xs.length + v + 1]) xs.length = lastI xs xs.length := by
    unfold lastI; split
    · rfl
    · rw [nthI_app (by omega)]
  rw [e]; omega
theorem gp_inv (t : ByteArray) (N : Nat) : ∀ (m k : Nat) (last : Int) (out : List Int) (zs : List Int) (e : Nat), k ≤ t.size → upAsc out.length out = true → lastI out out.length = last → -1 ≤ last → varS N ++ gapsS out out.length = t.extract 0 k → gp t m k last = some (zs, e) →
    e ≤ t.size ∧ zs.length = m ∧ upAsc (out ++ zs).length (out ++ zs) = true ∧ varS N ++ gapsS (out ++ zs) (out ++ zs).length = t.extract 0 e := by
  intro m
  induction m with
  | zero =>
    intro k last out zs e hk hu hl h1 hg h
    simp only [gp, Option.some.injEq, Prod.mk.injEq] at h
    obtain ⟨rfl, rfl⟩ := h
    rw [List.append_nil]
    exact ⟨hk, rfl, hu, hg⟩
  | succ m ih =>
    intro k last out zs e hk hu hl h1 hg h
    rw [gp] at h
    split at h
    · cases h
    · rename_i hz
      split at h
      · cases h
      · rename_i hb
        rw [Option.map_eq_some_iff] at h
        obtain ⟨⟨ys, e'⟩, h2, h3⟩ := h
        simp only [Prod.mk.injEq] at h3
        obtain ⟨rfl, rfl⟩ := h3
        have hput := vgAt_put hk hz
        have hle := vgAt_le t k hk
        obtain ⟨v, hv⟩ : ∃ v, v = (vgAt t k).1 := ⟨_, rfl⟩
        obtain ⟨q, hq⟩ : ∃ q, q = (vgAt t k).2 := ⟨_, rfl⟩
        rw [← hv, ← hq] at hput
        rw [← hq] at hle
        rw [← hv] at hb
        rw [← hv, ← hq] at h2
        subst hl
        have hgap := gapN_last (xs := out) (v := v)
        have := ih (k + q) (lastI out out.length + v + 1) (out ++ [lastI out out.length + v + 1]) ys e' (by omega)
          (by rw [List.length_append]; exact upAsc_app hu (by omega) h1 (by omega))
          (by rw [List.length_append]; exact lastI_app _ _) (by omega)
          (by
            rw [List.length_append, List.length_cons, List.length_nil, Nat.zero_add, gapsS, gapsS_app _ (Nat.le_refl _), hgap, ← ba_append_assoc, hg, hput]
            exact ext_join (by omega) (by omega)) h2
        rw [List.append_assoc, List.cons_append, List.nil_append] at this
        rw [← hv]
        exact ⟨this.1, by simp only [List.length_cons]; omega, this.2.2⟩
/-- What is read as gaps is written just so. -/
theorem gapPut_get {t : ByteArray} (h : (gapGet t).2 ≠ 0) : upOk (gapGet t).1.length (gapGet t).1 = true ∧ gapPut (gapGet t).1.length (gapGet t).1 = t.extract 0 (gapGet t).2 := by
  unfold gapGet at h ⊢
  split at h
  · exact absurd rfl h
  · rename_i hc
    rw [if_neg hc]
    unfold gapRes at h ⊢
    cases hg : gp t (varGet t).1 (varGet t).2 (-1) with
    | none => rw [hg] at h; exact absurd rfl h
    | some x =>
      obtain ⟨zs, e⟩ := x
      have h0 : (varGet t).2 ≠ 0 := by omega
      have := gp_inv t (varGet t).1 (varGet t).1 (varGet t).2 (-1) [] zs e (varGet_le t) rfl rfl (by omega) (by rw [List.length_nil, gapsS, ByteArray.append_empty]; exact varGet_put h0) hg
      rw [List.nil_append] at this
      obtain ⟨h1, h2, h3, h4⟩ := this
      simp only [List.nil_append]
      have hup : upOk zs.length zs = true := by rw [upOk, h3]; simp; omega
      refine ⟨hup, ?_⟩
      rw [(gapPut_ok hup).1, gapTo_gaps, ← h4, h2]
theorem gp_le (t : ByteArray) : ∀ (m k : Nat) (last : Int) (zs : List Int) (e : Nat), k ≤ t.size → gp t m k last = some (zs, e) → e ≤ t.size := by
  intro m
  induction m with
  | zero =>
    intro k last zs e hk h
    simp only [gp, Option.some.injEq, Prod.mk.injEq] at h
    omega
  | succ m ih =>
    intro k last zs e hk h
    rw [gp] at h
    split at h
    · cases h
    · split at h
      · cases h
      · rw [Option.map_eq_some_iff] at h
        obtain ⟨⟨ys, e'⟩, h2, h3⟩ := h
        simp only [Prod.mk.injEq] at h3
        obtain ⟨_, rfl⟩ := h3
        exact ih _ _ _ _ (vgAt_le t k hk) h2
theorem gapGet_le (t : ByteArray) (k : Nat) (hk : k = (gapGet t).2) : k ≤ t.size := by
  rw [hk]
  unfold gapGet
  split
  · exact Nat.zero_le _
  · unfold gapRes
    cases hg : gp t (varGet t).1 (varGet t).2 (-1) with
    | none => exact Nat.zero_le _
    | some x => exact gp_le t _ _ _ x.1 x.2 (varGet_le t) hg
/-- One more number behind all is one gap more. -/
theorem gapPut_more {n v : Nat} {xs : List Int} (hl : xs.length = n) (h : upOk n xs = true) (h0 : 0 < n) (hn : n < 60) (hv : nthI xs (n - 1) + v + 1 ≤ 999999999) :
    gapPut (n + 1) (xs ++ [nthI xs (n - 1) + v + 1]) = varS (n + 1) ++ (gapPut n xs).extract (varS n).size (gapPut n xs).size ++ varS v := by
  obtain ⟨e, hu, h60⟩ := gapPut_ok h
  have hla : nthI xs (n - 1) = lastI xs xs.length := by rw [lastI, if_neg (by omega), hl]
  rw [hla] at hv ⊢
  have hlo : -1 ≤ lastI xs xs.length := by
    have := up_num hu (show n - 1 < n by omega); omega
  have hup : upOk (n + 1) (xs ++ [lastI xs xs.length + v + 1]) = true := by
    rw [upOk, ← hl, upAsc_app (by rw [hl]; exact hu) (by omega) hlo (by omega)]; simp; omega
  rw [(gapPut_ok hup).1, gapTo_gaps, gapsS, e, gapTo_gaps n, ext_app, ← hl, gapN_last, gapsS_app _ (Nat.le_refl _), ba_append_assoc]
end Go.Proofs.Ytoljjhhomklcbaa
