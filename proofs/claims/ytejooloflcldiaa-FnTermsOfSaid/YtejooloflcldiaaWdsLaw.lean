/- Words of a text: where they stand, of two texts with a blank between, put together again: plain laws. No condition. -/
import Derived.Test.YtejooloflcldiaaWds
namespace Go.Proofs.Ytejooloflcldiaa
open Go.RowKit

theorem byW_list (s : ByteArray) (k : Nat) (h : k < s.size) : byW s k = ((s.data.toList[k]'(by simpa using h)).toNat : Int) := by
  rw [← byW_get s k h]; rfl
theorem byW_app_l {a b : ByteArray} {k : Nat} (h : k < a.size) : byW (a ++ b) k = byW a k := by
  rw [byW_list _ _ (by rw [ByteArray.size_append]; omega), byW_list _ _ h]
  congr 2
  simp only [ByteArray.data_append, Array.toList_append]
  rw [List.getElem_append_left]
theorem byW_app_r {a b : ByteArray} {k : Nat} (h : k < b.size) : byW (a ++ b) (a.size + k) = byW b k := by
  rw [byW_list _ _ (by rw [ByteArray.size_append]; omega), byW_list _ _ h]
  congr 2
  simp only [ByteArray.data_append, Array.toList_append]
  rw [List.getElem_append_right (by simp)]
  congr 1
  simp
theorem byW_ext {a b : ByteArray} (h : a.size = b.size) (h1 : ∀ k, k < a.size → byW a k = byW b k) : a = b := by
  refine ByteArray.ext (Array.ext (by simpa using h) fun k hk hk2 => ?_)
  have hk' : k < a.size := hk
  have hk2' : k < b.size := hk2
  have h3 := h1 k hk'
  rw [← byW_get a k hk', ← byW_get b k hk2'] at h3
  have h4 : a[k].toNat = b[k].toNat := by omega
  exact UInt8.toNat_inj.1 h4
theorem byW_nums {L : List Int} {k : Nat} (h : k < L.length) (h1 : ∀ x ∈ L, 0 ≤ x ∧ x ≤ 255) : byW (strOfNums L) k = L[k] := by
  have h2 := h1 L[k] (List.getElem_mem h)
  rw [byW_list _ _ (by rw [strOfNums_size]; exact h)]
  simp only [strOfNums_data, List.getElem_map, UInt8.toNat_ofNat']
  omega
theorem lowI_byte {s : ByteArray} {k n : Nat} (h : k + n ≤ s.size) : ∀ x ∈ lowI s k n, 0 ≤ x ∧ x ≤ 255 := by
  intro x hx
  simp only [lowI, List.mem_map, List.mem_range] at hx
  obtain ⟨j, hj, rfl⟩ := hx
  have := byW_bd s (k + j) (by omega)
  exact fold_bd this.1 this.2
/-- A list of words, all moved. -/
def shiftW (c d : Nat) (ws : List Wd) : List Wd := ws.map fun x => ⟨x.text, x.at_ + c, x.from_ + d, x.to_ + d⟩

section cut
variable {S : ByteArray} {d : Nat} {b : ByteArray}
/-- From place d on S is b. -/
structure Tail (S : ByteArray) (d : Nat) (b : ByteArray) : Prop where
  size : S.size = d + b.size
  byte : ∀ k, k < b.size → byW S (d + k) = byW b k
theorem Tail.inW (h : Tail S d b) (k : Nat) : inW S (d + k) = inW b k := by
  unfold Go.Proofs.Ytejooloflcldiaa.inW
  by_cases hk : k < b.size
  · rw [h.byte k hk, decide_eq_true hk, decide_eq_true (show d + k < S.size by rw [h.size]; omega)]
  · rw [decide_eq_false hk, decide_eq_false (show ¬ d + k < S.size by rw [h.size]; omega)]; rfl
theorem Tail.wEnd (h : Tail S d b) : ∀ n k, b.size - k = n → wEnd S (d + k) = d + wEnd b k := by
  intro n
  induction n with
  | zero =>
    intro k hn
    have h1 := inW_no (s := b) (k := k) (by omega)
    rw [wEnd_out h1, wEnd_out (by rw [h.inW]; exact h1)]
  | succ n ih =>
    intro k hn
    cases h1 : Go.Proofs.Ytejooloflcldiaa.inW b k
    · rw [wEnd_out h1, wEnd_out (by rw [h.inW]; exact h1)]
    · rw [wEnd_in h1, wEnd_in (by rw [h.inW]; exact h1), Nat.add_assoc, ih (k + 1) (by omega)]
theorem Tail.low (h : Tail S d b) {k n : Nat} (hn : k + n ≤ b.size) : lowI S (d + k) n = lowI b k n := by
  unfold lowI
  refine List.map_congr_left fun j hj => ?_
  rw [List.mem_range] at hj
  rw [Nat.add_assoc, h.byte (k + j) (by omega)]
theorem Tail.text (h : Tail S d b) {k : Nat} (hk : k ≤ b.size) : wText S (d + k) = wText b k := by
  have h1 := wEnd_ge b k
  have h2 := wEnd_le hk
  rw [wText, wText, h.wEnd _ k rfl, show d + Go.Proofs.Ytejooloflcldiaa.wEnd b k - (d + k) = Go.Proofs.Ytejooloflcldiaa.wEnd b k - k by omega, h.low (by omega)]
theorem Tail.wds (h : Tail S d b) (c' : Nat) : ∀ n k c, b.size - k = n → wds S (d + k) (c + c') = shiftW c' d (wds b k c) := by
  intro n
  induction n using Nat.strongRecOn with
  | ind n ih =>
    intro k c hn
    by_cases hk : k < b.size
    · cases h1 : Go.Proofs.Ytejooloflcldiaa.inW b k
      · rw [wds_skip h1, wds_skip (by rw [h.inW]; exact h1), Nat.add_assoc]
        exact ih (b.size - (k + 1)) (by omega) _ _ rfl
      · have h2 := wEnd_gt h1
        rw [wds_word h1, wds_word (by rw [h.inW]; exact h1), h.wEnd _ k rfl, h.text (by omega), show c + c' + 1 = c + 1 + c' by omega, ih (b.size - Go.Proofs.Ytejooloflcldiaa.wEnd b k) (by omega) _ _ rfl, shiftW, shiftW, List.map_cons]
        rw [Nat.add_comm d k, Nat.add_comm d (Go.Proofs.Ytejooloflcldiaa.wEnd b k)]
    · rw [wds_end (s := b) (by omega), wds_end (s := S) (by rw [h.size]; omega)]; rfl
/-- Up to place a.size S is a, and no word stands over its end. -/
structure Head (S a : ByteArray) : Prop where
  size : a.size ≤ S.size
  byte : ∀ k, k < a.size → byW S k = byW a k
  stop : inW S a.size = false
variable {a : ByteArray}
theorem Head.inW (h : Head S a) {k : Nat} (hk : k ≤ a.size) : inW S k = inW a k := by
  rcases Nat.lt_or_ge k a.size with h1 | h1
  · unfold Go.Proofs.Ytejooloflcldiaa.inW
    have := h.size
    rw [h.byte k h1, decide_eq_true h1, decide_eq_true (show k < S.size by omega)]
  · obtain rfl : k = a.size := by omega
    rw [h.stop, inW_no (Nat.le_refl _)]
theorem Head.wEnd (h : Head S a) : ∀ n k, k ≤ a.size → a.size - k = n → wEnd S k = wEnd a k := by
  intro n
  induction n with
  | zero =>
    intro k hk hn
    have h1 := inW_no (s := a) (k := k) (by omega)
    rw [wEnd_out h1, wEnd_out (by rw [h.inW hk]; exact h1)]
  | succ n ih =>
    intro k hk hn
    cases h1 : Go.Proofs.Ytejooloflcldiaa.inW a k
    · rw [wEnd_out h1, wEnd_out (by rw [h.inW hk]; exact h1)]
    · have h2 := inW_lt h1
      rw [wEnd_in h1, wEnd_in (by rw [h.inW hk]; exact h1), ih (k + 1) (by omega) (by omega)]
theorem Head.text (h : Head S a) {k : Nat} (hk : k ≤ a.size) : wText S k = wText a k := by
  have h1 := wEnd_ge a k
  have h2 := wEnd_le hk
  rw [wText, wText, h.wEnd _ k hk rfl]
  congr 1
  unfold lowI
  refine List.map_congr_left fun j hj => ?_
  rw [List.mem_range] at hj
  rw [h.byte (k + j) (by omega)]
theorem Head.wds (h : Head S a) : ∀ n k c, k ≤ a.size → a.size - k = n → wds S k c = wds a k c ++ wds S a.size (c + (wds a k c).length) := by
  intro n
  induction n using Nat.strongRecOn with
  | ind n ih =>
    intro k c hk hn
    rcases Nat.lt_or_ge k a.size with h0 | h0
    · cases h1 : Go.Proofs.Ytejooloflcldiaa.inW a k
      · rw [wds_skip h1, wds_skip (show Go.Proofs.Ytejooloflcldiaa.inW S k = false by rw [h.inW hk]; exact h1)]
        exact ih (a.size - (k + 1)) (by omega) _ _ (by omega) rfl
      · have h2 := wEnd_gt h1
        have h3 := wEnd_le hk
        rw [wds_word h1, wds_word (show Go.Proofs.Ytejooloflcldiaa.inW S k = true by rw [h.inW hk]; exact h1), h.wEnd _ k hk rfl, h.text hk, ih (a.size - Go.Proofs.Ytejooloflcldiaa.wEnd a k) (by omega) _ _ h3 rfl, List.cons_append, List.length_cons]
        congr 3
        omega
    · obtain rfl : k = a.size := by omega
      rw [wds_end (s := a) (Nat.le_refl _)]; rfl
end cut
def blankS : ByteArray := ⟨#[32]⟩
theorem cut_head (a b : ByteArray) : Head (a ++ blankS ++ b) a where
  size := by rw [ByteArray.size_append, ByteArray.size_append]; omega
  byte k hk := by rw [byW_app_l (by rw [ByteArray.size_append]; omega), byW_app_l hk]
  stop := by
    have h1 : byW (a ++ blankS ++ b) a.size = 32 := by
      rw [byW_app_l (by rw [ByteArray.size_append]; show _ < _ + 1; omega)]
      have := byW_app_r (a := a) (b := blankS) (k := 0) (by decide)
      rw [Nat.add_zero] at this
      rw [this]; rfl
    unfold inW
    rw [h1]
    have : foldB 32 = 0 := by decide
    rw [this]; simp
theorem cut_tail (a b : ByteArray) : Tail (a ++ blankS ++ b) (a.size + 1) b where
  size := by rw [ByteArray.size_append, ByteArray.size_append]; rfl
  byte k hk := by
    have h := byW_app_r (a := a ++ blankS) (b := b) (k := k) hk
    have h2 : (a ++ blankS).size = a.size + 1 := by rw [ByteArray.size_append]; rfl
    rw [h2] at h; exact h
/-- Words of two texts with a blank between are those of both. -/
theorem wds_cut (a b : ByteArray) : wds (a ++ blankS ++ b) 0 0 = wds a 0 0 ++ shiftW (wds a 0 0).length (a.size + 1) (wds b 0 0) := by
  have H := cut_head a b
  have T := cut_tail a b
  rw [H.wds _ 0 0 (Nat.zero_le _) rfl, wds_skip H.stop, Nat.zero_add]
  have := T.wds (wds a 0 0).length _ 0 0 rfl
  rw [Nat.add_zero, Nat.zero_add] at this
  rw [this]
/-- A text is its one word just if it is a word. -/
theorem byWb {s : ByteArray} {P : Int → Bool} : allB P s.data.toList = true ↔ ∀ k, k < s.size → P (byW s k) = true := by
  rw [allB, List.all_eq_true]
  constructor
  · intro h k hk
    rw [byW_list s k hk]
    exact h _ (List.getElem_mem _)
  · intro h x hx
    obtain ⟨k, hk, rfl⟩ := List.getElem_of_mem hx
    have hk' : k < s.size := by simpa using hk
    rw [← byW_list s k hk']; exact h k hk'
theorem wEnd_is {s : ByteArray} {k e : Nat} (h : k ≤ e) (h1 : ∀ j, k ≤ j → j < e → inW s j = true) (h2 : inW s e = false) : wEnd s k = e := by
  obtain ⟨m, rfl⟩ : ∃ m, e = k + m := ⟨e - k, by omega⟩
  rw [wEnd_at m h1, wEnd_out h2]
theorem word_bytes {s : ByteArray} (h : wordOk s = true) : (∀ k, k < s.size → wordB (byW s k) = true) ∧ 1 ≤ s.size ∧ s.size ≤ 12 := by
  simp only [wordOk, Bool.and_eq_true, decide_eq_true_eq] at h
  exact ⟨byWb.1 h.1, h.2⟩
theorem word_inW {s : ByteArray} {k : Nat} (hk : k < s.size) (h : wordB (byW s k) = true) : inW s k = true ∧ foldB (byW s k) = byW s k := by
  have := foldB_eq h
  exact ⟨by unfold inW; rw [this.1, decide_eq_true hk, decide_eq_true this.2]; rfl, this.1⟩
theorem wText_word {s : ByteArray} (h : wordOk s = true) : inW s 0 = true ∧ wEnd s 0 = s.size ∧ wText s 0 = s := by
  obtain ⟨h1, h2, h3⟩ := word_bytes h
  have he : wEnd s 0 = s.size := wEnd_is (Nat.zero_le _) (fun j _ hj => (word_inW hj (h1 j hj)).1) (inW_no (Nat.le_refl _))
  refine ⟨(word_inW (by omega) (h1 0 (by omega))).1, he, ?_⟩
  rw [wText, he, Nat.sub_zero, Nat.min_eq_right h3]
  refine byW_ext (by rw [strOfNums_size, lowI_len]) fun k hk => ?_
  rw [strOfNums_size, lowI_len] at hk
  rw [byW_nums (by rw [lowI_len]; exact hk) (lowI_byte (by omega))]
  simp only [lowI, List.getElem_map, List.getElem_range, Nat.zero_add]
  exact (word_inW hk (h1 k hk)).2
theorem wds_one {s : ByteArray} (h : wordOk s = true) : wds s 0 0 = [⟨s, 0, 0, s.size⟩] := by
  obtain ⟨h1, h2, h3⟩ := wText_word h
  rw [wds_word h1, h2, h3, wds_end (Nat.le_refl _)]
theorem fold_word {c : Int} (h : foldB c ≠ 0) : wordB (foldB c) = true := by
  unfold foldB at *
  by_cases h1 : 65 ≤ c ∧ c ≤ 90
  · rw [if_pos h1]; exact wordB_true (by omega)
  · rw [if_neg h1] at h ⊢
    split
    · rename_i h2; exact h2
    · rename_i h2; rw [if_neg h2] at h; exact absurd rfl h
theorem inW_fold {s : ByteArray} {k : Nat} (h : inW s k = true) : foldB (byW s k) ≠ 0 := by
  simp only [inW, Bool.and_eq_true, decide_eq_true_eq] at h; exact h.2
/-- Each word's text is a word. -/
theorem wText_ok {s : ByteArray} {k : Nat} (h : inW s k = true) : wordOk (wText s k) = true := by
  have h1 := wEnd_gt h
  have h2 := wEnd_le (s := s) (k := k) (by have := inW_lt h; omega)
  have hz : (wText s k).size = min 12 (wEnd s k - k) := by rw [wText, strOfNums_size, lowI_len]
  rw [wordOk, Bool.and_eq_true, byWb, hz]
  refine ⟨fun j hj => ?_, decide_eq_true (by omega)⟩
  rw [wText, byW_nums (by rw [lowI_len]; omega) (lowI_byte (by omega))]
  simp only [lowI, List.getElem_map, List.getElem_range]
  exact fold_word (inW_fold (wEnd_all (s := s) (k := k) (by omega) (by omega)))
theorem word_textOk {s : ByteArray} (h : wordOk s = true) : textOk s = true := by
  obtain ⟨h1, h2, h3⟩ := word_bytes h
  rw [textOk, Bool.and_eq_true, byWb]
  refine ⟨fun k hk => ?_, decide_eq_true (by omega)⟩
  have := wordB_iff.1 (h1 k hk)
  unfold textB
  exact decide_eq_true (by omega)
theorem wordsOf_word {s : ByteArray} (h : wordOk s = true) : wordsOf s = [⟨s, 0, 0, s.size⟩] := by
  rw [wordsOf, if_pos (word_textOk h), wds_one h]
/-- If a text is its own first word, it is a word. -/
theorem word_of {s : ByteArray} (hl : (wordsOf s).length = 1) (ht : (nthW (wordsOf s) 0).text = s) : wordOk s = true := by
  unfold wordsOf at hl ht
  split at hl
  · rename_i h
    rw [if_pos h] at ht
    have := wds_all s (fun x => wordOk x.text = true) (fun k c hw => wText_ok hw) _ 0 0 rfl
    have h2 := this (nthW (wds s 0 0) 0) (by rw [nthW_eq (by omega)]; exact List.getElem_mem _)
    rw [ht] at h2; exact h2
  · simp at hl
/-- Where the words stand. -/
def wGood (s : ByteArray) (lo : Nat) : Nat → List Wd → Prop
  | _, [] => True
  | c, x :: xs => x.at_ = c ∧ lo ≤ x.from_ ∧ x.from_ < x.to_ ∧ x.to_ ≤ s.size ∧ wordOk x.text = true ∧ x.text.size = min 12 (x.to_ - x.from_) ∧ wGood s (x.to_ + 1) (c + 1) xs
theorem wds_good (s : ByteArray) : ∀ n k c lo, s.size - k = n → lo ≤ k ∨ (lo ≤ k + 1 ∧ inW s k = false) → wGood s lo c (wds s k c) := by
  intro n
  induction n using Nat.strongRecOn with
  | ind n ih =>
    intro k c lo hn hlo
    by_cases hk : k < s.size
    · cases h1 : inW s k
      · rw [wds_skip h1]
        exact ih (s.size - (k + 1)) (by omega) _ _ _ rfl (.inl (by omega))
      · have h2 := wEnd_gt h1
        have h3 := wEnd_le (s := s) (k := k) (by omega)
        rw [wds_word h1]
        refine ⟨rfl, ?_, h2, h3, wText_ok h1, by rw [wText, strOfNums_size, lowI_len], ih (s.size - wEnd s k) (by omega) _ _ _ rfl (.inr ⟨Nat.le_refl _, wEnd_not s k⟩)⟩
        rcases hlo with h | ⟨_, h⟩
        · exact h
        · rw [h1] at h; cases h
    · rw [wds_end (by omega)]; trivial
theorem wGood_at {s : ByteArray} : ∀ (ws : List Wd) (lo c i : Nat), wGood s lo c ws → i < ws.length →
    (nthW ws i).at_ = c + i ∧ (nthW ws i).from_ < (nthW ws i).to_ ∧ (nthW ws i).to_ ≤ s.size ∧ wordOk (nthW ws i).text = true ∧ (nthW ws i).text.size = min 12 ((nthW ws i).to_ - (nthW ws i).from_) ∧ (0 < i → (nthW ws (i - 1)).to_ < (nthW ws i).from_) ∧ lo ≤ (nthW ws i).from_ := by
  intro ws
  induction ws with
  | nil => intro lo c i _ h; simp at h
  | cons x ws ih =>
    intro lo c i h hi
    obtain ⟨h1, h2, h3, h4, h5, h6, h7⟩ := h
    cases i with
    | zero => exact ⟨by simpa [nthW] using h1, by simpa [nthW] using h3, by simpa [nthW] using h4, by simpa [nthW] using h5, by simpa [nthW] using h6, fun h => by omega, by simpa [nthW] using h2⟩
    | succ i =>
      have hs : nthW (x :: ws) (i + 1) = nthW ws i := by simp [nthW]
      obtain ⟨a1, a2, a3, a4, a5, a6, a7⟩ := ih _ _ i h7 (by simpa using hi)
      rw [hs]
      refine ⟨by omega, a2, a3, a4, a5, fun _ => ?_, by omega⟩
      rw [Nat.add_sub_cancel]
      cases i with
      | zero => have : nthW (x :: ws) 0 = x := by simp [nthW]
                rw [this]; omega
      | succ j =>
        have hs2 : nthW (x :: ws) (j + 1) = nthW ws j := by simp [nthW]
        rw [hs2]
        have := a6 (by omega)
        rwa [Nat.add_sub_cancel] at this
/-- Words with blanks between. -/
def joinW (ws : List Wd) : Nat → ByteArray
  | 0 => ByteArray.empty
  | i + 1 => (if i = 0 then ByteArray.empty else joinW ws i ++ blankS) ++ (nthW ws i).text
theorem empty_app (a : ByteArray) : ByteArray.empty ++ a = a := ByteArray.empty_append
theorem joinW_one (ws : List Wd) : joinW ws 1 = (nthW ws 0).text := by rw [joinW, if_pos rfl, empty_app]
theorem joinW_more (ws : List Wd) (i : Nat) : joinW ws (i + 2) = joinW ws (i + 1) ++ blankS ++ (nthW ws (i + 1)).text := by rw [joinW, if_neg (by omega)]
theorem joinW_words {ws : List Wd} (h : ∀ i, i < ws.length → wordOk (nthW ws i).text = true) : ∀ n, n ≤ ws.length → (wds (joinW ws n) 0 0).length = n ∧ ∀ i, i < n → (nthW (wds (joinW ws n) 0 0) i).text = (nthW ws i).text ∧ (nthW (wds (joinW ws n) 0 0) i).to_ = (nthW (wds (joinW ws n) 0 0) i).from_ + (nthW ws i).text.size := by
  intro n
  induction n with
  | zero => intro _; rw [joinW, wds_end (by decide)]; exact ⟨rfl, fun i hi => by omega⟩
  | succ n ih =>
    intro hn
    cases n with
    | zero =>
      rw [joinW_one, wds_one (h 0 (by omega))]
      refine ⟨rfl, fun i hi => ?_⟩
      obtain rfl : i = 0 := by omega
      exact ⟨rfl, by show _ = 0 + _; simp [nthW]⟩
    | succ n =>
      obtain ⟨h1, h2⟩ := ih (by omega)
      rw [joinW_more, wds_cut, wds_one (h (n + 1) (by omega)), h1]
      refine ⟨by rw [List.length_append, h1]; rfl, fun i hi => ?_⟩
      rcases Nat.lt_or_ge i (n + 1) with h3 | h3
      · have e : nthW (wds (joinW ws (n + 1)) 0 0 ++ shiftW (n + 1) ((joinW ws (n + 1)).size + 1) [⟨(nthW ws (n + 1)).text, 0, 0, (nthW ws (n + 1)).text.size⟩]) i = nthW (wds (joinW ws (n + 1)) 0 0) i := by
          unfold nthW; rw [List.getElem?_append_left (by omega)]
        rw [e]; exact h2 i h3
      · obtain rfl : i = n + 1 := by omega
        have e : nthW (wds (joinW ws (n + 1)) 0 0 ++ shiftW (n + 1) ((joinW ws (n + 1)).size + 1) [⟨(nthW ws (n + 1)).text, 0, 0, (nthW ws (n + 1)).text.size⟩]) (n + 1) = ⟨(nthW ws (n + 1)).text, 0 + (n + 1), 0 + ((joinW ws (n + 1)).size + 1), (nthW ws (n + 1)).text.size + ((joinW ws (n + 1)).size + 1)⟩ := by
          conv => lhs; unfold nthW
          rw [List.getElem?_append_right (by omega), h1, Nat.sub_self]; rfl
        rw [e]
        exact ⟨rfl, by dsimp only; omega⟩
/-- Words put together again are no longer than the text. -/
theorem joinW_size {s : ByteArray} {ws : List Wd} {lo c : Nat} (h : wGood s lo c ws) : ∀ n, n < ws.length → (joinW ws (n + 1)).size + lo ≤ (nthW ws n).to_ := by
  intro n
  induction n with
  | zero =>
    intro hn
    obtain ⟨a1, a2, a3, a4, a5, a6, a7⟩ := wGood_at ws lo c 0 h hn
    rw [joinW_one, a5]; omega
  | succ n ih =>
    intro hn
    have h1 := ih (by omega)
    obtain ⟨a1, a2, a3, a4, a5, a6, a7⟩ := wGood_at ws lo c (n + 1) h hn
    have h2 := a6 (by omega)
    rw [Nat.add_sub_cancel] at h2
    rw [joinW_more, ByteArray.size_append, ByteArray.size_append, a5]
    show (joinW ws (n + 1)).size + 1 + _ + lo ≤ _
    omega
theorem text_app {a b : ByteArray} (ha : ∀ k, k < a.size → textB (byW a k) = true) (hb : ∀ k, k < b.size → textB (byW b k) = true) : ∀ k, k < (a ++ b).size → textB (byW (a ++ b) k) = true := by
  intro k hk
  rw [ByteArray.size_append] at hk
  rcases Nat.lt_or_ge k a.size with h | h
  · rw [byW_app_l h]; exact ha k h
  · obtain ⟨j, rfl⟩ : ∃ j, k = a.size + j := ⟨k - a.size, by omega⟩
    rw [byW_app_r (by omega)]; exact hb j (by omega)
theorem text_of {s : ByteArray} (h : textOk s = true) : ∀ k, k < s.size → textB (byW s k) = true := by
  rw [textOk, Bool.and_eq_true, byWb] at h; exact h.1
theorem joinW_text {ws : List Wd} (h : ∀ i, i < ws.length → wordOk (nthW ws i).text = true) : ∀ n, n ≤ ws.length → ∀ k, k < (joinW ws n).size → textB (byW (joinW ws n) k) = true := by
  intro n
  induction n with
  | zero => intro _ k hk; rw [joinW] at hk; exact absurd hk (by show ¬ k < 0; omega)
  | succ n ih =>
    intro hn
    have hw := text_of (word_textOk (h n (by omega)))
    cases n with
    | zero => rw [joinW_one]; exact hw
    | succ n =>
      rw [joinW_more]
      exact text_app (text_app (ih (by omega)) fun k hk => by
        have hk0 : k < 1 := hk
        obtain rfl : k = 0 := by omega
        decide) hw
end Go.Proofs.Ytejooloflcldiaa
