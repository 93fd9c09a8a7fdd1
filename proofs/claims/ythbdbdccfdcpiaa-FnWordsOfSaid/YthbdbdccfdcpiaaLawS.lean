/- The laws on words, where they stand, and endings. Conditions: what is read fits the model's sizes. -/
import Derived.Test.YthbdbdccfdcpiaaWordsX
import Derived.Test.YthbdbdccfdcpiaaDrawS
import Derived.Test.YthbdbdccfdcpiaaStem
namespace Go.Proofs.Ythbdbdccfdcpiaa
open Go.RowKit
theorem foWords_same (a : Option Addr) (n c : Nat) (ws : List Wd) (b : Option Addr) (d : Nat) (w : World) (hx : Wds w a n ws) (hy : Wds w b n ws) (hn : n ≤ maxLen) :
    Calls Try.prog 31 #[.slice a n c, .slice b n d] w fun e w' => e = .returned (.bool true) ∧ Drw w w' := by
  have HX := Lib.hid hx; clear hx
  have HY := Lib.hid hy; clear hy
  unfold maxLen at hn
  have c4 := cells_word
  go_enter Try.func31, Try.ntmps31
  go_wp2_with fail
  go_loopw [5] (fun i wr => ∃ k : Nat, k ≤ n ∧ i = .int .i64 k ∧ Drw w wr) (fun i _ => n - (intOf i).toNat)
  case atStart => exact ⟨0, Nat.zero_le _, rfl, Drw.refl _⟩
  case round =>
    obtain ⟨k, hk, rfl, q, rfl⟩ := hrel
    by_cases hlt : k < n
    · obtain ⟨b1, o1, rfl, hc1⟩ := HX.out.pos hlt
      obtain ⟨x0, x1, x2, x3⟩ := hc1 k hlt
      obtain ⟨b2, o2, rfl, hc2⟩ := HY.out.pos hlt
      obtain ⟨y0, y1, y2, y3⟩ := hc2 k hlt
      clear hc1 hc2
      go_wp2_with fail
      go_quiet (fail)
      go_wp2_with fail
      go_roundw
      case rel => exact ⟨k + 1, by omega, by go_num, (by first | exact Drw.refl _ | exact Drw.mk _ _ | exact (Drw.mk _ _).trans (Drw.mk _ _) | exact ((Drw.mk _ _).trans (Drw.mk _ _)).trans (Drw.mk _ _))⟩
      case measure => simp [intOf]; omega
    · go_wp2_with fail
      go_ret
      exact ⟨rfl, (by first | exact Drw.refl _ | exact Drw.mk _ _ | exact (Drw.mk _ _).trans (Drw.mk _ _) | exact ((Drw.mk _ _).trans (Drw.mk _ _)).trans (Drw.mk _ _))⟩
theorem str_nonempty {s : ByteArray} (h : 0 < s.size) : s.toList.isEmpty = false ∧ ¬ s.toList = [] := by
  have h1 : s.toList ≠ [] := by
    rw [ByteArray.toList_eq]
    intro e
    have h2 : s.size = 0 := by have := congrArg List.length e; simpa using this
    omega
  exact ⟨by simp [h1], h1⟩
theorem str_eq_f {a b : ByteArray} (h : a ≠ b) : (a.toList == b.toList) = false := by
  simp only [beq_eq_false_iff_ne, ne_eq, ByteArray.toList_eq]
  intro e
  exact h (ByteArray.ext (Array.ext' e))
theorem str_eq_t {a b : ByteArray} (h : a = b) : (a.toList == b.toList) = true := by rw [h]; simp
set_option maxHeartbeats 1000000 in
theorem FnWordOk_any {w : World} (a : Option Addr) (n cap : Nat) (xs : List Int) (hx : Byts w a n cap xs) (hn : n ≤ maxLen) :
    Calls Try.prog 3 #[.slice a n cap] w fun e w' => e = .returned (.bool true) ∧ Below w.heap.size w w' := by
  have HX := Lib.hid hx; clear hx
  unfold maxLen at hn
  by_cases hlt : (1048576 : Int) < (n : Int)
  · go_enter Try.func3, Try.ntmps3
    go_wp2_with fail
    go_ret
    exact ⟨rfl, Below.refl _ _⟩
  have c4 := cells_word
  go_enter Try.func3, Try.ntmps3
  go_wp2_with fail
  refine (DrawWordOk_any _ _ _ _ HX.out (by omega)).mono ?_
  rintro e w1 ⟨s, rfl, hs, hb⟩
  have B1 := Lib.hid hb; clear hb
  have HT := Lib.hid (show s.size ≤ maxLen by unfold maxLen; omega)
  go_wp2_with fail
  refine (WordOk_any _ HT.out _).mono ?_
  rintro e w' ⟨rfl, rfl⟩
  go_wp2_with fail
  refine (sWordOk_any _ HT.out _).mono ?_
  rintro e w2 ⟨rfl, q, rfl⟩
  cases hok : wordOk s
  · have NO := Lib.hid (show (wordsOf s).length = 1 → (nthW (wordsOf s) 0).text ≠ s from fun hl ht => by have := word_of hl ht; rw [hok] at this; cases this)
    have hlen := wordsOf_len s
    go_wp2_with fail
    refine (WordsOf_any _ HT.out _).mono ?_
    rintro e w3 ⟨a3, c3, rfl, ho3, hb⟩
    have B3 := Lib.hid ((below_drewN B1.out q).trans (hb.mono B1.out.size)); clear hb
    have O3 := Lib.hid ho3; clear ho3
    by_cases h1 : (wordsOf s).length = 1
    · have b1 : (((wordsOf s).length : Int) == 1) = true := beq_t (by omega)
      obtain ⟨b, off, rfl, hc⟩ := O3.out.wds.pos (show 0 < (wordsOf s).length by omega)
      obtain ⟨x0, x1, x2, x3⟩ := hc 0 (by omega)
      have bt : ((nthW (wordsOf s) 0).text.toList == s.toList) = false := str_eq_f (NO.out h1)
      simp only [Nat.zero_mul, Nat.add_zero] at x0 x1 x2 x3
      have hp : 0 < (wordsOf s).length := by omega
      clear h1 hc
      go_wp2_with fail
      go_ret
      exact ⟨rfl, B3.out⟩
    · have b1 : (((wordsOf s).length : Int) == 1) = false := beq_f (by omega)
      clear h1
      go_wp2_with fail
      go_ret
      exact ⟨rfl, B3.out⟩
  · have E := Lib.hid (wordsOf_word hok)
    clear hok
    go_wp2_with fail
    refine (WordsOf_any _ HT.out _).mono ?_
    rintro e w3 ⟨a3, c3, rfl, ho3, hb⟩
    have B3 := Lib.hid ((below_drewN B1.out q).trans (hb.mono B1.out.size)); clear hb
    rw [E.out] at ho3 ⊢
    have O3 := Lib.hid ho3; clear ho3
    obtain ⟨b, off, rfl, hc⟩ := O3.out.wds.pos (show 0 < [(⟨s, 0, 0, s.size⟩ : Wd)].length from Nat.zero_lt_one)
    obtain ⟨x0, x1, x2, x3⟩ := hc 0 Nat.zero_lt_one
    simp only [Nat.zero_mul, Nat.add_zero] at x0 x1 x2 x3
    have y0 : w3.cell? ⟨b, off, none⟩ = some (.string s) := x0
    have y2 : w3.cell? ⟨b, off + 2, none⟩ = some (.int .i64 0) := x2
    have y3 : w3.cell? ⟨b, off + 3, none⟩ = some (.int .i64 (s.size : Int)) := x3
    clear hc x0 x1 x2 x3
    go_wp2_with fail
    go_ret
    exact ⟨rfl, B3.out⟩
theorem cutAt_ext (s : ByteArray) (j : Nat) : cutAt s j = s.extract 0 (cutAt s j).size := by
  rw [cutAt_size]; rfl
theorem once_ext (s : ByteArray) : onceB s = s.extract 0 (onceB s).size ∧ (onceB s).size ≤ s.size ∧ (onceB s = s ∨ 3 ≤ (onceB s).size) := by
  have full : s = s.extract 0 s.size := by
    refine ByteArray.ext ?_
    simp
  by_cases h : allN 5 (fun j => !canCut s j) = true
  · rw [once_none h]
    exact ⟨full, Nat.le_refl _, .inl rfl⟩
  · have h' : ∃ k, k < 5 ∧ canCut s k = true ∧ allN k (fun j => !canCut s j) = true := by
      apply Classical.byContradiction
      intro hn
      apply h
      have : ∀ m, m ≤ 5 → allN m (fun j => !canCut s j) = true := by
        intro m
        induction m with
        | zero => intro _; rfl
        | succ m ih =>
          intro hm
          refine allN_step (ih (by omega)) ?_
          cases hc : canCut s m
          · rfl
          · exact absurd ⟨m, by omega, hc, ih (by omega)⟩ hn
      exact this 5 (Nat.le_refl _)
    obtain ⟨k, hk, hc, ha⟩ := h'
    have h1 := canCut_size hc
    rw [once_at hk ha hc]
    have h2 := cutAt_size s k
    exact ⟨cutAt_ext s k, by omega, .inr (by omega)⟩
theorem extract_extract0 (s : ByteArray) {a b : Nat} (h : b ≤ a) : (s.extract 0 a).extract 0 b = s.extract 0 b := by
  rw [ByteArray.extract_extract]
  congr 1
  omega
theorem stemN_facts : ∀ (n : Nat) (s : ByteArray), s.size ≤ n → stemN n s = s.extract 0 (stemN n s).size ∧ (stemN n s).size ≤ s.size ∧ (stemN n s = s ∨ 3 ≤ (stemN n s).size) ∧ onceB (stemN n s) = stemN n s := by
  intro n
  induction n with
  | zero =>
    intro s hs
    have : onceB s = s := by rcases once_or s with h | h; exact h; omega
    rw [stemN]
    refine ⟨?_, Nat.le_refl _, .inl rfl, this⟩
    refine ByteArray.ext ?_
    simp
  | succ n ih =>
    intro s hs
    obtain ⟨h1, h2, h3⟩ := once_ext s
    rcases once_or s with h | h
    · rw [stemN_fix h]
      refine ⟨?_, Nat.le_refl _, .inl rfl, h⟩
      refine ByteArray.ext ?_
      simp
    · obtain ⟨i1, i2, i3, i4⟩ := ih (onceB s) (by omega)
      rw [stemN]
      refine ⟨?_, by omega, ?_, i4⟩
      · have h5 := extract_extract0 s i2
        rw [← h1] at h5
        rw [← h5]; exact i1
      · rcases i3 with i3 | i3
        · rw [i3]
          rcases h3 with h3 | h3
          · rw [h3] at h; omega
          · exact .inr h3
        · exact .inr i3
theorem stemB_facts (s : ByteArray) : stemB s = s.extract 0 (stemB s).size ∧ (stemB s).size ≤ s.size ∧ (stemB s = s ∨ 3 ≤ (stemB s).size) ∧ stemB (stemB s) = stemB s := by
  obtain ⟨h1, h2, h3, h4⟩ := stemN_facts s.size s (Nat.le_refl _)
  exact ⟨h1, h2, h3, stemB_fix h4⟩
theorem word_prefix {s : ByteArray} {k : Nat} (h : wordOk s = true) (h0 : 0 < k) (h1 : k ≤ s.size) : wordOk (s.extract 0 k) = true := by
  obtain ⟨a, b, c⟩ := word_bytes h
  have hz : (s.extract 0 k).size = k := by simp only [ByteArray.size_extract]; omega
  rw [wordOk, Bool.and_eq_true, byWb, hz]
  refine ⟨fun j hj => ?_, decide_eq_true (by omega)⟩
  have e : byW (s.extract 0 k) j = byW s j := by
    rw [← byW_get _ j (by omega), ← byW_get s j (by omega), ByteArray.getElem_extract]
    simp
  rw [e]; exact a j (by omega)
theorem stem_word {s : ByteArray} (h : wordOk s = true) : wordOk (stemB s) = true ∧ 0 < (stemB s).size := by
  obtain ⟨h1, h2, h3, h4⟩ := stemB_facts s
  obtain ⟨a, b, c⟩ := word_bytes h
  have hp : 0 < (stemB s).size := by
    rcases h3 with h3 | h3
    · rw [h3]; omega
    · omega
  refine ⟨?_, hp⟩
  rw [h1]; exact word_prefix h hp h2
set_option maxHeartbeats 1000000 in
theorem FnStemOf_any {w : World} (a : Option Addr) (n cap : Nat) (xs : List Int) (hx : Byts w a n cap xs) (hn : n ≤ maxLen) :
    Calls Try.prog 4 #[.slice a n cap] w fun e w' => e = .returned (.bool true) ∧ Below w.heap.size w w' := by
  have HX := Lib.hid hx; clear hx
  unfold maxLen at hn
  by_cases hlt : (1048576 : Int) < (n : Int)
  · go_enter Try.func4, Try.ntmps4
    go_wp2_with fail
    go_ret
    exact ⟨rfl, Below.refl _ _⟩
  go_enter Try.func4, Try.ntmps4
  go_wp2_with fail
  refine (DrawStemOf_any _ _ _ _ HX.out (by omega)).mono ?_
  rintro e w1 ⟨s, rfl, hs, hb⟩
  have B1 := Lib.hid hb; clear hb
  have HT := Lib.hid (show s.size ≤ maxLen by unfold maxLen; omega)
  cases hok : wordOk s
  · have SN := Lib.hid (show stemOf s = ⟨#[]⟩ by rw [stemOf, hok]; rfl)
    go_wp2_with fail
    refine (StemOf_any _ HT.out _).mono ?_
    rintro e w2 ⟨rfl, hb⟩
    have B2 := Lib.hid (B1.out.trans (hb.mono B1.out.size)); clear hb
    rw [SN.out]
    go_wp2_with fail
    refine (sStemOf_any _ HT.out _).mono ?_
    rintro e w3 ⟨rfl, hb⟩
    have B3 := Lib.hid (B2.out.trans (hb.mono B2.out.size)); clear hb
    rw [SN.out]
    go_wp2_with fail
    refine (sStemOf_any _ HT.out _).mono ?_
    rintro e w4 ⟨rfl, hb⟩
    have B4 := Lib.hid (B3.out.trans (hb.mono B3.out.size)); clear hb
    rw [SN.out]
    go_wp2_with fail
    refine (WordOk_any _ HT.out _).mono ?_
    rintro e w' ⟨rfl, rfl⟩
    go_wp2_with fail
    go_ret
    exact ⟨rfl, B4.out⟩
  · obtain ⟨t, ht⟩ : ∃ t, t = stemB s := ⟨_, rfl⟩
    obtain ⟨f1, f2, f3, f4⟩ := stemB_facts s
    obtain ⟨f5, f6⟩ := stem_word hok
    rw [← ht] at f1 f2 f3 f4 f5 f6
    have SY := Lib.hid (show stemOf s = t by rw [stemOf, hok, ht]; rfl)
    have ST := Lib.hid (show stemOf t = t by rw [stemOf, f5]; exact f4)
    obtain ⟨e1, e2⟩ := str_nonempty f6
    have HT2 := Lib.hid (show t.size ≤ maxLen by unfold maxLen; omega)
    have EX := Lib.hid f1
    clear ht f1 f4 f5 hok
    go_wp2_with fail
    refine (StemOf_any _ HT.out _).mono ?_
    rintro e w2 ⟨rfl, hb⟩
    have B2 := Lib.hid (B1.out.trans (hb.mono B1.out.size)); clear hb
    rw [SY.out]
    go_wp2_with fail
    refine (sStemOf_any _ HT.out _).mono ?_
    rintro e w3 ⟨rfl, hb⟩
    have B3 := Lib.hid (B2.out.trans (hb.mono B2.out.size)); clear hb
    rw [SY.out]
    have bx : ((s.extract 0 t.size).toList == t.toList) = true := str_eq_t EX.out.symm
    by_cases hts : t = s
    · have bt := str_eq_t hts
      have HTS := Lib.hid hts
      clear hts f3
      go_wp2_with fail
      refine (StemOf_any _ HT2.out _).mono ?_
      rintro e w4 ⟨rfl, hb⟩
      have B4 := Lib.hid (B3.out.trans (hb.mono B3.out.size)); clear hb
      rw [ST.out]
      go_wp2_with fail
      go_ret
      exact ⟨rfl, B4.out⟩
    · have bt := str_eq_f hts
      have h3 : 3 ≤ t.size := by
        rcases f3 with f3 | f3
        · exact absurd f3 hts
        · exact f3
      clear hts f3
      go_wp2_with fail
      refine (StemOf_any _ HT2.out _).mono ?_
      rintro e w4 ⟨rfl, hb⟩
      have B4 := Lib.hid (B3.out.trans (hb.mono B3.out.size)); clear hb
      rw [ST.out]
      go_wp2_with fail
      go_ret
      exact ⟨ret_bool (decide_eq_true (by omega)), B4.out⟩
end Go.Proofs.Ythbdbdccfdcpiaa
