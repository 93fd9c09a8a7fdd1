/- The laws on the words of a pattern and on words that are near. Conditions: what is read fits the model's sizes. -/
import Derived.Test.YtoljjhhomklcbaaDrawW
import Derived.Test.YtoljjhhomklcbaaNearOf
import Derived.Test.YtoljjhhomklcbaaNearLaw
namespace Go.Proofs.Ytoljjhhomklcbaa
open Go.RowKit
theorem foTexts_same (a : Option Addr) (n c : Nat) (ws : List ByteArray) (b : Option Addr) (d : Nat) (w : World) (hx : Strs w a n ws) (hy : Strs w b n ws) (hn : n ≤ maxLen) :
    Calls Try.prog 30 #[.slice a n c, .slice b n d] w fun e w' => e = .returned (.bool true) ∧ Drw w w' := by
  have HX := Lib.hid hx; clear hx
  have HY := Lib.hid hy; clear hy
  unfold maxLen at hn
  go_enter Try.func30, Try.ntmps30
  go_wp2_with fail
  go_loopw [5] (fun i wr => ∃ k : Nat, k ≤ n ∧ i = .int .i64 k ∧ Drw w wr) (fun i _ => n - (intOf i).toNat)
  case atStart => exact ⟨0, Nat.zero_le _, rfl, Drw.refl _⟩
  case round =>
    obtain ⟨k, hk, rfl, q, rfl⟩ := hrel
    by_cases hlt : k < n
    · obtain ⟨b1, o1, rfl, hc1⟩ := HX.out.rd.pos hlt
      have x0 := hc1 k hlt
      obtain ⟨b2, o2, rfl, hc2⟩ := HY.out.rd.pos hlt
      have y0 := hc2 k hlt
      clear hc1 hc2
      go_wp2_with fail
      go_quiet (fail)
      go_wp2_with fail
      go_roundw
      case rel => exact ⟨k + 1, by omega, by go_num, (by first | exact Drw.refl _ | exact Drw.mk _ _ | exact (Drw.mk _ _).trans (Drw.mk _ _) | exact ((Drw.mk _ _).trans (Drw.mk _ _)).trans (Drw.mk _ _))⟩
      case measure => simp [intOf]; omega
    · go_wp2_with fail
      go_ret
      exact ⟨rfl, (by first | exact Drw.refl _ | exact Drw.mk _ _ | exact (Drw.mk _ _).trans (Drw.mk _ _) | exact ((Drw.mk _ _).trans (Drw.mk _ _)).trans (Drw.mk _ _))⟩
set_option maxRecDepth 20000 in
set_option maxHeartbeats 2000000 in
theorem FnGlobOf_any {w : World} (a : Option Addr) (n cap : Nat) (cs : List Int) (hx : Byts w a n cap cs) (hn : n ≤ maxLen) :
    Calls Try.prog 7 #[.slice a n cap] w fun e w' => e = .returned (.bool true) ∧ Below w.heap.size w w' := by
  have HX := Lib.hid hx; clear hx
  unfold maxLen at hn
  by_cases hlt : (1048576 : Int) < (n : Int)
  · go_enter Try.func7, Try.ntmps7
    go_wp2_with fail
    go_ret
    exact ⟨rfl, Below.refl _ _⟩
  obtain ⟨i0, hi, hz0, hz1, hz2⟩ := info_parts info_str
  go_enter Try.func7, Try.ntmps7
  go_wp2_with fail
  refine (DrawGlobOf_any _ _ _ _ HX.out (by omega)).mono ?_
  rintro e w1 ⟨g, m, cp, xs, p, rfl, hm, hs, ho, hb⟩
  have HP := Lib.hid (show p.size ≤ maxLen by unfold maxLen; omega)
  have ho0 := ho.len
  have S1 := Lib.hid ho.strs; clear ho
  have B1 := Lib.hid hb; clear hb
  have HN := Lib.hid (show m ≤ maxLen by unfold maxLen; omega)
  obtain ⟨L, hL⟩ : ∃ L, L = globOf m xs p := ⟨_, rfl⟩
  have HL := Lib.hid hL
  have hLm : L.length ≤ m := by rw [hL]; exact globOf_le _ _ _ ho0
  have HLN := Lib.hid (show L.length ≤ maxLen by unfold maxLen; omega)
  have C1 := Lib.hid (fun w h => by have := GlobOf_any (some ⟨g, 0, none⟩) m cp xs p w h HN.out HP.out; rwa [← hL] at this)
  have C2 := Lib.hid (fun w h => by have := sGlobOf_any (some ⟨g, 0, none⟩) m cp xs p w h HN.out HP.out; rwa [← hL] at this)
  clear hL
  go_wp2_with fail
  refine (C1.out _ S1.out).mono ?_
  rintro e w2 ⟨a2, c2, rfl, ho, hb⟩
  have S12 := Lib.hid (S1.out.below hb)
  have B2 := Lib.hid (B1.out.trans (hb.mono B1.out.size)); clear hb
  have S2 := Lib.hid ho.strs; clear ho
  go_wp2_with fail
  refine (C2.out _ S12.out).mono ?_
  rintro e w3 ⟨a3, c3, rfl, ho, hb⟩
  have S13 := Lib.hid (S12.out.below hb)
  have S23 := Lib.hid (S2.out.below hb)
  have B3 := Lib.hid (B2.out.trans (hb.mono B2.out.size)); clear hb
  have S3 := Lib.hid ho.strs; clear ho
  go_wp2_with fail
  refine (foTexts_same _ _ _ _ _ _ _ S23.out S3.out HLN.out).mono ?_
  rintro e w4 ⟨rfl, q4, rfl⟩
  have S14 := Lib.hid (S13.out.drewN q4)
  have S24 := Lib.hid (S23.out.drewN q4)
  have B4 := Lib.hid (below_drewN B3.out q4)
  go_wp2_with fail
  refine (WordsUp_any _ _ _ _ S14.out HN.out).mono ?_
  rintro e w5 ⟨rfl, rfl⟩
  cases h1 : wordsUp m xs
  · go_wp2_with fail
    refine (C2.out _ S14.out).mono ?_
    rintro e w6 ⟨a6, c6, rfl, ho, hb⟩
    have S26 := Lib.hid (S24.out.below hb)
    have B6 := Lib.hid (B4.out.trans (hb.mono B4.out.size)); clear hb
    have S6 := Lib.hid ho.strs; clear ho
    go_wp2_with fail
    refine (foTexts_same _ _ _ _ _ _ _ S26.out S6.out HLN.out).mono ?_
    rintro e w7 ⟨rfl, q7, rfl⟩
    go_wp2_with fail
    go_ret
    exact ⟨rfl, below_drewN B6.out q7⟩
  · go_wp2_with fail
    refine (GlobOk_any _ HP.out _).mono ?_
    rintro e w5 ⟨rfl, rfl⟩
    cases h2 : globOk p
    · go_wp2_with fail
      refine (C2.out _ S14.out).mono ?_
      rintro e w6 ⟨a6, c6, rfl, ho, hb⟩
      have S26 := Lib.hid (S24.out.below hb)
      have B6 := Lib.hid (B4.out.trans (hb.mono B4.out.size)); clear hb
      have S6 := Lib.hid ho.strs; clear ho
      go_wp2_with fail
      refine (foTexts_same _ _ _ _ _ _ _ S26.out S6.out HLN.out).mono ?_
      rintro e w7 ⟨rfl, q7, rfl⟩
      go_wp2_with fail
      go_ret
      exact ⟨rfl, below_drewN B6.out q7⟩
    · have A4 := Lib.hid (B4.out.alloc B4.out.size (.cells #[] 9))
      have ON := Lib.hid (own_nil_made (w3.drewN q4))
      have E := Lib.hid (show L = xs.filter (globHasB p) from by rw [HL.out, globOf, h1, h2]; rfl)
      go_wp2_with fail
      go_loopw [6, 7] (fun v i wr => ∃ (k : Nat) (a' : Option Addr) (c' : Nat) (ys : List ByteArray), k ≤ m ∧ i = .int .i64 k ∧ v = .slice a' ys.length c' ∧ ys = (xs.take k).filter (globHasB p) ∧ wr.ownsRow w3.heap.size 9 1 (.slice a' ys.length c') ys.length (ys.map Value.string) ∧ Below w3.heap.size w3 wr) (fun _ i _ => m - (intOf i).toNat)
      case atStart => exact ⟨0, _, _, [], Nat.zero_le _, rfl, rfl, rfl, ON.out.own, (below_drewN (Below.refl _ _) q4).alloc (Nat.le_refl _) _⟩
      case round =>
        obtain ⟨k, a', c', ys, hk, rfl, rfl, hys, hown, hb⟩ := hrel
        have HY := Lib.hid hys; clear hys
        have HO := Lib.hid hown; clear hown
        have hyl : ys.length ≤ k := by
          rw [HY.out]; exact Nat.le_trans (List.length_filter_le _ _) (List.length_take_le _ _)
        have HB := Lib.hid hb; clear hb
        by_cases hlt2 : k < m
        · obtain ⟨b, off, he, hc⟩ := (S13.out.below HB.out).rd.pos hlt2
          injection he with he; injection he with he1 he2; subst he1; subst he2
          have hck := hc k hlt2
          rw [Nat.zero_add] at hck
          clear hc
          have hz := S13.out.fit k
          have hlx : k < xs.length := by rw [S13.out.len]; exact hlt2
          have HZ := Lib.hid hz; clear hz
          cases hq : (globHasB p) (nthS xs k)
          · have F := Lib.hid (filter_no hlx hq)
            go_wp2_with fail
            refine (GlobHas_any _ _ HP.out HZ.out _).mono ?_
            rintro e w' ⟨rfl, q, rfl⟩
            rw [hq]
            go_wp2_with fail
            go_roundw
            case rel => exact ⟨k + 1, a', c', ys, by omega, by go_num, rfl, by rw [F.out]; exact HY.out, own_drewN HO.out q, below_drewN HB.out q⟩
            case measure => simp [intOf]; omega
          · have F := Lib.hid (filter_yes hlx hq)
            go_wp2_with fail
            refine (GlobHas_any _ _ HP.out HZ.out _).mono ?_
            rintro e w' ⟨rfl, q, rfl⟩
            rw [hq]
            have HOA := Lib.hid (own_drewN HO.out q)
            have HBA := Lib.hid (below_drewN HB.out q)
            go_wp2_with (at_builtin; refine wpList_append_own _ rfl _ _ 40 rfl w3.heap.size 9 i0 (.string ByteArray.empty) 1 16 Try.underlying40 hi hz0 hz1 hz2 rfl (by decide) _ _ _ rfl (HOA.out.alloc _) ⟨wr.heap.size, 0, none⟩ 1 1 [.string (nthS xs k)] rfl rfl ?c1 ?c2 ?c3 ?c4 ?c5 ?_)
            case c1 => exact cells_new (wr.drewN q) _ _
            case c2 => intro u hu; simp at hu; subst hu; rfl
            case c3 => unfold maxLen; omega
            case c4 => omega
            case c5 => have := HBA.out.size; simp at this ⊢; omega
            intro v' w8 hown' hgrow _
            obtain ⟨a8, c8, hv⟩ := own_form hown'
            rw [hv] at hown'
            have HO2 := Lib.hid hown'; clear hown'
            have HB2 := Lib.hid ((HBA.out.alloc HBA.out.size _).grown hgrow (by have := HBA.out.size; simp at this ⊢; omega) (fun j hj => (own_block HO.out j hj).1))
            clear hgrow
            rw [hv]
            clear hv
            go_wp2_with fail
            go_roundw
            case rel => exact ⟨k + 1, a8, c8, ys ++ [nthS xs k], by omega, by go_num, by simp, by rw [F.out, HY.out], by have := HO2.out; simpa using this, HB2.out⟩
            case measure => simp [intOf]; omega
        · obtain rfl : k = m := by omega
          have YE := Lib.hid (show ys = L by rw [E.out, HY.out, ← S13.out.len, List.take_length])
          have SY := Lib.hid (own_of_map rfl HO.out S13.out.fit (fun y hy => by rw [HY.out] at hy; exact List.mem_of_mem_take (List.mem_filter.1 hy).1)).strs
          have B9 := Lib.hid (B3.out.trans (HB.out.mono B3.out.size))
          have S29 := Lib.hid (S23.out.below HB.out)
          have yl : ys.length = L.length := by rw [YE.out]
          rw [yl]
          have SY2 := Lib.hid (show Strs wr a' L.length L by have := SY.out; rw [YE.out] at this; exact this)
          clear yl
          go_wp2_with fail
          refine (foTexts_same _ _ _ _ _ _ _ S29.out SY2.out HLN.out).mono ?_
          rintro e w9 ⟨rfl, q9, rfl⟩
          go_wp2_with fail
          go_ret
          exact ⟨rfl, below_drewN B9.out q9⟩
theorem asc_lt {n : Nat} {xs : List ByteArray} (h : wordsUp n xs = true) : ∀ j i, i < j → j < n → (nthS xs i).toList < (nthS xs j).toList := by
  simp only [wordsUp, wordsAsc, Bool.and_eq_true] at h
  have h2 := allN_iff.1 h.2
  have step : ∀ j, 0 < j → j < n → (nthS xs (j - 1)).toList < (nthS xs j).toList := by
    intro j h0 hj
    have := h2 j hj
    simp only [ascAt, Bool.and_eq_true, Bool.or_eq_true, decide_eq_true_eq] at this
    rcases this.2 with h3 | h3
    · omega
    · exact (lessS_iff _ _).1 h3
  intro j
  induction j with
  | zero => intro i hi; omega
  | succ j ih =>
    intro i hi hj
    have s := step (j + 1) (by omega) hj
    rw [show j + 1 - 1 = j from rfl] at s
    rcases Nat.lt_or_ge i j with h3 | h3
    · exact List.lt_trans (ih i h3 (by omega)) s
    · obtain rfl : i = j := by omega
      exact s
theorem filter_one {q : ByteArray → Bool} {s : ByteArray} : ∀ (xs : List ByteArray), (∀ x ∈ xs, q x = true → x = s) → (∀ i j, i < j → j < xs.length → nthS xs i ≠ nthS xs j) → (xs.filter q).length ≤ 1
  | [], _, _ => Nat.zero_le _
  | x :: xs, h, hd => by
    have ih := filter_one xs (fun y hy => h y (by simp [hy])) (fun i j hij hj => by
      have := hd (i + 1) (j + 1) (by omega) (by simpa using hj)
      simpa [nthS] using this)
    rw [List.filter_cons]
    split
    · rename_i hx
      have hxs : x = s := h x (by simp) hx
      have : xs.filter q = [] := by
        rw [List.filter_eq_nil_iff]
        intro y hy hq
        have hys : y = s := h y (by simp [hy]) hq
        obtain ⟨j, hj⟩ := List.getElem?_of_mem hy
        have hjl : j < xs.length := (List.getElem?_eq_some_iff.1 hj).1
        have := hd 0 (j + 1) (by omega) (by simpa using hjl)
        apply this
        simp [nthS, hj, hxs, hys]
      rw [this]; simp
    · exact ih
theorem near_one {m : Nat} {xs : List ByteArray} {s : ByteArray} (hs : wordOk s = true) (hl : xs.length = m) : (nearOf m xs s ((0 : Nat) : Int)).length ≤ 1 := by
  unfold nearOf
  by_cases h : wordsUp m xs = true
  · split
    · refine filter_one (s := s) xs (fun x hx hq => ?_) (fun i j hij hj => ?_)
      · simp only [isNear, decide_eq_true_eq] at hq
        obtain ⟨k, hk⟩ := List.getElem?_of_mem hx
        have hkl : k < xs.length := (List.getElem?_eq_some_iff.1 hk).1
        have hw := wordsUp_ok h (j := k) (by omega)
        rw [show nthS xs k = x by simp [nthS, hk]] at hw
        rw [nearFar_words hw hs] at hq
        have := farI_nn x s
        exact (farI_zero x s).1 (by omega)
      · intro e
        have := asc_lt h j i hij (by omega)
        rw [e] at this
        exact absurd this (List.lt_irrefl _)
    · exact Nat.zero_le _
  · rw [if_neg (by simp [h])]; exact Nat.zero_le _
set_option maxRecDepth 20000 in
set_option maxHeartbeats 2000000 in
theorem FnNearOf_any {w : World} (a : Option Addr) (n cap : Nat) (cs : List Int) (hx : Byts w a n cap cs) (hn : n ≤ maxLen) :
    Calls Try.prog 8 #[.slice a n cap] w fun e w' => e = .returned (.bool true) ∧ Below w.heap.size w w' := by
  have HX := Lib.hid hx; clear hx
  unfold maxLen at hn
  by_cases hlt : (1048576 : Int) < (n : Int)
  · go_enter Try.func8, Try.ntmps8
    go_wp2_with fail
    go_ret
    exact ⟨rfl, Below.refl _ _⟩
  obtain ⟨i0, hi, hz0, hz1, hz2⟩ := info_parts info_str
  go_enter Try.func8, Try.ntmps8
  go_wp2_with fail
  refine (DrawNearOf_any _ _ _ _ HX.out (by omega)).mono ?_
  rintro e w1 ⟨g, m, cp, xs, s, f, rfl, hm, hs, hf, ho, hb⟩
  have HW := Lib.hid hs; clear hs
  have hsz := (wordOk_size HW.out).2
  have HP := Lib.hid (show s.size ≤ maxLen by unfold maxLen; omega)
  have ho0 := ho.len
  have S1 := Lib.hid ho.strs; clear ho
  have B1 := Lib.hid hb; clear hb
  have HN := Lib.hid (show m ≤ maxLen by unfold maxLen; omega)
  obtain ⟨L, hL⟩ : ∃ L, L = nearOf m xs s (f : Int) := ⟨_, rfl⟩
  have HL := Lib.hid hL
  have hLm : L.length ≤ m := by rw [hL]; exact nearOf_le _ _ _ _ ho0
  have HLN := Lib.hid (show L.length ≤ maxLen by unfold maxLen; omega)
  have C1 := Lib.hid (fun w h => by have := NearOf_any (some ⟨g, 0, none⟩) m cp xs s (f : Int) w h HN.out HP.out; rwa [← hL] at this)
  have C2 := Lib.hid (fun w h => by have := sNearOf_any (some ⟨g, 0, none⟩) m cp xs s (f : Int) w h HN.out HP.out; rwa [← hL] at this)
  clear hL
  go_wp2_with fail
  refine (C1.out _ S1.out).mono ?_
  rintro e w2 ⟨a2, c2, rfl, ho, hb⟩
  have S12 := Lib.hid (S1.out.below hb)
  have B2 := Lib.hid (B1.out.trans (hb.mono B1.out.size)); clear hb
  have S2 := Lib.hid ho.strs; clear ho
  go_wp2_with fail
  refine (C2.out _ S12.out).mono ?_
  rintro e w3 ⟨a3, c3, rfl, ho, hb⟩
  have S13 := Lib.hid (S12.out.below hb)
  have S23 := Lib.hid (S2.out.below hb)
  have B3 := Lib.hid (B2.out.trans (hb.mono B2.out.size)); clear hb
  have S3 := Lib.hid ho.strs; clear ho
  go_wp2_with fail
  refine (foTexts_same _ _ _ _ _ _ _ S23.out S3.out HLN.out).mono ?_
  rintro e w4 ⟨rfl, q4, rfl⟩
  have S14 := Lib.hid (S13.out.drewN q4)
  have S24 := Lib.hid (S23.out.drewN q4)
  have B4 := Lib.hid (below_drewN B3.out q4)
  go_wp2_with fail
  refine (WordsUp_any _ _ _ _ S14.out HN.out).mono ?_
  rintro e w5 ⟨rfl, rfl⟩
  cases h1 : wordsUp m xs
  · go_wp2_with fail
    refine (C2.out _ S14.out).mono ?_
    rintro e w6 ⟨a6, c6, rfl, ho, hb⟩
    have S26 := Lib.hid (S24.out.below hb)
    have B6 := Lib.hid (B4.out.trans (hb.mono B4.out.size)); clear hb
    have S6 := Lib.hid ho.strs; clear ho
    go_wp2_with fail
    refine (foTexts_same _ _ _ _ _ _ _ S26.out S6.out HLN.out).mono ?_
    rintro e w7 ⟨rfl, q7, rfl⟩
    go_wp2_with fail
    go_ret
    exact ⟨rfl, below_drewN B6.out q7⟩
  · by_cases h2 : 2 < f
    · have h2' : (2 : Int) < (f : Int) := by omega
      go_wp2_with fail
      refine (C2.out _ S14.out).mono ?_
      rintro e w6 ⟨a6, c6, rfl, ho, hb⟩
      have S26 := Lib.hid (S24.out.below hb)
      have B6 := Lib.hid (B4.out.trans (hb.mono B4.out.size)); clear hb
      have S6 := Lib.hid ho.strs; clear ho
      go_wp2_with fail
      refine (foTexts_same _ _ _ _ _ _ _ S26.out S6.out HLN.out).mono ?_
      rintro e w7 ⟨rfl, q7, rfl⟩
      go_wp2_with fail
      go_ret
      exact ⟨rfl, below_drewN B6.out q7⟩
    · have h2' : ¬ (2 : Int) < (f : Int) := by omega
      have A4 := Lib.hid (B4.out.alloc B4.out.size (.cells #[] 9))
      have ON := Lib.hid (own_nil_made (w3.drewN q4))
      have E := Lib.hid (show L = xs.filter (isNear s (f : Int)) from by rw [HL.out, nearOf, h1, HW.out, if_pos (by simp; omega)])
      go_wp2_with fail
      go_loopw [7, 8] (fun v i wr => ∃ (k : Nat) (a' : Option Addr) (c' : Nat) (ys : List ByteArray), k ≤ m ∧ i = .int .i64 k ∧ v = .slice a' ys.length c' ∧ ys = (xs.take k).filter (isNear s (f : Int)) ∧ wr.ownsRow w3.heap.size 9 1 (.slice a' ys.length c') ys.length (ys.map Value.string) ∧ Below w3.heap.size w3 wr) (fun _ i _ => m - (intOf i).toNat)
      case atStart => exact ⟨0, _, _, [], Nat.zero_le _, rfl, rfl, rfl, ON.out.own, (below_drewN (Below.refl _ _) q4).alloc (Nat.le_refl _) _⟩
      case round =>
        obtain ⟨k, a', c', ys, hk, rfl, rfl, hys, hown, hb⟩ := hrel
        have HY := Lib.hid hys; clear hys
        have HO := Lib.hid hown; clear hown
        have hyl : ys.length ≤ k := by
          rw [HY.out]; exact Nat.le_trans (List.length_filter_le _ _) (List.length_take_le _ _)
        have HB := Lib.hid hb; clear hb
        by_cases hlt2 : k < m
        · obtain ⟨b, off, he, hc⟩ := (S13.out.below HB.out).rd.pos hlt2
          injection he with he; injection he with he1 he2; subst he1; subst he2
          have hck := hc k hlt2
          rw [Nat.zero_add] at hck
          clear hc
          have hz := S13.out.fit k
          have hlx : k < xs.length := by rw [S13.out.len]; exact hlt2
          have HZ := Lib.hid hz; clear hz
          cases hq : (isNear s (f : Int)) (nthS xs k)
          · have F := Lib.hid (filter_no hlx hq)
            have CF := Lib.hid (fun w => NearFar_any (nthS xs k) s HZ.out HP.out w)
            rw [isNear] at hq
            generalize nearFar (nthS xs k) s = d at *
            go_wp2_with fail
            refine (CF.out _).mono ?_
            rintro e w' ⟨rfl, hbf⟩
            have HB' := Lib.hid (HB.out.trans (hbf.mono HB.out.size))
            have HO' := Lib.hid (own_below HO.out hbf (Nat.le_refl _))
            have ck' := (hbf.cell (World.block_lt_of_cell? wr _ hck)).trans hck
            clear hbf
            go_wp2_with fail
            go_roundw
            case rel => exact ⟨k + 1, a', c', ys, by omega, by go_num, rfl, by rw [F.out]; exact HY.out, HO'.out, HB'.out⟩
            case measure => simp [intOf]; omega
          · have F := Lib.hid (filter_yes hlx hq)
            have CF := Lib.hid (fun w => NearFar_any (nthS xs k) s HZ.out HP.out w)
            rw [isNear] at hq
            generalize nearFar (nthS xs k) s = d at *
            go_wp2_with fail
            refine (CF.out _).mono ?_
            rintro e w' ⟨rfl, hbf⟩
            have HB' := Lib.hid (HB.out.trans (hbf.mono HB.out.size))
            have HO' := Lib.hid (own_below HO.out hbf (Nat.le_refl _))
            have ck' := (hbf.cell (World.block_lt_of_cell? wr _ hck)).trans hck
            clear hbf
            have HOA := Lib.hid HO'.out
            have HBA := Lib.hid HB'.out
            go_wp2_with (at_builtin; refine wpList_append_own _ rfl _ _ 40 rfl w3.heap.size 9 i0 (.string ByteArray.empty) 1 16 Try.underlying40 hi hz0 hz1 hz2 rfl (by decide) _ _ _ rfl (HOA.out.alloc _) ⟨w'.heap.size, 0, none⟩ 1 1 [.string (nthS xs k)] rfl rfl ?c1 ?c2 ?c3 ?c4 ?c5 ?_)
            case c1 => exact cells_new w' _ _
            case c2 => intro u hu; simp at hu; subst hu; rfl
            case c3 => unfold maxLen; omega
            case c4 => omega
            case c5 => have := HBA.out.size; simp at this ⊢; omega
            intro v' w8 hown' hgrow _
            obtain ⟨a8, c8, hv⟩ := own_form hown'
            rw [hv] at hown'
            have HO2 := Lib.hid hown'; clear hown'
            have HB2 := Lib.hid ((HBA.out.alloc HBA.out.size _).grown hgrow (by have := HBA.out.size; simp at this ⊢; omega) (fun j hj => (own_block HO.out j hj).1))
            clear hgrow
            rw [hv]
            clear hv
            go_wp2_with fail
            go_roundw
            case rel => exact ⟨k + 1, a8, c8, ys ++ [nthS xs k], by omega, by go_num, by simp, by rw [F.out, HY.out], by have := HO2.out; simpa using this, HB2.out⟩
            case measure => simp [intOf]; omega
        · obtain rfl : k = m := by omega
          have YE := Lib.hid (show ys = L by rw [E.out, HY.out, ← S13.out.len, List.take_length])
          have SY := Lib.hid (own_of_map rfl HO.out S13.out.fit (fun y hy => by rw [HY.out] at hy; exact List.mem_of_mem_take (List.mem_filter.1 hy).1)).strs
          have B9 := Lib.hid (B3.out.trans (HB.out.mono B3.out.size))
          have S29 := Lib.hid (S23.out.below HB.out)
          have yl : ys.length = L.length := by rw [YE.out]
          rw [yl]
          have SY2 := Lib.hid (show Strs wr a' L.length L by have := SY.out; rw [YE.out] at this; exact this)
          clear yl
          go_wp2_with fail
          refine (foTexts_same _ _ _ _ _ _ _ S29.out SY2.out HLN.out).mono ?_
          rintro e w9 ⟨rfl, q9, rfl⟩
          by_cases f0 : 0 < f
          · go_wp2_with fail
            go_ret
            exact ⟨rfl, below_drewN B9.out q9⟩
          · obtain rfl : f = 0 := by omega
            have l1 : L.length ≤ 1 := by rw [HL.out]; exact near_one HW.out S13.out.len
            go_wp2_with fail
            go_ret
            exact ⟨ret_bool (decide_eq_true (by omega)), below_drewN B9.out q9⟩
end Go.Proofs.Ytoljjhhomklcbaa
