/- The walks of the words of a text, and of the laws' helpers on slices of words. Conditions: what is read fits the model's sizes. -/
import Derived.Test.YtehgljcngkodcaaWordsOf
import Derived.Test.YtehgljcngkodcaaMark
import Derived.Deep.RegionWith
namespace Go.Proofs.Ytehgljcngkodcaa
open Go.RowKit

theorem sWordsOf_any (s : ByteArray) (hs : s.size ≤ maxLen) (w : World) :
    Calls Try.prog 34 #[.string s] w fun e w' => ∃ a' c', e = .returned (.slice a' (wordsOf s).length c') ∧ OwnWds w' w.heap.size a' (wordsOf s).length c' (wordsOf s) ∧ Below w.heap.size w w' := by
  cases h1 : textOk s
  · rw [show wordsOf s = [] by rw [wordsOf, h1]; rfl]
    go_enter Try.func34, Try.ntmps34
    go_wp2_with fail
    refine (l1Text_any _ _ hs).mono ?_
    rintro e w' ⟨rfl, rfl⟩
    go_wp2_with fail
    go_ret
    exact ⟨_, _, rfl, ⟨rfl, fun j => by simp [nthW], World.ownsRow_nil w _ _ _⟩, Below.refl _ _⟩
  · have HW := Lib.hid (show wordsOf s = wds s 0 0 by rw [wordsOf, h1]; rfl)
    have h160 := textOk_size h1
    go_enter Try.func34, Try.ntmps34
    go_wp2_with fail
    refine (l1Text_any _ _ hs).mono ?_
    rintro e w' ⟨rfl, rfl⟩
    go_wp2_with fail
    refine (l1Words_any _ h160 _).mono ?_
    rintro e w1 ⟨a1, c1, rfl, ho, hb⟩
    have HO := Lib.hid ho; clear ho
    have HB := Lib.hid hb; clear hb
    go_wp2_with fail
    go_ret
    rw [HW.out]
    exact ⟨_, _, rfl, HO.out, HB.out⟩
def wordsMany (s : ByteArray) : Int := if textOk s then ((wordsOf s).length : Int) else -1
theorem sWordsMany_any (s : ByteArray) (hs : s.size ≤ maxLen) (w : World) :
    Calls Try.prog 32 #[.string s] w fun e w' => e = .returned (.int .i64 (wordsMany s)) ∧ Below w.heap.size w w' := by
  cases h1 : textOk s
  · have R := Lib.hid (show wordsMany s = -1 by rw [wordsMany, h1]; rfl)
    go_enter Try.func32, Try.ntmps32
    go_wp2_with fail
    refine (l1Text_any _ _ hs).mono ?_
    rintro e w' ⟨rfl, rfl⟩
    go_wp2_with fail
    go_ret
    exact ⟨ret_int R.out.symm, Below.refl _ _⟩
  · have R := Lib.hid (show wordsMany s = ((wds s 0 0).length : Int) by rw [wordsMany, h1, wordsOf, h1]; rfl)
    have h160 := textOk_size h1
    have hl := wds_count s _ 0 0 rfl
    go_enter Try.func32, Try.ntmps32
    go_wp2_with fail
    refine (l1Text_any _ _ hs).mono ?_
    rintro e w' ⟨rfl, rfl⟩
    go_wp2_with fail
    refine (l1Words_any _ h160 _).mono ?_
    rintro e w1 ⟨a1, c1, rfl, ho, hb⟩
    have HB := Lib.hid hb; clear hb ho
    go_wp2_with fail
    go_ret
    exact ⟨ret_int R.out.symm, HB.out⟩
theorem WordsMany_any (s : ByteArray) (hs : s.size ≤ maxLen) (w : World) :
    Calls Try.prog 33 #[.string s] w fun e w' => e = .returned (.int .i64 (wordsMany s)) ∧ Below w.heap.size w w' := by
  cases h1 : textOk s
  · have R := Lib.hid (show wordsMany s = -1 by rw [wordsMany, h1]; rfl)
    go_enter Try.func33, Try.ntmps33
    go_wp2_with fail
    refine (TextOk_any _ _ hs).mono ?_
    rintro e w' ⟨rfl, rfl⟩
    go_wp2_with fail
    go_ret
    exact ⟨ret_int R.out.symm, Below.refl _ _⟩
  · have R := Lib.hid (show wordsMany s = ((wordsOf s).length : Int) by rw [wordsMany, h1]; rfl)
    have hl := wordsOf_len s
    go_enter Try.func33, Try.ntmps33
    go_wp2_with fail
    refine (TextOk_any _ _ hs).mono ?_
    rintro e w' ⟨rfl, rfl⟩
    go_wp2_with fail
    refine (WordsOf_any _ hs _).mono ?_
    rintro e w1 ⟨a1, c1, rfl, ho, hb⟩
    have HB := Lib.hid hb; clear hb ho
    go_wp2_with fail
    go_ret
    exact ⟨ret_int R.out.symm, HB.out⟩
theorem xWordsMany_any (s : ByteArray) (hs : s.size ≤ maxLen) (w : World) :
    Calls Try.prog 11 #[.string s] w fun e w' => e = .returned (.bool true) ∧ Below w.heap.size w w' := by
  by_cases hlt : (1048576 : Int) < (s.size : Int)
  · go_enter Try.func11, Try.ntmps11
    go_wp2_with fail
    go_ret
    exact ⟨rfl, Below.refl _ _⟩
  · go_enter Try.func11, Try.ntmps11
    go_wp2_with fail
    refine (sWordsMany_any _ hs _).mono ?_
    rintro e w1 ⟨rfl, hb⟩
    have HB := Lib.hid hb; clear hb
    go_wp2_with fail
    refine (WordsMany_any _ hs _).mono ?_
    rintro e w2 ⟨rfl, hb⟩
    have HB2 := Lib.hid (HB.out.trans (hb.mono HB.out.size)); clear hb
    go_wp2_with fail
    go_ret
    exact ⟨rfl, HB2.out⟩
theorem eqWord_same (t : ByteArray) (p q r : Int) (w : World) :
    Calls Try.prog 59 #[.agg #[.string t, .int .i64 p, .int .i64 q, .int .i64 r], .agg #[.string t, .int .i64 p, .int .i64 q, .int .i64 r]] w fun e w' => e = .returned (.bool true) ∧ Below w.heap.size w w' := by
  go_enter Try.func59, Try.ntmps59
  go_wp2_with fail
  go_ret
  exact ⟨rfl, ((Below.refl _ _).alloc (Nat.le_refl _) _).alloc (by simp) _⟩
theorem eqWordS_same (a : Option Addr) (n c : Nat) (ws : List Wd) (b : Option Addr) (d : Nat) (w : World) (hx : Wds w a n ws) (hy : Wds w b n ws) (hn : n ≤ maxLen) :
    Calls Try.prog 36 #[.slice a n c, .slice b n d] w fun e w' => e = .returned (.bool true) ∧ Below w.heap.size w w' := by
  have HX := Lib.hid hx; clear hx
  have HY := Lib.hid hy; clear hy
  unfold maxLen at hn
  have c4 := cells_word
  go_enter Try.func36, Try.ntmps36
  go_wp2_with fail
  go_loopw [5] (fun i wr => ∃ k : Nat, k ≤ n ∧ i = .int .i64 k ∧ Below w.heap.size w wr) (fun i _ => n - (intOf i).toNat)
  case atStart => exact ⟨0, Nat.zero_le _, rfl, Below.refl _ _⟩
  case round =>
    obtain ⟨k, hk, rfl, hb⟩ := hrel
    by_cases hlt : k < n
    · obtain ⟨b1, o1, rfl, hc1⟩ := (HX.out.below hb).pos hlt
      obtain ⟨x0, x1, x2, x3⟩ := hc1 k hlt
      obtain ⟨b2, o2, rfl, hc2⟩ := (HY.out.below hb).pos hlt
      obtain ⟨y0, y1, y2, y3⟩ := hc2 k hlt
      have HB := Lib.hid hb
      clear hc1 hc2 hb
      go_wp2_with fail
      go_region_with (go_at_call 59; refine (eqWord_same _ _ _ _ _).mono ?_; rintro e w1 ⟨rfl, hb1⟩; have BB := Lib.hid (Below.trans (Below.drew HB.out) (hb1.mono (show w.heap.size ≤ wr.heap.size from HB.out.size))); clear hb1)
      all_goals
        go_wp2_with fail
        go_roundw
        case rel => exact ⟨k + 1, by omega, by go_num, BB.out⟩
        case measure => simp [intOf]; omega
    · have HB := Lib.hid hb; clear hb
      go_wp2_with fail
      go_ret
      exact ⟨rfl, HB.out⟩
def marksW (k : Nat) (j : Nat) : Value := if j % 4 = 0 then .string (markS (k + j)) else .int .i64 ((k + j : Nat) : Int)
theorem own_cell {w : World} {B : Nat} {e : TypeId} {size n : Nat} {v : Value} {g cap : Nat} {xs : List Value} (h : w.ownsRow B e size v n xs) (hv : v = .slice (some ⟨g, 0, none⟩) n cap) {j : Nat} (hj : j < n * size) : (∃ u, w.cell? ⟨g, j, none⟩ = some u) ∧ w.frozen? ⟨g, j, none⟩ = false := by
  subst hv
  refine ⟨⟨xs[j]'(by rw [h.1]; exact hj), ?_⟩, h.frozenAt j⟩
  rw [h.cellAt j hj]
  simp [h.1, hj]
set_option maxHeartbeats 1000000 in
theorem markWordS_any (a : Option Addr) (n cap : Nat) (k : Nat) (B : Nat) (F : Nat → Value) (w : World) (ho : w.ownsRow B 46 4 (.slice a n cap) n (tab (n * 4) F)) (h0 : 0 < k) (h1 : k + n * 4 ≤ 1152921504606846976) :
    Calls Try.prog 37 #[.slice a n cap, .int .i64 k] w fun e w' => e = .returned (.int .i64 ((k + n * 4 : Nat) : Int)) ∧ w'.ownsRow B 46 4 (.slice a n cap) n (tab (n * 4) (marksW k)) ∧ w.grownBy w' (Value.slice a n cap).ownBlock := by
  have HO := Lib.hid ho; clear ho
  have c4 := cells_word
  go_enter Try.func37, Try.ntmps37
  go_wp2_with fail
  go_loopw [1, 5] (fun v i wr => ∃ m : Nat, m ≤ n ∧ i = .int .i64 m ∧ v = .int .i64 ((k + m * 4 : Nat) : Int) ∧ wr.ownsRow B 46 4 (.slice a n cap) n (tab (n * 4) (upTo (m * 4) (marksW k) F)) ∧ w.grownBy wr (Value.slice a n cap).ownBlock) (fun _ i _ => n - (intOf i).toNat)
  case atStart => exact ⟨0, Nat.zero_le _, rfl, rfl, by rw [Nat.zero_mul, tab_upTo_zero]; exact HO.out, World.grownBy.refl _ _⟩
  case round =>
    obtain ⟨m, hm, rfl, rfl, hown, hgr⟩ := hrel
    by_cases hlt : m < n
    · obtain ⟨g, rfl, hB, hgs⟩ := own_pos hown (by omega)
      have OW := Lib.hid hown; clear hown
      have GR := Lib.hid hgr; clear hgr
      obtain ⟨q, hq⟩ : ∃ q, q = k + m * 4 := ⟨_, rfl⟩
      rw [← hq]
      have hq1 : 0 < q := by omega
      have hq2 : q + 4 ≤ 1152921504606846976 := by omega
      have HQ := Lib.hid hq; clear hq
      go_wp2_with fail
      refine (markText_any q (by omega) (by omega) _).mono ?_
      rintro e w1 ⟨rfl, hb⟩
      have O1 := own_below OW.out hb (Nat.le_refl _)
      obtain ⟨⟨v0, hc0⟩, hf0⟩ := own_cell O1 rfl (j := m * 4) (by omega)
      obtain ⟨⟨v1, hc1⟩, hf1⟩ := own_cell O1 rfl (j := m * 4 + 1) (by omega)
      obtain ⟨⟨v2, hc2⟩, hf2⟩ := own_cell O1 rfl (j := m * 4 + 2) (by omega)
      obtain ⟨⟨v3, hc3⟩, hf3⟩ := own_cell O1 rfl (j := m * 4 + 3) (by omega)
      have S0 := O1.stored (m * 4) (.string (markS q))
      have S1 := S0.1.stored (m * 4 + 1) (.int .i64 ((q : Int) + 1))
      have S2 := S1.1.stored (m * 4 + 2) (.int .i64 ((q : Int) + 1 + 1))
      have S3 := S2.1.stored (m * 4 + 3) (.int .i64 ((q : Int) + 1 + 1 + 1))
      have OX := S3.1
      rw [tab_upTo_set (by omega) (by rw [marksW, if_pos (by omega), HQ.out]), tab_upTo_set (by omega) (by rw [marksW, if_neg (by omega), HQ.out]; exact vint (by omega)), tab_upTo_set (by omega) (by rw [marksW, if_neg (by omega), HQ.out]; exact vint (by omega)), tab_upTo_set (by omega) (by rw [marksW, if_neg (by omega), HQ.out]; exact vint (by omega))] at OX
      have G1 := Lib.hid (grownBy_trans GR.out (grownBy_trans (grownBy_of_below hb _) (grownBy_trans S0.2 (grownBy_trans S1.2 (grownBy_trans S2.2 S3.2)))))
      have OX1 := Lib.hid OX
      clear O1 S0 S1 S2 S3 OX hb
      go_wp2_with fail
      go_roundw
      case rel => exact ⟨m + 1, by omega, by go_num, vint (by have := HQ.out; omega), by rw [show (m + 1) * 4 = m * 4 + 3 + 1 by omega]; exact OX1.out, G1.out⟩
      case measure => simp [intOf]; omega
    · obtain rfl : m = n := by omega
      have OW := Lib.hid hown; clear hown
      have GR := Lib.hid hgr; clear hgr
      go_wp2_with fail
      go_ret
      exact ⟨rfl, by have := OW.out; rwa [tab_upTo_full] at this, GR.out⟩
set_option maxHeartbeats 1000000 in
theorem heldWordS_any (a : Option Addr) (n cap : Nat) (k : Nat) (w : World) (hr : Rd w a (n * 4) (marksW k)) (h0 : 0 < k) (h1 : k + n * 4 ≤ 1152921504606846976) :
    Calls Try.prog 38 #[.slice a n cap, .int .i64 k] w fun e w' => e = .returned (.int .i64 ((k + n * 4 : Nat) : Int)) ∧ Below w.heap.size w w' := by
  have HR := Lib.hid hr; clear hr
  have c4 := cells_word
  go_enter Try.func38, Try.ntmps38
  go_wp2_with fail
  go_loopw [1, 5] (fun v i wr => ∃ m : Nat, m ≤ n ∧ i = .int .i64 m ∧ v = .int .i64 ((k + m * 4 : Nat) : Int) ∧ Below w.heap.size w wr) (fun _ i _ => n - (intOf i).toNat)
  case atStart => exact ⟨0, Nat.zero_le _, rfl, rfl, Below.refl _ _⟩
  case round =>
    obtain ⟨m, hm, rfl, rfl, hb⟩ := hrel
    by_cases hlt : m < n
    · obtain ⟨b, off, rfl, hc⟩ := (HR.out.below hb).pos (show m * 4 < n * 4 by omega)
      obtain ⟨q, hq⟩ : ∃ q, q = k + m * 4 := ⟨_, rfl⟩
      rw [← hq]
      have hq1 : 0 < q := by omega
      have hq2 : q + 4 ≤ 1152921504606846976 := by omega
      have hc0 : wr.cell? ⟨b, off + m * 4, none⟩ = some (.string (markS q)) := by rw [hc (m * 4) (by omega), marksW, if_pos (by omega), hq]
      have hc1 : wr.cell? ⟨b, off + m * 4 + 1, none⟩ = some (.int .i64 ((q : Int) + 1)) := by rw [Nat.add_assoc, hc (m * 4 + 1) (by omega), marksW, if_neg (by omega), hq]; exact congrArg some (vint (by omega))
      have hc2 : wr.cell? ⟨b, off + m * 4 + 2, none⟩ = some (.int .i64 ((q : Int) + 1 + 1)) := by rw [Nat.add_assoc, hc (m * 4 + 2) (by omega), marksW, if_neg (by omega), hq]; exact congrArg some (vint (by omega))
      have hc3 : wr.cell? ⟨b, off + m * 4 + 3, none⟩ = some (.int .i64 ((q : Int) + 1 + 1 + 1)) := by rw [Nat.add_assoc, hc (m * 4 + 3) (by omega), marksW, if_neg (by omega), hq]; exact congrArg some (vint (by omega))
      have HQ := Lib.hid hq; clear hq hc
      have HB := Lib.hid hb; clear hb
      have hlb := World.block_lt_of_cell? wr _ hc0
      have M := Lib.hid (fun w => markText_any q (by omega) (by omega) w)
      go_wp2_with fail
      go_region_with (go_at_call 60; refine (M.out _).mono ?_; rintro e w1 ⟨rfl, hb1⟩; have hd0 := (hb1.cell (p := ⟨b, off + m * 4, none⟩) hlb).trans hc0; have hd1 := (hb1.cell (p := ⟨b, off + m * 4 + 1, none⟩) hlb).trans hc1; have hd2 := (hb1.cell (p := ⟨b, off + m * 4 + 2, none⟩) hlb).trans hc2; have hd3 := (hb1.cell (p := ⟨b, off + m * 4 + 3, none⟩) hlb).trans hc3; have BB := Lib.hid ((Below.drew HB.out).trans (hb1.mono (show w.heap.size ≤ wr.heap.size from HB.out.size))); clear hb1)
      all_goals
        go_wp2_with fail
        go_roundw
        case rel => exact ⟨m + 1, by omega, by go_num, vint (by have := HQ.out; omega), BB.out⟩
        case measure => simp [intOf]; omega
    · obtain rfl : m = n := by omega
      have HB := Lib.hid hb; clear hb
      go_wp2_with fail
      go_ret
      exact ⟨rfl, HB.out⟩
set_option maxRecDepth 20000 in
set_option maxHeartbeats 1000000 in
theorem xWordsOf_any (s : ByteArray) (hs : s.size ≤ maxLen) (w : World) :
    Calls Try.prog 12 #[.string s] w fun e w' => e = .returned (.bool true) ∧ Below w.heap.size w w' := by
  have hL := wordsOf_len s
  have L3 : (wordsOf s).length ≤ maxLen := by unfold maxLen; omega
  by_cases hlt : (1048576 : Int) < (s.size : Int)
  · go_enter Try.func12, Try.ntmps12
    go_wp2_with fail
    go_ret
    exact ⟨rfl, Below.refl _ _⟩
  · go_enter Try.func12, Try.ntmps12
    go_wp2_with fail
    refine (sWordsOf_any _ hs _).mono ?_
    rintro e w1 ⟨a1, c1, rfl, ho1, hb1⟩
    have W1 := Lib.hid ho1; clear ho1
    have B1 := Lib.hid hb1; clear hb1
    go_wp2_with fail
    refine (WordsOf_any _ hs _).mono ?_
    rintro e w2 ⟨a2, c2, rfl, ho2, hb2⟩
    have G2 := Lib.hid ho2; clear ho2
    have W2 := Lib.hid (W1.out.below hb2)
    have B2 := Lib.hid (B1.out.trans (hb2.mono B1.out.size)); clear hb2
    go_wp2_with fail
    refine (eqWordS_same _ _ _ _ _ _ _ G2.out.wds W2.out.wds L3).mono ?_
    rintro e w3 ⟨rfl, hb3⟩
    have G3 := Lib.hid (G2.out.below hb3)
    have W3 := Lib.hid (W2.out.below hb3)
    have B3 := Lib.hid (B2.out.trans (hb3.mono B2.out.size)); clear hb3
    go_wp2_with fail
    refine (markWordS_any a2 (wordsOf s).length c2 1 w1.heap.size _ w3 (by have h := G3.out.own; rw [wdCells_tab] at h; exact h) (by omega) (by omega)).mono ?_
    rintro e w4 ⟨rfl, ho4, hg4⟩
    have G4 := Lib.hid ho4; clear ho4
    have W4 := Lib.hid (W3.out.kept hg4 (own_apart W1.out.own G2.out.own (Nat.le_refl _)))
    have B4 := Lib.hid (B3.out.grown hg4 B3.out.size (fun k hk => Nat.le_trans B1.out.size (own_block G2.out.own k hk).1))
    clear hg4
    go_wp2_with fail
    refine (heldWordS_any _ _ _ 1 _ (Rd.of_own G4.out) (by omega) (by omega)).mono ?_
    rintro e w5 ⟨rfl, hb5⟩
    have G5 := Lib.hid (own_below G4.out hb5 (Nat.le_refl _))
    have W5 := Lib.hid (W4.out.below hb5)
    have B5 := Lib.hid (B4.out.trans (hb5.mono B4.out.size)); clear hb5
    go_wp2_with fail
    refine (WordsOf_any _ hs _).mono ?_
    rintro e w6 ⟨a6, c6, rfl, ho6, hb6⟩
    have H6 := Lib.hid ho6; clear ho6
    have G6 := Lib.hid (own_below G5.out hb6 (Nat.le_refl _))
    have W6 := Lib.hid (W5.out.below hb6)
    have B6 := Lib.hid (B5.out.trans (hb6.mono B5.out.size)); clear hb6
    go_wp2_with fail
    refine (eqWordS_same _ _ _ _ _ _ _ H6.out.wds W6.out.wds L3).mono ?_
    rintro e w7 ⟨rfl, hb7⟩
    have G7 := Lib.hid (own_below G6.out hb7 (Nat.le_refl _))
    have B7 := Lib.hid (B6.out.trans (hb7.mono B6.out.size)); clear hb7
    go_wp2_with fail
    refine (heldWordS_any _ _ _ 1 _ (Rd.of_own G7.out) (by omega) (by omega)).mono ?_
    rintro e w8 ⟨rfl, hb8⟩
    have B8 := Lib.hid (B7.out.trans (hb8.mono B7.out.size)); clear hb8
    go_wp2_with fail
    go_ret
    exact ⟨rfl, B8.out⟩
end Go.Proofs.Ytehgljcngkodcaa
