/- The laws on where words stand, on words of two texts, on words put together again. Conditions: what is read fits the model's sizes. -/
import Derived.Test.YthbdbdccfdcpiaaLawS
namespace Go.Proofs.Ythbdbdccfdcpiaa
open Go.RowKit
theorem wordsOf_good {s : ByteArray} (h : textOk s = true) {i : Nat} (hi : i < (wordsOf s).length) :
    (nthW (wordsOf s) i).at_ = i ∧ (nthW (wordsOf s) i).from_ < (nthW (wordsOf s) i).to_ ∧ (nthW (wordsOf s) i).to_ ≤ s.size ∧ wordOk (nthW (wordsOf s) i).text = true ∧ (nthW (wordsOf s) i).text.size = min 12 ((nthW (wordsOf s) i).to_ - (nthW (wordsOf s) i).from_) ∧ (0 < i → (nthW (wordsOf s) (i - 1)).to_ < (nthW (wordsOf s) i).from_) := by
  have e : wordsOf s = wds s 0 0 := by rw [wordsOf, if_pos h]
  rw [e] at hi ⊢
  obtain ⟨a, b, c, d, f, g, _⟩ := wGood_at _ 0 0 i (wds_good s _ 0 0 0 rfl (.inl (Nat.le_refl _))) hi
  exact ⟨by omega, b, c, d, f, g⟩
set_option maxRecDepth 20000 in
set_option maxHeartbeats 4000000 in
theorem FnWordsOf_any {w : World} (a : Option Addr) (n cap : Nat) (xs : List Int) (hx : Byts w a n cap xs) (hn : n ≤ maxLen) :
    Calls Try.prog 10 #[.slice a n cap] w fun e w' => e = .returned (.bool true) ∧ Below w.heap.size w w' := by
  have HX := Lib.hid hx; clear hx
  unfold maxLen at hn
  by_cases hlt : (1048576 : Int) < (n : Int)
  · go_enter Try.func10, Try.ntmps10
    go_wp2_with fail
    go_ret
    exact ⟨rfl, Below.refl _ _⟩
  have c4 := cells_word
  go_enter Try.func10, Try.ntmps10
  go_wp2_with fail
  refine (DrawWordsOf_any _ _ _ _ HX.out (by omega)).mono ?_
  rintro e w1 ⟨s, rfl, hs, hb⟩
  have B1 := Lib.hid hb; clear hb
  have HT := Lib.hid (show s.size ≤ maxLen by unfold maxLen; omega)
  have hlen := wordsOf_len s
  have HL := Lib.hid (show (wordsOf s).length ≤ maxLen by unfold maxLen; omega)
  go_wp2_with fail
  refine (WordsOf_any _ HT.out _).mono ?_
  rintro e w2 ⟨a2, c2, rfl, ho, hb⟩
  have O2 := Lib.hid ho; clear ho
  have B2 := Lib.hid (B1.out.trans (hb.mono B1.out.size)); clear hb
  go_wp2_with fail
  refine (sWordsOf_any _ HT.out _).mono ?_
  rintro e w3 ⟨a3, c3, rfl, ho, hb⟩
  have O3 := Lib.hid ho; clear ho
  have O23 := Lib.hid (O2.out.below hb)
  have B3 := Lib.hid (B2.out.trans (hb.mono B2.out.size)); clear hb
  go_wp2_with fail
  refine (foWords_same _ _ _ _ _ _ _ O23.out.wds O3.out.wds HL.out).mono ?_
  rintro e w4 ⟨rfl, q, rfl⟩
  go_wp2_with fail
  refine (TextOk_any _ _ HT.out).mono ?_
  rintro e w' ⟨rfl, rfl⟩
  go_wp2_with fail
  refine (sTextOk_any _ _ HT.out).mono ?_
  rintro e w' ⟨rfl, rfl⟩
  go_wp2_with fail
  refine (WordsMany_any _ HT.out _).mono ?_
  rintro e w5 ⟨rfl, hb⟩
  have hb' : Below w3.heap.size w3 w5 := (below_drewN (Below.refl _ _) q).trans hb
  have O5 := Lib.hid (O23.out.below hb')
  have B5 := Lib.hid (B3.out.trans (hb'.mono B3.out.size)); clear hb hb'
  go_wp2_with fail
  refine (sWordsMany_any _ HT.out _).mono ?_
  rintro e w6 ⟨rfl, hb⟩
  have O6 := Lib.hid (O5.out.below hb)
  have B6 := Lib.hid (B5.out.trans (hb.mono B5.out.size)); clear hb
  cases hok : textOk s
  · go_wp2_with fail
    refine (TextOk_any _ _ HT.out).mono ?_
    rintro e w' ⟨rfl, rfl⟩
    rw [hok]
    go_wp2_with fail
    refine (sWordsOf_any _ HT.out _).mono ?_
    rintro e w7 ⟨a7, c7, rfl, ho, hb⟩
    have O7 := Lib.hid ho; clear ho
    have O67 := Lib.hid (O6.out.below hb)
    have B7 := Lib.hid (B6.out.trans (hb.mono B6.out.size)); clear hb
    go_wp2_with fail
    refine (foWords_same _ _ _ _ _ _ _ O67.out.wds O7.out.wds HL.out).mono ?_
    rintro e w8 ⟨rfl, q8, rfl⟩
    go_wp2_with fail
    refine (TextOk_any _ _ HT.out).mono ?_
    rintro e w' ⟨rfl, rfl⟩
    go_wp2_with fail
    refine (sTextOk_any _ _ HT.out).mono ?_
    rintro e w' ⟨rfl, rfl⟩
    go_wp2_with fail
    refine (WordsMany_any _ HT.out _).mono ?_
    rintro e w9 ⟨rfl, hb⟩
    have B9 := Lib.hid ((below_drewN B7.out q8).trans (hb.mono B7.out.size)); clear hb
    go_wp2_with fail
    refine (sWordsMany_any _ HT.out _).mono ?_
    rintro e w10 ⟨rfl, hb⟩
    have B10 := Lib.hid (B9.out.trans (hb.mono B9.out.size)); clear hb
    go_wp2_with fail
    go_ret
    exact ⟨rfl, B10.out⟩
  · have WM := Lib.hid (show wordsMany s = ((wordsOf s).length : Int) by rw [wordsMany, if_pos hok])
    have GD := Lib.hid (fun i hi => wordsOf_good (i := i) hok hi)
    go_wp2_with fail
    refine (TextOk_any _ _ HT.out).mono ?_
    rintro e w' ⟨rfl, rfl⟩
    rw [hok]
    clear hok
    go_wp2_with fail
    go_loopw [5] (fun i wr => ∃ k : Nat, k ≤ (wordsOf s).length ∧ i = .int .i64 k ∧ Below w6.heap.size w6 wr) (fun i _ => (wordsOf s).length - (intOf i).toNat)
    case atStart => exact ⟨0, Nat.zero_le _, rfl, Below.refl _ _⟩
    case round =>
      obtain ⟨k, hk, rfl, hb⟩ := hrel
      by_cases hlk : k < (wordsOf s).length
      · obtain ⟨b, off, rfl, hc⟩ := (O6.out.below hb).wds.pos hlk
        obtain ⟨x0, x1, x2, x3⟩ := hc k hlk
        obtain ⟨g1, g2, g3, g4, g5, g6⟩ := GD.out k hlk
        have HB := Lib.hid hb; clear hb
        obtain ⟨tx, htx⟩ : ∃ t, t = (nthW (wordsOf s) k).text := ⟨_, rfl⟩
        obtain ⟨fr, hfr⟩ : ∃ t, t = (nthW (wordsOf s) k).from_ := ⟨_, rfl⟩
        obtain ⟨to, hto⟩ : ∃ t, t = (nthW (wordsOf s) k).to_ := ⟨_, rfl⟩
        rw [← htx] at x0 g4 g5
        rw [g1] at x1
        rw [← hfr] at x2 g2 g5 g6
        rw [← hto] at x3 g2 g3 g5
        have htz : tx.size ≤ maxLen := by unfold maxLen; omega
        have HTZ := Lib.hid htz
        have G5 := Lib.hid g5
        have hg12 : tx.size ≤ 12 := by omega
        clear htx hfr hto g1 htz
        by_cases h0 : k = 0
        · have hk0 : (k : Int) ≤ 0 := by omega
          have d1 : decide (to ≤ fr) = false := decide_eq_false (by omega)
          have d2 : decide (s.size < to) = false := decide_eq_false (by omega)
          have d4 : decide (0 < k) = false := decide_eq_false (by omega)
          clear h0 g6 hc g5 hk0
          go_wp2_with fail
          go_quiet ((go_at_call 16; exact quiet_l (WordOk_any _ HTZ.out _)))
          clear d1 d2 d4
          have HBA := Lib.hid (HB.out.alloc HB.out.size (.cells #[.string tx, .int .i64 (k : Int), .int .i64 (fr : Int), .int .i64 (to : Int)] 28))
          have t1 : IntKind.i64.wrap ((to : Int) - (fr : Int)) = (to : Int) - (fr : Int) := IntWalk.i64_in _ (by omega)
          by_cases hD : to - fr ≤ 12
          · have hsz : tx.size = to - fr := by rw [G5.out]; omega
            have b1 : ((tx.size : Int) != (to : Int) - (fr : Int)) = false := bne_f (by omega)
            clear hsz
            go_wp2_with fail
            go_roundw
            case rel => exact ⟨k + 1, by omega, by go_num, below_drewN HBA.out _⟩
            case measure => simp [intOf]; omega
          · have hsz : tx.size = 12 := by rw [G5.out]; omega
            have b1 : ((tx.size : Int) != (to : Int) - (fr : Int)) = true := bne_t (by omega)
            have b2 : decide ((to : Int) - (fr : Int) ≤ 12) = false := decide_eq_false (by omega)
            have b3 : ((tx.size : Int) != 12) = false := bne_f (by omega)
            clear hsz
            go_wp2_with fail
            go_roundw
            case rel => exact ⟨k + 1, by omega, by go_num, below_drewN HBA.out _⟩
            case measure => simp [intOf]; omega
        · have hk0 : 0 < k := by omega
          obtain ⟨-, -, -, p3⟩ := hc (k - 1) (by omega)
          have g7 := g6 hk0
          obtain ⟨pt, hpt⟩ : ∃ t, t = (nthW (wordsOf s) (k - 1)).to_ := ⟨_, rfl⟩
          rw [← hpt] at p3 g7
          clear hpt g6 hc h0 g5
          have v2 : ((k : Int) - 1).toNat = k - 1 := by omega
          have v3 : (0 : Int) ≤ (k : Int) - 1 := by omega
          have v1 : IntKind.i64.wrap ((k : Int) - 1) = (k : Int) - 1 := IntWalk.i64_in _ (by omega)
          have v4 : (k : Int) - 1 < ((wordsOf s).length : Int) := by omega
          have v5 : k - 1 < (wordsOf s).length := by omega
          have v6 : (1 : Int) ≤ (k : Int) := by omega
          have v7 : (k : Int) ≤ ((wordsOf s).length : Int) := by omega
          have v8 : 1 ≤ k := hk0
          have hbl : b < wr.heap.size := World.block_lt_of_cell? wr _ p3
          have hbn : b ≠ wr.heap.size := by omega
          have d1 : decide (to ≤ fr) = false := decide_eq_false (by omega)
          have d2 : decide (s.size < to) = false := decide_eq_false (by omega)
          have d3 : decide (0 < k) = true := decide_eq_true (by omega)
          have d4 : decide (fr ≤ pt) = false := decide_eq_false (by omega)
          go_wp2_with fail
          go_quiet ((go_at_call 16; exact quiet_l (WordOk_any _ HTZ.out _)))
          clear v1 v2 v3 v4 v5 v6 v7 v8 d1 d2 d3 d4
          have HBA := Lib.hid (HB.out.alloc HB.out.size (.cells #[.string tx, .int .i64 (k : Int), .int .i64 (fr : Int), .int .i64 (to : Int)] 28))
          have t1 : IntKind.i64.wrap ((to : Int) - (fr : Int)) = (to : Int) - (fr : Int) := IntWalk.i64_in _ (by omega)
          by_cases hD : to - fr ≤ 12
          · have hsz : tx.size = to - fr := by rw [G5.out]; omega
            have b1 : ((tx.size : Int) != (to : Int) - (fr : Int)) = false := bne_f (by omega)
            clear hsz
            go_wp2_with fail
            go_roundw
            case rel => exact ⟨k + 1, by omega, by go_num, below_drewN HBA.out _⟩
            case measure => simp [intOf]; omega
          · have hsz : tx.size = 12 := by rw [G5.out]; omega
            have b1 : ((tx.size : Int) != (to : Int) - (fr : Int)) = true := bne_t (by omega)
            have b2 : decide ((to : Int) - (fr : Int) ≤ 12) = false := decide_eq_false (by omega)
            have b3 : ((tx.size : Int) != 12) = false := bne_f (by omega)
            clear hsz
            go_wp2_with fail
            go_roundw
            case rel => exact ⟨k + 1, by omega, by go_num, below_drewN HBA.out _⟩
            case measure => simp [intOf]; omega
      · obtain rfl : k = (wordsOf s).length := by omega
        have HB := Lib.hid hb; clear hb
        go_wp2_with fail
        refine (WordsMany_any _ HT.out _).mono ?_
        rintro e w7 ⟨rfl, hb⟩
        have B7 := Lib.hid (B6.out.trans ((HB.out.mono B6.out.size).trans (hb.mono (Nat.le_trans B6.out.size HB.out.size)))); clear hb
        rw [WM.out]
        go_wp2_with fail
        go_ret
        exact ⟨rfl, B7.out⟩
end Go.Proofs.Ythbdbdccfdcpiaa
