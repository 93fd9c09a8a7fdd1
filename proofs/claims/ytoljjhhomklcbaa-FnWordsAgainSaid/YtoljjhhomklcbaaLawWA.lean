/- The law on words that are put together again. Conditions: what is read fits the model's sizes. -/
import Derived.Test.YtoljjhhomklcbaaLawS2
namespace Go.Proofs.Ytoljjhhomklcbaa
open Go.RowKit
theorem join_size {s : ByteArray} (h : textOk s = true) {k : Nat} (hk : k ≤ (wordsOf s).length) : (joinW (wordsOf s) k).size ≤ s.size := by
  cases k with
  | zero => exact Nat.zero_le _
  | succ k =>
    have e : wordsOf s = wds s 0 0 := by rw [wordsOf, if_pos h]
    have g : wGood s 0 0 (wordsOf s) := by rw [e]; exact wds_good s _ 0 0 0 rfl (.inl (Nat.le_refl _))
    have h1 := joinW_size g k (by omega)
    have h2 := (wordsOf_good h (i := k) (by omega)).2.2.1
    omega
theorem join_again {s : ByteArray} (h : textOk s = true) : textOk (joinW (wordsOf s) (wordsOf s).length) = true ∧ (wordsOf (joinW (wordsOf s) (wordsOf s).length)).length = (wordsOf s).length ∧ ∀ i, i < (wordsOf s).length → (nthW (wordsOf (joinW (wordsOf s) (wordsOf s).length)) i).text = (nthW (wordsOf s) i).text ∧ (nthW (wordsOf (joinW (wordsOf s) (wordsOf s).length)) i).to_ = (nthW (wordsOf (joinW (wordsOf s) (wordsOf s).length)) i).from_ + (nthW (wordsOf s) i).text.size := by
  have hw : ∀ i, i < (wordsOf s).length → wordOk (nthW (wordsOf s) i).text = true := fun i hi => (wordsOf_good h hi).2.2.2.1
  have hz := join_size h (Nat.le_refl (wordsOf s).length)
  have hs := textOk_size h
  have ht : textOk (joinW (wordsOf s) (wordsOf s).length) = true := by
    rw [textOk, Bool.and_eq_true, byWb]
    exact ⟨joinW_text hw _ (Nat.le_refl _), by simp; omega⟩
  have e : wordsOf (joinW (wordsOf s) (wordsOf s).length) = wds (joinW (wordsOf s) (wordsOf s).length) 0 0 := by
    conv => lhs; rw [wordsOf, if_pos ht]
  rw [e]
  exact ⟨ht, joinW_words hw _ (Nat.le_refl _)⟩
set_option maxRecDepth 20000 in
set_option maxHeartbeats 4000000 in
theorem FnWordsAgain_any {w : World} (a : Option Addr) (n cap : Nat) (xs : List Int) (hx : Byts w a n cap xs) (hn : n ≤ maxLen) :
    Calls Try.prog 5 #[.slice a n cap] w fun e w' => e = .returned (.bool true) ∧ Below w.heap.size w w' := by
  have HX := Lib.hid hx; clear hx
  unfold maxLen at hn
  by_cases hlt : (1048576 : Int) < (n : Int)
  · go_enter Try.func5, Try.ntmps5
    go_wp2_with fail
    go_ret
    exact ⟨rfl, Below.refl _ _⟩
  have c4 := cells_word
  go_enter Try.func5, Try.ntmps5
  go_wp2_with fail
  refine (DrawWordsMany_any _ _ _ _ HX.out (by omega)).mono ?_
  rintro e w1 ⟨s, rfl, hs, hb⟩
  have B1 := Lib.hid hb; clear hb
  have HT := Lib.hid (show s.size ≤ maxLen by unfold maxLen; omega)
  have hlen := wordsOf_len s
  have HL := Lib.hid (show (wordsOf s).length ≤ maxLen by unfold maxLen; omega)
  go_wp2_with fail
  refine (WordsOf_any _ HT.out _).mono ?_
  rintro e w2 ⟨a2, c2, rfl, ho, hb⟩
  have O2 := Lib.hid ho; clear ho
  have B2 := Lib.hid (B1.out.trans (hb.mono B1.out.size)); clear hb
  go_wp2_with fail
  refine (sWordsOf_any _ HT.out _).mono ?_
  rintro e w3 ⟨a3, c3, rfl, ho, hb⟩
  have O3 := Lib.hid ho; clear ho
  have O23 := Lib.hid (O2.out.below hb)
  have B3 := Lib.hid (B2.out.trans (hb.mono B2.out.size)); clear hb
  go_wp2_with fail
  refine (foWords_same _ _ _ _ _ _ _ O23.out.wds O3.out.wds HL.out).mono ?_
  rintro e w4 ⟨rfl, q, rfl⟩
  go_wp2_with fail
  refine (TextOk_any _ _ HT.out).mono ?_
  rintro e w' ⟨rfl, rfl⟩
  have O4 := Lib.hid (O23.out.drewN q)
  have B4 := Lib.hid (below_drewN B3.out q)
  cases hok : textOk s
  · go_wp2_with fail
    refine (sWordsOf_any _ HT.out _).mono ?_
    rintro e w7 ⟨a7, c7, rfl, ho, hb⟩
    have O7 := Lib.hid ho; clear ho
    have O47 := Lib.hid (O4.out.below hb)
    have B7 := Lib.hid (B4.out.trans (hb.mono B4.out.size)); clear hb
    go_wp2_with fail
    refine (foWords_same _ _ _ _ _ _ _ O47.out.wds O7.out.wds HL.out).mono ?_
    rintro e w8 ⟨rfl, q8, rfl⟩
    go_wp2_with fail
    go_ret
    exact ⟨rfl, below_drewN B7.out q8⟩
  have JS := Lib.hid (fun k hk => join_size (k := k) hok hk)
  have JA := Lib.hid (join_again hok)
  have hs160 := textOk_size hok
  clear hok
  go_wp2_with fail
  go_loop [5, 6] (fun t i => ∃ k : Nat, k ≤ (wordsOf s).length ∧ i = .int .i64 k ∧ t = .string (joinW (wordsOf s) k)) (fun _ i => (wordsOf s).length - (intOf i).toNat)
  case atStart => exact ⟨0, Nat.zero_le _, rfl, rfl⟩
  case round =>
    obtain ⟨k, hk, rfl, rfl⟩ := hrel
    by_cases hlk : k < (wordsOf s).length
    · obtain ⟨b, off, rfl, hc⟩ := O4.out.wds.pos hlk
      obtain ⟨x0, -, -, -⟩ := hc k hlk
      have j1 := JS.out k hk
      have j2 := JS.out (k + 1) hlk
      have JN := Lib.hid (show joinW (wordsOf s) (k + 1) = (if k = 0 then ByteArray.empty else joinW (wordsOf s) k ++ blankS) ++ (nthW (wordsOf s) k).text from rfl)
      clear hc
      by_cases h0 : k = 0
      · have hk0 : (k : Int) ≤ 0 := by omega
        have JZ := Lib.hid (show joinW (wordsOf s) k = ByteArray.empty by rw [h0]; rfl)
        have JN0 := Lib.hid (show joinW (wordsOf s) (k + 1) = joinW (wordsOf s) k ++ (nthW (wordsOf s) k).text by rw [JN.out, if_pos h0, JZ.out])
        have z1 : (joinW (wordsOf s) k).size + (nthW (wordsOf s) k).text.size ≤ 9223372036854775807 := by rw [← ByteArray.size_append, ← JN0.out]; omega
        clear h0
        go_wp2_with fail
        go_round
        case rel => exact ⟨k + 1, by omega, by go_num, by rw [JN0.out]⟩
        case measure => simp [intOf]; omega
      · have JN0 := Lib.hid (show joinW (wordsOf s) (k + 1) = joinW (wordsOf s) k ++ blankS ++ (nthW (wordsOf s) k).text by rw [JN.out, if_neg h0])
        have hk0 : 0 < k := by omega
        have zz : (joinW (wordsOf s) k ++ blankS).size + (nthW (wordsOf s) k).text.size ≤ 9223372036854775807 := by rw [← ByteArray.size_append, ← JN0.out]; omega
        have z1 : (joinW (wordsOf s) k ++ (⟨#[32]⟩ : ByteArray)).size + (nthW (wordsOf s) k).text.size ≤ 9223372036854775807 := zz
        have z2 : (joinW (wordsOf s) k).size + (⟨#[32]⟩ : ByteArray).size ≤ 9223372036854775807 := by show _ + 1 ≤ _; omega
        clear h0 zz
        go_wp2_with fail
        go_round
        case rel => exact ⟨k + 1, by omega, by go_num, by rw [JN0.out]; rfl⟩
        case measure => simp [intOf]; omega
    · obtain rfl : k = (wordsOf s).length := by omega
      have jz := JS.out _ (Nat.le_refl (wordsOf s).length)
      generalize joinW (wordsOf s) (wordsOf s).length = T at *
      have HTT := Lib.hid (show T.size ≤ maxLen by unfold maxLen; omega)
      have LE := Lib.hid JA.out.2.1
      have TX := Lib.hid JA.out.2.2
      go_wp2_with fail
      refine (WordsOf_any _ HTT.out _).mono ?_
      rintro e w8 ⟨a8, c8, rfl, ho, hb⟩
      rw [LE.out] at ho ⊢
      have O8 := Lib.hid ho; clear ho
      have O48 := Lib.hid (O4.out.below hb)
      have B8 := Lib.hid (B4.out.trans (hb.mono B4.out.size)); clear hb
      go_wp2_with fail
      go_loopw [8] (fun i wr => ∃ k : Nat, k ≤ (wordsOf s).length ∧ i = .int .i64 k ∧ Drw w8 wr) (fun i _ => (wordsOf s).length - (intOf i).toNat)
      case atStart => exact ⟨0, Nat.zero_le _, rfl, Drw.refl _⟩
      case round =>
        obtain ⟨k, hk, rfl, qq, rfl⟩ := hrel
        by_cases hlk : k < (wordsOf s).length
        · obtain ⟨b1, o1, rfl, hc1⟩ := O48.out.wds.pos hlk
          obtain ⟨x0, -, -, -⟩ := hc1 k hlk
          obtain ⟨b2, o2, rfl, hc2⟩ := O8.out.wds.pos hlk
          obtain ⟨y0, -, y2, y3⟩ := hc2 k hlk
          obtain ⟨t1, t2⟩ := TX.out k hlk
          rw [t1] at y0
          rw [t2] at y3
          obtain ⟨fr, hfr⟩ : ∃ f, f = (nthW (wordsOf T) k).from_ := ⟨_, rfl⟩
          have hgd := wordsOf_good (s := T) JA.out.1 (i := k) (by rw [LE.out]; exact hlk)
          have hbd : fr ≤ 160 := by rw [hfr]; omega
          rw [← hfr] at y2 y3
          have hx12 : (nthW (wordsOf s) k).text.size ≤ 12 := nthW_fit (wordsOf_fit s) k
          obtain ⟨tx, htx⟩ : ∃ x, x = (nthW (wordsOf s) k).text := ⟨_, rfl⟩
          rw [← htx] at x0 y0 y3 hx12
          have v1 : IntKind.i64.wrap (((fr + tx.size : Nat) : Int) - (fr : Int)) = (tx.size : Int) := by rw [IntWalk.i64_in _ (by omega)]; omega
          have v2 : IntKind.i64.wrap ((fr : Int) + (tx.size : Int) - (fr : Int)) = (tx.size : Int) := by rw [IntWalk.i64_in _ (by omega)]; omega
          have bx : (tx.toList != tx.toList) = false := by simp
          have by_ : ((tx.size : Int) != (tx.size : Int)) = false := by simp
          clear hc1 hc2 t1 t2 hfr hgd htx
          go_wp2_with fail
          go_quiet (fail)
          go_wp2_with fail
          go_roundw
          case rel => exact ⟨k + 1, by omega, by go_num, (by first | exact Drw.refl _ | exact Drw.mk _ _ | exact (Drw.mk _ _).trans (Drw.mk _ _) | exact ((Drw.mk _ _).trans (Drw.mk _ _)).trans (Drw.mk _ _))⟩
          case measure => simp [intOf]; omega
        · obtain rfl : k = (wordsOf s).length := by omega
          go_wp2_with fail
          go_ret
          exact ⟨rfl, below_drewN B8.out _⟩
end Go.Proofs.Ytoljjhhomklcbaa
