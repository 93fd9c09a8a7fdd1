/- The laws on how far words are. Conditions: what is read fits the model's sizes. -/
import Derived.Test.YthbdbdccfdcpiaaDrawG
import Derived.Test.YthbdbdccfdcpiaaNearLaw
import Derived.Lib.Strings
namespace Go.Proofs.Ythbdbdccfdcpiaa
open Go.RowKit
theorem str_ne_f {a b : ByteArray} (h : a ≠ b) : (a.toList == b.toList) = false := by
  simp only [beq_eq_false_iff_ne, ne_eq, ByteArray.toList_eq]
  intro e
  exact h (ByteArray.ext (Array.ext' e))
theorem str_eq_y {a b : ByteArray} (h : a = b) : (a.toList == b.toList) = true := by rw [h]; simp
set_option maxRecDepth 20000 in
set_option maxHeartbeats 2000000 in
theorem FnNearFar_any {w : World} (a : Option Addr) (n cap : Nat) (xs : List Int) (hx : Byts w a n cap xs) (hn : n ≤ maxLen) (b : Option Addr) (m capb : Nat) (ys : List Int) (hy : Byts w b m capb ys) (hm : m ≤ maxLen) :
    Calls Try.prog 7 #[.slice a n cap, .slice b m capb] w fun e w' => e = .returned (.bool true) ∧ Below w.heap.size w w' := by
  have HX := Lib.hid hx; clear hx
  have HY := Lib.hid hy; clear hy
  unfold maxLen at hn hm
  by_cases hlt : (1048576 : Int) < (n : Int)
  · go_enter Try.func7, Try.ntmps7
    go_wp2_with fail
    go_ret
    exact ⟨rfl, Below.refl _ _⟩
  by_cases hlt2 : (1048576 : Int) < (m : Int)
  · go_enter Try.func7, Try.ntmps7
    go_wp2_with fail
    go_ret
    exact ⟨rfl, Below.refl _ _⟩
  go_enter Try.func7, Try.ntmps7
  go_wp2_with fail
  refine (DrawNearFar_any _ _ _ _ HX.out (by omega)).mono ?_
  rintro e w1 ⟨s, t, rfl, hs, ht, hb⟩
  have HS := Lib.hid hs; clear hs
  have B1 := Lib.hid hb; clear hb
  go_wp2_with fail
  refine (DrawNearFar_any b m capb ys ⟨HY.out.ints.below B1.out, HY.out.cap⟩ (by omega)).mono ?_
  rintro e w2 ⟨u, v, rfl, hu, hv, hb⟩
  have HU := Lib.hid hu; clear hu hv
  have B2 := Lib.hid (B1.out.trans (hb.mono B1.out.size)); clear hb
  have hsz := wordOk_size HS.out
  have huz := wordOk_size HU.out
  have LS := Lib.hid (show s.size ≤ maxLen by unfold maxLen; omega)
  have LT := Lib.hid (show t.size ≤ maxLen by unfold maxLen; omega)
  have LU := Lib.hid (show u.size ≤ maxLen by unfold maxLen; omega)
  obtain ⟨d, hd⟩ : ∃ d, d = nearFar s t := ⟨_, rfl⟩
  have C := Lib.hid (fun w => by have := NearFar_any s t LS.out LT.out w; rwa [← hd] at this)
  have S := Lib.hid (fun w => by have := sNearFar_any s t LS.out LT.out w; rwa [← hd] at this)
  have HD := Lib.hid hd; clear hd
  go_wp2_with fail
  refine (C.out _).mono ?_
  rintro e w3 ⟨rfl, hb⟩
  have B3 := Lib.hid (B2.out.trans (hb.mono B2.out.size)); clear hb
  go_wp2_with fail
  refine (S.out _).mono ?_
  rintro e w4 ⟨rfl, hb⟩
  have B4 := Lib.hid (B3.out.trans (hb.mono B3.out.size)); clear hb
  by_cases hneg : d < 0
  · go_wp2_with fail
    refine (S.out _).mono ?_
    rintro e w5 ⟨rfl, hb⟩
    have B5 := Lib.hid (B4.out.trans (hb.mono B4.out.size)); clear hb
    go_wp2_with fail
    go_ret
    exact ⟨rfl, B5.out⟩
  · obtain ⟨w1', w2'⟩ := nearFar_yes (a := s) (b := t) (by rw [← HD.out]; exact hneg)
    have D := Lib.hid (show d = farI s t by rw [HD.out, nearFar_words w1' w2'])
    have hbd := farI_bd s t
    rw [← D.out] at hbd
    obtain ⟨h1, h2, h3⟩ := hbd
    have CB := Lib.hid (fun w => by have := NearFar_any t s LT.out LS.out w; rw [nearFar_words w2' w1', farI_sym, ← D.out] at this; exact this)
    have hz := farI_zero s t
    rw [← D.out] at hz
    have hsu := farI_nn s u
    have hut := farI_nn u t
    have htri := farI_tri s t u
    rw [← D.out] at htri
    have hbu := (farI_bd s u).1
    have hbv := (farI_bd u t).1
    obtain ⟨p, hp⟩ : ∃ p, p = farI s u := ⟨_, rfl⟩
    obtain ⟨r, hr⟩ : ∃ r, r = farI u t := ⟨_, rfl⟩
    have CSU := Lib.hid (fun w => by have := NearFar_any s u LS.out LU.out w; rw [nearFar_words w1' HU.out, ← hp] at this; exact this)
    have CUT := Lib.hid (fun w => by have := NearFar_any u t LU.out LT.out w; rw [nearFar_words HU.out w2', ← hr] at this; exact this)
    rw [← hp] at hsu htri hbu
    rw [← hr] at hut htri hbv
    have hp12 : p ≤ 12 := by omega
    have hr12 : r ≤ 12 := by omega
    clear hp hr w1' w2' hbu hbv
    have HZ := Lib.hid hz; clear hz
    have heq : (d == 0) = (s.toList == t.toList) := by
      by_cases he : s = t
      · rw [str_eq_y he, beq_t (HZ.out.2 he)]
      · rw [str_ne_f he, beq_f (fun h => he (HZ.out.1 h))]
    have HEQ := Lib.hid heq; clear heq
    have finish : Hid (d ≤ p + r) := htri
    cases hde : (d == 0)
    · have hse : (s.toList == t.toList) = false := by rw [← HEQ.out, hde]
      by_cases hlong : s.size < t.size
      · have k1 : d ≤ (t.size : Int) := by omega
        have k2 : (t.size : Int) - (s.size : Int) ≤ d := by omega
        clear h1 h2 h3
        go_wp2_with fail
        refine (CB.out _).mono ?_
        rintro e w5 ⟨rfl, hb⟩
        have B5 := Lib.hid (B4.out.trans (hb.mono B4.out.size)); clear hb
        go_wp2_with fail
        refine (CSU.out _).mono ?_
        rintro e w6 ⟨rfl, hb⟩
        have B6 := Lib.hid (B5.out.trans (hb.mono B5.out.size)); clear hb
        go_wp2_with fail
        refine (CUT.out _).mono ?_
        rintro e w7 ⟨rfl, hb⟩
        have B7 := Lib.hid (B6.out.trans (hb.mono B6.out.size)); clear hb
        go_wp2_with fail
        go_ret
        exact ⟨by first | rfl | exact ret_bool (decide_eq_true finish.out), B7.out⟩
      · have k1 : d ≤ (s.size : Int) := by omega
        have k2 : (s.size : Int) - (t.size : Int) ≤ d := by omega
        clear h1 h2 h3
        go_wp2_with fail
        refine (CB.out _).mono ?_
        rintro e w5 ⟨rfl, hb⟩
        have B5 := Lib.hid (B4.out.trans (hb.mono B4.out.size)); clear hb
        go_wp2_with fail
        refine (CSU.out _).mono ?_
        rintro e w6 ⟨rfl, hb⟩
        have B6 := Lib.hid (B5.out.trans (hb.mono B5.out.size)); clear hb
        go_wp2_with fail
        refine (CUT.out _).mono ?_
        rintro e w7 ⟨rfl, hb⟩
        have B7 := Lib.hid (B6.out.trans (hb.mono B6.out.size)); clear hb
        go_wp2_with fail
        go_ret
        exact ⟨by first | rfl | exact ret_bool (decide_eq_true finish.out), B7.out⟩
    · have hse : (s.toList == t.toList) = true := by rw [← HEQ.out, hde]
      by_cases hlong : s.size < t.size
      · have k1 : d ≤ (t.size : Int) := by omega
        have k2 : (t.size : Int) - (s.size : Int) ≤ d := by omega
        clear h1 h2 h3
        go_wp2_with fail
        refine (CB.out _).mono ?_
        rintro e w5 ⟨rfl, hb⟩
        have B5 := Lib.hid (B4.out.trans (hb.mono B4.out.size)); clear hb
        go_wp2_with fail
        refine (CSU.out _).mono ?_
        rintro e w6 ⟨rfl, hb⟩
        have B6 := Lib.hid (B5.out.trans (hb.mono B5.out.size)); clear hb
        go_wp2_with fail
        refine (CUT.out _).mono ?_
        rintro e w7 ⟨rfl, hb⟩
        have B7 := Lib.hid (B6.out.trans (hb.mono B6.out.size)); clear hb
        go_wp2_with fail
        go_ret
        exact ⟨by first | rfl | exact ret_bool (decide_eq_true finish.out), B7.out⟩
      · have k1 : d ≤ (s.size : Int) := by omega
        have k2 : (s.size : Int) - (t.size : Int) ≤ d := by omega
        clear h1 h2 h3
        go_wp2_with fail
        refine (CB.out _).mono ?_
        rintro e w5 ⟨rfl, hb⟩
        have B5 := Lib.hid (B4.out.trans (hb.mono B4.out.size)); clear hb
        go_wp2_with fail
        refine (CSU.out _).mono ?_
        rintro e w6 ⟨rfl, hb⟩
        have B6 := Lib.hid (B5.out.trans (hb.mono B5.out.size)); clear hb
        go_wp2_with fail
        refine (CUT.out _).mono ?_
        rintro e w7 ⟨rfl, hb⟩
        have B7 := Lib.hid (B6.out.trans (hb.mono B6.out.size)); clear hb
        go_wp2_with fail
        go_ret
        exact ⟨by first | rfl | exact ret_bool (decide_eq_true finish.out), B7.out⟩
end Go.Proofs.Ythbdbdccfdcpiaa
