/- The laws on patterns that are tidied. Conditions: what is read fits the model's sizes. -/
import Derived.Test.YtoljjhhomklcbaaTidyW
import Derived.Test.YtoljjhhomklcbaaLawS
namespace Go.Proofs.Ytoljjhhomklcbaa
open Go.RowKit
theorem globTidy_fit {p : ByteArray} : (globTidy p).size ≤ p.size := by
  unfold globTidy
  split
  · exact tidyS_size p
  · exact Nat.zero_le _
theorem xGlobTidy_any (p : ByteArray) (hp : p.size ≤ maxLen) (w : World) :
    Calls Try.prog 9 #[.string p] w fun e w' => e = .returned (.bool true) ∧ Below w.heap.size w w' := by
  by_cases hlt : (1048576 : Int) < (p.size : Int)
  · go_enter Try.func9, Try.ntmps9
    go_wp2_with fail
    go_ret
    exact ⟨rfl, Below.refl _ _⟩
  obtain ⟨T, hT⟩ : ∃ T, T = globTidy p := ⟨_, rfl⟩
  have CS := Lib.hid (fun w => sGlobTidy_any p hp w)
  have CI := Lib.hid (fun w => GlobTidy_any p hp w)
  rw [← hT] at CS CI
  clear hT
  go_enter Try.func9, Try.ntmps9
  go_wp2_with fail
  refine (CS.out _).mono ?_
  rintro e w1 ⟨rfl, q, rfl⟩
  go_wp2_with fail
  refine (CI.out _).mono ?_
  rintro e w2 ⟨rfl, hb⟩
  have HB := Lib.hid ((below_drewN (Below.refl w.heap.size w) q).trans hb); clear hb
  have hne : (T.toList != T.toList) = false := by simp
  go_wp2_with fail
  go_ret
  exact ⟨rfl, HB.out⟩
theorem DrawGlobTidy_any (a : Option Addr) (n cap : Nat) (xs : List Int) {w : World} (hx : Byts w a n cap xs) (hn : n ≤ 1048576) :
    Calls Try.prog 39 #[.slice a n cap] w fun e w' => ∃ s : ByteArray, e = .returned (.string s) ∧ s.size ≤ 20 ∧ Below w.heap.size w w' := by
  have HX := Lib.hid hx; clear hx
  go_enter Try.func39, Try.ntmps39
  go_wp2_with fail
  refine (open_any _ _ _ _ HX.out hn).mono ?_
  rintro e w1 ⟨rfl, hr, hb, hs⟩
  have HR := Lib.hid hr; clear hr
  have HB := Lib.hid hb; clear hb hs
  go_wp2_with fail
  refine (l30Glob_any _ 0 HR.out (by omega)).mono ?_
  rintro e w2 ⟨s, rfl, hs, hr2, hg2⟩
  have HB2 := Lib.hid (below_only HB.out hg2 (Nat.le_refl _) HB.out.size); clear hg2 hr2
  go_wp2_with fail
  go_ret
  exact ⟨s, rfl, hs, HB2.out⟩
set_option maxHeartbeats 1000000 in
theorem FnGlobTidy_any {w : World} (a : Option Addr) (n cap : Nat) (xs : List Int) (hx : Byts w a n cap xs) (hn : n ≤ maxLen) (b : Option Addr) (m capb : Nat) (ys : List Int) (hy : Byts w b m capb ys) (hm : m ≤ maxLen) :
    Calls Try.prog 10 #[.slice a n cap, .slice b m capb] w fun e w' => e = .returned (.bool true) ∧ Below w.heap.size w w' := by
  have HX := Lib.hid hx; clear hx
  have HY := Lib.hid hy; clear hy
  unfold maxLen at hn hm
  by_cases hlt : (1048576 : Int) < (n : Int)
  · go_enter Try.func10, Try.ntmps10
    go_wp2_with fail
    go_ret
    exact ⟨rfl, Below.refl _ _⟩
  by_cases hlt2 : (1048576 : Int) < (m : Int)
  · go_enter Try.func10, Try.ntmps10
    go_wp2_with fail
    go_ret
    exact ⟨rfl, Below.refl _ _⟩
  go_enter Try.func10, Try.ntmps10
  go_wp2_with fail
  refine (DrawGlobTidy_any _ _ _ _ HX.out (by omega)).mono ?_
  rintro e w1 ⟨p, rfl, hp, hb⟩
  have B1 := Lib.hid hb
  have HY1 : Hid (Byts w1 b m capb ys) := ⟨⟨HY.out.ints.len, HY.out.ints.fit, HY.out.ints.rd.below hb⟩, HY.out.cap⟩
  clear hb
  have PM := Lib.hid (show p.size ≤ maxLen by unfold maxLen; omega)
  have GH := Lib.hid (fun (h : globOk p = true) => (⟨tidyS_ok h, fun s => tidyS_has h s⟩ : globOk (tidyS p) = true ∧ ∀ s, globHasB (tidyS p) s = globHasB p s))
  have GE := Lib.hid (fun (h : globOk p = true) => show globTidy p = tidyS p by unfold globTidy; rw [h]; rfl)
  have GA := Lib.hid (fun (h : globOk p = true) => show globTidy (tidyS p) = tidyS p by unfold globTidy; rw [tidyS_ok h, tidyS_again]; rfl)
  have G0 := Lib.hid (fun (h : globOk p = false) => show globTidy p = ⟨#[]⟩ by unfold globTidy; rw [h]; rfl)
  have CS := Lib.hid (fun w => sGlobTidy_any p PM.out w)
  have CI := Lib.hid (fun w => GlobTidy_any p PM.out w)
  cases hg : globOk p
  · rw [G0.out hg] at CS CI
    clear hg
    go_wp2_with fail
    refine (CI.out _).mono ?_
    rintro e w2 ⟨rfl, hb⟩
    have B2 := Lib.hid (B1.out.trans (hb.mono B1.out.size)); clear hb
    go_wp2_with fail
    refine (CS.out _).mono ?_
    rintro e w3 ⟨rfl, q, rfl⟩
    go_wp2_with fail
    refine (CS.out _).mono ?_
    rintro e w4 ⟨rfl, q2, rfl⟩
    go_wp2_with fail
    go_ret
    exact ⟨rfl, below_drewN B2.out (q + q2)⟩
  · have TS := Lib.hid (tidyS_size p)
    have TP := Lib.hid (glob_size (tidyS_ok hg)).1
    have TH := Lib.hid ((GH.out hg).2)
    have TM := Lib.hid (show (tidyS p).size ≤ maxLen by unfold maxLen; have := TS.out; omega)
    have CA := Lib.hid (fun w => GlobTidy_any (tidyS p) TM.out w)
    rw [GE.out hg] at CS CI
    rw [GA.out hg] at CA
    have H1 := Lib.hid (fun s hs w => GlobHas_any (tidyS p) s TM.out hs w)
    have H2 := Lib.hid (fun s hs w => GlobHas_any p s PM.out hs w)
    clear hg
    obtain ⟨T, hT⟩ : ∃ T, T = tidyS p := ⟨_, rfl⟩
    rw [← hT] at CS CI CA TS TP TH H1
    clear hT GH GE GA G0
    obtain ⟨t1, t2⟩ := str_nonempty (show 0 < T.size from TP.out)
    have hne : (T.toList != T.toList) = false := by simp
    have heq : (T.toList == T.toList) = true := by simp
    have hle : (T.size : Int) ≤ (p.size : Int) := by have := TS.out; omega
    go_wp2_with fail
    refine (CI.out _).mono ?_
    rintro e w2 ⟨rfl, hb⟩
    have B2 := Lib.hid (B1.out.trans (hb.mono B1.out.size))
    have HY2 : Hid (Byts w2 b m capb ys) := ⟨⟨HY1.out.ints.len, HY1.out.ints.fit, HY1.out.ints.rd.below hb⟩, HY1.out.cap⟩
    clear hb
    go_wp2_with fail
    refine (CS.out _).mono ?_
    rintro e w3 ⟨rfl, q, rfl⟩
    have HY3 : Hid (Byts (w2.drewN q) b m capb ys) := ⟨⟨HY2.out.ints.len, HY2.out.ints.fit, HY2.out.ints.rd.drewN q⟩, HY2.out.cap⟩
    go_wp2_with fail
    refine (DrawGlobHas_any _ _ _ _ HY3.out (by omega)).mono ?_
    rintro e w4 ⟨u, s, rfl, hu, hs, hb⟩
    have SM := Lib.hid (show s.size ≤ maxLen by have := (word_bytes hs).2.2; unfold maxLen; omega)
    have B4 := Lib.hid ((below_drewN B2.out q).trans (hb.mono B2.out.size)); clear hb hs
    have HH := Lib.hid (TH.out s)
    go_wp2_with fail
    refine (H1.out s SM.out _).mono ?_
    rintro e w5 ⟨rfl, q5, rfl⟩
    go_wp2_with fail
    refine (H2.out s SM.out _).mono ?_
    rintro e w6 ⟨rfl, q6, rfl⟩
    rw [HH.out]
    have hbb : (globHasB p s == globHasB p s) = true := by simp
    go_wp2_with fail
    refine (CA.out _).mono ?_
    rintro e w7 ⟨rfl, hb⟩
    have B7 := Lib.hid ((below_drewN B4.out (q5 + q6)).trans (hb.mono B4.out.size)); clear hb
    go_wp2_with fail
    go_ret
    exact ⟨rfl, B7.out⟩
end Go.Proofs.Ytoljjhhomklcbaa
