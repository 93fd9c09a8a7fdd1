/- Words and patterns that are drawn, two at a time. Conditions: bounds on how often the reader is read. -/
import Derived.Test.YtoljjhhomklcbaaDrawS
import Derived.Test.YtoljjhhomklcbaaWord
namespace Go.Proofs.Ytoljjhhomklcbaa
open Go.ChangeShapes Go.WideShapes Go.RowKit
theorem l30Word_any (g p : Nat) {w : World} (hr : Rdr w g p) (hp : p ≤ 100000) :
    Calls Try.prog 42 #[.pointer (some ⟨g, 0, none⟩)] w fun e w' => ∃ s : ByteArray, e = .returned (.string s) ∧ wordOk s = true ∧ Rdr w' g (p + 1) ∧ w.grownBy w' (some g) := by
  have HR := Lib.hid hr; clear hr
  go_enter Try.func42, Try.ntmps42
  go_wp2_with fail
  refine (of_new g p 10 [_, _, _, _, _, _, _, _, _, _] (fun x => wordOk x = true) HR.out rfl rfl (by omega) (by omega) (by omega) (fun x hx => by simp at hx; rcases hx with rfl | rfl | rfl | rfl | rfl | rfl | rfl | rfl | rfl | rfl <;> decide) (fun x hx => by simp at hx; rcases hx with rfl | rfl | rfl | rfl | rfl | rfl | rfl | rfl | rfl | rfl <;> decide)).mono ?_
  rintro e w3 ⟨x, rfl, hx, hr3, hg3⟩
  have HX := Lib.hid hx; clear hx
  have HR3 := Lib.hid hr3; clear hr3
  have HG3 := Lib.hid hg3; clear hg3
  go_wp2_with fail
  go_ret
  exact ⟨x, rfl, HX.out, HR3.out, HG3.out⟩
theorem l30Glob_any (g p : Nat) {w : World} (hr : Rdr w g p) (hp : p ≤ 100000) :
    Calls Try.prog 41 #[.pointer (some ⟨g, 0, none⟩)] w fun e w' => ∃ s : ByteArray, e = .returned (.string s) ∧ s.size ≤ 20 ∧ Rdr w' g (p + 1) ∧ w.grownBy w' (some g) := by
  have HR := Lib.hid hr; clear hr
  go_enter Try.func41, Try.ntmps41
  go_wp2_with fail
  refine (of_new g p 15 [_, _, _, _, _, _, _, _, _, _, _, _, _, _, _] (fun x => x.size ≤ 20) HR.out rfl rfl (by omega) (by omega) (by omega) (fun x hx => by simp at hx; rcases hx with rfl | rfl | rfl | rfl | rfl | rfl | rfl | rfl | rfl | rfl | rfl | rfl | rfl | rfl | rfl <;> decide) (fun x hx => by simp at hx; rcases hx with rfl | rfl | rfl | rfl | rfl | rfl | rfl | rfl | rfl | rfl | rfl | rfl | rfl | rfl | rfl <;> decide)).mono ?_
  rintro e w3 ⟨x, rfl, hx, hr3, hg3⟩
  have HR3 := Lib.hid hr3; clear hr3
  have HG3 := Lib.hid hg3; clear hg3
  go_wp2_with fail
  go_ret
  exact ⟨x, rfl, hx, HR3.out, HG3.out⟩
theorem DrawGlobHas_any (a : Option Addr) (n cap : Nat) (xs : List Int) {w : World} (hx : Byts w a n cap xs) (hn : n ≤ 1048576) :
    Calls Try.prog 11 #[.slice a n cap] w fun e w' => ∃ s t : ByteArray, e = .returned (.tuple #[.string s, .string t]) ∧ s.size ≤ 20 ∧ wordOk t = true ∧ Below w.heap.size w w' := by
  have HX := Lib.hid hx; clear hx
  go_enter Try.func11, Try.ntmps11
  go_wp2_with fail
  refine (open_any _ _ _ _ HX.out hn).mono ?_
  rintro e w1 ⟨rfl, hr, hb, hs⟩
  have HR := Lib.hid hr; clear hr
  have HB := Lib.hid hb; clear hb hs
  go_wp2_with fail
  refine (l30Glob_any _ 0 HR.out (by omega)).mono ?_
  rintro e w2 ⟨s, rfl, hs, hr2, hg2⟩
  have HR2 := Lib.hid hr2; clear hr2
  have HB2 := Lib.hid (below_only HB.out hg2 (Nat.le_refl _) HB.out.size); clear hg2
  go_wp2_with fail
  refine (l30Word_any _ (0 + 1) HR2.out (by omega)).mono ?_
  rintro e w4 ⟨t, rfl, ht, hr4, hg4⟩
  have HTW := Lib.hid ht; clear ht hr4
  have HB4 := Lib.hid (below_only HB2.out hg4 (Nat.le_refl _) HB2.out.size); clear hg4
  go_wp2_with fail
  go_ret2
  exact ⟨s, t, rfl, hs, HTW.out, HB4.out⟩
end Go.Proofs.Ytoljjhhomklcbaa
