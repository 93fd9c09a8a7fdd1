/- Texts, words and patterns that are drawn. Conditions: bounds on how often the reader is read. -/
import Derived.Test.YtlbopihffpodkaaDoorDraw
namespace Go.Proofs.YtlbopihffpodkaaDoor
set_option maxRecDepth 100000
open Go.ChangeShapes Go.WideShapes Go.RowKit
/-- A string that a draw gives. -/
def DrawnT (w : World) (P : ByteArray → Prop) (e : Ending) (w' : World) : Prop := ∃ s : ByteArray, e = .returned (.string s) ∧ P s ∧ Below w.heap.size w w'
def strsP (xs : List ByteArray) (s : ByteArray) : Prop := s ∈ xs
theorem l30Raw_any (g p : Nat) {w : World} (hr : Rdr w g p) (hp : p ≤ 100000) :
    Calls Tryd.prog 74 #[.pointer (some ⟨g, 0, none⟩)] w fun e w' => ∃ s : ByteArray, e = .returned (.string s) ∧ s.size ≤ 17 ∧ Rdr w' g (p + 1) ∧ w.grownBy w' (some g) := by
  have HR := Lib.hid hr; clear hr
  go_enter Tryd.func74, Tryd.ntmps74
  go_wp2_with fail
  refine (of_new g p 16 [_, _, _, _, _, _, _, _, _, _, _, _, _, _, _, _] (fun x => x.size ≤ 17) HR.out rfl rfl (by omega) (by omega) (by omega) (fun x hx => by simp at hx; rcases hx with rfl | rfl | rfl | rfl | rfl | rfl | rfl | rfl | rfl | rfl | rfl | rfl | rfl | rfl | rfl | rfl <;> decide) (fun x hx => by simp at hx; rcases hx with rfl | rfl | rfl | rfl | rfl | rfl | rfl | rfl | rfl | rfl | rfl | rfl | rfl | rfl | rfl | rfl <;> decide)).mono ?_
  rintro e w3 ⟨x, rfl, hx, hr3, hg3⟩
  have HR3 := Lib.hid hr3; clear hr3
  have HG3 := Lib.hid hg3; clear hg3
  go_wp2_with fail
  go_ret
  exact ⟨x, rfl, hx, HR3.out, HG3.out⟩
set_option maxHeartbeats 1000000 in
theorem l30Text_any (g p : Nat) {w : World} (hr : Rdr w g p) (hp : p ≤ 10000) :
    Calls Tryd.prog 58 #[.pointer (some ⟨g, 0, none⟩)] w fun e w' => ∃ (s : ByteArray) (q : Nat), e = .returned (.string s) ∧ s.size ≤ 180 ∧ q ≤ p + 20 ∧ Rdr w' g q ∧ w.grownBy w' (some g) := by
  have HR := Lib.hid hr; clear hr
  go_enter Tryd.func58, Tryd.ntmps58
  go_wp2_with fail
  refine (pick_any g p 9 HR.out (by omega) (by omega)).mono ?_
  rintro e w1 ⟨k1, rfl, hk1, hr1, hg1⟩
  have HR1 := Lib.hid hr1; clear hr1
  have HG1 := Lib.hid hg1; clear hg1
  go_wp2_with fail
  go_loopw [3, 4] (fun v i wr => ∃ (m : Nat) (s : ByteArray) (q : Nat), i = .int .i64 m ∧ v = .string s ∧ m ≤ 8 ∧ s.size + 20 * m ≤ 160 ∧ q + 2 * m ≤ p + 1 + 16 ∧ Rdr wr g q ∧ w.grownBy wr (some g)) (fun _ i _ => (intOf i).toNat)
  case atStart => exact ⟨k1, _, p + 1, rfl, rfl, by omega, by show 0 + _ ≤ _; omega, by omega, HR1.out, HG1.out⟩
  case round =>
    obtain ⟨m, s, q, rfl, rfl, hm8, hsz, hq, hr, hg⟩ := hrel
    have HR3 := Lib.hid hr; clear hr
    have HG3 := Lib.hid hg; clear hg
    by_cases hp0 : 0 < m
    · go_wp2_with fail
      refine (l30Raw_any g q HR3.out (by omega)).mono ?_
      rintro e w4 ⟨x, rfl, hx, hr4, hg4⟩
      have HR4 := Lib.hid hr4; clear hr4
      have HG4 := Lib.hid (grownBy_trans HG3.out hg4); clear hg4
      have z1 : s.size + x.size ≤ 9223372036854775807 := by omega
      go_wp2_with fail
      refine (of_new g (q + 1) 5 [_, _, _, _, _] (fun x => x.size ≤ 3) HR4.out rfl rfl (by omega) (by omega) (by omega) (fun x hx => by simp at hx; rcases hx with rfl | rfl | rfl | rfl | rfl <;> decide) (fun x hx => by simp at hx; rcases hx with rfl | rfl | rfl | rfl | rfl <;> decide)).mono ?_
      rintro e w5 ⟨y, rfl, hy, hr5, hg5⟩
      have HR5 := Lib.hid hr5; clear hr5
      have HG5 := Lib.hid (grownBy_trans HG4.out hg5); clear hg5
      have z2 : (s ++ x).size + y.size ≤ 9223372036854775807 := by rw [ByteArray.size_append]; omega
      go_wp2_with fail
      go_roundw
      case rel => exact ⟨m - 1, s ++ x ++ y, q + 1 + 1, by go_num, rfl, by omega, by rw [ByteArray.size_append, ByteArray.size_append]; omega, by omega, HR5.out, HG5.out⟩
      case measure => simp [intOf]; omega
    · have hm0 : (m : Int) ≤ 0 := by omega
      go_wp2_with fail
      go_ret
      exact ⟨s, q, rfl, by omega, by omega, HR3.out, HG3.out⟩
set_option maxRecDepth 100000 in
set_option maxHeartbeats 1000000 in
theorem l30AnyText_any (g p : Nat) {w : World} (hr : Rdr w g p) (hp : p ≤ 9000) :
    Calls Tryd.prog 47 #[.pointer (some ⟨g, 0, none⟩)] w fun e w' => ∃ (s : ByteArray) (q : Nat), e = .returned (.string s) ∧ s.size ≤ 400 ∧ q ≤ p + 30 ∧ Rdr w' g q ∧ w.grownBy w' (some g) := by
  have HR := Lib.hid hr; clear hr
  go_enter Tryd.func47, Tryd.ntmps47
  go_wp2_with fail
  refine (l30Text_any g p HR.out (by omega)).mono ?_
  rintro e w1 ⟨s, q, rfl, hs, hq, hr1, hg1⟩
  have HR1 := Lib.hid hr1; clear hr1
  have HG1 := Lib.hid hg1; clear hg1
  go_wp2_with fail
  refine (pick_any g q 12 HR1.out (by omega) (by omega)).mono ?_
  rintro e w2 ⟨k, rfl, hk, hr2, hg2⟩
  have HR2 := Lib.hid hr2; clear hr2
  have HG2 := Lib.hid (grownBy_trans HG1.out hg2); clear hg2
  by_cases k0 : k = 0
  · have b0 : ((k : Int) == 0) = true := beq_t (by omega)
    clear k0
    go_wp2_with fail
    refine (of_new g (q + 1) 3 [_, _, _] (fun x => x.size ≤ 200) HR2.out rfl rfl (by omega) (by omega) (by omega) (fun x hx => by simp at hx; rcases hx with rfl | rfl | rfl <;> decide) (fun x hx => by simp at hx; rcases hx with rfl | rfl | rfl <;> decide)).mono ?_
    rintro e w3 ⟨y, rfl, hy, hr3, hg3⟩
    have HR3 := Lib.hid hr3; clear hr3
    have HG3 := Lib.hid (grownBy_trans HG2.out hg3); clear hg3
    have z2 : s.size + y.size ≤ 9223372036854775807 := by omega
    go_wp2_with fail
    go_ret
    exact ⟨_, q + 1 + 1, rfl, by rw [ByteArray.size_append]; omega, by omega, HR3.out, HG3.out⟩
  · have b0 : ((k : Int) == 0) = false := beq_f (by omega)
    clear k0
    go_wp2_with fail
    go_ret
    exact ⟨s, q + 1, rfl, by omega, by omega, HR2.out, HG2.out⟩
end Go.Proofs.YtlbopihffpodkaaDoor
