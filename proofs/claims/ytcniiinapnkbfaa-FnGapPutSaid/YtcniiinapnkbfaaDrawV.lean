/- Bytes that are drawn: of numbers, of gaps, of bits, bent. Conditions: bounds on how often the reader is read. -/
import Derived.Test.YtcniiinapnkbfaaDrawN
import Derived.Test.YtcniiinapnkbfaaPackPut
namespace Go.Proofs.Ytcniiinapnkbfaa
open Go.ChangeShapes Go.WideShapes Go.RowKit
/-- A number that a draw gives. -/
def DrawnN (w : World) (e : Ending) (w' : World) : Prop := ∃ x : Int, e = .returned (.int .i64 x) ∧ -1 ≤ x ∧ x ≤ 1000000000 ∧ Below w.heap.size w w'
/-- A string that a draw gives. -/
def DrawnS (w : World) (e : Ending) (w' : World) : Prop := ∃ s : ByteArray, e = .returned (.string s) ∧ s.size ≤ 100000 ∧ Below w.heap.size w w'
theorem pv31 {n : Nat} (h : n ≤ 999999999) : n ≤ 4294967296 := by omega
theorem DrawVarPut_any (a : Option Addr) (n cap : Nat) (xs : List Int) {w : World} (hx : Byts w a n cap xs) (hn : n ≤ 1048576) :
    Calls Try.prog 10 #[.slice a n cap] w (DrawnN w) := by
  have HX := Lib.hid hx; clear hx
  go_enter Try.func10, Try.ntmps10
  go_wp2_with fail
  refine (open_any _ _ _ _ HX.out hn).mono ?_
  rintro e w1 ⟨rfl, hr, hb, hs⟩
  have HR := Lib.hid hr; clear hr
  have HB := Lib.hid hb; clear hb hs
  go_wp2_with fail
  refine (pick_any _ 0 8 HR.out (by omega) (by omega)).mono ?_
  rintro e w2 ⟨k, rfl, hk, hr2, hg2⟩
  have HR2 := Lib.hid hr2; clear hr2
  have HB2 := Lib.hid (below_only HB.out hg2 (Nat.le_refl _) HB.out.size); clear hg2
  by_cases k0 : k = 0
  · have b0 : ((k : Int) == 0) = true := beq_t (by omega)
    clear k0
    go_wp2_with fail
    refine (one_new _ (0 + 1) 2 [-1, 1000000000] (fun x => -1 ≤ x ∧ x ≤ 1000000000) HR2.out rfl rfl (by omega) (by omega) (by omega) (fun x hx => by simp at hx; omega) (fun x hx => by simp at hx; omega)).mono ?_
    rintro e w3 ⟨x, rfl, ⟨hx0, hx1⟩, hr3, hg3⟩
    have HB3 := Lib.hid (below_only HB2.out hg3 (Nat.le_refl _) HB2.out.size); clear hg3 hr3
    go_wp2_with fail
    go_ret
    exact ⟨x, rfl, hx0, hx1, HB3.out⟩
  · have b0 : ((k : Int) == 0) = false := beq_f (by omega)
    clear k0
    go_wp2_with fail
    refine (l30Num_any _ (0 + 1) HR2.out (by omega)).mono ?_
    rintro e w3 ⟨x, rfl, hx0, hx1, hr3, hg3⟩
    have HB3 := Lib.hid (below_only HB2.out hg3 (Nat.le_refl _) HB2.out.size); clear hg3 hr3
    go_wp2_with fail
    go_ret
    exact ⟨x, rfl, by omega, by omega, HB3.out⟩
theorem DrawVarGet_any (a : Option Addr) (n cap : Nat) (xs : List Int) {w : World} (hx : Byts w a n cap xs) (hn : n ≤ 1048576) :
    Calls Try.prog 14 #[.slice a n cap] w (DrawnS w) := by
  have HX := Lib.hid hx; clear hx
  go_enter Try.func14, Try.ntmps14
  go_wp2_with fail
  refine (open_any _ _ _ _ HX.out hn).mono ?_
  rintro e w1 ⟨rfl, hr, hb, hs⟩
  have HR := Lib.hid hr; clear hr
  have HB := Lib.hid hb; clear hb hs
  go_wp2_with fail
  refine (pick_any _ 0 3 HR.out (by omega) (by omega)).mono ?_
  rintro e w2 ⟨k, rfl, hk, hr2, hg2⟩
  have HR2 := Lib.hid hr2; clear hr2
  have HB2 := Lib.hid (below_only HB.out hg2 (Nat.le_refl _) HB.out.size); clear hg2
  by_cases k0 : k = 0
  · have b0 : ((k : Int) == 0) = true := beq_t (by omega)
    clear k0
    go_wp2_with fail
    refine (of_new _ (0 + 1) 7 [_, _, _, _, _, _, _] (fun x => x.size ≤ 100) HR2.out rfl rfl (by omega) (by omega) (by omega) (fun x hx => by simp at hx; rcases hx with rfl | rfl | rfl | rfl | rfl | rfl | rfl <;> decide) (fun x hx => by simp at hx; rcases hx with rfl | rfl | rfl | rfl | rfl | rfl | rfl <;> decide)).mono ?_
    rintro e w3 ⟨x, rfl, hx1, hr3, hg3⟩
    have HB3 := Lib.hid (below_only HB2.out hg3 (Nat.le_refl _) HB2.out.size); clear hg3 hr3
    go_wp2_with fail
    go_ret
    exact ⟨x, rfl, by omega, HB3.out⟩
  · have b0 : ((k : Int) == 0) = false := beq_f (by omega)
    clear k0
    go_wp2_with fail
    refine (l30Num_any _ (0 + 1) HR2.out (by omega)).mono ?_
    rintro e w3 ⟨x, rfl, hx0, hx1, hr3, hg3⟩
    have HR3 := Lib.hid hr3; clear hr3
    have HB3 := Lib.hid (below_only HB2.out hg3 (Nat.le_refl _) HB2.out.size); clear hg3
    obtain ⟨m, rfl⟩ : ∃ m : Nat, x = m := ⟨x.toNat, by omega⟩
    have hm9 : m ≤ 999999999 := by omega
    have hz := varS_le10 m hm9
    go_wp2_with fail
    refine (l3Var_any m (pv31 hm9) _).mono ?_
    rintro e w4 ⟨rfl, hb4⟩
    have HR4 := Lib.hid (HR3.out.below hb4)
    have HB4 := Lib.hid (HB3.out.trans (hb4.mono HB3.out.size)); clear hb4
    go_wp2_with fail
    refine (of_new _ _ 3 [_, _, _] (fun x => x.size ≤ 100) HR4.out rfl rfl (by omega) (by omega) (by omega) (fun x hx => by simp at hx; rcases hx with rfl | rfl | rfl <;> decide) (fun x hx => by simp at hx; rcases hx with rfl | rfl | rfl <;> decide)).mono ?_
    rintro e w5 ⟨x, rfl, hx1, hr5, hg5⟩
    have HB5 := Lib.hid (below_only HB4.out hg5 (Nat.le_refl _) HB4.out.size); clear hg5 hr5
    have hz2 : (varS m).size + x.size ≤ 9223372036854775807 := by omega
    go_wp2_with fail
    go_ret
    exact ⟨_, rfl, by rw [ByteArray.size_append]; omega, HB5.out⟩
set_option maxHeartbeats 1000000 in
theorem l30Bent_any (g p : Nat) (s : ByteArray) {w : World} (hr : Rdr w g p) (hp : p ≤ 10000) (hs : s.size ≤ 10000) :
    Calls Try.prog 47 #[.pointer (some ⟨g, 0, none⟩), .string s] w fun e w' => ∃ (x : ByteArray) (q : Nat), e = .returned (.string x) ∧ x.size ≤ s.size + 100 ∧ q ≤ p + 3 ∧ Rdr w' g q ∧ w.grownBy w' (some g) := by
  have HR := Lib.hid hr; clear hr
  go_enter Try.func47, Try.ntmps47
  go_wp2_with fail
  refine (pick_any g p (s.size + 1) HR.out (by omega) (by omega)).mono ?_
  rintro e w1 ⟨k, rfl, hk, hr1, hg1⟩
  have HR1 := Lib.hid hr1; clear hr1
  have HG1 := Lib.hid hg1; clear hg1
  go_wp2_with fail
  refine (pick_any g (p + 1) 5 HR1.out (by omega) (by omega)).mono ?_
  rintro e w2 ⟨j, rfl, hj, hr2, hg2⟩
  have HR2 := Lib.hid hr2; clear hr2
  have HG2 := Lib.hid (grownBy_trans HG1.out hg2); clear hg2
  have hks : k ≤ s.size := by omega
  by_cases j0 : j = 0
  · have b0 : ((j : Int) == 0) = true := beq_t (by omega)
    clear j0
    by_cases hlt : k < s.size
    · have HRD := Lib.hid (HR2.out.drewN 1)
      have HGD := Lib.hid (only_drewN HG2.out 1)
      have z1 : ∀ x : ByteArray, x.size ≤ 10 → (s.extract 0 k).size + x.size ≤ 9223372036854775807 := fun x hx => by simp only [ByteArray.size_extract]; omega
      have z2 : ∀ x : ByteArray, x.size ≤ 10 → (s.extract 0 k ++ x).size + (s.extract (k + 1) s.size).size ≤ 9223372036854775807 := fun x hx => by simp only [ByteArray.size_extract, ByteArray.size_append]; omega
      have Z1 := Lib.hid z1; clear z1
      have Z2 := Lib.hid z2; clear z2
      have z3 : (k : Int) + 1 ≤ (s.size : Int) := by omega
      have z4 : IntKind.i64.wrap ((k : Int) + 1) = (k : Int) + 1 := IntWalk.i64_in _ (by omega)
      have z5 : ((k : Int) + 1).toNat = k + 1 := by omega
      have z6 : (0 : Int) ≤ (k : Int) + 1 := by omega
      go_wp2_with fail
      go_region_with (go_at_call 40; refine (of_new g (p + 1 + 1) 8 [⟨#[48]⟩, ⟨#[49]⟩, ⟨#[32]⟩, ⟨#[40]⟩, ⟨#[41]⟩, ⟨#[10]⟩, ⟨#[58]⟩, ⟨#[128]⟩] (fun x => x.size ≤ 10) HRD.out rfl rfl (by omega) (by omega) (by omega) (fun x hx => by simp at hx; rcases hx with rfl | rfl | rfl | rfl | rfl | rfl | rfl | rfl <;> decide) (fun x hx => by simp at hx; rcases hx with rfl | rfl | rfl | rfl | rfl | rfl | rfl | rfl <;> decide)).mono ?_; rintro e w3 ⟨x, rfl, hx, hr3, hg3⟩; have HR3 := Lib.hid hr3; clear hr3; have HG3 := Lib.hid (grownBy_trans HGD.out hg3); clear hg3; have y1 := Z1.out x hx; have y2 := Z2.out x hx)
      clear z4 z5
      all_goals
        go_wp2_with fail
        go_ret
        exact ⟨_, _, rfl, by simp only [ByteArray.size_extract, ByteArray.size_append]; omega, Nat.le_refl _, HR3.out, HG3.out⟩
    · go_wp2_with fail
      go_ret
      exact ⟨s, _, rfl, by omega, by omega, HR2.out, HG2.out⟩
  have b0 : ((j : Int) == 0) = false := beq_f (by omega)
  by_cases j1 : j = 1
  · have b1 : ((j : Int) == 1) = true := beq_t (by omega)
    clear j0 j1
    go_wp2_with fail
    go_ret
    exact ⟨_, _, rfl, by simp only [ByteArray.size_extract]; omega, by omega, HR2.out, HG2.out⟩
  have b1 : ((j : Int) == 1) = false := beq_f (by omega)
  by_cases j2 : j = 2
  · have b2 : ((j : Int) == 2) = true := beq_t (by omega)
    clear j0 j1 j2
    go_wp2_with fail
    refine (of_new g (p + 1 + 1) 4 [_, _, _, _] (fun x => x.size ≤ 10) HR2.out rfl rfl (by omega) (by omega) (by omega) (fun x hx => by simp at hx; rcases hx with rfl | rfl | rfl | rfl <;> decide) (fun x hx => by simp at hx; rcases hx with rfl | rfl | rfl | rfl <;> decide)).mono ?_
    rintro e w3 ⟨x, rfl, hx, hr3, hg3⟩
    have HR3 := Lib.hid hr3; clear hr3
    have HG3 := Lib.hid (grownBy_trans HG2.out hg3); clear hg3
    have z1 : s.size + x.size ≤ 9223372036854775807 := by omega
    go_wp2_with fail
    go_ret
    exact ⟨_, _, rfl, by simp only [ByteArray.size_append]; omega, Nat.le_refl _, HR3.out, HG3.out⟩
  · have b2 : ((j : Int) == 2) = false := beq_f (by omega)
    clear j0 j1 j2
    go_wp2_with fail
    go_ret
    exact ⟨s, _, rfl, by omega, by omega, HR2.out, HG2.out⟩
theorem DrawGapGet_any (a : Option Addr) (n cap : Nat) (xs : List Int) {w : World} (hx : Byts w a n cap xs) (hn : n ≤ 1048576) :
    Calls Try.prog 29 #[.slice a n cap] w (DrawnS w) := by
  have HX := Lib.hid hx; clear hx
  go_enter Try.func29, Try.ntmps29
  go_wp2_with fail
  refine (open_any _ _ _ _ HX.out hn).mono ?_
  rintro e w1 ⟨rfl, hr, hb, hs⟩
  have HR := Lib.hid hr; clear hr
  have HB := Lib.hid hb; clear hb hs
  go_wp2_with fail
  refine (l30Up_any _ 0 8 HR.out (by omega) (by omega)).mono ?_
  rintro e w2 ⟨a2, n2, c2, ys, q, rfl, hn2, hall, hup, ho, hr2, hq, hg2⟩
  have UP := Lib.hid hup; clear hup hall
  have HO := Lib.hid ho; clear ho
  have HR2 := Lib.hid hr2; clear hr2
  have HB2 := Lib.hid (below_only HB.out hg2 (Nat.le_refl _) HB.out.size); clear hg2
  have hz := gapTo_size UP.out (by omega) n2 (Nat.le_refl _)
  go_wp2_with fail
  refine (l3Gap_any _ _ _ _ _ HO.out.ints (by omega) UP.out).mono ?_
  rintro e w3 ⟨rfl, hb3⟩
  have HR3 := Lib.hid (HR2.out.below hb3); 
  have HB3 := Lib.hid (HB2.out.trans (hb3.mono HB2.out.size)); clear hb3
  go_wp2_with fail
  refine (l30Bent_any _ _ _ HR3.out (by omega) (by omega)).mono ?_
  rintro e w4 ⟨x, q4, rfl, hx, hq4, hr4, hg4⟩
  have HR4 := Lib.hid hr4; clear hr4
  have HB4 := Lib.hid (below_only HB3.out hg4 (Nat.le_refl _) HB3.out.size); clear hg4
  go_wp2_with fail
  refine (of_new _ _ 2 [_, _] (fun x => x.size ≤ 10) HR4.out rfl rfl (by omega) (by omega) (by omega) (fun x hx => by simp at hx; rcases hx with rfl | rfl <;> decide) (fun x hx => by simp at hx; rcases hx with rfl | rfl <;> decide)).mono ?_
  rintro e w5 ⟨y, rfl, hy, hr5, hg5⟩
  have HB5 := Lib.hid (below_only HB4.out hg5 (Nat.le_refl _) HB4.out.size); clear hg5 hr5
  have z1 : x.size + y.size ≤ 9223372036854775807 := by omega
  go_wp2_with fail
  go_ret
  exact ⟨_, rfl, by rw [ByteArray.size_append]; omega, HB5.out⟩
theorem packPut_small (n : Nat) (xs : List Int) : (packPut n xs).size ≤ 1000 := by
  by_cases hneg : packWidth n xs < 0
  · rw [packPut, if_pos hneg]; show 0 ≤ _; omega
  · obtain ⟨hn60, _, W, hW, hW30⟩ := packWidth_yes hneg
    rw [packPut, if_neg hneg, hW]
    have z0 : n * W ≤ 60 * 30 := Nat.mul_le_mul hn60 hW30
    have z1 : (varS n).size ≤ 10 := varS_le10 n (by omega)
    have z2 : (varS W).size ≤ 10 := varS_le10 W (by omega)
    rw [Int.toNat_natCast, ByteArray.size_append, ByteArray.size_append, strOfNums_size, packB_len]
    omega
theorem DrawPackGet_any (a : Option Addr) (n cap : Nat) (xs : List Int) {w : World} (hx : Byts w a n cap xs) (hn : n ≤ 1048576) :
    Calls Try.prog 31 #[.slice a n cap] w (DrawnS w) := by
  have HX := Lib.hid hx; clear hx
  go_enter Try.func31, Try.ntmps31
  go_wp2_with fail
  refine (open_any _ _ _ _ HX.out hn).mono ?_
  rintro e w1 ⟨rfl, hr, hb, hs⟩
  have HR := Lib.hid hr; clear hr
  have HB := Lib.hid hb; clear hb hs
  go_wp2_with fail
  refine (l30Nums_any _ 0 HR.out (by omega)).mono ?_
  rintro e w2 ⟨a2, n2, c2, ys, q, rfl, hn2, hall, ho, hr2, hq, hg2⟩
  clear hall
  have HO := Lib.hid ho; clear ho
  have HR2 := Lib.hid hr2; clear hr2
  have HB2 := Lib.hid (below_only HB.out hg2 (Nat.le_refl _) HB.out.size); clear hg2
  have hz := packPut_small n2 ys
  have hm : n2 ≤ maxLen := by unfold maxLen; omega
  have HM := Lib.hid hm; clear hm
  go_wp2_with fail
  refine (sPackPut_any _ _ _ _ _ HO.out.ints HM.out).mono ?_
  rintro e w3 ⟨rfl, hb3⟩
  have HR3 := Lib.hid (HR2.out.below hb3)
  have HB3 := Lib.hid (HB2.out.trans (hb3.mono HB2.out.size)); clear hb3
  go_wp2_with fail
  refine (l30Bent_any _ _ _ HR3.out (by omega) (by omega)).mono ?_
  rintro e w4 ⟨x, q4, rfl, hx, hq4, hr4, hg4⟩
  have HB4 := Lib.hid (below_only HB3.out hg4 (Nat.le_refl _) HB3.out.size); clear hg4 hr4
  go_wp2_with fail
  go_ret
  exact ⟨_, rfl, by omega, HB4.out⟩
end Go.Proofs.Ytcniiinapnkbfaa
