/- The law of PackPut: program and reference say the same. Conditions: what is read fits the model's sizes. -/
import Derived.Test.YtkjlbellcbodcaaPack2
import Derived.Test.YtkjlbellcbodcaaInts
namespace Go.Proofs.Ytkjlbellcbodcaa
open Go.RowKit
theorem packPut_size (n : Nat) (xs : List Int) : (packPut n xs).size ≤ maxLen := by
  unfold maxLen
  by_cases hneg : packWidth n xs < 0
  · rw [packPut, if_pos hneg]; show 0 ≤ _; omega
  · obtain ⟨hn60, _, W, hW, hW30⟩ := packWidth_yes hneg
    rw [packPut, if_neg hneg, hW]
    have z0 : n * W ≤ 60 * 30 := Nat.mul_le_mul hn60 hW30
    have z1 : (varS n).size ≤ 10 := varS_le10 n (by omega)
    have z2 : (varS W).size ≤ 10 := varS_le10 W (by omega)
    rw [Int.toNat_natCast, ByteArray.size_append, ByteArray.size_append, strOfNums_size, packB_len]
    omega
set_option maxHeartbeats 1000000 in
theorem xPackPut_any (w : World) (a : Option Addr) (n cap : Nat) (xs : List Int) (hx : Ints w .i64 a n xs) (hn : n ≤ maxLen) :
    Calls Try.prog 10 #[.slice a n cap] w fun e w' => e = .returned (.bool true) ∧ Below w.heap.size w w' := by
  have HX := Lib.hid hx; clear hx
  by_cases hl1 : (1048576 : Int) < (n : Int)
  · go_enter Try.func10, Try.ntmps10
    go_wp2_with fail
    go_ret
    exact ⟨rfl, Below.refl _ _⟩
  have hn2 : n ≤ 1048576 := by omega
  have T := Lib.hid (fun (v : World) (h : Ints v .i64 a n xs) => toIntS_any a n cap xs v h hn2)
  have E1 : eqInts n n xs xs = true := eqInts_refl _ _
  go_enter Try.func10, Try.ntmps10
  go_wp2_with fail
  refine (T.out _ HX.out).mono ?_
  rintro e w1 ⟨a1, rfl, ho1, hb1⟩
  have O1 := Lib.hid ho1; clear ho1
  have B1 := Lib.hid hb1; clear hb1
  go_wp2_with fail
  refine (sPackPut_any _ _ _ _ _ O1.out.ints hn).mono ?_
  rintro e w2 ⟨rfl, hb2⟩
  have B2 := Lib.hid (B1.out.trans (hb2.mono B1.out.size)); clear hb2
  go_wp2_with fail
  refine (T.out _ (HX.out.below B2.out)).mono ?_
  rintro e w3 ⟨a3, rfl, ho3, hb3⟩
  have X3 := Lib.hid ho3; clear ho3
  have B3 := Lib.hid (B2.out.trans (hb3.mono B2.out.size)); clear hb3
  go_wp2_with fail
  refine (PackPut_any _ _ _ _ _ X3.out.ints hn).mono ?_
  rintro e w4 ⟨rfl, hb4⟩
  have X4 := Lib.hid (X3.out.below hb4)
  have B4 := Lib.hid (B3.out.trans (hb4.mono B3.out.size)); clear hb4
  go_wp2_with fail
  refine (T.out _ (HX.out.below B4.out)).mono ?_
  rintro e w5 ⟨a5, rfl, ho5, hb5⟩
  have T5 := Lib.hid ho5; clear ho5
  have X5 := Lib.hid (X4.out.below hb5)
  have B5 := Lib.hid (B4.out.trans (hb5.mono B4.out.size)); clear hb5
  go_wp2_with fail
  refine (eqIntS_any _ _ _ _ _ _ _ _ _ X5.out.ints T5.out.ints hn hn).mono ?_
  rintro e w5' ⟨rfl, q, rfl⟩
  go_wp2_with fail
  go_ret
  exact ⟨rfl, below_drewN B5.out q⟩
end Go.Proofs.Ytkjlbellcbodcaa
