/- The walks of numbers written as gaps. Conditions: what is read fits the model's sizes. -/
import Derived.Test.YtoljjhhomklcbaaVarGet
import Derived.Test.YtoljjhhomklcbaaSeek
namespace Go.Proofs.Ytoljjhhomklcbaa
open Go.RowKit

/-- The number ahead of number k; -1 ahead of the first. -/
def lastI (xs : List Int) (k : Nat) : Int := if k = 0 then -1 else nthI xs (k - 1)
theorem lastI_zero (xs : List Int) : lastI xs 0 = -1 := rfl
theorem lastI_succ (xs : List Int) (k : Nat) : lastI xs (k + 1) = nthI xs k := by simp [lastI]
def gapN (xs : List Int) (k : Nat) : Nat := (nthI xs k - lastI xs k - 1).toNat
/-- How many numbers, and how many are passed over ahead of each of the first k. -/
def gapTo (n : Nat) (xs : List Int) : Nat → ByteArray
  | 0 => varS n
  | k + 1 => gapTo n xs k ++ varS (gapN xs k)
def gapPut (n : Nat) (xs : List Int) : ByteArray := if upOk n xs then gapTo n xs n else ⟨#[]⟩
theorem gapTo_succ (n : Nat) (xs : List Int) (k : Nat) : gapTo n xs (k + 1) = gapTo n xs k ++ varS (gapN xs k) := rfl
theorem varS_le {n : Nat} (h : n ≤ 4294967296) : (varS n).size ≤ 5 := by rw [varS_size]; exact varI_le 5 n (by omega) (Nat.lt_of_le_of_lt h (by decide))
theorem up_last {n : Nat} {xs : List Int} (h : upAsc n xs = true) {k : Nat} (hk : k < n) : -1 ≤ lastI xs k ∧ lastI xs k < nthI xs k := by
  have h1 := up_num h hk
  unfold lastI
  split
  · omega
  · have h2 := up_num h (show k - 1 < n by omega)
    have h3 := up_lt h (show k - 1 < k by omega) hk
    omega
theorem gapN_eq {n : Nat} {xs : List Int} (h : upAsc n xs = true) {k : Nat} (hk : k < n) : nthI xs k - lastI xs k - 1 = (gapN xs k : Int) ∧ gapN xs k ≤ 999999999 := by
  have h1 := up_num h hk
  have h2 := up_last h hk
  unfold gapN; omega
theorem gapTo_size {n : Nat} {xs : List Int} (h : upAsc n xs = true) (hn : n ≤ 60) : ∀ k, k ≤ n → (gapTo n xs k).size ≤ 5 + 5 * k := by
  intro k
  induction k with
  | zero => intro _; exact varS_le (by omega)
  | succ k ih =>
    intro hk
    have h1 := ih (by omega)
    have h2 := varS_le (n := gapN xs k) (by have := (gapN_eq h (show k < n by omega)).2; omega)
    rw [gapTo_succ, ByteArray.size_append]; omega
set_option maxRecDepth 20000 in
set_option maxHeartbeats 1000000 in
theorem GapPut_any (a : Option Addr) (n cap : Nat) (xs : List Int) (w : World) (hx : Ints w .i64 a n xs) (hn : n ≤ maxLen) :
    Calls Try.prog 18 #[.slice a n cap] w fun e w' => e = .returned (.string (gapPut n xs)) ∧ Below w.heap.size w w' := by
  have HX := Lib.hid hx; clear hx
  have HN := Lib.hid hn
  unfold maxLen at hn
  cases h1 : upOk n xs
  · go_enter Try.func18, Try.ntmps18
    go_wp2_with fail
    refine (UpOk_any _ _ _ _ HX.out HN.out).mono ?_
    rintro e w' ⟨rfl, rfl⟩
    go_wp2_with fail
    go_ret
    exact ⟨ret_str (by simp [gapPut, h1]), Below.refl _ _⟩
  · have HR := Lib.hid (show gapPut n xs = gapTo n xs n by simp [gapPut, h1])
    have HU := Lib.hid (show upAsc n xs = true by simp only [upOk, Bool.and_eq_true] at h1; exact h1.1)
    have h60 : n ≤ 60 := by simp only [upOk, Bool.and_eq_true, decide_eq_true_eq] at h1; exact h1.2
    go_enter Try.func18, Try.ntmps18
    go_wp2_with fail
    refine (UpOk_any _ _ _ _ HX.out HN.out).mono ?_
    rintro e w' ⟨rfl, rfl⟩
    go_wp2_with fail
    refine (VarPut_yes n (by omega) _).mono ?_
    rintro e w1 ⟨rfl, hb⟩
    have B1 := Lib.hid hb; clear hb
    go_wp2_with fail
    go_loopw [3, 4, 15] (fun o l i wr => ∃ k : Nat, k ≤ n ∧ i = .int .i64 k ∧ l = .int .i64 (lastI xs k) ∧ o = .string (gapTo n xs k) ∧ Below w.heap.size w wr) (fun _ _ i _ => n - (intOf i).toNat)
    case atStart => exact ⟨0, Nat.zero_le _, rfl, rfl, rfl, B1.out⟩
    case round =>
      clear h1
      obtain ⟨k, hk, rfl, rfl, rfl, hb⟩ := hrel
      by_cases hlt : k < n
      · obtain ⟨b, off, rfl, hc⟩ := (HX.out.below hb).rd.pos hlt
        have hck := hc k hlt
        have HB := Lib.hid hb; clear hb hc
        obtain ⟨x0, x1⟩ := up_num HU.out hlt
        obtain ⟨l0, l1⟩ := up_last HU.out hlt
        obtain ⟨ge, gb⟩ := gapN_eq HU.out hlt
        have hz := gapTo_size HU.out h60 k hk
        have hz2 := varS_le (n := gapN xs k) (by omega)
        have hz3 : (gapTo n xs k).size + (varS (gapN xs k)).size ≤ 9223372036854775807 := by omega
        have G := Lib.hid (gapTo_succ n xs k)
        have L := Lib.hid (lastI_succ xs k)
        go_wp2_with fail
        refine (VarPut_yes (gapN xs k) gb _).mono ?_
        rintro e w2 ⟨rfl, hb2⟩
        have HB2 := Lib.hid (HB.out.trans (hb2.mono HB.out.size)); clear hb2
        go_wp2_with fail
        go_roundw
        case rel => exact ⟨k + 1, by omega, by go_num, vint L.out.symm, vstr G.out.symm, HB2.out⟩
        case measure => simp [intOf]; omega
      · obtain rfl : k = n := by omega
        have HB := Lib.hid hb; clear hb
        go_wp2_with fail
        go_ret
        exact ⟨ret_str HR.out.symm, HB.out⟩
set_option maxRecDepth 20000 in
set_option maxHeartbeats 1000000 in
theorem l3Gap_any (a : Option Addr) (n cap : Nat) (xs : List Int) (w : World) (hx : Ints w .i64 a n xs) (h60 : n ≤ 60) (hu : upAsc n xs = true) :
    Calls Try.prog 51 #[.slice a n cap] w fun e w' => e = .returned (.string (gapTo n xs n)) ∧ Below w.heap.size w w' := by
  have HX := Lib.hid hx; clear hx
  have HU := Lib.hid hu; clear hu
  go_enter Try.func51, Try.ntmps51
  go_wp2_with fail
  refine (l3Var_any n (by omega) _).mono ?_
  rintro e w1 ⟨rfl, hb⟩
  have B1 := Lib.hid hb; clear hb
  go_wp2_with fail
  go_loopw [3, 4, 5] (fun o l i wr => ∃ k : Nat, k ≤ n ∧ i = .int .i64 k ∧ l = .int .i64 (lastI xs k) ∧ o = .string (gapTo n xs k) ∧ Below w.heap.size w wr) (fun _ _ i _ => n - (intOf i).toNat)
  case atStart => exact ⟨0, Nat.zero_le _, rfl, rfl, rfl, B1.out⟩
  case round =>
    obtain ⟨k, hk, rfl, rfl, rfl, hb⟩ := hrel
    by_cases hlt : k < n
    · obtain ⟨b, off, rfl, hc⟩ := (HX.out.below hb).rd.pos hlt
      have hck := hc k hlt
      have hbk := World.block_lt_of_cell? wr _ hck
      have HB := Lib.hid hb; clear hb hc
      obtain ⟨x0, x1⟩ := up_num HU.out hlt
      obtain ⟨l0, l1⟩ := up_last HU.out hlt
      obtain ⟨ge, gb⟩ := gapN_eq HU.out hlt
      have hz := gapTo_size HU.out h60 k hk
      have hz2 := varS_le (n := gapN xs k) (by omega)
      have hz3 : (gapTo n xs k).size + (varS (gapN xs k)).size ≤ 9223372036854775807 := by omega
      have G := Lib.hid (gapTo_succ n xs k)
      have L := Lib.hid (lastI_succ xs k)
      go_wp2_with fail
      refine (l3Var_any (gapN xs k) (by omega) _).mono ?_
      rintro e w2 ⟨rfl, hb2⟩
      have HB2 := Lib.hid (HB.out.trans (hb2.mono HB.out.size))
      have hck2 := (hb2.cell (p := ⟨b, off + k, none⟩) hbk).trans hck
      clear hb2
      go_wp2_with fail
      go_roundw
      case rel => exact ⟨k + 1, by omega, by go_num, vint L.out.symm, vstr G.out.symm, HB2.out⟩
      case measure => simp [intOf]; omega
    · obtain rfl : k = n := by omega
      have HB := Lib.hid hb; clear hb
      go_wp2_with fail
      go_ret
      exact ⟨rfl, HB.out⟩
theorem sGapPut_any (a : Option Addr) (n cap : Nat) (xs : List Int) (w : World) (hx : Ints w .i64 a n xs) (hn : n ≤ maxLen) :
    Calls Try.prog 19 #[.slice a n cap] w fun e w' => e = .returned (.string (gapPut n xs)) ∧ Below w.heap.size w w' := by
  have HX := Lib.hid hx; clear hx
  have HN := Lib.hid hn
  cases h1 : upOk n xs
  · go_enter Try.func19, Try.ntmps19
    go_wp2_with fail
    refine (l3Up_any _ _ _ _ HX.out HN.out).mono ?_
    rintro e w' ⟨rfl, q, rfl⟩
    go_wp2_with fail
    go_ret
    exact ⟨ret_str (by simp [gapPut, h1]), (Drw.mk _ _).below⟩
  · have HR := Lib.hid (show gapPut n xs = gapTo n xs n by simp [gapPut, h1])
    have HU := Lib.hid (show upAsc n xs = true by simp only [upOk, Bool.and_eq_true] at h1; exact h1.1)
    have h60 : n ≤ 60 := by simp only [upOk, Bool.and_eq_true, decide_eq_true_eq] at h1; exact h1.2
    go_enter Try.func19, Try.ntmps19
    go_wp2_with fail
    refine (l3Up_any _ _ _ _ HX.out HN.out).mono ?_
    rintro e w' ⟨rfl, q, rfl⟩
    go_wp2_with fail
    refine (l3Gap_any _ _ _ _ _ (HX.out.drewN q) h60 HU.out).mono ?_
    rintro e w1 ⟨rfl, hb⟩
    have B1 := Lib.hid ((Drw.mk w q).below.trans hb); clear hb
    go_wp2_with fail
    go_ret
    exact ⟨ret_str HR.out.symm, B1.out⟩
end Go.Proofs.Ytoljjhhomklcbaa
