/- The walks of how many bits the greatest number has. Conditions: what is read fits the model's sizes. -/
import Derived.Test.YtcniiinapnkbfaaUp
namespace Go.Proofs.Ytcniiinapnkbfaa
open Go.RowKit

/-- How many bits a number has. -/
def blen (n : Nat) : Nat := if _h : n = 0 then 0 else blen (n / 2) + 1
theorem blen_zero : blen 0 = 0 := by rw [blen]; rfl
theorem blen_pos {n : Nat} (h : 0 < n) : blen n = blen (n / 2) + 1 := by rw [blen, dif_neg (by omega)]
theorem blen_le : ∀ (w n : Nat), blen n ≤ w ↔ n < 2 ^ w := by
  intro w
  induction w with
  | zero =>
    intro n
    rcases Nat.eq_zero_or_pos n with h | h
    · subst h; simp [blen_zero]
    · rw [blen_pos h]; simp; omega
  | succ w ih =>
    intro n
    rcases Nat.eq_zero_or_pos n with h | h
    · subst h; rw [blen_zero]; exact ⟨fun _ => Nat.pow_pos (by omega), fun _ => by omega⟩
    · rw [blen_pos h, Nat.pow_succ]
      have := ih (n / 2)
      omega
theorem blen_max (a b : Nat) : blen (max a b) = max (blen a) (blen b) := by
  apply Nat.le_antisymm
  · rw [blen_le]
    have h1 := (blen_le (max (blen a) (blen b)) a).1 (by omega)
    have h2 := (blen_le (max (blen a) (blen b)) b).1 (by omega)
    omega
  · have h := (blen_le (blen (max a b)) (max a b)).1 (Nat.le_refl _)
    have h1 := (blen_le (blen (max a b)) a).2 (by omega)
    have h2 := (blen_le (blen (max a b)) b).2 (by omega)
    omega
/-- The greatest of the first k numbers. -/
def maxTo (xs : List Int) : Nat → Nat
  | 0 => 0
  | k + 1 => max (maxTo xs k) (nthI xs k).toNat
def numsOk (n : Nat) (xs : List Int) : Bool := allN n fun j => numOk (nthI xs j)
def packWidth (n : Nat) (xs : List Int) : Int := if numsOk n xs && decide (n ≤ 60) then (blen (maxTo xs n) : Int) else -1
theorem numOk_bd {x : Int} (h : numOk x = true) : 0 ≤ x ∧ x ≤ 999999999 := by
  simpa only [numOk, Bool.and_eq_true, decide_eq_true_eq] using h
theorem maxTo_le (xs : List Int) : ∀ k, allN k (fun j => numOk (nthI xs j)) = true → maxTo xs k ≤ 999999999 := by
  intro k
  induction k with
  | zero => intro _; show 0 ≤ _; omega
  | succ k ih =>
    intro h
    rw [allN_iff] at h
    have h1 := numOk_bd (h k (by omega))
    have h2 := ih (allN_iff.2 fun j hj => h j (by omega))
    show max _ _ ≤ _
    omega
theorem blen_num {n : Nat} (h : n ≤ 999999999) : blen n ≤ 30 := (blen_le 30 n).2 (Nat.lt_of_le_of_lt h (by decide))
set_option maxHeartbeats 1000000 in
theorem PackWidth_any {w : World} (a : Option Addr) (n cap : Nat) (xs : List Int) (hx : Ints w .i64 a n xs) (hn : n ≤ maxLen) :
    Calls Try.prog 25 #[.slice a n cap] w fun e w' => e = .returned (.int .i64 (packWidth n xs)) ∧ w = w' := by
  have HX := Lib.hid hx; clear hx
  unfold maxLen at hn
  by_cases h60 : n ≤ 60
  rotate_left
  · go_enter Try.func25, Try.ntmps25
    go_wp2_with fail
    go_ret
    exact ⟨ret_int (by simp [packWidth, h60]), rfl⟩
  · have h60' := Lib.hid h60
    go_enter Try.func25, Try.ntmps25
    go_wp2_with fail
    go_loop [3, 12] (fun m i => ∃ k : Nat, k ≤ n ∧ i = .int .i64 k ∧ m = .int .i64 (maxTo xs k : Int) ∧ allN k (fun j => numOk (nthI xs j)) = true) (fun _ i => n - (intOf i).toNat)
    case atStart => exact ⟨0, Nat.zero_le _, rfl, rfl, rfl⟩
    case round =>
      obtain ⟨k, hk, rfl, rfl, hall⟩ := hrel
      have HA := Lib.hid hall; clear hall
      by_cases hlt : k < n
      · obtain ⟨b, off, rfl, hc⟩ := HX.out.rd.pos hlt
        have hck := hc k hlt
        clear hc
        cases hq : numOk (nthI xs k)
        · have F := Lib.hid (allN_fail (p := fun j => numOk (nthI xs j)) hlt hq)
          go_wp2_with fail
          refine (within_num _ _).mono ?_
          rintro e w' ⟨rfl, rfl⟩
          go_wp2_with fail
          go_ret
          exact ⟨ret_int (by rw [packWidth, numsOk, F.out]; rfl), rfl⟩
        · have F := Lib.hid (allN_step (p := fun j => numOk (nthI xs j)) HA.out hq)
          obtain ⟨q0, q1⟩ := numOk_bd hq
          go_wp2_with fail
          refine (within_num _ _).mono ?_
          rintro e w' ⟨rfl, rfl⟩
          go_wp2_with fail
          all_goals
            go_round
            case rel => exact ⟨k + 1, by omega, by go_num, vint (by show _ = ((max _ _ : Nat) : Int); first | omega | (split <;> omega)), F.out⟩
            case measure => simp [intOf]; omega
      · obtain rfl : k = n := by omega
        have HR := Lib.hid (show packWidth k xs = blen (maxTo xs k) by rw [packWidth, numsOk, HA.out]; simp [h60'.out])
        have hmx := maxTo_le xs k HA.out
        go_wp2_with fail
        go_loop [3, 6] (fun m c => ∃ (x d : Nat), m = .int .i64 x ∧ c = .int .i64 d ∧ x ≤ 999999999 ∧ d ≤ 30 ∧ blen x + d = blen (maxTo xs k)) (fun m _ => (intOf m).toNat)
        case atStart => exact ⟨maxTo xs k, 0, rfl, rfl, hmx, by omega, rfl⟩
        case round =>
          obtain ⟨x, d, rfl, rfl, hx9, hd, hbl⟩ := hrel
          have HBL := Lib.hid hbl
          have hb30 := blen_num hmx
          by_cases hp : 0 < x
          · have E := blen_pos hp
            have HE := Lib.hid E
            have hd2 : d + 1 ≤ 30 := by omega
            clear hbl E hb30
            go_wp2_with fail
            go_round
            case rel => exact ⟨x / 2, d + 1, by go_num, by go_num, by omega, hd2, by have h1 := HE.out; have h2 := HBL.out; omega⟩
            case measure => simp [intOf]; omega
          · obtain rfl : x = 0 := by omega
            clear hbl hb30
            go_wp2_with fail
            go_ret
            exact ⟨ret_int (by rw [HR.out, ← HBL.out, blen_zero]; omega), rfl⟩
theorem shr_nat (x d : Nat) : (x : Int) / 2 ^ d = ((x / 2 ^ d : Nat) : Int) := by rw [Int.natCast_ediv, Int.natCast_pow]; rfl
set_option maxHeartbeats 1000000 in
theorem l3Width_any {w : World} (a : Option Addr) (n cap : Nat) (xs : List Int) (hx : Ints w .i64 a n xs) (hn : n ≤ maxLen) (hok : numsOk n xs = true) :
    Calls Try.prog 46 #[.slice a n cap] w fun e w' => e = .returned (.int .i64 (blen (maxTo xs n) : Int)) ∧ w = w' := by
  have HX := Lib.hid hx; clear hx
  have HK := Lib.hid hok; clear hok
  unfold maxLen at hn
  go_enter Try.func46, Try.ntmps46
  go_wp2_with fail
  go_loop [3, 4] (fun m i => ∃ k : Nat, k ≤ n ∧ i = .int .i64 k ∧ m = .int .i64 (blen (maxTo xs k) : Int)) (fun _ i => n - (intOf i).toNat)
  case atStart => exact ⟨0, Nat.zero_le _, rfl, vint (by show _ = ((blen 0 : Nat) : Int); rw [blen_zero]; rfl)⟩
  case round =>
    obtain ⟨k, hk, rfl, rfl⟩ := hrel
    by_cases hlt : k < n
    · obtain ⟨b, off, rfl, hc⟩ := HX.out.rd.pos hlt
      have hck := hc k hlt
      clear hc
      have hq := numOk_bd (allN_iff.1 HK.out k hlt)
      obtain ⟨x, hxe⟩ := Int.eq_ofNat_of_zero_le hq.1
      rw [hxe] at hck
      have hx9 : x ≤ 999999999 := by omega
      have hm9 : maxTo xs k ≤ 999999999 := maxTo_le xs k (allN_iff.2 fun j hj => allN_iff.1 HK.out j (by omega))
      obtain ⟨w0, hw0⟩ : ∃ w0, w0 = blen (maxTo xs k) := ⟨_, rfl⟩
      have hw30 : w0 ≤ 30 := by rw [hw0]; exact blen_num hm9
      have hbx : blen x ≤ 30 := blen_num hx9
      have EM := Lib.hid (show blen (maxTo xs (k + 1)) = max w0 (blen x) by
        show blen (max _ _) = _
        rw [blen_max, ← hw0, hxe, Int.toNat_natCast])
      rw [← hw0]
      have HXE := Lib.hid hxe; clear hxe
      have HW0 := Lib.hid hw0; clear hw0
      obtain ⟨bx, hbe⟩ : ∃ bx, bx = blen x := ⟨_, rfl⟩
      rw [← hbe] at hbx
      have HBE := Lib.hid hbe; clear hbe
      clear hq hm9
      go_wp2_with fail
      go_loop [3] (fun m => ∃ d : Nat, m = .int .i64 d ∧ d ≤ 30 ∧ w0 ≤ d ∧ (d ≤ w0 ∨ d ≤ bx)) (fun m => 30 - (intOf m).toNat)
      case atStart => exact ⟨w0, rfl, hw30, Nat.le_refl _, .inl (Nat.le_refl _)⟩
      case round =>
        obtain ⟨d, rfl, hd30, hd1, hd2⟩ := hrel
        have HD2 := Lib.hid hd2; clear hd2
        by_cases hp : x < 2 ^ d
        · have t1 : (x : Int) / 2 ^ d ≤ 0 := by rw [shr_nat, Nat.div_eq_of_lt hp]; exact Int.le_refl _
          have EK := Lib.hid (show max w0 bx = d by
            have h1 := (blen_le d x).2 hp
            rw [← HBE.out] at h1
            have h2 := HD2.out
            omega)
          clear hp
          go_wp2_with fail
          go_round
          case rel => exact ⟨k + 1, by omega, by go_num, vint (by rw [EM.out, ← HBE.out, EK.out])⟩
          case measure => simp [intOf]; omega
        · have t1 : 0 < (x : Int) / 2 ^ d := by rw [shr_nat]; have := Nat.div_pos (Nat.le_of_not_lt hp) (Nat.pow_pos (n := d) (show 0 < 2 by omega)); omega
          have hdb : d < bx := by
            have h1 := (blen_le d x)
            rw [HBE.out]
            rcases Nat.lt_or_ge d (blen x) with h | h
            · exact h
            · exact absurd (h1.1 h) hp
          clear hp
          go_wp2_with fail
          go_round
          case rel => exact ⟨d + 1, by go_num, by omega, by omega, .inr (by omega)⟩
          case measure => simp [intOf]; omega
    · obtain rfl : k = n := by omega
      go_wp2_with fail
      go_ret
      exact ⟨rfl, rfl⟩
set_option maxHeartbeats 1000000 in
theorem sPackWidth_any {w : World} (a : Option Addr) (n cap : Nat) (xs : List Int) (hx : Ints w .i64 a n xs) (hn : n ≤ maxLen) :
    Calls Try.prog 27 #[.slice a n cap] w fun e w' => e = .returned (.int .i64 (packWidth n xs)) ∧ w = w' := by
  have HX := Lib.hid hx; clear hx
  have HN := Lib.hid hn
  unfold maxLen at hn
  go_enter Try.func27, Try.ntmps27
  go_wp2_with fail
  go_loop [3] (fun i => ∃ k : Nat, k ≤ n ∧ i = .int .i64 k ∧ allN k (fun j => numOk (nthI xs j)) = true) (fun i => n - (intOf i).toNat)
  case atStart => exact ⟨0, Nat.zero_le _, rfl, rfl⟩
  case round =>
    obtain ⟨k, hk, rfl, hall⟩ := hrel
    have HA := Lib.hid hall; clear hall
    by_cases hlt : k < n
    · obtain ⟨b, off, rfl, hc⟩ := HX.out.rd.pos hlt
      have hck := hc k hlt
      clear hc
      cases hq : numOk (nthI xs k)
      · have F := Lib.hid (allN_fail (p := fun j => numOk (nthI xs j)) hlt hq)
        go_wp2_with fail
        refine (l1In_num _ _).mono ?_
        rintro e w' ⟨rfl, rfl⟩
        go_wp2_with fail
        go_ret
        exact ⟨ret_int (by rw [packWidth, numsOk, F.out]; rfl), rfl⟩
      · have F := Lib.hid (allN_step (p := fun j => numOk (nthI xs j)) HA.out hq)
        go_wp2_with fail
        refine (l1In_num _ _).mono ?_
        rintro e w' ⟨rfl, rfl⟩
        go_wp2_with fail
        go_round
        case rel => exact ⟨k + 1, by omega, by go_num, F.out⟩
        case measure => simp [intOf]; omega
    · obtain rfl : k = n := by omega
      by_cases h60 : k ≤ 60
      · have HR := Lib.hid (show packWidth k xs = blen (maxTo xs k) by rw [packWidth, numsOk, HA.out]; simp [h60])
        go_wp2_with fail
        refine (l3Width_any _ _ _ _ HX.out HN.out HA.out).mono ?_
        rintro e w' ⟨rfl, rfl⟩
        go_wp2_with fail
        go_ret
        exact ⟨ret_int HR.out.symm, rfl⟩
      · have HR := Lib.hid (show packWidth k xs = -1 by simp [packWidth, h60])
        go_wp2_with fail
        go_ret
        exact ⟨ret_int HR.out.symm, rfl⟩
end Go.Proofs.Ytcniiinapnkbfaa
