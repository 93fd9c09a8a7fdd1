/- The walks of what tells whether numbers ascend. Conditions: what is read fits the model's sizes. -/
import Derived.Test.YtoljjhhomklcbaaInts
import Derived.Test.YtoljjhhomklcbaaVar
namespace Go.Proofs.Ytoljjhhomklcbaa
open Go.RowKit

def upAt (xs : List Int) (j : Nat) : Bool := numOk (nthI xs j) && (decide (j = 0) || decide (nthI xs (j - 1) < nthI xs j))
/-- The first n numbers ascend, none below 0 or too great. -/
def upAsc (n : Nat) (xs : List Int) : Bool := allN n (upAt xs)
def upOk (n : Nat) (xs : List Int) : Bool := upAsc n xs && decide (n ≤ 60)
theorem within_num (x : Int) (w : World) : Calls Try.prog 48 #[.int .i64 x, .int .i64 0, .int .i64 999999999] w fun e w' => e = .returned (.bool (numOk x)) ∧ w = w' :=
  (within_any x 0 999999999 w).mono fun _ _ h => ⟨by rw [h.1, Bool.decide_and]; rfl, h.2⟩
theorem l1In_num (x : Int) (w : World) : Calls Try.prog 60 #[.int .i64 x, .int .i64 0, .int .i64 999999999] w fun e w' => e = .returned (.bool (numOk x)) ∧ w = w' :=
  (l1In_any x 0 999999999 w).mono fun _ _ h => ⟨by rw [h.1, Bool.decide_and]; rfl, h.2⟩
theorem UpOk_any {w : World} (a : Option Addr) (n cap : Nat) (xs : List Int) (hx : Ints w .i64 a n xs) (hn : n ≤ maxLen) :
    Calls Try.prog 20 #[.slice a n cap] w fun e w' => e = .returned (.bool (upOk n xs)) ∧ w = w' := by
  have HX := Lib.hid hx; clear hx
  unfold maxLen at hn
  go_enter Try.func20, Try.ntmps20
  go_wp2_with fail
  go_loop [7] (fun i => ∃ k : Nat, k ≤ n ∧ i = .int .i64 k ∧ allN k (upAt xs) = true) (fun i => n - (intOf i).toNat)
  case atStart => exact ⟨0, Nat.zero_le _, rfl, rfl⟩
  case round =>
    obtain ⟨k, hk, rfl, hall⟩ := hrel
    have HA := Lib.hid hall; clear hall
    by_cases hlt : k < n
    · obtain ⟨b, off, rfl, hc⟩ := HX.out.rd.pos hlt
      have hck := hc k hlt
      have hcp : 0 < k → w.cell? ⟨b, off + (k - 1), none⟩ = some (.int .i64 (nthI xs (k - 1))) := fun _ => hc (k - 1) (by omega)
      have next : upAt xs k = true → Hid (allN (k + 1) (upAt xs) = true) := fun h => allN_step HA.out h
      have stop : upAt xs k = false → Hid (upOk n xs = false) := fun h => by show upOk n xs = false; rw [upOk, upAsc, allN_fail hlt h]; rfl
      clear hc
      cases hf : numOk (nthI xs k)
      · have N := stop (by simp [upAt, hf]); clear next stop hcp
        go_wp2_with (go_at_call 48; refine (within_num _ _).mono ?_; rintro e w' ⟨rfl, rfl⟩)
        go_ret
        exact ⟨ret_bool N.out.symm, rfl⟩
      · by_cases h0 : k = 0
        · subst h0
          rw [Nat.add_zero] at hck
          have N := next (by simp [upAt, hf]); clear next stop hcp
          go_wp2_with (go_at_call 48; refine (within_num _ _).mono ?_; rintro e w' ⟨rfl, rfl⟩)
          go_round
          case rel => exact ⟨1, by omega, by go_num, N.out⟩
          case measure => simp [intOf]; omega
        · have h0' : 0 < k := by omega
          have hc1 := hcp h0'
          clear hcp h0
          by_cases hl : nthI xs (k - 1) < nthI xs k
          rotate_left
          · have N := stop (by simp [upAt, hf]; omega); clear next stop
            go_wp2_with (go_at_call 48; refine (within_num _ _).mono ?_; rintro e w' ⟨rfl, rfl⟩)
            go_ret
            exact ⟨ret_bool N.out.symm, rfl⟩
          · have N := next (by simp [upAt, hf, hl]); clear next stop
            go_wp2_with (go_at_call 48; refine (within_num _ _).mono ?_; rintro e w' ⟨rfl, rfl⟩)
            go_round
            case rel => exact ⟨k + 1, by omega, by go_num, N.out⟩
            case measure => simp [intOf]; omega
    · obtain rfl : k = n := by omega
      go_wp2_with fail
      go_ret
      exact ⟨ret_bool (by rw [upOk, upAsc, HA.out, Bool.true_and]; exact decide_eq_decide.2 (by omega)), rfl⟩
theorem l3Up_any {w : World} (a : Option Addr) (n cap : Nat) (xs : List Int) (hx : Ints w .i64 a n xs) (hn : n ≤ maxLen) :
    Calls Try.prog 50 #[.slice a n cap] w fun e w' => e = .returned (.bool (upOk n xs)) ∧ Drw w w' := by
  have HX := Lib.hid hx; clear hx
  unfold maxLen at hn
  go_enter Try.func50, Try.ntmps50
  go_wp2_with fail
  go_loopw [3] (fun i wr => ∃ k : Nat, k ≤ n ∧ i = .int .i64 k ∧ allN k (upAt xs) = true ∧ Drw w wr) (fun i _ => n - (intOf i).toNat)
  case atStart => exact ⟨0, Nat.zero_le _, rfl, rfl, Drw.refl _⟩
  case round =>
    obtain ⟨k, hk, rfl, hall, q, rfl⟩ := hrel
    have HA := Lib.hid hall; clear hall
    by_cases hlt : k < n
    · obtain ⟨b, off, rfl, hc⟩ := HX.out.rd.pos hlt
      have hck := hc k hlt
      have hcp : 0 < k → w.cell? ⟨b, off + (k - 1), none⟩ = some (.int .i64 (nthI xs (k - 1))) := fun _ => hc (k - 1) (by omega)
      have next : upAt xs k = true → Hid (allN (k + 1) (upAt xs) = true) := fun h => allN_step HA.out h
      have stop : upAt xs k = false → Hid (upOk n xs = false) := fun h => by show upOk n xs = false; rw [upOk, upAsc, allN_fail hlt h]; rfl
      clear hc
      cases hf : numOk (nthI xs k)
      · have N := stop (by simp [upAt, hf]); clear next stop hcp
        go_wp2_with fail
        go_quiet ((go_at_call 60; first | exact quiet_l (l1In_num _ _) | exact quiet_al (l1In_num _ _)))
        go_wp2_with fail
        go_ret
        exact ⟨ret_bool N.out.symm, (by first | exact Drw.refl _ | exact Drw.mk _ _ | exact (Drw.mk _ _).trans (Drw.mk _ _) | exact ((Drw.mk _ _).trans (Drw.mk _ _)).trans (Drw.mk _ _))⟩
      · by_cases h0 : k = 0
        · subst h0
          rw [Nat.add_zero] at hck
          have N := next (by simp [upAt, hf]); clear next stop hcp
          go_wp2_with fail
          go_quiet ((go_at_call 60; first | exact quiet_l (l1In_num _ _) | exact quiet_al (l1In_num _ _)))
          go_wp2_with fail
          go_roundw
          case rel => exact ⟨1, by omega, by go_num, N.out, (by first | exact Drw.refl _ | exact Drw.mk _ _ | exact (Drw.mk _ _).trans (Drw.mk _ _) | exact ((Drw.mk _ _).trans (Drw.mk _ _)).trans (Drw.mk _ _))⟩
          case measure => simp [intOf]; omega
        · have h0' : 0 < k := by omega
          have hc1 := hcp h0'
          have g1 : decide ((0 : Int) < (k : Int)) = true := by simp; omega
          have wk : IntKind.i64.wrap ((k : Int) - 1) = (k : Int) - 1 := IntWalk.i64_in _ (by omega)
          have wp : (0 : Int) ≤ (k : Int) - 1 := by omega
          have wq : ((k : Int) - 1).toNat = k - 1 := by omega
          have wr : (k : Int) - 1 < (n : Int) := by omega
          clear hcp h0
          by_cases hl : nthI xs (k - 1) < nthI xs k
          rotate_left
          · have N := stop (by simp [upAt, hf]; omega); clear next stop
            go_wp2_with fail
            go_quiet ((go_at_call 60; first | exact quiet_l (l1In_num _ _) | exact quiet_al (l1In_num _ _)))
            go_wp2_with fail
            go_ret
            exact ⟨ret_bool N.out.symm, (by first | exact Drw.refl _ | exact Drw.mk _ _ | exact (Drw.mk _ _).trans (Drw.mk _ _) | exact ((Drw.mk _ _).trans (Drw.mk _ _)).trans (Drw.mk _ _))⟩
          · have N := next (by simp [upAt, hf, hl]); clear next stop
            go_wp2_with fail
            go_quiet ((go_at_call 60; first | exact quiet_l (l1In_num _ _) | exact quiet_al (l1In_num _ _)))
            go_wp2_with fail
            go_roundw
            case rel => exact ⟨k + 1, by omega, by go_num, N.out, (by first | exact Drw.refl _ | exact Drw.mk _ _ | exact (Drw.mk _ _).trans (Drw.mk _ _) | exact ((Drw.mk _ _).trans (Drw.mk _ _)).trans (Drw.mk _ _))⟩
            case measure => simp [intOf]; omega
    · obtain rfl : k = n := by omega
      go_wp2_with fail
      go_ret
      exact ⟨ret_bool (by rw [upOk, upAsc, HA.out, Bool.true_and]; exact decide_eq_decide.2 (by omega)), (by first | exact Drw.refl _ | exact Drw.mk _ _ | exact (Drw.mk _ _).trans (Drw.mk _ _) | exact ((Drw.mk _ _).trans (Drw.mk _ _)).trans (Drw.mk _ _))⟩
end Go.Proofs.Ytoljjhhomklcbaa
