/- Numbers in figures, as the reference writes them. Condition: a number that is none below nought. -/
import Derived.Test.YtlbopihffpodkaaDoorMark
import Derived.Deep.RegionWith
import Derived.Deep.RegionHeld3
import Derived.Lib.ItoaNum
import Derived.IntWalk
namespace Go.Proofs.YtlbopihffpodkaaDoor
set_option maxRecDepth 100000
open Go.RowKit
def decS (n : Nat) : ByteArray := ⟨(Lib.decDigits n).toArray⟩
theorem decS_small {n : Nat} (h : n < 10) : decS n = one8 (48 + n) := by
  unfold decS one8; rw [Lib.decDigits, dif_pos h]
theorem decS_big {n : Nat} (h : ¬ n < 10) : decS n = decS (n / 10) ++ one8 (48 + n % 10) := by
  apply ByteArray.ext
  show (Lib.decDigits n).toArray = _
  rw [Lib.decDigits, dif_neg h, ByteArray.data_append]
  simp [decS, one8]
theorem u8_in {x : Int} (h0 : 0 ≤ x) (h1 : x ≤ 255) : IntKind.u8.wrap x = x := by
  show x % 256 = x
  omega
theorem decS_len : ∀ n, (decS n).size ≤ n + 1 := by
  intro n
  induction n using Nat.strongRecOn with
  | ind n ih =>
    by_cases h : n < 10
    · rw [decS_small h, one8_size]; omega
    · rw [decS_big h, ByteArray.size_append, one8_size]
      have := ih (n / 10) (by omega)
      omega
set_option maxHeartbeats 500000 in
theorem l1Dec_any : ∀ (n : Nat) (w : World), n ≤ 1000000000000000000 →
    Calls Tryd.prog 52 #[.int .i64 (n : Int)] w fun e w' => e = .returned (.string (decS n)) ∧ Below w.heap.size w w' := by
  intro n
  induction n using Nat.strongRecOn with
  | ind n ih =>
    intro w hn
    by_cases h : n < 10
    · have E := Lib.hid (decS_small h)
      have hc := cv_one (w := w.alloc (.cells #[.int .u8 (48 + (n : Int))] 5)) (48 + (n : Int)) w.heap.size (World.cell?_alloc_at _ _ _ _ rfl)
      have HB := Lib.hid ((Below.refl w.heap.size w).alloc (Nat.le_refl _) (.cells #[.int .u8 (48 + (n : Int))] 5))
      have g1 : ¬ ((n : Int) < -9223372036854775807) := by omega
      have g2 : ¬ ((n : Int) < 0) := by omega
      have g3 : (n : Int) < 10 := by omega
      go_enter Tryd.func52, Tryd.ntmps52
      go_wp2_with fail
      go_ret
      exact ⟨ret_str (by rw [E.out] <;> rfl), HB.out⟩
    · obtain ⟨r, hr⟩ : ∃ r, r = n % 10 := ⟨_, rfl⟩
      have r10 : r < 10 := by omega
      have E := Lib.hid (decS_big h)
      rw [← hr] at E
      have ht : (n : Int).tmod 10 = (r : Int) := by rw [Int.tmod_eq_emod_of_nonneg (by omega)]; omega
      have w2 : IntKind.i64.wrap (48 + (r : Int)) = 48 + (r : Int) := IntWalk.i64_in _ (by omega)
      have w3 : IntKind.u8.wrap (48 + (r : Int)) = 48 + (r : Int) := u8_in (by omega) (by omega)
      clear hr
      have IH : Hid (∀ w, Calls Tryd.prog 52 #[.int .i64 ((n : Int) / 10)] w fun e w' => e = .returned (.string (decS (n / 10))) ∧ Below w.heap.size w w') := fun w => by
        have := ih (n / 10) (by omega) w (by omega)
        rwa [show ((n / 10 : Nat) : Int) = (n : Int) / 10 by omega] at this
      have L := Lib.hid (decS_len (n / 10))
      have g1 : ¬ ((n : Int) < -9223372036854775807) := by omega
      have g2 : ¬ ((n : Int) < 0) := by omega
      have g3 : ¬ ((n : Int) < 10) := by omega
      have HBa := Lib.hid (Below.drew ((Below.refl w.heap.size w).alloc (Nat.le_refl _) (.cells #[.int .u8 (48 + (r : Int))] 5)))
      have hcA := cv_one (w := (w.alloc (.cells #[.int .u8 (48 + (r : Int))] 5)).drew) (48 + (r : Int)) w.heap.size (World.cell?_alloc_at _ _ _ _ rfl)
      have z0 : (decS (n / 10)).size + (one8 (48 + (r : Int)).toNat).size ≤ 9223372036854775807 := by have := L.out; rw [one8_size]; omega
      have hw : IntKind.i64.wrap ((n : Int) / 10) = (n : Int) / 10 := IntWalk.i64_in _ (by omega)
      clear ih h
      go_enter Tryd.func52, Tryd.ntmps52
      go_wp2_with fail
      go_region_with
          (first | (go_at_call 52; refine (IH.out _).mono ?_; rintro e w1 ⟨rfl, hb⟩; have hcB := cv_one (w := w1.alloc (.cells #[.int .u8 (48 + (r : Int))] 5)) (48 + (r : Int)) w1.heap.size (World.cell?_alloc_at _ _ _ _ rfl); have BB : Hid (Below w.heap.size w w1) := (by first | exact (Below.drew (Below.refl _ w)).trans hb | exact HBa.out.trans (hb.mono HBa.out.size)); (first | (have hcC := cv_one (w := w1) (48 + (r : Int)) w.heap.size ((hb.cell (p := ⟨w.heap.size, 0, none⟩) (by show w.heap.size < _; simp)).trans (World.cell?_alloc_at _ _ _ _ rfl))) | skip); clear hb))
      all_goals
        (go_wp2_with fail; go_ret; exact ⟨ret_str (by rw [E.out] <;> rfl), by first | exact BB.out | exact BB.out.alloc BB.out.size _⟩)
end Go.Proofs.YtlbopihffpodkaaDoor
