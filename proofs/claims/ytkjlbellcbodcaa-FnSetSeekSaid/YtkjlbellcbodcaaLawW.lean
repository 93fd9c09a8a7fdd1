/- The laws on widths and on where a number is sought. Conditions: what is read fits the model's sizes. -/
import Derived.Test.YtkjlbellcbodcaaDrawN
import Derived.Test.YtkjlbellcbodcaaPackLaw
namespace Go.Proofs.Ytkjlbellcbodcaa
open Go.RowKit

/-- Some of the first k numbers reaches the highest bit. -/
def wideTo (W : Nat) (xs : List Int) (k : Nat) : Bool := decide (W = 0) || (List.range k).any fun j => decide (2 ^ (W - 1) ≤ (nthI xs j).toNat)
theorem wideTo_succ (W : Nat) (xs : List Int) (k : Nat) : wideTo W xs (k + 1) = (wideTo W xs k || decide (2 ^ (W - 1) ≤ (nthI xs k).toNat)) := by
  simp [wideTo, List.range_succ, Bool.or_assoc]
theorem wideTo_all {n W : Nat} {xs : List Int} (hW : packWidth n xs = W) : wideTo W xs n = true := by
  rcases Nat.eq_zero_or_pos W with h | h
  · simp [wideTo, h]
  · obtain ⟨k, hk, h1⟩ := width_least hW h
    simp only [wideTo, Bool.or_eq_true, List.any_eq_true, List.mem_range, decide_eq_true_eq]
    exact .inr ⟨k, hk, h1⟩
set_option maxHeartbeats 1000000 in
theorem FnPackWidth_any {w : World} (a : Option Addr) (n cap : Nat) (xs : List Int) (hx : Byts w a n cap xs) (hn : n ≤ maxLen) :
    Calls Try.prog 13 #[.slice a n cap] w fun e w' => e = .returned (.bool true) ∧ Below w.heap.size w w' := by
  have HX := Lib.hid hx; clear hx
  unfold maxLen at hn
  by_cases hlt : (1048576 : Int) < (n : Int)
  · go_enter Try.func13, Try.ntmps13
    go_wp2_with fail
    go_ret
    exact ⟨rfl, Below.refl _ _⟩
  go_enter Try.func13, Try.ntmps13
  go_wp2_with fail
  refine (DrawPackWidth_any _ _ _ _ HX.out (by omega)).mono ?_
  rintro e w1 ⟨a1, n1, c1, ys, rfl, hn1, hall, ho, hb⟩
  clear hall
  have HO := Lib.hid ho; clear ho
  have HB := Lib.hid hb; clear hb
  have hm : n1 ≤ maxLen := by unfold maxLen; omega
  have HM := Lib.hid hm; clear hm
  go_wp2_with fail
  refine (PackWidth_any _ _ _ _ HO.out.ints HM.out).mono ?_
  rintro e w' ⟨rfl, rfl⟩
  obtain ⟨W, hW⟩ : ∃ W, W = packWidth n1 ys := ⟨_, rfl⟩
  rw [← hW]
  have SW := Lib.hid (fun w h => by have := sPackWidth_any (w := w) a1 n1 c1 ys h HM.out; rwa [← hW] at this)
  by_cases hneg : W < 0
  · have HWW := Lib.hid hW; clear hW
    go_wp2_with fail
    refine (SW.out _ HO.out.ints).mono ?_
    rintro e w' ⟨rfl, rfl⟩
    go_wp2_with fail
    refine (SW.out _ HO.out.ints).mono ?_
    rintro e w' ⟨rfl, rfl⟩
    go_wp2_with fail
    go_ret
    exact ⟨rfl, HB.out⟩
  · obtain ⟨V, rfl⟩ : ∃ V : Nat, W = V := ⟨W.toNat, by omega⟩
    obtain ⟨W', hW', h60, hnum, h30, _, _⟩ := packPut_parts (n := n1) (xs := ys) (by rw [← hW]; exact hneg)
    have hV30 : V ≤ 30 := by omega
    have RM := Lib.hid (fun k hk => width_room (k := k) hW.symm hk)
    have WA := Lib.hid (wideTo_all hW.symm)
    have NN := Lib.hid hnum
    clear hW hW' hnum hneg
    go_wp2_with fail
    refine (SW.out _ HO.out.ints).mono ?_
    rintro e w' ⟨rfl, rfl⟩
    have hV31 : (V : Int) ≤ 30 := by omega
    by_cases hV0 : V = 0
    · have bV : ((V : Int) == 0) = true := beq_t (by omega)
      have HV0 := Lib.hid hV0; clear hV0
      go_wp2_with fail
      go_loop [5, 6] (fun b i => ∃ k : Nat, k ≤ n1 ∧ i = .int .i64 k ∧ b = .bool true) (fun _ i => n1 - (intOf i).toNat)
      case atStart => exact ⟨0, Nat.zero_le _, rfl, rfl⟩
      case round =>
        obtain ⟨k, hk, rfl, rfl⟩ := hrel
        by_cases hlk : k < n1
        · obtain ⟨x, hxk, hx9⟩ := nums_nat NN.out hlk
          obtain ⟨b, off, rfl, hc⟩ := HO.out.ints.rd.pos hlk
          have hck := hc k hlk
          have hr := RM.out k hlk
          rw [hxk] at hck hr
          rw [Int.toNat_natCast] at hr
          have t1 : ((x : Int) / 2 ^ V != 0) = false := bne_f (by rw [shr_nat, Nat.div_eq_of_lt hr]; rfl)
          clear hc hxk hr
          go_wp2_with fail
          go_round
          case rel => exact ⟨k + 1, by omega, by go_num, rfl⟩
          case measure => simp [intOf]; omega
        · go_wp2_with fail
          go_ret
          exact ⟨rfl, HB.out⟩
    · have bV : ((V : Int) == 0) = false := beq_f (by omega)
      have hV1 : ((V : Int) - 1).toNat = V - 1 := by omega
      have hV2 : (0 : Int) ≤ (V : Int) - 1 := by omega
      have hV3 : (1 : Int) ≤ (V : Int) := by omega
      have W0 := Lib.hid (show wideTo V ys 0 = false by simp [wideTo, hV0])
      clear hV0
      go_wp2_with fail
      go_loop [5, 6] (fun b i => ∃ (k : Nat) (c : Bool), k ≤ n1 ∧ i = .int .i64 k ∧ b = .bool c ∧ wideTo V ys k = c) (fun _ i => n1 - (intOf i).toNat)
      case atStart => exact ⟨0, false, Nat.zero_le _, rfl, rfl, W0.out⟩
      case round =>
        obtain ⟨k, c, hk, rfl, rfl, hw⟩ := hrel
        have HW := Lib.hid hw; clear hw
        by_cases hlk : k < n1
        · obtain ⟨x, hxk, hx9⟩ := nums_nat NN.out hlk
          obtain ⟨b, off, rfl, hc⟩ := HO.out.ints.rd.pos hlk
          have hck := hc k hlk
          have hr := RM.out k hlk
          have WS := Lib.hid (wideTo_succ V ys k)
          rw [hxk, Int.toNat_natCast] at WS
          rw [hxk] at hck hr
          rw [Int.toNat_natCast] at hr
          have t1 : ((x : Int) / 2 ^ V != 0) = false := bne_f (by rw [shr_nat, Nat.div_eq_of_lt hr]; rfl)
          clear hc hxk hr
          cases c
          · by_cases h2 : 2 ^ (V - 1) ≤ x
            · have t2 : ((x : Int) / 2 ^ (V - 1) != 0) = true := bne_t (by rw [shr_nat]; have := Nat.div_pos h2 (Nat.pow_pos (n := V - 1) (show 0 < 2 by omega)); omega)
              have F := Lib.hid (show wideTo V ys (k + 1) = true by rw [WS.out, decide_eq_true h2, Bool.or_true])
              clear h2
              go_wp2_with fail
              go_round
              case rel => exact ⟨k + 1, true, by omega, by go_num, rfl, F.out⟩
              case measure => simp [intOf]; omega
            · have t2 : ((x : Int) / 2 ^ (V - 1) != 0) = false := bne_f (by rw [shr_nat, Nat.div_eq_of_lt (by omega)]; rfl)
              have F := Lib.hid (show wideTo V ys (k + 1) = false by rw [WS.out, decide_eq_false h2, HW.out]; rfl)
              clear h2
              go_wp2_with fail
              go_round
              case rel => exact ⟨k + 1, false, by omega, by go_num, rfl, F.out⟩
              case measure => simp [intOf]; omega
          · have F := Lib.hid (show wideTo V ys (k + 1) = true by rw [WS.out, HW.out]; rfl)
            go_wp2_with fail
            go_round
            case rel => exact ⟨k + 1, true, by omega, by go_num, rfl, F.out⟩
            case measure => simp [intOf]; omega
        · obtain rfl : k = n1 := by omega
          obtain rfl : c = true := by rw [← HW.out, WA.out]
          go_wp2_with fail
          go_ret
          exact ⟨rfl, HB.out⟩
theorem cntLt_all {xs : List Int} {v : Int} : ∀ m, (∀ j, j < m → nthI xs j < v) → cntLt xs v m = m := by
  intro m
  induction m with
  | zero => intro _; rfl
  | succ m ih => intro h; rw [cntLt_yes (h m (by omega)), ih fun j hj => h j (by omega)]
theorem cntLt_mono (xs : List Int) (v : Int) : ∀ {m n : Nat}, m ≤ n → cntLt xs v m ≤ cntLt xs v n := by
  intro m n h
  induction h with
  | refl => exact Nat.le_refl _
  | step _ ih => exact Nat.le_trans ih (by rw [cntLt]; omega)
theorem seek_iff {n : Nat} {xs : List Int} {v K : Int} (hK : K = setSeek n xs v) (h0 : ¬ K < 0) : K ≤ n ∧ ∀ k, k < n → (nthI xs k < v → (k : Int) < K) ∧ (¬ nthI xs k < v → ¬ (k : Int) < K) := by
  unfold setSeek at hK
  split at hK
  · rename_i hu
    have hup : upAsc n xs = true := by simp only [upOk, Bool.and_eq_true] at hu; exact hu.1
    have hle := cntLt_le xs v n
    refine ⟨by omega, fun k hk => ⟨fun h => ?_, fun h => ?_⟩⟩
    · have h1 := cntLt_all (xs := xs) (v := v) (k + 1) fun j hj => by
        rcases Nat.lt_or_ge j k with h2 | h2
        · have := up_lt hup h2 hk; omega
        · obtain rfl : j = k := by omega
          exact h
      have h2 := cntLt_mono xs v (show k + 1 ≤ n by omega)
      omega
    · have h1 := cnt_stop hup h n (by omega) (Nat.le_refl _)
      have h2 := cntLt_le xs v k
      omega
  · omega
set_option maxHeartbeats 1000000 in
theorem FnSetSeek_any {w : World} (a : Option Addr) (n cap : Nat) (xs : List Int) (hx : Byts w a n cap xs) (hn : n ≤ maxLen) :
    Calls Try.prog 14 #[.slice a n cap] w fun e w' => e = .returned (.bool true) ∧ Below w.heap.size w w' := by
  have HX := Lib.hid hx; clear hx
  unfold maxLen at hn
  by_cases hlt : (1048576 : Int) < (n : Int)
  · go_enter Try.func14, Try.ntmps14
    go_wp2_with fail
    go_ret
    exact ⟨rfl, Below.refl _ _⟩
  go_enter Try.func14, Try.ntmps14
  go_wp2_with fail
  refine (DrawSetSeek_any _ _ _ _ HX.out (by omega)).mono ?_
  rintro e w1 ⟨a1, n1, c1, ys, v, rfl, hn1, hv0, hv1, ho, hb⟩
  have HO := Lib.hid ho; clear ho
  have HB := Lib.hid hb; clear hb
  have hm : n1 ≤ maxLen := by unfold maxLen; omega
  have HM := Lib.hid hm; clear hm
  obtain ⟨K, hK⟩ : ∃ K, K = setSeek n1 ys v := ⟨_, rfl⟩
  have S1 := Lib.hid (fun w h => by have := SetSeek_any (w := w) a1 n1 c1 ys v h HM.out; rwa [← hK] at this)
  have S2 := Lib.hid (fun w h => by have := sSetSeek_any (w := w) a1 n1 c1 ys v h HM.out; rwa [← hK] at this)
  have HK := Lib.hid hK; clear hK
  go_wp2_with fail
  refine (S1.out _ HO.out.ints).mono ?_
  rintro e w' ⟨rfl, rfl⟩
  go_wp2_with fail
  refine (S2.out _ HO.out.ints).mono ?_
  rintro e w' ⟨rfl, q, rfl⟩
  by_cases hneg : K < 0
  · go_wp2_with fail
    refine (S2.out _ (HO.out.ints.drewN _)).mono ?_
    rintro e w' ⟨rfl, q2, rfl⟩
    go_wp2_with fail
    go_ret
    exact ⟨rfl, below_drewN HB.out _⟩
  · have SI := Lib.hid (seek_iff HK.out hneg)
    have hkn := SI.out.1
    go_wp2_with fail
    go_loop [6] (fun i => ∃ k : Nat, k ≤ n1 ∧ i = .int .i64 k) (fun i => n1 - (intOf i).toNat)
    case atStart => exact ⟨0, Nat.zero_le _, rfl⟩
    case round =>
      obtain ⟨k, hk, rfl⟩ := hrel
      by_cases hlk : k < n1
      · obtain ⟨b, off, rfl, hc⟩ := HO.out.ints.rd.pos hlk
        have hck := hc k hlk
        have hs := SI.out.2 k hlk
        clear hc
        by_cases hv : nthI ys k < v
        · have hkK := hs.1 hv
          clear hs
          go_wp2_with fail
          go_round
          case rel => exact ⟨k + 1, by omega, by go_num⟩
          case measure => simp [intOf]; omega
        · have hkK : K ≤ (k : Int) := hs.2 (by omega)
          clear hs
          go_wp2_with fail
          go_round
          case rel => exact ⟨k + 1, by omega, by go_num⟩
          case measure => simp [intOf]; omega
      · go_wp2_with fail
        go_ret
        exact ⟨rfl, below_drewN HB.out _⟩
end Go.Proofs.Ytkjlbellcbodcaa
