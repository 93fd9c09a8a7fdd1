/- The walks of what tells whether documents are so. Conditions: what is read fits the model's sizes. -/
import Derived.Test.YtlbopihffpodkaaDocL
import Derived.Test.YtlbopihffpodkaaQuiet
namespace Go.Proofs.Ytlbopihffpodkaa
open Go.RowKit Go.Sort
def dcAt (xs : List DocA) (j : Nat) : Bool := docOk (nthX xs j).id (nthX xs j).n (nthX xs j).fs (nthX xs j).m (nthX xs j).ns && (decide (j = 0) || decide ((nthX xs (j - 1)).id < (nthX xs j).id))
def docsOk (n : Nat) (xs : List DocA) : Bool := allN n (dcAt xs) && decide (n ≤ 16)
theorem docsOk_stop {n k : Nat} {xs : List DocA} (hk : k < n) (h : dcAt xs k = false) : docsOk n xs = false := by rw [docsOk, allN_fail hk h]; rfl
set_option maxHeartbeats 2000000 in
theorem DocsOk_any (a : Option Addr) (n c : Nat) (xs : List DocA) (w : World) (hx : Docs w a n xs) (hn : n ≤ maxLen) :
    Calls Try.prog 18 #[.slice a n c] w fun e w' => e = .returned (.bool (docsOk n xs)) ∧ Below w.heap.size w w' := by
  have HX := Lib.hid hx; clear hx
  unfold maxLen at hn
  have c2 : Try.prog.cellsOf 26 = 3 := by kernel_rfl
  go_enter Try.func18, Try.ntmps18
  go_wp2_with fail
  go_loopw [7] (fun i wr => ∃ k : Nat, k ≤ n ∧ i = .int .i64 k ∧ allN k (dcAt xs) = true ∧ Below w.heap.size w wr) (fun i _ => n - (intOf i).toNat)
  case atStart => exact ⟨0, Nat.zero_le _, rfl, rfl, Below.refl _ _⟩
  case round =>
    obtain ⟨k, hk, rfl, hall, hb⟩ := hrel
    have HA := Lib.hid hall; clear hall
    by_cases hlt : k < n
    · obtain ⟨g, off, rfl, hc⟩ := (HX.out.below hb).pos hlt
      obtain ⟨x0, x1, x2⟩ := hc k hlt
      have xp : 0 < k → wr.cell? ⟨g, off + (k - 1) * 3, none⟩ = some (.int .i64 (nthX xs (k - 1)).id) := fun _ => (hc (k - 1) (by omega)).1
      have E := (HX.out.each k hlt).below hb
      have next : dcAt xs k = true → Hid (allN (k + 1) (dcAt xs) = true) := fun h => allN_step HA.out h
      have stop : dcAt xs k = false → Hid (docsOk n xs = false) := fun h => docsOk_stop hlt h
      have HB := Lib.hid hb
      have l3 : g < wr.heap.size := World.block_lt_of_cell? wr _ x0
      clear hc hb
      unfold dcAt at next stop
      generalize nthX xs k = X at *
      obtain ⟨id, a1, n1, c1, fs, b1, m1, d1, ns⟩ := X
      dsimp only at x0 x1 x2 next stop
      have F1 := Lib.hid E.f
      have G1 := Lib.hid E.g
      have N1 := Lib.hid E.hn
      have M1 := Lib.hid E.hm
      dsimp only at F1 G1 N1 M1
      clear E
      cases hok : docOk id n1 fs m1 ns
      · have N := stop (by simp [hok]); clear next stop xp
        go_wp2_with fail
        have BD : Hid (Below wr.heap.size wr (wr.alloc (.cells #[.int .i64 id, .slice a1 n1 c1, .slice b1 m1 d1] 26))) := (Below.refl _ _).alloc (Nat.le_refl _) _
        have z0 : (wr.alloc (.cells #[.int .i64 id, .slice a1 n1 c1, .slice b1 m1 d1] 26)).cell? ⟨wr.heap.size, 0, none⟩ = some (.int .i64 id) := World.cell?_alloc_at _ _ _ _ rfl
        have z1 : (wr.alloc (.cells #[.int .i64 id, .slice a1 n1 c1, .slice b1 m1 d1] 26)).cell? ⟨wr.heap.size, 1, none⟩ = some (.slice a1 n1 c1) := World.cell?_alloc_at _ _ _ _ rfl
        have z2 : (wr.alloc (.cells #[.int .i64 id, .slice a1 n1 c1, .slice b1 m1 d1] 26)).cell? ⟨wr.heap.size, 2, none⟩ = some (.slice b1 m1 d1) := World.cell?_alloc_at _ _ _ _ rfl
        generalize wr.alloc (.cells #[.int .i64 id, .slice a1 n1 c1, .slice b1 m1 d1] 26) = Wd at *
        have F2 := Lib.hid (F1.out.below BD.out)
        have G2 := Lib.hid (G1.out.below BD.out)
        have q0 := cell_regrown z0
        have q1 := cell_regrown z1
        have q2 := cell_regrown z2
        refine wp_region_quiet_below (by kernel_rfl) (by kernel_rfl) ?_
        repeat (go_big_quiet_step ((go_at_call 13; exact quiet_b fun w1 hb => DocOk_any _ _ _ _ _ _ _ _ _ _ (F2.out.below hb) (G2.out.below hb) N1.out M1.out)))
        refine wpQuiet_nil ?_
        intro wq hqq
        have BQ := Lib.hid (quiet_out hqq)
        clear hqq
        clear q0 q1 q2 z0 z1 z2
        have BE := Lib.hid (HB.out.trans ((BD.out.trans (BQ.out.mono BD.out.size)).mono HB.out.size))
        go_wp2_with fail
        go_ret
        exact ⟨ret_bool N.out.symm, BE.out⟩
      · by_cases h0 : k = 0
        · subst h0
          rw [Nat.zero_mul, Nat.add_zero] at x0 x1 x2
          have N := next (by simp [hok]); clear next stop xp
          have g1 : decide ((0 : Int) < ((0 : Nat) : Int)) = false := rfl
          go_wp2_with fail
          have BD : Hid (Below wr.heap.size wr (wr.alloc (.cells #[.int .i64 id, .slice a1 n1 c1, .slice b1 m1 d1] 26))) := (Below.refl _ _).alloc (Nat.le_refl _) _
          have z0 : (wr.alloc (.cells #[.int .i64 id, .slice a1 n1 c1, .slice b1 m1 d1] 26)).cell? ⟨wr.heap.size, 0, none⟩ = some (.int .i64 id) := World.cell?_alloc_at _ _ _ _ rfl
          have z1 : (wr.alloc (.cells #[.int .i64 id, .slice a1 n1 c1, .slice b1 m1 d1] 26)).cell? ⟨wr.heap.size, 1, none⟩ = some (.slice a1 n1 c1) := World.cell?_alloc_at _ _ _ _ rfl
          have z2 : (wr.alloc (.cells #[.int .i64 id, .slice a1 n1 c1, .slice b1 m1 d1] 26)).cell? ⟨wr.heap.size, 2, none⟩ = some (.slice b1 m1 d1) := World.cell?_alloc_at _ _ _ _ rfl
          generalize wr.alloc (.cells #[.int .i64 id, .slice a1 n1 c1, .slice b1 m1 d1] 26) = Wd at *
          have F2 := Lib.hid (F1.out.below BD.out)
          have G2 := Lib.hid (G1.out.below BD.out)
          have q0 := cell_regrown z0
          have q1 := cell_regrown z1
          have q2 := cell_regrown z2
          refine wp_region_quiet_below (by kernel_rfl) (by kernel_rfl) ?_
          repeat (go_big_quiet_step ((go_at_call 13; exact quiet_b fun w1 hb => DocOk_any _ _ _ _ _ _ _ _ _ _ (F2.out.below hb) (G2.out.below hb) N1.out M1.out)))
          refine wpQuiet_nil ?_
          intro wq hqq
          have BQ := Lib.hid (quiet_out hqq)
          clear hqq
          clear q0 q1 q2 z0 z1 z2
          have BE := Lib.hid (HB.out.trans ((BD.out.trans (BQ.out.mono BD.out.size)).mono HB.out.size))
          go_wp2_with fail
          go_roundw
          case rel => exact ⟨1, by omega, by go_num, N.out, BE.out⟩
          case measure => simp [intOf]; omega
        · have h0' : 0 < k := by omega
          have xq := xp h0'
          have wk : IntKind.i64.wrap ((k : Int) - 1) = (k : Int) - 1 := IntWalk.i64_in _ (by omega)
          have wp : (0 : Int) ≤ (k : Int) - 1 := by omega
          have wq : ((k : Int) - 1).toNat = k - 1 := by omega
          have wl : (k : Int) - 1 < (n : Int) := by omega
          have w1 : (1 : Int) ≤ (k : Int) := by omega
          have w2 : (k : Int) ≤ (n : Int) := by omega
          have g1 : decide (0 < k) = true := by simp; omega
          clear xp h0
          by_cases hl : (nthX xs (k - 1)).id < id
          · have N := next (by simp [hok, hl]); clear next stop
            have g2 : decide (id ≤ (nthX xs (k - 1)).id) = false := by simp; omega
            go_wp2_with fail
            have BD : Hid (Below wr.heap.size wr (wr.alloc (.cells #[.int .i64 id, .slice a1 n1 c1, .slice b1 m1 d1] 26))) := (Below.refl _ _).alloc (Nat.le_refl _) _
            have z0 : (wr.alloc (.cells #[.int .i64 id, .slice a1 n1 c1, .slice b1 m1 d1] 26)).cell? ⟨wr.heap.size, 0, none⟩ = some (.int .i64 id) := World.cell?_alloc_at _ _ _ _ rfl
            have z1 : (wr.alloc (.cells #[.int .i64 id, .slice a1 n1 c1, .slice b1 m1 d1] 26)).cell? ⟨wr.heap.size, 1, none⟩ = some (.slice a1 n1 c1) := World.cell?_alloc_at _ _ _ _ rfl
            have z2 : (wr.alloc (.cells #[.int .i64 id, .slice a1 n1 c1, .slice b1 m1 d1] 26)).cell? ⟨wr.heap.size, 2, none⟩ = some (.slice b1 m1 d1) := World.cell?_alloc_at _ _ _ _ rfl
            have z3 : (wr.alloc (.cells #[.int .i64 id, .slice a1 n1 c1, .slice b1 m1 d1] 26)).cell? ⟨g, off + (k - 1) * 3, none⟩ = some (.int .i64 (nthX xs (k - 1)).id) := (BD.out.cell l3).trans xq
            generalize wr.alloc (.cells #[.int .i64 id, .slice a1 n1 c1, .slice b1 m1 d1] 26) = Wd at *
            have F2 := Lib.hid (F1.out.below BD.out)
            have G2 := Lib.hid (G1.out.below BD.out)
            have q0 := cell_regrown z0
            have q1 := cell_regrown z1
            have q2 := cell_regrown z2
            have q3 := cell_regrown z3
            refine wp_region_quiet_below (by kernel_rfl) (by kernel_rfl) ?_
            repeat (go_big_quiet_step ((go_at_call 13; exact quiet_b fun w1 hb => DocOk_any _ _ _ _ _ _ _ _ _ _ (F2.out.below hb) (G2.out.below hb) N1.out M1.out)))
            refine wpQuiet_nil ?_
            intro wq hqq
            have BQ := Lib.hid (quiet_out hqq)
            clear hqq
            clear q0 q1 q2 z0 z1 z2 z3 q3
            have BE := Lib.hid (HB.out.trans ((BD.out.trans (BQ.out.mono BD.out.size)).mono HB.out.size))
            go_wp2_with fail
            go_roundw
            case rel => exact ⟨k + 1, by omega, by go_num, N.out, BE.out⟩
            case measure => simp [intOf]; omega
          · have N := stop (by simp [hok, hl]; omega); clear next stop
            have g2 : decide (id ≤ (nthX xs (k - 1)).id) = true := by simp; omega
            go_wp2_with fail
            have BD : Hid (Below wr.heap.size wr (wr.alloc (.cells #[.int .i64 id, .slice a1 n1 c1, .slice b1 m1 d1] 26))) := (Below.refl _ _).alloc (Nat.le_refl _) _
            have z0 : (wr.alloc (.cells #[.int .i64 id, .slice a1 n1 c1, .slice b1 m1 d1] 26)).cell? ⟨wr.heap.size, 0, none⟩ = some (.int .i64 id) := World.cell?_alloc_at _ _ _ _ rfl
            have z1 : (wr.alloc (.cells #[.int .i64 id, .slice a1 n1 c1, .slice b1 m1 d1] 26)).cell? ⟨wr.heap.size, 1, none⟩ = some (.slice a1 n1 c1) := World.cell?_alloc_at _ _ _ _ rfl
            have z2 : (wr.alloc (.cells #[.int .i64 id, .slice a1 n1 c1, .slice b1 m1 d1] 26)).cell? ⟨wr.heap.size, 2, none⟩ = some (.slice b1 m1 d1) := World.cell?_alloc_at _ _ _ _ rfl
            have z3 : (wr.alloc (.cells #[.int .i64 id, .slice a1 n1 c1, .slice b1 m1 d1] 26)).cell? ⟨g, off + (k - 1) * 3, none⟩ = some (.int .i64 (nthX xs (k - 1)).id) := (BD.out.cell l3).trans xq
            generalize wr.alloc (.cells #[.int .i64 id, .slice a1 n1 c1, .slice b1 m1 d1] 26) = Wd at *
            have F2 := Lib.hid (F1.out.below BD.out)
            have G2 := Lib.hid (G1.out.below BD.out)
            have q0 := cell_regrown z0
            have q1 := cell_regrown z1
            have q2 := cell_regrown z2
            have q3 := cell_regrown z3
            refine wp_region_quiet_below (by kernel_rfl) (by kernel_rfl) ?_
            repeat (go_big_quiet_step ((go_at_call 13; exact quiet_b fun w1 hb => DocOk_any _ _ _ _ _ _ _ _ _ _ (F2.out.below hb) (G2.out.below hb) N1.out M1.out)))
            refine wpQuiet_nil ?_
            intro wq hqq
            have BQ := Lib.hid (quiet_out hqq)
            clear hqq
            clear q0 q1 q2 z0 z1 z2 z3 q3
            have BE := Lib.hid (HB.out.trans ((BD.out.trans (BQ.out.mono BD.out.size)).mono HB.out.size))
            go_wp2_with fail
            go_ret
            exact ⟨ret_bool N.out.symm, BE.out⟩
    · obtain rfl : k = n := by omega
      have HB := Lib.hid hb; clear hb
      go_wp2_with fail
      go_ret
      exact ⟨ret_bool (by rw [docsOk, HA.out, Bool.true_and]; exact decide_eq_decide.2 (by omega)), HB.out⟩
set_option maxHeartbeats 2000000 in
theorem l6Docs_any (a : Option Addr) (n c : Nat) (xs : List DocA) (w : World) (hx : Docs w a n xs) (hn : n ≤ maxLen) :
    Calls Try.prog 37 #[.slice a n c] w fun e w' => e = .returned (.bool (docsOk n xs)) ∧ Below w.heap.size w w' := by
  have HX := Lib.hid hx; clear hx
  unfold maxLen at hn
  have c2 : Try.prog.cellsOf 26 = 3 := by kernel_rfl
  go_enter Try.func37, Try.ntmps37
  go_wp2_with fail
  go_loopw [3] (fun i wr => ∃ k : Nat, k ≤ n ∧ i = .int .i64 k ∧ allN k (dcAt xs) = true ∧ Below w.heap.size w wr) (fun i _ => n - (intOf i).toNat)
  case atStart => exact ⟨0, Nat.zero_le _, rfl, rfl, Below.refl _ _⟩
  case round =>
    obtain ⟨k, hk, rfl, hall, hb⟩ := hrel
    have HA := Lib.hid hall; clear hall
    by_cases hlt : k < n
    · obtain ⟨g, off, rfl, hc⟩ := (HX.out.below hb).pos hlt
      obtain ⟨x0, x1, x2⟩ := hc k hlt
      have xp : 0 < k → wr.cell? ⟨g, off + (k - 1) * 3, none⟩ = some (.int .i64 (nthX xs (k - 1)).id) := fun _ => (hc (k - 1) (by omega)).1
      have E := (HX.out.each k hlt).below hb
      have next : dcAt xs k = true → Hid (allN (k + 1) (dcAt xs) = true) := fun h => allN_step HA.out h
      have stop : dcAt xs k = false → Hid (docsOk n xs = false) := fun h => docsOk_stop hlt h
      have HB := Lib.hid hb
      clear hc hb
      unfold dcAt at next stop
      generalize nthX xs k = X at *
      obtain ⟨id, a1, n1, c1, fs, b1, m1, d1, ns⟩ := X
      dsimp only at x0 x1 x2 next stop
      have F1 := Lib.hid E.f
      have G1 := Lib.hid E.g
      have N1 := Lib.hid E.hn
      have M1 := Lib.hid E.hm
      dsimp only at F1 G1 N1 M1
      clear E
      have v1 : (0 : Int) ≤ (k : Int) := by omega
      have v2 : (k : Int) < (n : Int) := by omega
      cases hok : docOk id n1 fs m1 ns
      · have N := stop (by simp [hok]); clear next stop xp
        have q0 := cell_regrown x0
        have q1 := cell_regrown x1
        have q2 := cell_regrown x2
        go_wp2_with fail
        refine wp_region_quiet_below (by kernel_rfl) (by kernel_rfl) ?_
        repeat (go_big_quiet_step ((go_at_call 30; exact quiet_b fun w1 hb => l6Ok_any _ _ _ _ _ _ _ _ _ _ (F1.out.below hb) (G1.out.below hb) N1.out M1.out)))
        refine wpQuiet_nil ?_
        intro wq hqq
        have BQ := Lib.hid (quiet_out hqq)
        clear hqq
        clear q0 q1 q2 x0 x1 x2
        have BE := Lib.hid (HB.out.trans (BQ.out.mono HB.out.size))
        go_wp2_with fail
        go_ret
        exact ⟨ret_bool N.out.symm, BE.out⟩
      · by_cases h0 : k = 0
        · subst h0
          rw [Nat.zero_mul, Nat.add_zero] at x0 x1 x2
          have N := next (by simp [hok]); clear next stop xp
          have g1 : decide ((0 : Int) < ((0 : Nat) : Int)) = false := rfl
          have q0 := cell_regrown x0
          have q1 := cell_regrown x1
          have q2 := cell_regrown x2
          go_wp2_with fail
          refine wp_region_quiet_below (by kernel_rfl) (by kernel_rfl) ?_
          repeat (go_big_quiet_step ((go_at_call 30; exact quiet_b fun w1 hb => l6Ok_any _ _ _ _ _ _ _ _ _ _ (F1.out.below hb) (G1.out.below hb) N1.out M1.out)))
          refine wpQuiet_nil ?_
          intro wq hqq
          have BQ := Lib.hid (quiet_out hqq)
          clear hqq
          clear q0 q1 q2 x0 x1 x2
          have BE := Lib.hid (HB.out.trans (BQ.out.mono HB.out.size))
          go_wp2_with fail
          go_roundw
          case rel => exact ⟨1, by omega, by go_num, N.out, BE.out⟩
          case measure => simp [intOf]; omega
        · have h0' : 0 < k := by omega
          have xq := xp h0'
          have wk : IntKind.i64.wrap ((k : Int) - 1) = (k : Int) - 1 := IntWalk.i64_in _ (by omega)
          have wp : (0 : Int) ≤ (k : Int) - 1 := by omega
          have wq : ((k : Int) - 1).toNat = k - 1 := by omega
          have wl : (k : Int) - 1 < (n : Int) := by omega
          have w1 : (1 : Int) ≤ (k : Int) := by omega
          have w2 : (k : Int) ≤ (n : Int) := by omega
          have g1 : decide (0 < k) = true := by simp; omega
          clear xp h0
          by_cases hl : (nthX xs (k - 1)).id < id
          · have N := next (by simp [hok, hl]); clear next stop
            have g2 : decide (id ≤ (nthX xs (k - 1)).id) = false := by simp; omega
            have q0 := cell_regrown x0
            have q1 := cell_regrown x1
            have q2 := cell_regrown x2
            have q3 := cell_regrown xq
            go_wp2_with fail
            refine wp_region_quiet_below (by kernel_rfl) (by kernel_rfl) ?_
            repeat (go_big_quiet_step ((go_at_call 30; exact quiet_b fun w1 hb => l6Ok_any _ _ _ _ _ _ _ _ _ _ (F1.out.below hb) (G1.out.below hb) N1.out M1.out)))
            refine wpQuiet_nil ?_
            intro wq hqq
            have BQ := Lib.hid (quiet_out hqq)
            clear hqq
            clear q0 q1 q2 x0 x1 x2 q3 xq
            have BE := Lib.hid (HB.out.trans (BQ.out.mono HB.out.size))
            go_wp2_with fail
            go_roundw
            case rel => exact ⟨k + 1, by omega, by go_num, N.out, BE.out⟩
            case measure => simp [intOf]; omega
          · have N := stop (by simp [hok, hl]; omega); clear next stop
            have g2 : decide (id ≤ (nthX xs (k - 1)).id) = true := by simp; omega
            have q0 := cell_regrown x0
            have q1 := cell_regrown x1
            have q2 := cell_regrown x2
            have q3 := cell_regrown xq
            go_wp2_with fail
            refine wp_region_quiet_below (by kernel_rfl) (by kernel_rfl) ?_
            repeat (go_big_quiet_step ((go_at_call 30; exact quiet_b fun w1 hb => l6Ok_any _ _ _ _ _ _ _ _ _ _ (F1.out.below hb) (G1.out.below hb) N1.out M1.out)))
            refine wpQuiet_nil ?_
            intro wq hqq
            have BQ := Lib.hid (quiet_out hqq)
            clear hqq
            clear q0 q1 q2 x0 x1 x2 q3 xq
            have BE := Lib.hid (HB.out.trans (BQ.out.mono HB.out.size))
            go_wp2_with fail
            go_ret
            exact ⟨ret_bool N.out.symm, BE.out⟩
    · obtain rfl : k = n := by omega
      have HB := Lib.hid hb; clear hb
      go_wp2_with fail
      go_ret
      exact ⟨ret_bool (by rw [docsOk, HA.out, Bool.true_and]; exact decide_eq_decide.2 (by omega)), HB.out⟩
end Go.Proofs.Ytlbopihffpodkaa
