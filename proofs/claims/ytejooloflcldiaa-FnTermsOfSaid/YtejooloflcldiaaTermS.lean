/- Which of what stands for others is used for terms. Conditions: what is read fits the model's sizes. -/
import Derived.Test.YtejooloflcldiaaTerm
namespace Go.Proofs.Ytejooloflcldiaa
open Go.RowKit Go.Sort
set_option maxRecDepth 100000 in
set_option maxHeartbeats 4000000 in
theorem l2Syn_any (x : ConfA) (a : Option Addr) (n c : Nat) (ts : List Tm) (w : World) (hx : x.In w) (ht : Tms w a n ts) (hn : n ≤ 1000000) :
    Calls Try.prog 68 #[x.v, .slice a n c] w fun e w' => e = .returned (.int .i64 (optI (synTo ts x.ys x.m))) ∧ Below w.heap.size w w' := by
  have HX := Lib.hid hx
  have HT := Lib.hid ht
  have hm := hx.hm
  clear hx ht
  unfold maxLen at hm
  have k2 : Try.prog.cellsOf 53 = 2 := by kernel_rfl
  unfold ConfA.v
  go_enter Try.func68, Try.ntmps68
  go_wp2_with fail
  have BW : Hid (Below w.heap.size w (w.alloc (.cells #[.slice x.a x.n x.c, .slice x.b x.m x.d] 30))) := (Below.refl _ _).alloc (Nat.le_refl _) _
  have c1 : Hid ((w.alloc (.cells #[.slice x.a x.n x.c, .slice x.b x.m x.d] 30)).cell? ⟨w.heap.size, 1, none⟩ = some (.slice x.b x.m x.d)) := World.cell?_alloc_at _ _ _ _ rfl
  have hsz : Hid (w.heap.size < (w.alloc (.cells #[.slice x.a x.n x.c, .slice x.b x.m x.d] 30)).heap.size) := by show _ < _; simp
  have X0 := Lib.hid (HX.out.below BW.out)
  have T0 := Lib.hid (HT.out.below BW.out)
  generalize w.alloc (.cells #[.slice x.a x.n x.c, .slice x.b x.m x.d] 30) = W0 at *
  go_loopw [5, 6] (fun v i wr => ∃ k : Nat, k ≤ x.m ∧ i = .int .i64 k ∧ v = .int .i64 (optI (synTo ts x.ys k)) ∧ Below W0.heap.size W0 wr) (fun _ i _ => x.m - (intOf i).toNat)
  case atStart => exact ⟨0, Nat.zero_le _, rfl, rfl, Below.refl _ _⟩
  case round =>
    obtain ⟨k, hk, rfl, rfl, hb⟩ := hrel
    have HB := Lib.hid hb; clear hb
    have e1 := (HB.out.cell hsz.out).trans c1.out
    by_cases hlt : k < x.m
    · obtain ⟨g, off, hg, hc⟩ := (X0.out.y.below HB.out).pos hlt
      rw [hg] at e1
      have HG := Lib.hid hg; clear hg
      obtain ⟨x0, -⟩ := hc k hlt
      have HC := Lib.hid hc; clear hc
      have E := Lib.hid ((X0.out.y.each k hlt).below HB.out)
      have TT := Lib.hid (T0.out.below HB.out)
      have S1 := Lib.hid (fun h h0 => synTo_yes (ts := ts) (ys := x.ys) (k := k) h h0)
      have S2 := Lib.hid (fun h => synTo_no (ts := ts) (ys := x.ys) (k := k) h)
      have S3 := Lib.hid (fun b h h0 h1 => synTo_more (ts := ts) (ys := x.ys) (k := k) (b := b) h h0 h1)
      have S4 := Lib.hid (fun b h0 h1 => synTo_less (ts := ts) (ys := x.ys) (k := k) (b := b) h0 h1)
      obtain ⟨y, hy⟩ : ∃ y, y = nthY x.ys k := ⟨_, rfl⟩
      rw [← hy] at x0 E S1 S2 S3 S4
      clear hy
      have q0 := cell_regrown x0
      have q1 := cell_regrown e1
      have v1 : (0 : Int) ≤ (k : Int) := by omega
      have v2 : (k : Int) < (x.m : Int) := by omega
      have CB : Hid (∀ w1, Below wr.heap.size wr w1 → Calls Try.prog 73 #[.slice a n c, .slice y.a y.n y.c] w1 fun e w' => e = .returned (.bool (begins ts y.n y.fs)) ∧ Below w1.heap.size w1 w') := fun w1 hb => l2Begins_any _ _ _ _ _ _ _ _ w1 (TT.out.below hb) (E.out.f.below hb) hn E.out.hn
      obtain ⟨B, hB⟩ : ∃ B, B = begins ts y.n y.fs := ⟨_, rfl⟩
      rw [← hB] at CB S1 S2 S3
      clear hB
      cases B
      · have N := Lib.hid (S2.out rfl)
        go_wp2_with fail
        refine wp_region_quiet_below (by kernel_rfl) (by kernel_rfl) ?_
        repeat (go_big_quiet_step ((go_at_call 73; exact quiet_b fun w1 hb => CB.out w1 hb)))
        refine wpQuiet_nil ?_
        intro wq hqq
        have BQ := Lib.hid (quiet_out hqq)
        clear hqq
        have BE := Lib.hid (HB.out.trans (BQ.out.mono HB.out.size))
        go_wp2_with fail
        go_roundw
        case rel => exact ⟨k + 1, by omega, by go_num, by rw [N.out], BE.out⟩
        case measure => simp [intOf]; omega
      · cases hs : synTo ts x.ys k with
        | none =>
          have N := Lib.hid (S1.out rfl hs)
          have o1 : optI (none : Option Nat) = -1 := rfl
          rw [o1]
          go_wp2_with fail
          refine wp_region_quiet_below (by kernel_rfl) (by kernel_rfl) ?_
          repeat (go_big_quiet_step ((go_at_call 73; exact quiet_b fun w1 hb => CB.out w1 hb)))
          refine wpQuiet_nil ?_
          intro wq hqq
          have BQ := Lib.hid (quiet_out hqq)
          clear hqq
          have BE := Lib.hid (HB.out.trans (BQ.out.mono HB.out.size))
          go_wp2_with fail
          go_roundw
          case rel => exact ⟨k + 1, by omega, by go_num, by rw [N.out]; rfl, BE.out⟩
          case measure => simp [intOf]; omega
        | some b =>
          have hbk := synTo_lt _ _ _ _ hs
          have o1 : optI (some b) = (b : Int) := rfl
          rw [o1]
          obtain ⟨z0, -⟩ := HC.out b (by omega)
          have SB := Lib.hid (fun h1 => S3.out b rfl hs h1)
          have SC := Lib.hid (fun h1 => S4.out b hs h1)
          obtain ⟨z, hz⟩ : ∃ z, z = nthY x.ys b := ⟨_, rfl⟩
          rw [← hz] at z0 SB SC
          clear hz
          have q2 := cell_regrown z0
          have v3 : (0 : Int) ≤ (b : Int) := by omega
          have v4 : (b : Int) < (x.m : Int) := by omega
          have gb : decide ((b : Int) < 0) = false := decide_eq_false (by omega)
          by_cases hl : z.n < y.n
          · have N := Lib.hid (SB.out hl)
            have gl : decide (z.n < y.n) = true := decide_eq_true hl
            go_wp2_with fail
            refine wp_region_quiet_below (by kernel_rfl) (by kernel_rfl) ?_
            repeat (go_big_quiet_step ((go_at_call 73; exact quiet_b fun w1 hb => CB.out w1 hb)))
            refine wpQuiet_nil ?_
            intro wq hqq
            have BQ := Lib.hid (quiet_out hqq)
            clear hqq
            have BE := Lib.hid (HB.out.trans (BQ.out.mono HB.out.size))
            go_wp2_with fail
            go_roundw
            case rel => exact ⟨k + 1, by omega, by go_num, by rw [N.out]; rfl, BE.out⟩
            case measure => simp [intOf]; omega
          · have N := Lib.hid (SC.out hl)
            have gl : decide (z.n < y.n) = false := decide_eq_false hl
            go_wp2_with fail
            refine wp_region_quiet_below (by kernel_rfl) (by kernel_rfl) ?_
            repeat (go_big_quiet_step ((go_at_call 73; exact quiet_b fun w1 hb => CB.out w1 hb)))
            refine wpQuiet_nil ?_
            intro wq hqq
            have BQ := Lib.hid (quiet_out hqq)
            clear hqq
            have BE := Lib.hid (HB.out.trans (BQ.out.mono HB.out.size))
            go_wp2_with fail
            go_roundw
            case rel => exact ⟨k + 1, by omega, by go_num, by rw [N.out]; rfl, BE.out⟩
            case measure => simp [intOf]; omega
    · obtain rfl : k = x.m := by omega
      go_wp2_with fail
      go_ret
      exact ⟨rfl, BW.out.trans (HB.out.mono BW.out.size)⟩
end Go.Proofs.Ytejooloflcldiaa
