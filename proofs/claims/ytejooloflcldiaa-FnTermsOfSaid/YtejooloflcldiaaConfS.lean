/- The walks of what the reference tells whether words can be read so. Conditions: what is read fits the model's sizes. -/
import Derived.Test.YtejooloflcldiaaConfOk
namespace Go.Proofs.Ytejooloflcldiaa
open Go.RowKit Go.Sort
theorem confOk_asc {x : ConfA} {k : Nat} (hk : k < x.n) (h : ascAt x.ss k = false) : confOk x = false := by
  rw [confOk, wordsAsc, allN_fail hk h]; simp
set_option maxRecDepth 100000 in
set_option maxHeartbeats 4000000 in
theorem l2Ok_any (x : ConfA) (w : World) (hx : x.In w) :
    Calls Try.prog 34 #[x.v] w fun e w' => e = .returned (.bool (confOk x)) ∧ Below w.heap.size w w' := by
  have HX := Lib.hid hx
  have hn := hx.hn
  have hm := hx.hm
  clear hx
  unfold maxLen at hn hm
  have k2 : Try.prog.cellsOf 53 = 2 := by kernel_rfl
  unfold ConfA.v
  go_enter Try.func34, Try.ntmps34
  go_wp2_with fail
  have BW : Hid (Below w.heap.size w (w.alloc (.cells #[.slice x.a x.n x.c, .slice x.b x.m x.d] 30))) := (Below.refl _ _).alloc (Nat.le_refl _) _
  have c0 : Hid ((w.alloc (.cells #[.slice x.a x.n x.c, .slice x.b x.m x.d] 30)).cell? ⟨w.heap.size, 0, none⟩ = some (.slice x.a x.n x.c)) := World.cell?_alloc_at _ _ _ _ rfl
  have c1 : Hid ((w.alloc (.cells #[.slice x.a x.n x.c, .slice x.b x.m x.d] 30)).cell? ⟨w.heap.size, 1, none⟩ = some (.slice x.b x.m x.d)) := World.cell?_alloc_at _ _ _ _ rfl
  have hsz : Hid (w.heap.size < (w.alloc (.cells #[.slice x.a x.n x.c, .slice x.b x.m x.d] 30)).heap.size) := by show _ < _; simp
  have X0 := Lib.hid (HX.out.below BW.out)
  generalize w.alloc (.cells #[.slice x.a x.n x.c, .slice x.b x.m x.d] 30) = W0 at *
  go_loopw [3] (fun i wr => ∃ k : Nat, k ≤ x.n ∧ i = .int .i64 k ∧ allN k (ascAt x.ss) = true ∧ Below W0.heap.size W0 wr) (fun i _ => x.n - (intOf i).toNat)
  case atStart => exact ⟨0, Nat.zero_le _, rfl, rfl, Below.refl _ _⟩
  case round =>
    obtain ⟨k, hk, rfl, hall, hb⟩ := hrel
    have HA := Lib.hid hall; clear hall
    have HB := Lib.hid hb; clear hb
    have e0 := (HB.out.cell hsz.out).trans c0.out
    by_cases hlt : k < x.n
    · obtain ⟨g, off, hg, hc⟩ := (X0.out.s.below HB.out).rd.pos hlt
      rw [hg] at e0
      have HG := Lib.hid hg; clear hg
      have x0 := hc k hlt
      have xp : 0 < k → wr.cell? ⟨g, off + (k - 1), none⟩ = some (.string (nthS x.ss (k - 1))) := fun _ => hc (k - 1) (by omega)
      have FZ := Lib.hid (X0.out.s.fit k)
      have next : ascAt x.ss k = true → Hid (allN (k + 1) (ascAt x.ss) = true) := fun h => allN_step HA.out h
      have stop : ascAt x.ss k = false → Hid (confOk x = false) := fun h => confOk_asc hlt h
      clear hc
      have v1 : (0 : Int) ≤ (k : Int) := by omega
      have v2 : (k : Int) < (x.n : Int) := by omega
      have qe := cell_regrown e0
      have q0 := cell_regrown x0
      cases hf : wordOk (nthS x.ss k)
      · have N := stop (by simp [ascAt, hf]); clear next stop xp
        go_wp2_with fail
        refine wp_region_quiet_below (by kernel_rfl) (by kernel_rfl) ?_
        repeat (go_big_quiet_step ((go_at_call 45; exact quiet_bd fun w1 _ => l1WordOk_any _ FZ.out w1)))
        refine wpQuiet_nil ?_
        intro wq hqq
        have BQ := Lib.hid (quiet_out hqq)
        clear hqq
        clear qe q0 e0 x0
        have BE := Lib.hid (HB.out.trans (BQ.out.mono HB.out.size))
        go_wp2_with fail
        go_ret
        exact ⟨ret_bool N.out.symm, BW.out.trans (BE.out.mono BW.out.size)⟩
      · by_cases h0 : k = 0
        · subst h0
          rw [Nat.add_zero] at x0 q0
          have N := next (by simp [ascAt, hf]); clear next stop xp
          have g1 : decide ((0 : Int) < ((0 : Nat) : Int)) = false := rfl
          go_wp2_with fail
          refine wp_region_quiet_below (by kernel_rfl) (by kernel_rfl) ?_
          repeat (go_big_quiet_step ((go_at_call 45; exact quiet_bd fun w1 _ => l1WordOk_any _ FZ.out w1)))
          refine wpQuiet_nil ?_
          intro wq hqq
          have BQ := Lib.hid (quiet_out hqq)
          clear hqq
          clear qe q0 e0 x0
          have BE := Lib.hid (HB.out.trans (BQ.out.mono HB.out.size))
          go_wp2_with fail
          go_roundw
          case rel => exact ⟨1, by omega, by go_num, N.out, BE.out⟩
          case measure => simp [intOf]; omega
        · have h0' : 0 < k := by omega
          have xq := xp h0'
          have q1 := cell_regrown xq
          have g1 : decide (0 < k) = true := by simp; omega
          have hm := lessS_not (nthS x.ss (k - 1)) (nthS x.ss k)
          have wk : IntKind.i64.wrap ((k : Int) - 1) = (k : Int) - 1 := IntWalk.i64_in _ (by omega)
          have wp : (0 : Int) ≤ (k : Int) - 1 := by omega
          have wq' : ((k : Int) - 1).toNat = k - 1 := by omega
          have wl : (k : Int) - 1 < (x.n : Int) := by omega
          have w1' : (1 : Int) ≤ (k : Int) := by omega
          have w2' : (k : Int) ≤ (x.n : Int) := by omega
          unfold lessS at hm
          clear xp h0
          cases hl : Op.bytesLess (nthS x.ss (k - 1)).toList (nthS x.ss k).toList
          · have N := stop (by simp [ascAt, lessS, hf, hl]; omega); clear next stop
            rw [hl] at hm
            go_wp2_with fail
            refine wp_region_quiet_below (by kernel_rfl) (by kernel_rfl) ?_
            repeat (go_big_quiet_step ((go_at_call 45; exact quiet_bd fun w1 _ => l1WordOk_any _ FZ.out w1)))
            refine wpQuiet_nil ?_
            intro wq hqq
            have BQ := Lib.hid (quiet_out hqq)
            clear hqq
            clear qe q0 e0 x0 q1 xq
            have BE := Lib.hid (HB.out.trans (BQ.out.mono HB.out.size))
            go_wp2_with fail
            go_ret
            exact ⟨ret_bool N.out.symm, BW.out.trans (BE.out.mono BW.out.size)⟩
          · have N := next (by simp [ascAt, lessS, hf, hl]); clear next stop
            rw [hl] at hm
            go_wp2_with fail
            refine wp_region_quiet_below (by kernel_rfl) (by kernel_rfl) ?_
            repeat (go_big_quiet_step ((go_at_call 45; exact quiet_bd fun w1 _ => l1WordOk_any _ FZ.out w1)))
            refine wpQuiet_nil ?_
            intro wq hqq
            have BQ := Lib.hid (quiet_out hqq)
            clear hqq
            clear qe q0 e0 x0 q1 xq
            have BE := Lib.hid (HB.out.trans (BQ.out.mono HB.out.size))
            go_wp2_with fail
            go_roundw
            case rel => exact ⟨k + 1, by omega, by go_num, N.out, BE.out⟩
            case measure => simp [intOf]; omega
    · obtain rfl : k = x.n := by omega
      have HAS := Lib.hid (show wordsAsc x.n x.ss = true from HA.out)
      obtain ⟨W1, hW1⟩ : ∃ W1 : World, W1 = wr := ⟨_, rfl⟩
      rw [← hW1] at HB e0 ⊢
      clear hW1 HA
      go_wp2_with fail
      clear e0
      go_loopw [4] (fun i wr => ∃ k : Nat, k ≤ x.m ∧ i = .int .i64 k ∧ allN k (fun j => synAt x.n x.ss (nthY x.ys j)) = true ∧ Below W0.heap.size W0 wr) (fun i _ => x.m - (intOf i).toNat)
      case atStart => exact ⟨0, Nat.zero_le _, rfl, rfl, HB.out⟩
      case round =>
        obtain ⟨k, hk, rfl, hall, hb⟩ := hrel
        have HA := Lib.hid hall; clear hall
        have e1 := (hb.cell hsz.out).trans c1.out
        by_cases hlt : k < x.m
        · obtain ⟨g, off, hg, hc⟩ := (X0.out.y.below hb).pos hlt
          rw [hg] at e1
          have HG := Lib.hid hg; clear hg
          obtain ⟨x0, x1⟩ := hc k hlt
          have E := Lib.hid ((X0.out.y.each k hlt).below hb)
          have next : synAt x.n x.ss (nthY x.ys k) = true → Hid (allN (k + 1) (fun j => synAt x.n x.ss (nthY x.ys j)) = true) := fun h => allN_step (p := fun j => synAt x.n x.ss (nthY x.ys j)) HA.out h
          have stop : synAt x.n x.ss (nthY x.ys k) = false → Hid (confOk x = false) := fun h => confOk_syn hlt h
          obtain ⟨y, hy⟩ : ∃ y, y = nthY x.ys k := ⟨_, rfl⟩
          rw [← hy] at x0 x1 E next stop
          clear hy
          have HB2 := Lib.hid hb; clear hb hc
          have hyn := E.out.hn
          unfold maxLen at hyn
          have STP := Lib.hid (fun j (hj : j < y.n) (h : wAt x.n x.ss (nthS y.fs j) = false) => stop (by rw [synAt, allN_fail (p := fun j => wAt x.n x.ss (nthS y.fs j)) hj h]; simp))
          go_wp2_with fail
          have BD := Lib.hid ((Below.refl wr.heap.size wr).alloc (Nat.le_refl _) (.cells #[.slice y.a y.n y.c, .string y.to] 53))
          have z0 := Lib.hid (show (wr.alloc (.cells #[.slice y.a y.n y.c, .string y.to] 53)).cell? ⟨wr.heap.size, 0, none⟩ = some (.slice y.a y.n y.c) from World.cell?_alloc_at _ _ _ _ rfl)
          have z1 := Lib.hid (show (wr.alloc (.cells #[.slice y.a y.n y.c, .string y.to] 53)).cell? ⟨wr.heap.size, 1, none⟩ = some (.string y.to) from World.cell?_alloc_at _ _ _ _ rfl)
          have lz : Hid (wr.heap.size < (wr.alloc (.cells #[.slice y.a y.n y.c, .string y.to] 53)).heap.size) := by show _ < _; simp
          generalize wr.alloc (.cells #[.slice y.a y.n y.c, .string y.to] 53) = Wd at *
          clear e1 x0 x1
          obtain ⟨D, hD⟩ : ∃ D, D = wr.heap.size := ⟨_, rfl⟩
          rw [← hD] at z0 z1 lz ⊢
          have BDD := Lib.hid (HB2.out.trans (BD.out.mono HB2.out.size))
          have ED := Lib.hid (E.out.below BD.out)
          clear hD
          go_loopw [6] (fun i wi => ∃ j : Nat, j ≤ y.n ∧ i = .int .i64 j ∧ allN j (fun j => wAt x.n x.ss (nthS y.fs j)) = true ∧ Below Wd.heap.size Wd wi) (fun i _ => y.n - (intOf i).toNat)
          case atStart => exact ⟨0, Nat.zero_le _, rfl, rfl, Below.refl _ _⟩
          case round =>
            obtain ⟨j, hj, rfl, hallj, hbj⟩ := hrel
            have HAJ := Lib.hid hallj; clear hallj
            have HBJ := Lib.hid hbj; clear hbj
            have BI := Lib.hid (BDD.out.trans (HBJ.out.mono BDD.out.size))
            have s0 := (HBJ.out.cell lz.out).trans z0.out
            by_cases hlj : j < y.n
            · obtain ⟨gy, oy, hgy, hcy⟩ := (ED.out.f.below HBJ.out).rd.pos hlj
              rw [hgy] at s0
              have HGY := Lib.hid hgy; clear hgy
              have hck := hcy j hlj
              clear hcy
              have FZ := Lib.hid (E.out.f.fit j)
              have e0 := (BI.out.cell hsz.out).trans c0.out
              obtain ⟨f, hf⟩ : ∃ f, f = nthS y.fs j := ⟨_, rfl⟩
              have STJ := Lib.hid (STP.out j hlj)
              have NXJ := Lib.hid (fun h => allN_step (p := fun j => wAt x.n x.ss (nthS y.fs j)) HAJ.out (k := j) h)
              rw [← hf] at hck FZ STJ NXJ
              clear hf
              have v1 : (0 : Int) ≤ (j : Int) := by omega
              have v2 : (j : Int) < (y.n : Int) := by omega
              have q0 := cell_regrown s0
              have q1 := cell_regrown hck
              have q2 := cell_regrown e0
              have XI := Lib.hid (X0.out.s.below BI.out)
              cases hw : wordOk f
              · have N := STJ.out (by rw [wAt, hw]; rfl)
                go_wp2_with fail
                refine wp_region_quiet_below (by kernel_rfl) (by kernel_rfl) ?_
                repeat (go_big_quiet_step ((first | (go_at_call 45; exact quiet_bd fun w1 _ => l1WordOk_any _ FZ.out w1) | (go_at_call 58; exact quiet_b fun w1 _ => l2Stem_any _ FZ.out w1) | (go_at_call 59; exact quiet_bs fun w1 hb => l2Has_any _ _ _ _ _ w1 (XI.out.below hb) HX.out.hn))))
                refine wpQuiet_nil ?_
                intro wq hqq
                have BQ := Lib.hid (quiet_out hqq)
                clear hqq
                clear q0 q1 q2 s0 hck e0
                have BE := Lib.hid (BI.out.trans (BQ.out.mono BI.out.size))
                have BJ := Lib.hid (HBJ.out.trans (BQ.out.mono HBJ.out.size))
                go_wp2_with fail
                go_ret
                exact ⟨ret_bool N.out.symm, BW.out.trans (BE.out.mono BW.out.size)⟩
              · cases hst : stemSame f
                · have N := STJ.out (by rw [wAt, hst]; simp)
                  have be : ((stemB f).toList == f.toList) = false := hst
                  have bn : ((stemB f).toList != f.toList) = true := stem_bne be
                  go_wp2_with fail
                  refine wp_region_quiet_below (by kernel_rfl) (by kernel_rfl) ?_
                  repeat (go_big_quiet_step ((first | (go_at_call 45; exact quiet_bd fun w1 _ => l1WordOk_any _ FZ.out w1) | (go_at_call 58; exact quiet_b fun w1 _ => l2Stem_any _ FZ.out w1) | (go_at_call 59; exact quiet_bs fun w1 hb => l2Has_any _ _ _ _ _ w1 (XI.out.below hb) HX.out.hn))))
                  refine wpQuiet_nil ?_
                  intro wq hqq
                  have BQ := Lib.hid (quiet_out hqq)
                  clear hqq
                  clear q0 q1 q2 s0 hck e0
                  have BE := Lib.hid (BI.out.trans (BQ.out.mono BI.out.size))
                  have BJ := Lib.hid (HBJ.out.trans (BQ.out.mono HBJ.out.size))
                  go_wp2_with fail
                  go_ret
                  exact ⟨ret_bool N.out.symm, BW.out.trans (BE.out.mono BW.out.size)⟩
                · have be : ((stemB f).toList == f.toList) = true := hst
                  have bn : ((stemB f).toList != f.toList) = false := stem_bne be
                  cases hh : hasS x.n x.ss f
                  · have N := Lib.hid (NXJ.out (by rw [wAt, hw, hst, hh]; rfl))
                    go_wp2_with fail
                    refine wp_region_quiet_below (by kernel_rfl) (by kernel_rfl) ?_
                    repeat (go_big_quiet_step ((first | (go_at_call 45; exact quiet_bd fun w1 _ => l1WordOk_any _ FZ.out w1) | (go_at_call 58; exact quiet_b fun w1 _ => l2Stem_any _ FZ.out w1) | (go_at_call 59; exact quiet_bs fun w1 hb => l2Has_any _ _ _ _ _ w1 (XI.out.below hb) HX.out.hn))))
                    refine wpQuiet_nil ?_
                    intro wq hqq
                    have BQ := Lib.hid (quiet_out hqq)
                    clear hqq
                    clear q0 q1 q2 s0 hck e0
                    have BE := Lib.hid (BI.out.trans (BQ.out.mono BI.out.size))
                    have BJ := Lib.hid (HBJ.out.trans (BQ.out.mono HBJ.out.size))
                    go_wp2_with fail
                    go_roundw
                    case rel => exact ⟨j + 1, by omega, by go_num, N.out, BJ.out⟩
                    case measure => simp [intOf]; omega
                  · have N := STJ.out (by rw [wAt, hh]; simp)
                    go_wp2_with fail
                    refine wp_region_quiet_below (by kernel_rfl) (by kernel_rfl) ?_
                    repeat (go_big_quiet_step ((first | (go_at_call 45; exact quiet_bd fun w1 _ => l1WordOk_any _ FZ.out w1) | (go_at_call 58; exact quiet_b fun w1 _ => l2Stem_any _ FZ.out w1) | (go_at_call 59; exact quiet_bs fun w1 hb => l2Has_any _ _ _ _ _ w1 (XI.out.below hb) HX.out.hn))))
                    refine wpQuiet_nil ?_
                    intro wq hqq
                    have BQ := Lib.hid (quiet_out hqq)
                    clear hqq
                    clear q0 q1 q2 s0 hck e0
                    have BE := Lib.hid (BI.out.trans (BQ.out.mono BI.out.size))
                    have BJ := Lib.hid (HBJ.out.trans (BQ.out.mono HBJ.out.size))
                    go_wp2_with fail
                    go_ret
                    exact ⟨ret_bool N.out.symm, BW.out.trans (BE.out.mono BW.out.size)⟩
            · obtain rfl : j = y.n := by omega
              have HAF := Lib.hid (show allN y.n (fun j => wAt x.n x.ss (nthS y.fs j)) = true from HAJ.out)
              have s1 := (HBJ.out.cell lz.out).trans z1.out
              have FT := Lib.hid E.out.ht
              have CI : Hid (∀ w, Calls Try.prog 60 #[.int .i64 (y.n : Int), .int .i64 1, .int .i64 3] w fun e w' => e = .returned (.bool (inSyn y.n)) ∧ w = w') := fun w => l1In_any (y.n : Int) 1 3 w
              obtain ⟨W2, hW2⟩ : ∃ W2 : World, W2 = wr := ⟨_, rfl⟩
              rw [← hW2] at BI s0 s1 ⊢
              clear hW2 HAJ HBJ
              have q0 := cell_regrown s0
              have q1 := cell_regrown s1
              cases hi : inSyn y.n
              · have N := stop (by rw [synAt, hi]; rfl)
                go_wp2_with fail
                refine wp_region_quiet_below (by kernel_rfl) (by kernel_rfl) ?_
                repeat (go_big_quiet_step ((first | (go_at_call 60; exact quiet_bs fun w1 _ => CI.out w1) | (go_at_call 45; exact quiet_bd fun w1 _ => l1WordOk_any _ FT.out w1) | (go_at_call 58; exact quiet_b fun w1 _ => l2Stem_any _ FT.out w1))))
                refine wpQuiet_nil ?_
                intro wq hqq
                have BQ := Lib.hid (quiet_out hqq)
                clear hqq
                clear q0 q1 s0 s1
                have BE := Lib.hid (BI.out.trans (BQ.out.mono BI.out.size))
                go_wp2_with fail
                go_ret
                exact ⟨ret_bool N.out.symm, BW.out.trans (BE.out.mono BW.out.size)⟩
              · cases hw : wordOk y.to
                · have N := stop (by rw [synAt, hw]; simp)
                  go_wp2_with fail
                  refine wp_region_quiet_below (by kernel_rfl) (by kernel_rfl) ?_
                  repeat (go_big_quiet_step ((first | (go_at_call 60; exact quiet_bs fun w1 _ => CI.out w1) | (go_at_call 45; exact quiet_bd fun w1 _ => l1WordOk_any _ FT.out w1) | (go_at_call 58; exact quiet_b fun w1 _ => l2Stem_any _ FT.out w1))))
                  refine wpQuiet_nil ?_
                  intro wq hqq
                  have BQ := Lib.hid (quiet_out hqq)
                  clear hqq
                  clear q0 q1 s0 s1
                  have BE := Lib.hid (BI.out.trans (BQ.out.mono BI.out.size))
                  go_wp2_with fail
                  go_ret
                  exact ⟨ret_bool N.out.symm, BW.out.trans (BE.out.mono BW.out.size)⟩
                · cases hst : stemSame y.to
                  · have N := stop (by rw [synAt, hst]; simp)
                    have be : ((stemB y.to).toList == y.to.toList) = false := hst
                    have bn : ((stemB y.to).toList != y.to.toList) = true := stem_bne be
                    go_wp2_with fail
                    refine wp_region_quiet_below (by kernel_rfl) (by kernel_rfl) ?_
                    repeat (go_big_quiet_step ((first | (go_at_call 60; exact quiet_bs fun w1 _ => CI.out w1) | (go_at_call 45; exact quiet_bd fun w1 _ => l1WordOk_any _ FT.out w1) | (go_at_call 58; exact quiet_b fun w1 _ => l2Stem_any _ FT.out w1))))
                    refine wpQuiet_nil ?_
                    intro wq hqq
                    have BQ := Lib.hid (quiet_out hqq)
                    clear hqq
                    clear q0 q1 s0 s1
                    have BE := Lib.hid (BI.out.trans (BQ.out.mono BI.out.size))
                    go_wp2_with fail
                    go_ret
                    exact ⟨ret_bool N.out.symm, BW.out.trans (BE.out.mono BW.out.size)⟩
                  · have N := next (by rw [synAt, hi, hw, hst, HAF.out]; rfl)
                    have be : ((stemB y.to).toList == y.to.toList) = true := hst
                    have bn : ((stemB y.to).toList != y.to.toList) = false := stem_bne be
                    go_wp2_with fail
                    refine wp_region_quiet_below (by kernel_rfl) (by kernel_rfl) ?_
                    repeat (go_big_quiet_step ((first | (go_at_call 60; exact quiet_bs fun w1 _ => CI.out w1) | (go_at_call 45; exact quiet_bd fun w1 _ => l1WordOk_any _ FT.out w1) | (go_at_call 58; exact quiet_b fun w1 _ => l2Stem_any _ FT.out w1))))
                    refine wpQuiet_nil ?_
                    intro wq hqq
                    have BQ := Lib.hid (quiet_out hqq)
                    clear hqq
                    clear q0 q1 s0 s1
                    have BE := Lib.hid (BI.out.trans (BQ.out.mono BI.out.size))
                    go_wp2_with fail
                    go_roundw
                    case rel => exact ⟨k + 1, by omega, by go_num, N.out, BE.out⟩
                    case measure => simp [intOf]; omega
        · obtain rfl : k = x.m := by omega
          have HB2 := Lib.hid hb; clear hb
          have e0 := (HB2.out.cell hsz.out).trans c0.out
          have N := Lib.hid (show confOk x = (decide (x.n ≤ 6) && decide (x.m ≤ 4)) by rw [confOk, HAS.out, HA.out, Bool.and_true, Bool.and_true])
          by_cases h6 : x.n ≤ 6
          · have N2 := Lib.hid (show confOk x = decide (x.m ≤ 4) by rw [N.out, decide_eq_true h6]; rfl)
            go_wp2_with fail
            go_ret
            exact ⟨ret_bool (by rw [N2.out]; exact decide_eq_decide.2 (by omega)), BW.out.trans (HB2.out.mono BW.out.size)⟩
          · have N2 := Lib.hid (show confOk x = false by rw [N.out, decide_eq_false h6]; rfl)
            go_wp2_with fail
            go_ret
            exact ⟨ret_bool (by rw [N2.out]), BW.out.trans (HB2.out.mono BW.out.size)⟩
end Go.Proofs.Ytejooloflcldiaa
