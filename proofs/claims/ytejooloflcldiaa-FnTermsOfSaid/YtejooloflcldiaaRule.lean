/- Which rule the program uses at a place of terms. Conditions: what is read fits the model's sizes. -/
import Derived.Test.YtejooloflcldiaaTerm
namespace Go.Proofs.Ytejooloflcldiaa
open Go.RowKit Go.Sort
theorem Tms.cells {w : World} {g off n i : Nat} {ts : List Tm} (h : Tms w (some ⟨g, off, none⟩) n ts) (hi : i < n) : w.cell? ⟨g, off + i * 2, none⟩ = some (.string (nthT ts i).text) ∧ w.cell? ⟨g, off + i * 2 + 1, none⟩ = some (.int .i64 (nthT ts i).at_) := by
  obtain ⟨b, o, he, hc⟩ := h.pos hi
  injection he with he; injection he with h1 h2
  subst h1; subst h2
  exact hc i hi
theorem Syns.cells {w : World} {g off n i : Nat} {ys : List SynA} (h : Syns w (some ⟨g, off, none⟩) n ys) (hi : i < n) : w.cell? ⟨g, off + i * 2, none⟩ = some (.slice (nthY ys i).a (nthY ys i).n (nthY ys i).c) ∧ w.cell? ⟨g, off + i * 2 + 1, none⟩ = some (.string (nthY ys i).to) := by
  obtain ⟨b, o, he, hc⟩ := h.pos hi
  injection he with he; injection he with h1 h2
  subst h1; subst h2
  exact hc i hi
def fitAt (ts : List Tm) (p : Nat) (fs : List ByteArray) (j : Nat) : Bool := ((nthT ts (p + j)).text.toList == (nthS fs j).toList) && decide ((nthT ts (p + j)).at_ = (nthT ts p).at_ + j)
theorem nthT_drop (ts : List Tm) (p j : Nat) : nthT (ts.drop p) j = nthT ts (p + j) := by simp [nthT, List.getElem?_drop]
theorem begins_drop {ts : List Tm} {p m : Nat} {fs : List ByteArray} (h : m + p ≤ ts.length) : begins (ts.drop p) m fs = allN m (fitAt ts p fs) :=
  allN_congr fun j hj => by
    unfold beginsAt fitAt
    rw [nthT_drop, nthT_drop, decide_eq_true (by rw [List.length_drop]; omega), Bool.true_and, Nat.add_zero]
theorem begins_long {ts : List Tm} {p m : Nat} {fs : List ByteArray} (h : ts.length < m + p) (hp : p ≤ ts.length) : begins (ts.drop p) m fs = false :=
  allN_fail (k := ts.length - p) (by omega) (by rw [beginsAt, decide_eq_false (by rw [List.length_drop]; omega)]; rfl)
def ptrOf (b : Option Addr) (o : Option Nat) : Option Addr := match b, o with
  | some ⟨g, off, _⟩, some k => some ⟨g, off + k * 2, none⟩
  | _, _ => none
theorem allN_next {k : Nat} {q : Nat → Bool} {b c : Bool} (h : b = allN k q) (h1 : c = q k) : (b && c) = allN (k + 1) q := by
  subst h; subst h1
  cases hq : allN k q
  · rw [Bool.false_and]
    cases ht : allN (k + 1) q
    · rfl
    · rw [allN_iff] at ht
      have := allN_iff.2 fun j hj => ht j (Nat.lt_succ_of_lt hj)
      rw [this] at hq; cases hq
  · rw [Bool.true_and]
    cases hk : q k
    · exact (allN_fail (Nat.lt_succ_self k) hk).symm
    · exact (allN_step hq hk).symm
set_option maxRecDepth 100000 in
set_option maxHeartbeats 4000000 in
theorem ruleAt_any (x : ConfA) (a : Option Addr) (n c : Nat) (ts : List Tm) (p : Nat) (w : World) (hx : x.In w) (ht : Tms w a n ts) (hn : n ≤ 1000000) (hp : p < n) :
    Calls Try.prog 48 #[x.v, .slice a n c, .int .i64 (p : Int)] w fun e w' => e = .returned (.pointer (ptrOf x.b (synTo (ts.drop p) x.ys x.m))) ∧ Below w.heap.size w w' := by
  have HX := Lib.hid hx
  have hm := hx.hm
  obtain ⟨g2, off2, rfl, -⟩ := ht.pos hp
  have HT := Lib.hid ht
  clear hx ht
  unfold maxLen at hm
  have k2 : Try.prog.cellsOf 53 = 2 := by kernel_rfl
  have k3 : Try.prog.cellsOf 42 = 2 := by kernel_rfl
  unfold ConfA.v
  go_enter Try.func48, Try.ntmps48
  go_wp2_with fail
  have BW : Hid (Below w.heap.size w (w.alloc (.cells #[.slice x.a x.n x.c, .slice x.b x.m x.d] 30))) := (Below.refl _ _).alloc (Nat.le_refl _) _
  have c1 : Hid ((w.alloc (.cells #[.slice x.a x.n x.c, .slice x.b x.m x.d] 30)).cell? ⟨w.heap.size, 1, none⟩ = some (.slice x.b x.m x.d)) := World.cell?_alloc_at _ _ _ _ rfl
  have e1 := c1.out
  have hsz : Hid (w.heap.size < (w.alloc (.cells #[.slice x.a x.n x.c, .slice x.b x.m x.d] 30)).heap.size) := by show _ < _; simp
  have X0 := Lib.hid (HX.out.below BW.out)
  have T0 := Lib.hid (HT.out.below BW.out)
  generalize w.alloc (.cells #[.slice x.a x.n x.c, .slice x.b x.m x.d] 30) = W0 at *
  go_wp2_with fail
  clear e1
  go_loopw [7, 17] (fun v i wr => ∃ k : Nat, k ≤ x.m ∧ i = .int .i64 k ∧ v = .pointer (ptrOf x.b (synTo (ts.drop p) x.ys k)) ∧ Below W0.heap.size W0 wr) (fun _ i _ => x.m - (intOf i).toNat)
  case atStart => exact ⟨0, Nat.zero_le _, rfl, by cases x.b <;> rfl, Below.refl _ _⟩
  case round =>
    obtain ⟨k, hk, rfl, rfl, hb⟩ := hrel
    have HB := Lib.hid hb; clear hb
    by_cases hlt : k < x.m
    · have e1 := (HB.out.cell hsz.out).trans c1.out
      obtain ⟨g, off, hg, hc⟩ := (X0.out.y.below HB.out).pos hlt
      rw [hg] at e1 ⊢
      have HG := Lib.hid hg; clear hg
      obtain ⟨x0, -⟩ := hc k hlt
      have HC := Lib.hid hc; clear hc
      have E := Lib.hid (X0.out.y.each k hlt)
      have SY0 := Lib.hid (show Syns W0 (some ⟨g, off, none⟩) x.m x.ys by rw [← HG.out]; exact X0.out.y)
      have hyn := E.out.hn
      unfold maxLen at hyn
      have TT := Lib.hid (T0.out.below HB.out)
      have S1 := Lib.hid (fun h h0 => synTo_yes (ts := ts.drop p) (ys := x.ys) (k := k) h h0)
      have S2 := Lib.hid (fun h => synTo_no (ts := ts.drop p) (ys := x.ys) (k := k) h)
      have S3 := Lib.hid (fun b h h0 h1 => synTo_more (ts := ts.drop p) (ys := x.ys) (k := k) (b := b) h h0 h1)
      have S4 := Lib.hid (fun b h0 h1 => synTo_less (ts := ts.drop p) (ys := x.ys) (k := k) (b := b) h0 h1)
      obtain ⟨y, hy⟩ : ∃ y, y = nthY x.ys k := ⟨_, rfl⟩
      rw [← hy] at x0 E hyn S1 S2 S3 S4
      have HYY := Lib.hid hy; clear hy
      have q0 := cell_regrown x0
      have v1 : (0 : Int) ≤ (k : Int) := by omega
      have v2 : (k : Int) < (x.m : Int) := by omega
      have vw : IntKind.i64.wrap ((n : Int) - (p : Int)) = (n : Int) - (p : Int) := IntWalk.i64_in _ (by omega)
      by_cases hA : n < y.n + p
      · have N := Lib.hid (S2.out (begins_long (by rw [HT.out.len]; exact hA) (by rw [HT.out.len]; omega)))
        have gA : decide ((n : Int) - (p : Int) < (y.n : Int)) = true := decide_eq_true (by omega)
        obtain ⟨PP, hPP⟩ : ∃ P, P = ptrOf (some ⟨g, off, none⟩) (synTo (ts.drop p) x.ys k) := ⟨_, rfl⟩
        rw [← hPP]
        have HP2 := Lib.hid hPP; clear hPP
        go_wp2_with fail
        refine wp_region_quiet_below (by kernel_rfl) (by kernel_rfl) ?_
        repeat (go_big_quiet_step (fail))
        refine wpQuiet_nil ?_
        intro wq hqq
        have BQ := Lib.hid (quiet_out hqq)
        clear hqq
        have BE := Lib.hid (HB.out.trans (BQ.out.mono HB.out.size))
        go_wp2_with fail
        go_roundw
        case rel => exact ⟨k + 1, by omega, by go_num, by rw [N.out, HP2.out], BE.out⟩
        case measure => simp [intOf]; omega
      · have gA : decide ((n : Int) - (p : Int) < (y.n : Int)) = false := decide_eq_false (by omega)
        cases hs : synTo (ts.drop p) x.ys k with
        | none =>
          have SNO := Lib.hid (fun h => (S2.out h).trans hs)
          have SYES := Lib.hid (fun h => S1.out h hs)
          have o1 : ptrOf (some (⟨g, off, none⟩ : Addr)) none = none := rfl
          rw [o1]
          go_wp2_with fail
          refine wp_region_quiet_below (by kernel_rfl) (by kernel_rfl) ?_
          repeat (go_big_quiet_step (fail))
          refine wpQuiet_nil ?_
          intro wq hqq
          have BQ := Lib.hid (quiet_out hqq)
          clear hqq
          have BE := Lib.hid (HB.out.trans (BQ.out.mono HB.out.size))
          have x0q := ((SY0.out.below BE.out).cells hlt).1
          rw [← HYY.out] at x0q
          clear q0 x0 e1
          go_wp2_with fail
          go_loopw [10, 56] (fun f i wi => ∃ j : Nat, j ≤ y.n ∧ i = .int .i64 j ∧ f = .bool (allN j (fitAt ts p y.fs)) ∧ Below W0.heap.size W0 wi) (fun _ i _ => y.n - (intOf i).toNat)
          case atStart => exact ⟨0, Nat.zero_le _, rfl, rfl, BE.out⟩
          case round =>
            obtain ⟨j, hj, rfl, rfl, hbj⟩ := hrel
            have HBJ := Lib.hid hbj; clear hbj
            by_cases hlj : j < y.n
            · obtain ⟨gy, oy, hgy, hcy⟩ := (E.out.f.below HBJ.out).rd.pos hlj
              have hck := hcy j hlj; clear hcy
              rw [hgy]
              have HGY := Lib.hid hgy; clear hgy
              obtain ⟨t0, t1⟩ := (T0.out.below HBJ.out).cells (show p + j < n by omega)
              have f1 := (HT.out.fit (p + j)).2
              have f0 := (HT.out.fit p).2
              have w1 : IntKind.i64.wrap ((p : Int) + (j : Int)) = (p : Int) + (j : Int) := IntWalk.i64_in _ (by omega)
              have w2 : ((p : Int) + (j : Int)).toNat = p + j := by omega
              have w3 : (0 : Int) ≤ (p : Int) + (j : Int) := by omega
              have w4 : (p : Int) + (j : Int) < (n : Int) := by omega
              have w5 : (0 : Int) ≤ (j : Int) := by omega
              have w6 : (j : Int) < (y.n : Int) := by omega
              have w7 : (0 : Int) ≤ (p : Int) := by omega
              have w8 : (p : Int) < (n : Int) := by omega
              have DE := Lib.hid (show fitAt ts p y.fs j = (((nthT ts (p + j)).text.toList == (nthS y.fs j).toList) && decide ((nthT ts (p + j)).at_ = (nthT ts p).at_ + j)) from rfl)
              have TP := Lib.hid (fun wx (hb : Below W0.heap.size W0 wx) => ((T0.out.below hb).cells hp).2)
              obtain ⟨A, hA⟩ : ∃ A, A = (nthT ts (p + j)).at_ := ⟨_, rfl⟩
              obtain ⟨Z, hZ⟩ : ∃ Z, Z = (nthT ts p).at_ := ⟨_, rfl⟩
              obtain ⟨T, hT⟩ : ∃ T, T = (nthT ts (p + j)).text := ⟨_, rfl⟩
              obtain ⟨F, hF⟩ : ∃ F, F = nthS y.fs j := ⟨_, rfl⟩
              rw [← hA] at t1 f1 DE
              rw [← hZ] at TP f0 DE
              rw [← hT] at t0 DE
              rw [← hF] at hck DE
              clear hA hZ hT hF
              have w9 : IntKind.i64.wrap ((Z : Int) + (j : Int)) = (Z : Int) + (j : Int) := IntWalk.i64_in _ (by omega)
              obtain ⟨P, hP⟩ : ∃ P, P = allN j (fitAt ts p y.fs) := ⟨_, rfl⟩
              rw [← hP]
              have HPP := Lib.hid hP; clear hP
              go_wp2_with fail
              have BD := Lib.hid ((Below.refl wr.heap.size wr).alloc (Nat.le_refl _) (.cells #[.string T, .int .i64 (A : Int)] 42))
              have d0 := show (wr.alloc (.cells #[.string T, .int .i64 (A : Int)] 42)).cell? ⟨wr.heap.size, 0, none⟩ = some (.string T) from World.cell?_alloc_at _ _ _ _ rfl
              have d1 := show (wr.alloc (.cells #[.string T, .int .i64 (A : Int)] 42)).cell? ⟨wr.heap.size, 1, none⟩ = some (.int .i64 (A : Int)) from World.cell?_alloc_at _ _ _ _ rfl
              generalize wr.alloc (.cells #[.string T, .int .i64 (A : Int)] 42) = Wd at *
              have BDD := Lib.hid (HBJ.out.trans (BD.out.mono HBJ.out.size))
              have d2 := TP.out _ BDD.out
              obtain ⟨D, hD⟩ : ∃ D, D = wr.heap.size := ⟨_, rfl⟩
              rw [← hD] at d0 d1 ⊢
              clear hD t0 t1 hck x0q
              have q0 := cell_regrown d0
              have q1 := cell_regrown d1
              have q2 := cell_regrown d2
              cases P
              · have N := Lib.hid (allN_next (c := fitAt ts p y.fs j) HPP.out rfl)
                go_wp2_with fail
                refine wp_region_quiet_below (by kernel_rfl) (by kernel_rfl) ?_
                repeat (go_big_quiet_step (fail))
                refine wpQuiet_nil ?_
                intro wq hqq
                have BQ := Lib.hid (quiet_out hqq)
                clear hqq
                have BF := Lib.hid (BDD.out.trans (BQ.out.mono BDD.out.size))
                go_wp2_with fail
                go_roundw
                case rel => exact ⟨j + 1, by omega, by go_num, by rw [← N.out]; rfl, BF.out⟩
                case measure => simp [intOf]; omega
              · cases he : (T.toList == F.toList)
                · have N := Lib.hid (allN_next (c := false) HPP.out (by rw [DE.out, he]; rfl))
                  go_wp2_with fail
                  refine wp_region_quiet_below (by kernel_rfl) (by kernel_rfl) ?_
                  repeat (go_big_quiet_step (fail))
                  refine wpQuiet_nil ?_
                  intro wq hqq
                  have BQ := Lib.hid (quiet_out hqq)
                  clear hqq
                  have BF := Lib.hid (BDD.out.trans (BQ.out.mono BDD.out.size))
                  go_wp2_with fail
                  go_roundw
                  case rel => exact ⟨j + 1, by omega, by go_num, by rw [← N.out]; rfl, BF.out⟩
                  case measure => simp [intOf]; omega
                · by_cases hat : A = Z + j
                  · have N := Lib.hid (allN_next (c := true) HPP.out (by rw [DE.out, he, decide_eq_true hat]; rfl))
                    have hna : ((A : Int) == (Z : Int) + (j : Int)) = true := beq_t (by omega)
                    go_wp2_with fail
                    refine wp_region_quiet_below (by kernel_rfl) (by kernel_rfl) ?_
                    repeat (go_big_quiet_step (fail))
                    refine wpQuiet_nil ?_
                    intro wq hqq
                    have BQ := Lib.hid (quiet_out hqq)
                    clear hqq
                    have BF := Lib.hid (BDD.out.trans (BQ.out.mono BDD.out.size))
                    go_wp2_with fail
                    go_roundw
                    case rel => exact ⟨j + 1, by omega, by go_num, by rw [← N.out]; rfl, BF.out⟩
                    case measure => simp [intOf]; omega
                  · have N := Lib.hid (allN_next (c := false) HPP.out (by rw [DE.out, he, decide_eq_false hat]; rfl))
                    have hna : ((A : Int) == (Z : Int) + (j : Int)) = false := beq_f (by omega)
                    go_wp2_with fail
                    refine wp_region_quiet_below (by kernel_rfl) (by kernel_rfl) ?_
                    repeat (go_big_quiet_step (fail))
                    refine wpQuiet_nil ?_
                    intro wq hqq
                    have BQ := Lib.hid (quiet_out hqq)
                    clear hqq
                    have BF := Lib.hid (BDD.out.trans (BQ.out.mono BDD.out.size))
                    go_wp2_with fail
                    go_roundw
                    case rel => exact ⟨j + 1, by omega, by go_num, by rw [← N.out]; rfl, BF.out⟩
                    case measure => simp [intOf]; omega
            · obtain rfl : j = y.n := by omega
              have HBG := Lib.hid (begins_drop (ts := ts) (p := p) (m := y.n) (fs := y.fs) (by rw [HT.out.len]; omega))
              obtain ⟨P, hP⟩ : ∃ P, P = allN y.n (fitAt ts p y.fs) := ⟨_, rfl⟩
              rw [← hP] at HBG ⊢
              clear hP x0q
              cases P
              · have N := Lib.hid (SNO.out HBG.out)
                go_wp2_with fail
                go_roundw
                case rel => exact ⟨k + 1, by omega, by go_num, by rw [N.out]; rfl, HBJ.out⟩
                case measure => simp [intOf]; omega
              · have N := Lib.hid (SYES.out HBG.out)
                go_wp2_with fail
                go_roundw
                case rel => exact ⟨k + 1, by omega, by go_num, by rw [N.out]; rfl, HBJ.out⟩
                case measure => simp [intOf]; omega
        | some b =>
          have hbk := synTo_lt _ _ _ _ hs
          have SNO := Lib.hid (fun h => (S2.out h).trans hs)
          have o1 : ptrOf (some (⟨g, off, none⟩ : Addr)) (some b) = some ⟨g, off + b * 2, none⟩ := rfl
          rw [o1]
          obtain ⟨z0, -⟩ := HC.out b (by omega)
          have SB := Lib.hid (fun h h1 => S3.out b h hs h1)
          have SC := Lib.hid (fun h1 => S4.out b hs h1)
          obtain ⟨z, hz⟩ : ∃ z, z = nthY x.ys b := ⟨_, rfl⟩
          rw [← hz] at z0 SB SC
          clear hz
          have q2 := cell_regrown z0
          by_cases hl : y.n ≤ z.n
          · have N := Lib.hid (SC.out (by omega))
            have gl : decide (y.n ≤ z.n) = true := decide_eq_true hl
            go_wp2_with fail
            refine wp_region_quiet_below (by kernel_rfl) (by kernel_rfl) ?_
            repeat (go_big_quiet_step (fail))
            refine wpQuiet_nil ?_
            intro wq hqq
            have BQ := Lib.hid (quiet_out hqq)
            clear hqq
            have BE := Lib.hid (HB.out.trans (BQ.out.mono HB.out.size))
            go_wp2_with fail
            go_roundw
            case rel => exact ⟨k + 1, by omega, by go_num, by rw [N.out]; rfl, BE.out⟩
            case measure => simp [intOf]; omega
          · have SYES := Lib.hid (fun h => SB.out h (by omega))
            have gl : decide (y.n ≤ z.n) = false := decide_eq_false hl
            go_wp2_with fail
            refine wp_region_quiet_below (by kernel_rfl) (by kernel_rfl) ?_
            repeat (go_big_quiet_step (fail))
            refine wpQuiet_nil ?_
            intro wq hqq
            have BQ := Lib.hid (quiet_out hqq)
            clear hqq
            have BE := Lib.hid (HB.out.trans (BQ.out.mono HB.out.size))
            clear z0 q2
            have x0q := ((SY0.out.below BE.out).cells hlt).1
            rw [← HYY.out] at x0q
            clear q0 x0 e1
            go_wp2_with fail
            go_loopw [10, 56] (fun f i wi => ∃ j : Nat, j ≤ y.n ∧ i = .int .i64 j ∧ f = .bool (allN j (fitAt ts p y.fs)) ∧ Below W0.heap.size W0 wi) (fun _ i _ => y.n - (intOf i).toNat)
            case atStart => exact ⟨0, Nat.zero_le _, rfl, rfl, BE.out⟩
            case round =>
              obtain ⟨j, hj, rfl, rfl, hbj⟩ := hrel
              have HBJ := Lib.hid hbj; clear hbj
              by_cases hlj : j < y.n
              · obtain ⟨gy, oy, hgy, hcy⟩ := (E.out.f.below HBJ.out).rd.pos hlj
                have hck := hcy j hlj; clear hcy
                rw [hgy]
                have HGY := Lib.hid hgy; clear hgy
                obtain ⟨t0, t1⟩ := (T0.out.below HBJ.out).cells (show p + j < n by omega)
                have f1 := (HT.out.fit (p + j)).2
                have f0 := (HT.out.fit p).2
                have w1 : IntKind.i64.wrap ((p : Int) + (j : Int)) = (p : Int) + (j : Int) := IntWalk.i64_in _ (by omega)
                have w2 : ((p : Int) + (j : Int)).toNat = p + j := by omega
                have w3 : (0 : Int) ≤ (p : Int) + (j : Int) := by omega
                have w4 : (p : Int) + (j : Int) < (n : Int) := by omega
                have w5 : (0 : Int) ≤ (j : Int) := by omega
                have w6 : (j : Int) < (y.n : Int) := by omega
                have w7 : (0 : Int) ≤ (p : Int) := by omega
                have w8 : (p : Int) < (n : Int) := by omega
                have DE := Lib.hid (show fitAt ts p y.fs j = (((nthT ts (p + j)).text.toList == (nthS y.fs j).toList) && decide ((nthT ts (p + j)).at_ = (nthT ts p).at_ + j)) from rfl)
                have TP := Lib.hid (fun wx (hb : Below W0.heap.size W0 wx) => ((T0.out.below hb).cells hp).2)
                obtain ⟨A, hA⟩ : ∃ A, A = (nthT ts (p + j)).at_ := ⟨_, rfl⟩
                obtain ⟨Z, hZ⟩ : ∃ Z, Z = (nthT ts p).at_ := ⟨_, rfl⟩
                obtain ⟨T, hT⟩ : ∃ T, T = (nthT ts (p + j)).text := ⟨_, rfl⟩
                obtain ⟨F, hF⟩ : ∃ F, F = nthS y.fs j := ⟨_, rfl⟩
                rw [← hA] at t1 f1 DE
                rw [← hZ] at TP f0 DE
                rw [← hT] at t0 DE
                rw [← hF] at hck DE
                clear hA hZ hT hF
                have w9 : IntKind.i64.wrap ((Z : Int) + (j : Int)) = (Z : Int) + (j : Int) := IntWalk.i64_in _ (by omega)
                obtain ⟨P, hP⟩ : ∃ P, P = allN j (fitAt ts p y.fs) := ⟨_, rfl⟩
                rw [← hP]
                have HPP := Lib.hid hP; clear hP
                go_wp2_with fail
                have BD := Lib.hid ((Below.refl wr.heap.size wr).alloc (Nat.le_refl _) (.cells #[.string T, .int .i64 (A : Int)] 42))
                have d0 := show (wr.alloc (.cells #[.string T, .int .i64 (A : Int)] 42)).cell? ⟨wr.heap.size, 0, none⟩ = some (.string T) from World.cell?_alloc_at _ _ _ _ rfl
                have d1 := show (wr.alloc (.cells #[.string T, .int .i64 (A : Int)] 42)).cell? ⟨wr.heap.size, 1, none⟩ = some (.int .i64 (A : Int)) from World.cell?_alloc_at _ _ _ _ rfl
                generalize wr.alloc (.cells #[.string T, .int .i64 (A : Int)] 42) = Wd at *
                have BDD := Lib.hid (HBJ.out.trans (BD.out.mono HBJ.out.size))
                have d2 := TP.out _ BDD.out
                obtain ⟨D, hD⟩ : ∃ D, D = wr.heap.size := ⟨_, rfl⟩
                rw [← hD] at d0 d1 ⊢
                clear hD t0 t1 hck x0q
                have q0 := cell_regrown d0
                have q1 := cell_regrown d1
                have q2 := cell_regrown d2
                cases P
                · have N := Lib.hid (allN_next (c := fitAt ts p y.fs j) HPP.out rfl)
                  go_wp2_with fail
                  refine wp_region_quiet_below (by kernel_rfl) (by kernel_rfl) ?_
                  repeat (go_big_quiet_step (fail))
                  refine wpQuiet_nil ?_
                  intro wq hqq
                  have BQ := Lib.hid (quiet_out hqq)
                  clear hqq
                  have BF := Lib.hid (BDD.out.trans (BQ.out.mono BDD.out.size))
                  go_wp2_with fail
                  go_roundw
                  case rel => exact ⟨j + 1, by omega, by go_num, by rw [← N.out]; rfl, BF.out⟩
                  case measure => simp [intOf]; omega
                · cases he : (T.toList == F.toList)
                  · have N := Lib.hid (allN_next (c := false) HPP.out (by rw [DE.out, he]; rfl))
                    go_wp2_with fail
                    refine wp_region_quiet_below (by kernel_rfl) (by kernel_rfl) ?_
                    repeat (go_big_quiet_step (fail))
                    refine wpQuiet_nil ?_
                    intro wq hqq
                    have BQ := Lib.hid (quiet_out hqq)
                    clear hqq
                    have BF := Lib.hid (BDD.out.trans (BQ.out.mono BDD.out.size))
                    go_wp2_with fail
                    go_roundw
                    case rel => exact ⟨j + 1, by omega, by go_num, by rw [← N.out]; rfl, BF.out⟩
                    case measure => simp [intOf]; omega
                  · by_cases hat : A = Z + j
                    · have N := Lib.hid (allN_next (c := true) HPP.out (by rw [DE.out, he, decide_eq_true hat]; rfl))
                      have hna : ((A : Int) == (Z : Int) + (j : Int)) = true := beq_t (by omega)
                      go_wp2_with fail
                      refine wp_region_quiet_below (by kernel_rfl) (by kernel_rfl) ?_
                      repeat (go_big_quiet_step (fail))
                      refine wpQuiet_nil ?_
                      intro wq hqq
                      have BQ := Lib.hid (quiet_out hqq)
                      clear hqq
                      have BF := Lib.hid (BDD.out.trans (BQ.out.mono BDD.out.size))
                      go_wp2_with fail
                      go_roundw
                      case rel => exact ⟨j + 1, by omega, by go_num, by rw [← N.out]; rfl, BF.out⟩
                      case measure => simp [intOf]; omega
                    · have N := Lib.hid (allN_next (c := false) HPP.out (by rw [DE.out, he, decide_eq_false hat]; rfl))
                      have hna : ((A : Int) == (Z : Int) + (j : Int)) = false := beq_f (by omega)
                      go_wp2_with fail
                      refine wp_region_quiet_below (by kernel_rfl) (by kernel_rfl) ?_
                      repeat (go_big_quiet_step (fail))
                      refine wpQuiet_nil ?_
                      intro wq hqq
                      have BQ := Lib.hid (quiet_out hqq)
                      clear hqq
                      have BF := Lib.hid (BDD.out.trans (BQ.out.mono BDD.out.size))
                      go_wp2_with fail
                      go_roundw
                      case rel => exact ⟨j + 1, by omega, by go_num, by rw [← N.out]; rfl, BF.out⟩
                      case measure => simp [intOf]; omega
              · obtain rfl : j = y.n := by omega
                have HBG := Lib.hid (begins_drop (ts := ts) (p := p) (m := y.n) (fs := y.fs) (by rw [HT.out.len]; omega))
                obtain ⟨P, hP⟩ : ∃ P, P = allN y.n (fitAt ts p y.fs) := ⟨_, rfl⟩
                rw [← hP] at HBG ⊢
                clear hP x0q
                cases P
                · have N := Lib.hid (SNO.out HBG.out)
                  go_wp2_with fail
                  go_roundw
                  case rel => exact ⟨k + 1, by omega, by go_num, by rw [N.out]; rfl, HBJ.out⟩
                  case measure => simp [intOf]; omega
                · have N := Lib.hid (SYES.out HBG.out)
                  go_wp2_with fail
                  go_roundw
                  case rel => exact ⟨k + 1, by omega, by go_num, by rw [N.out]; rfl, HBJ.out⟩
                  case measure => simp [intOf]; omega
    · obtain rfl : k = x.m := by omega
      go_wp2_with fail
      go_ret
      exact ⟨rfl, BW.out.trans (HB.out.mono BW.out.size)⟩
end Go.Proofs.Ytejooloflcldiaa
