/- The laws on a document's field and number. Conditions: what is read fits the model's sizes. -/
import Derived.Test.YtlbopihffpodkaaDocG
import Derived.Test.YtlbopihffpodkaaDocNum
import Derived.Test.YtlbopihffpodkaaQuiet
namespace Go.Proofs.Ytlbopihffpodkaa
open Go.RowKit Go.Sort
theorem strF {a b : ByteArray} (h : a ≠ b) : (a.toList == b.toList) = false := by
  simp only [beq_eq_false_iff_ne, ne_eq, ByteArray.toList_eq]
  intro e
  exact h (ByteArray.ext (Array.ext' e))
theorem strT {a b : ByteArray} (h : a = b) : (a.toList == b.toList) = true := by rw [h]; simp
theorem toList_irrefl (a : List UInt8) : ¬ a < a := List.lt_irrefl a
theorem fd_asc {n : Nat} {fs : List Fd} (h : allN n (fdAt fs) = true) : ∀ j i, i < j → j < n → (nthD fs i).name.toList < (nthD fs j).name.toList := by
  have h2 := allN_iff.1 h
  have step : ∀ j, 0 < j → j < n → (nthD fs (j - 1)).name.toList < (nthD fs j).name.toList := by
    intro j h0 hj
    have := h2 j hj
    simp only [fdAt, Bool.and_eq_true, Bool.or_eq_true, decide_eq_true_eq] at this
    rcases this.2 with h3 | h3
    · omega
    · exact (lessS_iff _ _).1 h3
  intro j
  induction j with
  | zero => intro i hi; omega
  | succ j ih =>
    intro i hi hj
    have s := step (j + 1) (by omega) hj
    rw [show j + 1 - 1 = j from rfl] at s
    rcases Nat.lt_or_ge i j with h3 | h3
    · exact List.lt_trans (ih i h3 (by omega)) s
    · obtain rfl : i = j := by omega
      exact s
theorem docOk_parts {id : Int} {n m : Nat} {fs : List Fd} {ns : List Ad} (h : docOk id n fs m ns = true) : idOk id = true ∧ n ≤ 3 ∧ m ≤ 3 ∧ allN n (fdAt fs) = true ∧ allN m (adAt ns) = true := by
  simp only [docOk, Bool.and_eq_true, decide_eq_true_eq] at h
  exact ⟨h.1.1.1.1, h.1.1.1.2, h.1.1.2, h.1.2, h.2⟩
/-- A field's text by its own name. -/
theorem field_own {id : Int} {n m k : Nat} {fs : List Fd} {ns : List Ad} (h : docOk id n fs m ns = true) (hk : k < n) : fieldT id n fs m ns (nthD fs k).name = (nthD fs k).text := by
  rw [fieldT, if_pos h]
  refine textAt_at hk ?_ (by simp [hitF])
  rw [allN_iff]
  intro j hj
  have := fd_asc (docOk_parts h).2.2.2.1 k j hj hk
  simp only [hitF, Bool.not_eq_true', beq_eq_false_iff_ne, ne_eq]
  intro e
  rw [e] at this
  exact toList_irrefl _ this
set_option maxRecDepth 20000 in
set_option maxHeartbeats 2000000 in
theorem FnDocField_any {w : World} (a : Option Addr) (n cap : Nat) (cs : List Int) (hx : Byts w a n cap cs) (hn : n ≤ maxLen) :
    Calls Try.prog 3 #[.slice a n cap] w fun e w' => e = .returned (.bool true) ∧ Below w.heap.size w w' := by
  have HX := Lib.hid hx; clear hx
  unfold maxLen at hn
  by_cases hlt : (1048576 : Int) < (n : Int)
  · go_enter Try.func3, Try.ntmps3
    go_wp2_with fail
    go_ret
    exact ⟨rfl, Below.refl _ _⟩
  have k2 : Try.prog.cellsOf 32 = 2 := by kernel_rfl
  have k3 : Try.prog.cellsOf 36 = 2 := by kernel_rfl
  go_enter Try.func3, Try.ntmps3
  go_wp2_with fail
  refine (DrawDocField_any _ _ _ _ HX.out (by omega)).mono ?_
  rintro e w1 ⟨x, t, rfl, ht, ho, hb⟩
  have OW := Lib.hid ho; clear ho
  have B1 := Lib.hid hb; clear hb
  unfold DocA.v docV
  go_wp2_with fail
  have BW : Hid (Below w.heap.size w (w1.alloc (.cells #[.int .i64 x.id, .slice x.a x.n x.c, .slice x.b x.m x.d] 26))) := B1.out.alloc B1.out.size _
  have c0 : Hid ((w1.alloc (.cells #[.int .i64 x.id, .slice x.a x.n x.c, .slice x.b x.m x.d] 26)).cell? ⟨w1.heap.size, 0, none⟩ = some (.int .i64 x.id)) := World.cell?_alloc_at _ _ _ _ rfl
  have c1 : Hid ((w1.alloc (.cells #[.int .i64 x.id, .slice x.a x.n x.c, .slice x.b x.m x.d] 26)).cell? ⟨w1.heap.size, 1, none⟩ = some (.slice x.a x.n x.c)) := World.cell?_alloc_at _ _ _ _ rfl
  have c2 : Hid ((w1.alloc (.cells #[.int .i64 x.id, .slice x.a x.n x.c, .slice x.b x.m x.d] 26)).cell? ⟨w1.heap.size, 2, none⟩ = some (.slice x.b x.m x.d)) := World.cell?_alloc_at _ _ _ _ rfl
  have hsz : Hid (w1.heap.size < (w1.alloc (.cells #[.int .i64 x.id, .slice x.a x.n x.c, .slice x.b x.m x.d] 26)).heap.size) := by show _ < _; simp
  have F0 := Lib.hid (OW.out.in.f.below ((Below.refl _ _).alloc (Nat.le_refl _) (.cells #[.int .i64 x.id, .slice x.a x.n x.c, .slice x.b x.m x.d] 26)))
  have G0 := Lib.hid (OW.out.in.g.below ((Below.refl _ _).alloc (Nat.le_refl _) (.cells #[.int .i64 x.id, .slice x.a x.n x.c, .slice x.b x.m x.d] 26)))
  have HN := Lib.hid OW.out.in.hn
  have HM := Lib.hid OW.out.in.hm
  have hn3 := OW.out.nf
  have hm3 := OW.out.nm
  clear OW
  generalize w1.alloc (.cells #[.int .i64 x.id, .slice x.a x.n x.c, .slice x.b x.m x.d] 26) = W0 at *
  obtain ⟨id, a0, n0, c0', fs, b0, m0, d0', ns⟩ := x
  dsimp only at *
  obtain ⟨T, hT⟩ : ∃ T, T = fieldT id n0 fs m0 ns t := ⟨_, rfl⟩
  have HTT := Lib.hid hT
  have C1 := Lib.hid (fun w hf hg => by have := DocField_any id a0 n0 c0' fs b0 m0 d0' ns t w hf hg HN.out HM.out; rwa [← hT] at this)
  have C2 := Lib.hid (fun w hf hg => by have := sDocField_any id a0 n0 c0' fs b0 m0 d0' ns t w hf hg HN.out HM.out; rwa [← hT] at this)
  clear hT
  have bt : (T.toList == T.toList) = true := by simp
  refine (C1.out _ F0.out G0.out).mono ?_
  rintro e w2 ⟨rfl, hb⟩
  have B2 := Lib.hid hb; clear hb
  have e0 := (B2.out.cell hsz.out).trans c0.out
  have e1 := (B2.out.cell hsz.out).trans c1.out
  have e2 := (B2.out.cell hsz.out).trans c2.out
  go_wp2_with fail
  refine (C2.out _ (F0.out.below B2.out) (G0.out.below B2.out)).mono ?_
  rintro e w3 ⟨rfl, hb⟩
  have B3 := Lib.hid (B2.out.trans (hb.mono B2.out.size)); clear hb
  clear e0 e1 e2
  have e0 := (B3.out.cell hsz.out).trans c0.out
  have e1 := (B3.out.cell hsz.out).trans c1.out
  have e2 := (B3.out.cell hsz.out).trans c2.out
  go_wp2_with fail
  refine (DocOk_any _ _ _ _ _ _ _ _ _ _ (F0.out.below B3.out) (G0.out.below B3.out) HN.out HM.out).mono ?_
  rintro e w4 ⟨rfl, hb⟩
  have B4 := Lib.hid (B3.out.trans (hb.mono B3.out.size)); clear hb
  clear e0 e1 e2
  have e0 := (B4.out.cell hsz.out).trans c0.out
  have e1 := (B4.out.cell hsz.out).trans c1.out
  have e2 := (B4.out.cell hsz.out).trans c2.out
  cases hok : docOk id n0 fs m0 ns
  · go_wp2_with fail
    refine (C2.out _ (F0.out.below B4.out) (G0.out.below B4.out)).mono ?_
    rintro e w5 ⟨rfl, hb⟩
    have B5 := Lib.hid (B4.out.trans (hb.mono B4.out.size)); clear hb
    go_wp2_with fail
    go_ret
    exact ⟨rfl, BW.out.trans (B5.out.mono BW.out.size)⟩
  · have OWN := Lib.hid (fun k (hk : k < n0) => field_own hok hk)
    have TE := Lib.hid (show T = textAt n0 fs t by rw [HTT.out, fieldT, if_pos hok])
    clear hok
    clear e0 e1 e2
    go_wp2_with fail
    go_loopw [6] (fun i wr => ∃ k : Nat, k ≤ n0 ∧ i = .int .i64 k ∧ allN k (fun j => !hitF fs t j) = true ∧ Below W0.heap.size W0 wr) (fun i _ => n0 - (intOf i).toNat)
    case atStart => exact ⟨0, Nat.zero_le _, rfl, rfl, B4.out⟩
    case round =>
      obtain ⟨k, hk, rfl, hall, hb⟩ := hrel
      have HA := Lib.hid hall; clear hall
      have HB := Lib.hid hb; clear hb
      have e0 := (HB.out.cell hsz.out).trans c0.out
      have e1 := (HB.out.cell hsz.out).trans c1.out
      have e2 := (HB.out.cell hsz.out).trans c2.out
      by_cases hlk : k < n0
      · obtain ⟨g, off, rfl, hc⟩ := (F0.out.below HB.out).pos hlk
        obtain ⟨x0, x1⟩ := hc k hlk
        clear hc
        have OK := Lib.hid (OWN.out k hlk)
        obtain ⟨nm, hnm⟩ : ∃ s, s = (nthD fs k).name := ⟨_, rfl⟩
        obtain ⟨tx, htx⟩ : ∃ s, s = (nthD fs k).text := ⟨_, rfl⟩
        have NM := Lib.hid hnm
        have TX := Lib.hid htx
        rw [← hnm] at x0
        rw [← htx] at x1
        have CK := Lib.hid (fun w hf hg => by have := DocField_any id (some ⟨g, off, none⟩) n0 c0' fs b0 m0 d0' ns nm w hf hg HN.out HM.out; rw [hnm, OK.out, ← htx] at this; rw [← hnm] at this; exact this)
        clear hnm htx
        have v1 : (0 : Int) ≤ (k : Int) := by omega
        have v2 : (k : Int) < (n0 : Int) := by omega
        have bx : (tx.toList != tx.toList) = false := by simp
        have q0 := cell_regrown e0
        have q1 := cell_regrown e1
        have q2 := cell_regrown e2
        have q3 := cell_regrown x0
        have q4 := cell_regrown x1
        go_wp2_with fail
        refine wp_region_quiet_below (by kernel_rfl) (by kernel_rfl) ?_
        repeat (go_big_quiet_step ((go_at_call 11; exact quiet_b fun w1 hb => CK.out _ ((F0.out.below HB.out).below hb) ((G0.out.below HB.out).below hb))))
        refine wpQuiet_nil ?_
        intro wq hqq
        have BQ := Lib.hid (quiet_out hqq)
        clear hqq
        clear q0 q1 q2 q3 q4
        have HBQ := Lib.hid (HB.out.trans (BQ.out.mono HB.out.size))
        have y0 := (BQ.out.cell (World.block_lt_of_cell? wr _ x0)).trans x0
        have y1 := (BQ.out.cell (World.block_lt_of_cell? wr _ x1)).trans x1
        clear e0 e1 e2 x0 x1
        have e0 := (HBQ.out.cell hsz.out).trans c0.out
        have e1 := (HBQ.out.cell hsz.out).trans c1.out
        have e2 := (HBQ.out.cell hsz.out).trans c2.out
        by_cases hit : nm = t
        · have bh := strT hit
          have TT := Lib.hid (show T = tx by rw [TE.out, TX.out]; exact textAt_at hlk HA.out (by rw [hitF, ← NM.out]; exact bh))
          have bT : (T.toList == tx.toList) = true := strT TT.out
          clear hit
          go_wp2_with fail
          go_ret
          exact ⟨rfl, BW.out.trans (HBQ.out.mono BW.out.size)⟩
        · have bh := strF hit
          have NX := Lib.hid (show allN (k + 1) (fun j => !hitF fs t j) = true from allN_step HA.out (by rw [hitF, ← NM.out, bh]; rfl))
          clear hit
          go_wp2_with fail
          go_roundw
          case rel => exact ⟨k + 1, by omega, by go_num, NX.out, HBQ.out⟩
          case measure => simp [intOf]; omega
      · obtain rfl : k = n0 := by omega
        have TT := Lib.hid (show T = ByteArray.empty by rw [TE.out]; exact textAt_no HA.out)
        have bE : T.toList = [] := by rw [TT.out, ByteArray.toList_eq]; rfl
        go_wp2_with fail
        go_ret
        exact ⟨rfl, BW.out.trans (HB.out.mono BW.out.size)⟩
set_option maxRecDepth 20000 in
set_option maxHeartbeats 2000000 in
theorem FnDocNum_any {w : World} (a : Option Addr) (n cap : Nat) (cs : List Int) (hx : Byts w a n cap cs) (hn : n ≤ maxLen) :
    Calls Try.prog 4 #[.slice a n cap] w fun e w' => e = .returned (.bool true) ∧ Below w.heap.size w w' := by
  have HX := Lib.hid hx; clear hx
  unfold maxLen at hn
  by_cases hlt : (1048576 : Int) < (n : Int)
  · go_enter Try.func4, Try.ntmps4
    go_wp2_with fail
    go_ret
    exact ⟨rfl, Below.refl _ _⟩
  have k2 : Try.prog.cellsOf 32 = 2 := by kernel_rfl
  have k3 : Try.prog.cellsOf 36 = 2 := by kernel_rfl
  go_enter Try.func4, Try.ntmps4
  go_wp2_with fail
  refine (DrawDocNum_any _ _ _ _ HX.out (by omega)).mono ?_
  rintro e w1 ⟨x, t, rfl, ht, ho, hb⟩
  have OW := Lib.hid ho; clear ho
  have B1 := Lib.hid hb; clear hb
  unfold DocA.v docV
  go_wp2_with fail
  have BW : Hid (Below w.heap.size w (w1.alloc (.cells #[.int .i64 x.id, .slice x.a x.n x.c, .slice x.b x.m x.d] 26))) := B1.out.alloc B1.out.size _
  have c0 : Hid ((w1.alloc (.cells #[.int .i64 x.id, .slice x.a x.n x.c, .slice x.b x.m x.d] 26)).cell? ⟨w1.heap.size, 0, none⟩ = some (.int .i64 x.id)) := World.cell?_alloc_at _ _ _ _ rfl
  have c1 : Hid ((w1.alloc (.cells #[.int .i64 x.id, .slice x.a x.n x.c, .slice x.b x.m x.d] 26)).cell? ⟨w1.heap.size, 1, none⟩ = some (.slice x.a x.n x.c)) := World.cell?_alloc_at _ _ _ _ rfl
  have c2 : Hid ((w1.alloc (.cells #[.int .i64 x.id, .slice x.a x.n x.c, .slice x.b x.m x.d] 26)).cell? ⟨w1.heap.size, 2, none⟩ = some (.slice x.b x.m x.d)) := World.cell?_alloc_at _ _ _ _ rfl
  have hsz : Hid (w1.heap.size < (w1.alloc (.cells #[.int .i64 x.id, .slice x.a x.n x.c, .slice x.b x.m x.d] 26)).heap.size) := by show _ < _; simp
  have F0 := Lib.hid (OW.out.in.f.below ((Below.refl _ _).alloc (Nat.le_refl _) (.cells #[.int .i64 x.id, .slice x.a x.n x.c, .slice x.b x.m x.d] 26)))
  have G0 := Lib.hid (OW.out.in.g.below ((Below.refl _ _).alloc (Nat.le_refl _) (.cells #[.int .i64 x.id, .slice x.a x.n x.c, .slice x.b x.m x.d] 26)))
  have HN := Lib.hid OW.out.in.hn
  have HM := Lib.hid OW.out.in.hm
  have hn3 := OW.out.nf
  have hm3 := OW.out.nm
  clear OW
  generalize w1.alloc (.cells #[.int .i64 x.id, .slice x.a x.n x.c, .slice x.b x.m x.d] 26) = W0 at *
  obtain ⟨id, a0, n0, c0', fs, b0, m0, d0', ns⟩ := x
  dsimp only at *
  obtain ⟨T, hT⟩ : ∃ T, T = numT id n0 fs m0 ns t := ⟨_, rfl⟩
  have HTT := Lib.hid hT
  have C1 := Lib.hid (fun w hf hg => by have := DocNum_any id a0 n0 c0' fs b0 m0 d0' ns t w hf hg HN.out HM.out; rwa [← hT] at this)
  have C2 := Lib.hid (fun w hf hg => by have := sDocNum_any id a0 n0 c0' fs b0 m0 d0' ns t w hf hg HN.out HM.out; rwa [← hT] at this)
  clear hT
  refine (C1.out _ F0.out G0.out).mono ?_
  rintro e w2 ⟨rfl, hb⟩
  have B2 := Lib.hid hb; clear hb
  have e0 := (B2.out.cell hsz.out).trans c0.out
  have e1 := (B2.out.cell hsz.out).trans c1.out
  have e2 := (B2.out.cell hsz.out).trans c2.out
  go_wp2_with fail
  refine (C2.out _ (F0.out.below B2.out) (G0.out.below B2.out)).mono ?_
  rintro e w3 ⟨rfl, hb⟩
  have B3 := Lib.hid (B2.out.trans (hb.mono B2.out.size)); clear hb
  clear e0 e1 e2
  have e0 := (B3.out.cell hsz.out).trans c0.out
  have e1 := (B3.out.cell hsz.out).trans c1.out
  have e2 := (B3.out.cell hsz.out).trans c2.out
  go_wp2_with fail
  refine (DocOk_any _ _ _ _ _ _ _ _ _ _ (F0.out.below B3.out) (G0.out.below B3.out) HN.out HM.out).mono ?_
  rintro e w4 ⟨rfl, hb⟩
  have B4 := Lib.hid (B3.out.trans (hb.mono B3.out.size)); clear hb
  clear e0 e1 e2
  have e0 := (B4.out.cell hsz.out).trans c0.out
  have e1 := (B4.out.cell hsz.out).trans c1.out
  have e2 := (B4.out.cell hsz.out).trans c2.out
  cases hok : docOk id n0 fs m0 ns
  · go_wp2_with fail
    refine (C2.out _ (F0.out.below B4.out) (G0.out.below B4.out)).mono ?_
    rintro e w5 ⟨rfl, hb⟩
    have B5 := Lib.hid (B4.out.trans (hb.mono B4.out.size)); clear hb
    go_wp2_with fail
    go_ret
    exact ⟨rfl, BW.out.trans (B5.out.mono BW.out.size)⟩
  · have TE := Lib.hid (show T = numAt m0 ns t by rw [HTT.out, numT, if_pos hok])
    clear hok
    clear e0 e1 e2
    go_wp2_with fail
    go_loop [6] (fun i => ∃ k : Nat, k ≤ m0 ∧ i = .int .i64 k ∧ allN k (fun j => !hitA ns t j) = true) (fun i => m0 - (intOf i).toNat)
    case atStart => exact ⟨0, Nat.zero_le _, rfl, rfl⟩
    case round =>
      obtain ⟨k, hk, rfl, hall⟩ := hrel
      have HA := Lib.hid hall; clear hall
      have e0 := (B4.out.cell hsz.out).trans c0.out
      have e1 := (B4.out.cell hsz.out).trans c1.out
      have e2 := (B4.out.cell hsz.out).trans c2.out
      by_cases hlk : k < m0
      · obtain ⟨g, off, rfl, hc⟩ := (G0.out.below B4.out).pos hlk
        obtain ⟨x0, x1⟩ := hc k hlk
        clear hc
        obtain ⟨nm, hnm⟩ : ∃ s, s = (nthA ns k).name := ⟨_, rfl⟩
        obtain ⟨tx, htx⟩ : ∃ s, s = (nthA ns k).num := ⟨_, rfl⟩
        have NM := Lib.hid hnm
        have TX := Lib.hid htx
        rw [← hnm] at x0
        rw [← htx] at x1
        clear hnm htx
        by_cases hit : nm = t
        · have bh := strT hit
          have TT := Lib.hid (show T = tx by rw [TE.out, TX.out]; exact numAt_at hlk HA.out (by rw [hitA, ← NM.out]; exact bh))
          have bT : (T == tx) = true := by rw [TT.out]; simp
          clear hit
          go_wp2_with fail
          go_ret
          exact ⟨rfl, BW.out.trans (B4.out.mono BW.out.size)⟩
        · have bh := strF hit
          have NX := Lib.hid (show allN (k + 1) (fun j => !hitA ns t j) = true from allN_step HA.out (by rw [hitA, ← NM.out, bh]; rfl))
          clear hit
          go_wp2_with fail
          go_round
          case rel => exact ⟨k + 1, by omega, by go_num, NX.out⟩
          case measure => simp [intOf]; omega
      · obtain rfl : k = m0 := by omega
        have TT := Lib.hid (show T = -1 by rw [TE.out]; exact numAt_no HA.out)
        have bE : (T == -1) = true := by rw [TT.out]; rfl
        go_wp2_with fail
        go_ret
        exact ⟨rfl, BW.out.trans (B4.out.mono BW.out.size)⟩
end Go.Proofs.Ytlbopihffpodkaa
