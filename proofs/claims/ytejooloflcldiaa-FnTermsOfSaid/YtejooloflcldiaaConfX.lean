/- The program's and the reference's answers on how words are read are the same. Conditions: what is read fits the model's sizes. -/
import Derived.Test.YtejooloflcldiaaConfS
import Derived.Test.YtejooloflcldiaaSynT
import Derived.Test.YtejooloflcldiaaOpenC
import Derived.Deep.RegionWith
namespace Go.Proofs.Ytejooloflcldiaa
open Go.RowKit
theorem confOk_new {w : World} {B : Nat} {x y : ConfA} (h : CNew w B x y) : confOk x = confOk y := by
  unfold confOk
  rw [← h.n, ← h.ss, ← h.m, allN_congr (q := fun j => synAt x.n x.ss (nthY y.ys j)) fun j hj => ?_]
  have h1 := (h.each j (by rw [← h.m]; exact hj)).like
  unfold synAt
  rw [h1.n, h1.fs, h1.to]
theorem sConfOk_any (x : ConfA) (w : World) (hx : x.In w) :
    Calls Try.prog 11 #[x.v] w fun e w' => e = .returned (.bool (confOk x)) ∧ Below w.heap.size w w' := by
  have BA := Lib.hid ((Below.refl w.heap.size w).alloc (Nat.le_refl _) (.cells #[.slice x.a x.n x.c, .slice x.b x.m x.d] 30))
  have H := Lib.hid (l2Ok_any x _ (hx.below BA.out))
  clear hx
  unfold ConfA.v at H ⊢
  go_enter Try.func11, Try.ntmps11
  go_wp2_with fail
  refine H.out.mono ?_
  rintro e w' ⟨rfl, hb⟩
  have B1 := Lib.hid (BA.out.trans (hb.mono BA.out.size)); clear hb
  go_wp2_with fail
  go_ret
  exact ⟨rfl, B1.out⟩
set_option maxHeartbeats 1000000 in
theorem xConfOk_any (x : ConfA) {w : World} (hx : x.In w) :
    Calls Try.prog 3 #[x.v] w fun e w' => e = .returned (.bool true) ∧ Below w.heap.size w w' := by
  have HX := Lib.hid hx
  have FT := Lib.hid hx.fits
  clear hx
  have BA := Lib.hid ((Below.refl w.heap.size w).alloc (Nat.le_refl _) (.cells #[.slice x.a x.n x.c, .slice x.b x.m x.d] 25))
  have b0 := Lib.hid (show (w.alloc (.cells #[.slice x.a x.n x.c, .slice x.b x.m x.d] 25)).cell? ⟨w.heap.size, 0, none⟩ = some (.slice x.a x.n x.c) from World.cell?_alloc_at _ _ _ _ rfl)
  have b1 := Lib.hid (show (w.alloc (.cells #[.slice x.a x.n x.c, .slice x.b x.m x.d] 25)).cell? ⟨w.heap.size, 1, none⟩ = some (.slice x.b x.m x.d) from World.cell?_alloc_at _ _ _ _ rfl)
  have lz : Hid (w.heap.size < (w.alloc (.cells #[.slice x.a x.n x.c, .slice x.b x.m x.d] 25)).heap.size) := by show _ < _; simp
  unfold ConfA.v
  go_enter Try.func3, Try.ntmps3
  go_wp2_with fail
  generalize w.alloc (.cells #[.slice x.a x.n x.c, .slice x.b x.m x.d] 25) = W0 at *
  have l0 := b0.out
  have l1 := b1.out
  have SZ := Lib.hid (szConf_any x 1048576 W0 (HX.out.below BA.out) (by omega) (by omega))
  unfold ConfA.v at SZ
  go_wp2_with fail
  refine SZ.out.mono ?_
  rintro e w1 ⟨r, rfl, hr0, hr1, hr2, hb⟩
  clear SZ
  have l0 := (hb.cell lz.out).trans b0.out
  have l1 := (hb.cell lz.out).trans b1.out
  have G1 := Lib.hid hb
  have B1 := Lib.hid (BA.out.trans (hb.mono BA.out.size)); clear hb
  have R2 := Lib.hid hr2; clear hr2
  by_cases hneg : r < 0
  · go_wp2_with fail
    go_ret
    exact ⟨rfl, B1.out⟩
  · obtain ⟨p1, p2, p3⟩ := R2.out (by omega)
    have hn2 : x.n ≤ 1048576 := by omega
    have hm2 : x.m ≤ 1048576 := by omega
    have P3 := Lib.hid p3; clear p3
    have hnm : x.n ≤ maxLen := by unfold maxLen; omega
    have hmm : x.m ≤ maxLen := by unfold maxLen; omega
    have TC : ∀ w', Below w.heap.size w w' → Hid (Calls Try.prog 12 #[.agg #[.slice x.a x.n x.c, .slice x.b x.m x.d]] w' fun e w'' => ∃ y : ConfA, e = .returned y.v ∧ CNew w'' w'.heap.size x y ∧ Below w'.heap.size w' w'') := fun w' hb => toConf_any x w' (HX.out.below hb) hn2 hm2 P3.out
    clear p1 p2 hn2 hm2
    have T1 := TC _ B1.out
    go_wp2_with fail
    refine T1.out.mono ?_
    clear T1
    rintro e w2 ⟨y2, rfl, hq2, hb⟩
    have B2 := Lib.hid (B1.out.trans (hb.mono B1.out.size)); have G2 := Lib.hid (G1.out.trans (hb.mono G1.out.size)); clear hb
    have I2 := Lib.hid (hq2.in FT.out hnm hmm)
    have E2 := Lib.hid (confOk_new hq2); clear hq2
    have S2 := Lib.hid (sConfOk_any y2 w2 I2.out)
    have l0 := (G2.out.cell lz.out).trans b0.out
    have l1 := (G2.out.cell lz.out).trans b1.out
    go_wp2_with fail
    refine S2.out.mono ?_
    clear S2
    rintro e w3 ⟨rfl, hb⟩
    rw [← E2.out]
    have B3 := Lib.hid (B2.out.trans (hb.mono B2.out.size)); have G3 := Lib.hid (G2.out.trans (hb.mono G2.out.size)); clear hb
    have T3 := TC _ B3.out
    have l0 := (G3.out.cell lz.out).trans b0.out
    have l1 := (G3.out.cell lz.out).trans b1.out
    go_wp2_with fail
    refine T3.out.mono ?_
    clear T3
    rintro e w4 ⟨y4, rfl, hq4, hb⟩
    have B4 := Lib.hid (B3.out.trans (hb.mono B3.out.size)); have G4 := Lib.hid (G3.out.trans (hb.mono G3.out.size)); clear hb
    have I4 := Lib.hid (hq4.in FT.out hnm hmm)
    have E4 := Lib.hid (confOk_new hq4)
    have Q4 := Lib.hid hq4; clear hq4
    obtain ⟨a4, n4, c4, ss4, b4, m4, d4, ys4⟩ := y4
    have BB := Lib.hid ((Below.refl w4.heap.size w4).alloc (Nat.le_refl _) (.cells #[.slice a4 n4 c4, .slice b4 m4 d4] 30))
    have f0 := Lib.hid (show (w4.alloc (.cells #[.slice a4 n4 c4, .slice b4 m4 d4] 30)).cell? ⟨w4.heap.size, 0, none⟩ = some (.slice a4 n4 c4) from World.cell?_alloc_at _ _ _ _ rfl)
    have f1 := Lib.hid (show (w4.alloc (.cells #[.slice a4 n4 c4, .slice b4 m4 d4] 30)).cell? ⟨w4.heap.size, 1, none⟩ = some (.slice b4 m4 d4) from World.cell?_alloc_at _ _ _ _ rfl)
    have lz4 : Hid (w4.heap.size < (w4.alloc (.cells #[.slice a4 n4 c4, .slice b4 m4 d4] 30)).heap.size) := by show _ < _; simp
    have I5 := Lib.hid (I4.out.below BB.out)
    have B5 := Lib.hid (B4.out.trans (BB.out.mono B4.out.size))
    have G5 := Lib.hid (G4.out.trans (BB.out.mono G4.out.size))
    unfold ConfA.v
    go_wp2_with fail
    generalize w4.alloc (.cells #[.slice a4 n4 c4, .slice b4 m4 d4] 30) = W5 at *
    have k0 := f0.out
    have k1 := f1.out
    have CO := Lib.hid (ConfOk_any ⟨a4, n4, c4, ss4, b4, m4, d4, ys4⟩ W5 I5.out)
    rw [← E4.out] at CO
    unfold ConfA.v at CO
    obtain ⟨D4, hD4⟩ : ∃ D, D = w4.heap.size := ⟨_, rfl⟩
    rw [← hD4] at f0 f1 lz4 k0 k1 ⊢
    clear hD4
    go_wp2_with fail
    refine CO.out.mono ?_
    clear CO
    rintro e w6 ⟨rfl, hb⟩
    have I6 := Lib.hid (I5.out.below hb)
    have B6 := Lib.hid (B5.out.trans (hb.mono B5.out.size)); have G6 := Lib.hid (G5.out.trans (hb.mono G5.out.size))
    have H6 := Lib.hid hb
    have k0 := (hb.cell lz4.out).trans f0.out
    have k1 := (hb.cell lz4.out).trans f1.out
    clear hb
    have l0 := (G6.out.cell lz.out).trans b0.out
    have l1 := (G6.out.cell lz.out).trans b1.out
    have hne : (confOk x != confOk x) = false := by simp
    go_wp2_with fail
    go_region_with (first
      | (go_at_call 12; refine ((TC _ (Below.drew B6.out)).out).mono ?_; rintro e w7 ⟨y7, rfl, hq7, hb7⟩; have I7 := Lib.hid (hq7.in FT.out hnm hmm); have Q7 := Lib.hid (Q4.out.likes hq7); have B7 := Lib.hid (Below.trans (Below.drew B6.out) (hb7.mono (show w.heap.size ≤ w6.heap.size from B6.out.size))); have H7 := Lib.hid (Below.trans (Below.drew H6.out) (hb7.mono (show W5.heap.size ≤ w6.heap.size from H6.out.size))); have z0 := (H7.out.cell lz4.out).trans f0.out; have z1 := (H7.out.cell lz4.out).trans f1.out; have CE := Lib.hid (eqConf_same ⟨a4, n4, c4, ss4, b4, m4, d4, ys4⟩ y7 w7 (I6.out.below (Below.trans ((Below.refl _ _).drew) hb7)) I7.out Q7.out.1 Q7.out.2.1 Q7.out.2.2.1 Q7.out.2.2.2); clear hq7 hb7; unfold ConfA.v at CE; unfold ConfA.v)
      | (go_at_call 14; refine CE.out.mono ?_; rintro e w8 ⟨rfl, hb8⟩; have B8 := Lib.hid (B7.out.trans (hb8.mono B7.out.size)); clear hb8))
    all_goals
      go_wp2_with fail
      go_ret
      exact ⟨rfl, B8.out⟩
end Go.Proofs.Ytejooloflcldiaa
