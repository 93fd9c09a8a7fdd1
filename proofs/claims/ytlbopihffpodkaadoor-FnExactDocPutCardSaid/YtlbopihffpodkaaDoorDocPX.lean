/- The law that tells that the program puts documents into text as the reference does. Condition: the library's table of powers stands. -/
import Derived.Test.YtlbopihffpodkaaDoorDocP
import Derived.Test.YtlbopihffpodkaaDoorOpenD
namespace Go.Proofs.YtlbopihffpodkaaDoor
set_option maxRecDepth 100000
open Go.RowKit
set_option maxHeartbeats 4000000 in
theorem xDocPut_any (x : DocA) {w : World} (hx : x.In w) (ht : Lib.TabIs Tryd.prog w "internal/strconv.uint64pow10" .u64 Lib.pow10Tab) :
    Calls Tryd.prog 6 #[x.v] w fun e w' => e = .returned (.bool true) ∧ Below w.heap.size w w' := by
  have HT := Lib.hid (Lib.tabBelow_of_tabIs ht); clear ht
  obtain ⟨id, a, n, c, fs, b, m, d, ns⟩ := x
  obtain ⟨hf, hg, hn, hm⟩ := hx
  have HX : Hid (Flds w a n fs) := hf
  have HY : Hid (Atts w b m ns) := hg
  have HN : Hid (n ≤ maxLen) := hn
  have HM : Hid (m ≤ maxLen) := hm
  clear hf hg hn hm
  show Calls Tryd.prog 6 #[.agg #[.int .i64 id, .slice a n c, .slice b m d]] w _
  go_enter Tryd.func6, Tryd.ntmps6
  go_wp2_with fail
  have BW : Hid (Below w.heap.size w (w.alloc (.cells #[.int .i64 id, .slice a n c, .slice b m d] 40))) := (Below.refl _ _).alloc (Nat.le_refl _) _
  have c0 : Hid ((w.alloc (.cells #[.int .i64 id, .slice a n c, .slice b m d] 40)).cell? ⟨w.heap.size, 0, none⟩ = some (.int .i64 id)) := World.cell?_alloc_at _ _ _ _ rfl
  have c1 : Hid ((w.alloc (.cells #[.int .i64 id, .slice a n c, .slice b m d] 40)).cell? ⟨w.heap.size, 1, none⟩ = some (.slice a n c)) := World.cell?_alloc_at _ _ _ _ rfl
  have c2 : Hid ((w.alloc (.cells #[.int .i64 id, .slice a n c, .slice b m d] 40)).cell? ⟨w.heap.size, 2, none⟩ = some (.slice b m d)) := World.cell?_alloc_at _ _ _ _ rfl
  have hsz : Hid (w.heap.size < (w.alloc (.cells #[.int .i64 id, .slice a n c, .slice b m d] 40)).heap.size) := by show _ < _; simp
  have X0 := Lib.hid (HX.out.below BW.out)
  have Y0 := Lib.hid (HY.out.below BW.out)
  generalize w.alloc (.cells #[.int .i64 id, .slice a n c, .slice b m d] 40) = W0 at *
  refine (szDoc_any _ _ _ _ _ _ _ _ _ _ _ X0.out Y0.out HN.out HM.out (by omega) (by omega)).mono ?_
  rintro e w1 ⟨r1, rfl, hr0, hr1, hr2, hb1⟩
  by_cases hneg : r1 < 0
  · have B1 := Lib.hid hb1; clear hb1
    go_wp2_with fail
    go_ret
    exact ⟨rfl, BW.out.trans (B1.out.mono BW.out.size)⟩
  · obtain ⟨hn2, hm2⟩ := hr2 (by omega)
    have HN2 : Hid (n ≤ 1048576) := by show n ≤ _; omega
    have HM2 : Hid (m ≤ 1048576) := by show m ≤ _; omega
    have e0 := (hb1.cell hsz.out).trans c0.out
    have e1 := (hb1.cell hsz.out).trans c1.out
    have e2 := (hb1.cell hsz.out).trans c2.out
    have B1 := Lib.hid hb1; clear hb1
    clear hn2 hm2 hr2
    go_wp2_with fail
    refine (toDoc_any _ _ _ _ _ _ _ _ _ _ (X0.out.below B1.out) (Y0.out.below B1.out) HN2.out HM2.out).mono ?_
    rintro e w2 ⟨a2, b2, rfl, hf2, hg2, hb2⟩
    have F2 := Lib.hid hf2; clear hf2
    have G2 := Lib.hid hg2; clear hg2
    have B2 := Lib.hid (B1.out.trans (hb2.mono B1.out.size)); clear hb2
    clear e0 e1 e2
    have e0 := (B2.out.cell hsz.out).trans c0.out
    have e1 := (B2.out.cell hsz.out).trans c1.out
    have e2 := (B2.out.cell hsz.out).trans c2.out
    unfold docV
    go_wp2_with fail
    refine (sDocPut_any _ _ _ _ _ _ _ _ _ _ F2.out G2.out HN.out HM.out).mono ?_
    rintro e w3 ⟨rfl, hb3⟩
    have B3 := Lib.hid (B2.out.trans (hb3.mono B2.out.size)); clear hb3
    clear e0 e1 e2
    have e0 := (B3.out.cell hsz.out).trans c0.out
    have e1 := (B3.out.cell hsz.out).trans c1.out
    have e2 := (B3.out.cell hsz.out).trans c2.out
    go_wp2_with fail
    refine (toDoc_any _ _ _ _ _ _ _ _ _ _ (X0.out.below B3.out) (Y0.out.below B3.out) HN2.out HM2.out).mono ?_
    rintro e w4 ⟨a4, b4, rfl, hf4, hg4, hb4⟩
    have F4 := Lib.hid hf4; clear hf4
    have G4 := Lib.hid hg4; clear hg4
    have B4 := Lib.hid (B3.out.trans (hb4.mono B3.out.size)); clear hb4
    clear e0 e1 e2
    have e0 := (B4.out.cell hsz.out).trans c0.out
    have e1 := (B4.out.cell hsz.out).trans c1.out
    have e2 := (B4.out.cell hsz.out).trans c2.out
    unfold docV
    go_wp2_with fail
    have C4 : Below w4.heap.size w4 (w4.alloc (.cells #[.int .i64 id, .slice a4 n n, .slice b4 m m] 26)) := (Below.refl _ _).alloc (Nat.le_refl _) _
    have x0 : Hid ((w4.alloc (.cells #[.int .i64 id, .slice a4 n n, .slice b4 m m] 26)).cell? ⟨w4.heap.size, 0, none⟩ = some (.int .i64 id)) := World.cell?_alloc_at _ _ _ _ rfl
    have x1 : Hid ((w4.alloc (.cells #[.int .i64 id, .slice a4 n n, .slice b4 m m] 26)).cell? ⟨w4.heap.size, 1, none⟩ = some (.slice a4 n n)) := World.cell?_alloc_at _ _ _ _ rfl
    have x2 : Hid ((w4.alloc (.cells #[.int .i64 id, .slice a4 n n, .slice b4 m m] 26)).cell? ⟨w4.heap.size, 2, none⟩ = some (.slice b4 m m)) := World.cell?_alloc_at _ _ _ _ rfl
    have xsz : Hid (w4.heap.size < (w4.alloc (.cells #[.int .i64 id, .slice a4 n n, .slice b4 m m] 26)).heap.size) := by show _ < _; simp
    have F5 := Lib.hid (F4.out.below C4)
    have G5 := Lib.hid (G4.out.below C4)
    have B5 := Lib.hid (B4.out.trans (C4.mono B4.out.size)); clear C4
    clear e0 e1 e2
    generalize w4.alloc (.cells #[.int .i64 id, .slice a4 n n, .slice b4 m m] 26) = W5 at *
    refine (DocPut_any _ _ _ _ _ _ _ _ _ _ F5.out G5.out HN.out HM.out (HT.out _ (BW.out.trans (B5.out.mono BW.out.size)))).mono ?_
    rintro e w6 ⟨rfl, hb6⟩
    have H6 := Lib.hid hb6
    have B6 := Lib.hid (B5.out.trans (hb6.mono B5.out.size)); clear hb6
    have e0 := (B6.out.cell hsz.out).trans c0.out
    have e1 := (B6.out.cell hsz.out).trans c1.out
    have e2 := (B6.out.cell hsz.out).trans c2.out
    have y0 := (H6.out.cell xsz.out).trans x0.out
    have y1 := (H6.out.cell xsz.out).trans x1.out
    have y2 := (H6.out.cell xsz.out).trans x2.out
    go_wp2_with fail
    go_region_with (first
      | (go_at_call 20; refine (toDoc_any _ _ _ _ _ _ _ _ _ _ (X0.out.below (Below.drew B6.out)) (Y0.out.below (Below.drew B6.out)) HN2.out HM2.out).mono ?_; rintro e w7 ⟨a7, b7, rfl, hf7, hg7, hb7⟩; have F7 := Lib.hid hf7; have G7 := Lib.hid hg7; have B7 := Lib.hid (Below.trans (Below.drew B6.out) (hb7.mono (show W0.heap.size ≤ w6.heap.size from B6.out.size))); have H7 := Lib.hid (Below.trans (Below.drew H6.out) (hb7.mono (show W5.heap.size ≤ w6.heap.size from H6.out.size))); have z0 := (H7.out.cell xsz.out).trans x0.out; have z1 := (H7.out.cell xsz.out).trans x1.out; have z2 := (H7.out.cell xsz.out).trans x2.out; clear hf7 hg7 hb7; unfold docV)
      | (go_at_call 16; refine (eqDoc_same _ _ _ _ _ _ _ _ _ _ _ _ _ _ (F5.out.below H7.out) (G5.out.below H7.out) F7.out G7.out HN.out HM.out).mono ?_; rintro e w8 ⟨rfl, hb8⟩; have B8 := Lib.hid (B7.out.trans (hb8.mono B7.out.size)); clear hb8))
    all_goals
      go_wp2_with fail
      go_ret
      exact ⟨rfl, BW.out.trans (B8.out.mono BW.out.size)⟩
end Go.Proofs.YtlbopihffpodkaaDoor
