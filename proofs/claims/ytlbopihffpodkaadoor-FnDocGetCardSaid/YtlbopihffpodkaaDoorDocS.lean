/- Whole documents as they lie in memory, and the laws' helpers on them. Conditions: what is read fits the model's sizes. -/
import Derived.Test.YtlbopihffpodkaaDoorDoc
namespace Go.Proofs.YtlbopihffpodkaaDoor
set_option maxRecDepth 100000
open Go.RowKit
/-- A document's value. -/
def docV (id : Int) (a : Option Addr) (n c : Nat) (b : Option Addr) (m d : Nat) : Value := .agg #[.int .i64 id, .slice a n c, .slice b m d]
theorem szDoc_any (id : Int) (a : Option Addr) (n c : Nat) (fs : List Fd) (b : Option Addr) (m d : Nat) (ns : List Ad) (left : Int) (w : World) (hx : Flds w a n fs) (hy : Atts w b m ns) (hn : n ≤ maxLen) (hm : m ≤ maxLen) (h0 : 0 ≤ left) (h1 : left ≤ 1048576) :
    Calls Tryd.prog 19 #[docV id a n c b m d, .int .i64 left] w fun e w' => ∃ r : Int, e = .returned (.int .i64 r) ∧ -1 ≤ r ∧ r ≤ left ∧ (0 ≤ r → (n : Int) ≤ left ∧ (m : Int) ≤ left) ∧ Below w.heap.size w w' := by
  have HX := Lib.hid hx; clear hx
  have HY := Lib.hid hy; clear hy
  have HN := Lib.hid hn; clear hn
  have HM := Lib.hid hm; clear hm
  unfold docV
  go_enter Tryd.func19, Tryd.ntmps19
  go_wp2_with fail
  refine (szFieldS_any _ _ _ _ _ _ (HX.out.alloc _) HN.out h0 h1).mono ?_
  rintro e w1 ⟨r1, rfl, hr0, hr1, hr2, hb1⟩
  have B1 : Hid (Below w.heap.size w w1) := (((Below.refl _ _).alloc (Nat.le_refl _) _).trans (hb1.mono (by simp)))
  have c2 : w1.cell? ⟨w.heap.size, 2, none⟩ = some (.slice b m d) := (hb1.cell (by simp)).trans (World.cell?_alloc_at _ _ _ _ rfl)
  clear hb1
  have K1 := Lib.hid hr2; clear hr2
  by_cases hneg : r1 < 0
  · go_wp2_with fail
    go_ret
    exact ⟨_, rfl, by omega, by omega, fun h => by omega, B1.out⟩
  · go_wp2_with fail
    refine (szAttrS_any _ _ _ _ _ _ (HY.out.below B1.out) HM.out (by omega) (by omega)).mono ?_
    rintro e w2 ⟨r2, rfl, hs0, hs1, hs2, hb2⟩
    have B2 := Lib.hid (B1.out.trans (hb2.mono B1.out.size)); clear hb2
    have K2 := Lib.hid hs2; clear hs2
    by_cases hneg2 : r2 < 0
    · go_wp2_with fail
      go_ret
      exact ⟨_, rfl, by omega, by omega, fun h => by omega, B2.out⟩
    · go_wp2_with fail
      go_ret
      exact ⟨_, rfl, by omega, by omega, fun h => ⟨K1.out (by omega), by have := K2.out (by omega); omega⟩, B2.out⟩
theorem toDoc_at (id : Int) (a : Option Addr) (n c : Nat) (fs : List Fd) (b : Option Addr) (m d : Nat) (ns : List Ad) (w : World) (hx : Flds w a n fs) (hy : Atts w b m ns) (hn : n ≤ 1048576) (hm : m ≤ 1048576) :
    Calls Tryd.prog 20 #[docV id a n c b m d] w fun e w' => ∃ g1 g2 : Nat, e = .returned (docV id (some ⟨g1, 0, none⟩) n n (some ⟨g2, 0, none⟩) m m) ∧ w.heap.size ≤ g1 ∧ w.heap.size ≤ g2 ∧ Flds w' (some ⟨g1, 0, none⟩) n fs ∧ Atts w' (some ⟨g2, 0, none⟩) m ns ∧ Below w.heap.size w w' := by
  have HX := Lib.hid hx; clear hx
  have HY := Lib.hid hy; clear hy
  unfold docV
  go_enter Tryd.func20, Tryd.ntmps20
  go_wp2_with fail
  have RR0 := World.ownsRow_lit (base := w.heap.size) (e := 26) (size := 3) (w.alloc (.cells #[.int .i64 id, .slice a n c, .slice b m d] 40)) #[.int .i64 0, .slice none 0 0, .slice none 0 0] 1 (by simp) (by unfold maxLen; omega) rfl
  have RO0 := World.ownsRow_lit (base := w.heap.size) (e := 26) (size := 3) ((w.alloc (.cells #[.int .i64 id, .slice a n c, .slice b m d] 40)).alloc (.cells #[.int .i64 0, .slice none 0 0, .slice none 0 0] 26)) #[.int .i64 id, .slice none 0 0, .slice none 0 0] 1 (by simp; omega) (by unfold maxLen; omega) rfl
  rw [show ((w.alloc (.cells #[.int .i64 id, .slice a n c, .slice b m d] 40)).alloc (.cells #[.int .i64 0, .slice none 0 0, .slice none 0 0] 26)).heap.size = w.heap.size + 1 + 1 by simp] at RO0
  rw [show (w.alloc (.cells #[.int .i64 id, .slice a n c, .slice b m d] 40)).heap.size = w.heap.size + 1 by simp] at RR0
  have HRR := Lib.hid RR0; clear RR0
  have HRO := Lib.hid RO0; clear RO0
  refine (toFieldS_any _ _ _ _ _ (((HX.out.alloc _).alloc _).alloc _) hn).mono ?_
  rintro e w1 ⟨rfl, hf1, hb1⟩
  rw [show (((w.alloc (.cells #[.int .i64 id, .slice a n c, .slice b m d] 40)).alloc (.cells #[.int .i64 0, .slice none 0 0, .slice none 0 0] 26)).alloc (.cells #[.int .i64 id, .slice none 0 0, .slice none 0 0] 26)).heap.size = w.heap.size + 1 + 1 + 1 by simp] at hf1 ⊢
  obtain ⟨a1, ha1⟩ : ∃ a1 : Option Addr, a1 = some ⟨w.heap.size + 1 + 1 + 1, 0, none⟩ := ⟨_, rfl⟩
  rw [← ha1] at hf1 ⊢
  have B1 : Hid (Below w.heap.size w w1) := (((((Below.refl _ _).alloc (Nat.le_refl _) _).alloc (by simp) _).alloc (by simp; omega) _).trans (hb1.mono (by simp; omega)))
  have c2 : w1.cell? ⟨w.heap.size, 2, none⟩ = some (.slice b m d) := (hb1.cell (by simp; omega)).trans ((World.cell?_alloc_lt _ _ _ (by simp; omega)).trans ((World.cell?_alloc_lt _ _ _ (by simp)).trans (World.cell?_alloc_at _ _ _ _ rfl)))
  have O1 := own_below HRO.out hb1 (Nat.le_refl _)
  have R1 := own_below (HRR.out.alloc (.cells #[.int .i64 id, .slice none 0 0, .slice none 0 0] 26)) hb1 (Nat.le_refl _)
  have hc1 := O1.cellAt 1 (by omega)
  have hz1 := O1.frozenAt 1
  have S1 := O1.stored 1 (.slice a1 n n)
  have HO1 := Lib.hid O1
  have HR1 := Lib.hid (R1.kept S1.2 (.inr (by simp [Value.ownBlock])))
  have HS1 := Lib.hid S1.1
  have BS1 := Lib.hid (B1.out.setCell (p := ⟨w.heap.size + 1 + 1, 1, none⟩) (by simp; omega) (.slice a1 n n))
  have FS1 : Hid (Flds (w1.setCell ⟨w.heap.size + 1 + 1, 1, none⟩ (.slice a1 n n)) a1 n fs) := by subst ha1; exact hf1.put (by simp) _
  have c2' : (w1.setCell ⟨w.heap.size + 1 + 1, 1, none⟩ (.slice a1 n n)).cell? ⟨w.heap.size, 2, none⟩ = some (.slice b m d) := (World.cell?_of_block (Below.heap_setCell _ _ _ _ (by simp; omega))).trans c2
  clear S1 O1 R1 c2 hf1 hb1
  have HA1 := Lib.hid ha1; clear ha1
  simp only [List.getElem?_cons_succ, List.getElem?_cons_zero] at hc1
  go_wp2_with fail
  refine (toAttrS_any _ _ _ _ _ (HY.out.below BS1.out) hm).mono ?_
  rintro e w2 ⟨rfl, hf2, hb2⟩
  rw [show (w1.setCell ⟨w.heap.size + 1 + 1, 1, none⟩ (.slice a1 n n)).heap.size = w1.heap.size by simp] at hf2 ⊢
  obtain ⟨a2, ha2⟩ : ∃ a2 : Option Addr, a2 = some ⟨w1.heap.size, 0, none⟩ := ⟨_, rfl⟩
  rw [← ha2] at hf2 ⊢
  have B2 := Lib.hid (BS1.out.trans (hb2.mono BS1.out.size))
  have O2 := own_below HS1.out hb2 (Nat.le_refl _)
  have R2 := own_below HR1.out hb2 (Nat.le_refl _)
  have FS2 := FS1.out.below hb2
  have hw1 : w.heap.size + 1 + 1 < w1.heap.size := World.block_lt_of_cell? w1 _ (HO1.out.cellAt 0 (by omega))
  have hd1 := O2.cellAt 2 (by omega)
  have hz2 := O2.frozenAt 2
  have BS2 := Lib.hid (B2.out.setCell (p := ⟨w.heap.size + 1 + 1, 2, none⟩) (by simp; omega) (.slice a2 m m))
  have FS3 : Hid (Flds (w2.setCell ⟨w.heap.size + 1 + 1, 2, none⟩ (.slice a2 m m)) a1 n fs) := by have ha1 := HA1.out; subst ha1; exact FS2.put (by simp) _
  have FA3 : Hid (Atts (w2.setCell ⟨w.heap.size + 1 + 1, 2, none⟩ (.slice a2 m m)) a2 m ns) := by subst ha2; exact hf2.put (by simp; omega) _
  have e0 := O2.cellAt 0 (by omega)
  have e1 := O2.cellAt 1 (by omega)
  have g0 := R2.cellAt 0 (by omega)
  have g1 := R2.cellAt 1 (by omega)
  have g2 := R2.cellAt 2 (by omega)
  have z0 := R2.frozenAt 0
  have z1 := R2.frozenAt 1
  have z2 := R2.frozenAt 2
  clear O2 R2 FS2 hf2 hb2
  have HA2 := Lib.hid ha2; clear ha2
  have HW1 := Lib.hid hw1; clear hw1
  simp only [List.getElem?_cons_succ, List.getElem?_cons_zero, List.set_cons_succ, List.set_cons_zero] at hd1 e0 e1 g0 g1 g2
  go_wp2_with fail
  have BL := ((BS2.out.setCell (p := ⟨w.heap.size + 1, 0, none⟩) (by simp) (.int .i64 id)).setCell (p := ⟨w.heap.size + 1, 1, none⟩) (by simp) (.slice a1 n n)).setCell (p := ⟨w.heap.size + 1, 2, none⟩) (by simp) (.slice a2 m m)
  exact bodyPost_ret (v := .agg #[.int .i64 id, .slice a1 n n, .slice a2 m m]) (by simp [results, Tryd.results20, go_sem, g0, g1, g2]) rfl ⟨w.heap.size + 1 + 1 + 1, w1.heap.size, by rw [HA1.out, HA2.out], by omega, by have := HW1.out; omega, by have h := HA1.out; have f := FS3.out; subst h; exact ((f.put (by simp; omega) _).put (by simp; omega) _).put (by simp; omega) _, by have h := HA2.out; have f := FA3.out; have hh := HW1.out; subst h; exact ((f.put (by simp; omega) _).put (by simp; omega) _).put (by simp; omega) _, BL⟩
theorem toDoc_any (id : Int) (a : Option Addr) (n c : Nat) (fs : List Fd) (b : Option Addr) (m d : Nat) (ns : List Ad) (w : World) (hx : Flds w a n fs) (hy : Atts w b m ns) (hn : n ≤ 1048576) (hm : m ≤ 1048576) :
    Calls Tryd.prog 20 #[docV id a n c b m d] w fun e w' => ∃ a' b' : Option Addr, e = .returned (docV id a' n n b' m m) ∧ Flds w' a' n fs ∧ Atts w' b' m ns ∧ Below w.heap.size w w' :=
  (toDoc_at id a n c fs b m d ns w hx hy hn hm).mono fun _ _ ⟨_, _, he, _, _, hf, hg, hb⟩ => ⟨_, _, he, hf, hg, hb⟩
theorem eqDoc_same (id : Int) (a : Option Addr) (n c : Nat) (fs : List Fd) (b : Option Addr) (m d : Nat) (ns : List Ad) (a' : Option Addr) (c' : Nat) (b' : Option Addr) (d' : Nat) (w : World) (hx : Flds w a n fs) (hy : Atts w b m ns) (hx' : Flds w a' n fs) (hy' : Atts w b' m ns) (hn : n ≤ maxLen) (hm : m ≤ maxLen) :
    Calls Tryd.prog 16 #[docV id a n c b m d, docV id a' n c' b' m d'] w fun e w' => e = .returned (.bool true) ∧ Below w.heap.size w w' := by
  have HX := Lib.hid hx; clear hx
  have HY := Lib.hid hy; clear hy
  have HX' := Lib.hid hx'; clear hx'
  have HY' := Lib.hid hy'; clear hy'
  have HN := Lib.hid hn; clear hn
  have HM := Lib.hid hm; clear hm
  unfold docV
  go_enter Tryd.func16, Tryd.ntmps16
  go_wp2_with fail
  refine (eqFieldS_same _ _ _ _ _ _ _ ((HX.out.alloc _).alloc _) ((HX'.out.alloc _).alloc _) HN.out).mono ?_
  rintro e w1 ⟨rfl, hb1⟩
  have B1 : Hid (Below w.heap.size w w1) := ((((Below.refl _ _).alloc (Nat.le_refl _) _).alloc (by simp) _).trans (hb1.mono (by simp; omega)))
  have c2 : w1.cell? ⟨w.heap.size, 2, none⟩ = some (.slice b m d) := (hb1.cell (by simp; omega)).trans ((World.cell?_alloc_lt _ _ _ (by simp)).trans (World.cell?_alloc_at _ _ _ _ rfl))
  have c3 : w1.cell? ⟨w.heap.size + 1, 2, none⟩ = some (.slice b' m d') := (hb1.cell (by simp)).trans (World.cell?_alloc_at _ _ _ _ (by simp))
  clear hb1
  go_wp2_with fail
  refine (eqAttrS_same _ _ _ _ _ _ _ (HY.out.below B1.out) (HY'.out.below B1.out) HM.out).mono ?_
  rintro e w2 ⟨rfl, hb2⟩
  have B2 := Lib.hid (B1.out.trans (hb2.mono B1.out.size)); clear hb2
  go_wp2_with fail
  go_ret
  exact ⟨rfl, B2.out⟩
end Go.Proofs.YtlbopihffpodkaaDoor
