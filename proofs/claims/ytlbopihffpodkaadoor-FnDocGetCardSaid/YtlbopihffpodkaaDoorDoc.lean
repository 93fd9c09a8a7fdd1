/- Documents as they lie in memory, and the laws' helpers on their fields and numbers. Conditions: what is read fits the model's sizes. -/
import Derived.Test.YtlbopihffpodkaaDoorMem
import Derived.Deep.RegionWith
namespace Go.Proofs.YtlbopihffpodkaaDoor
set_option maxRecDepth 100000
open Go.RowKit
theorem tab_any (xs : List Value) : xs = tab xs.length fun j => xs[j]?.getD undef :=
  tab_ext rfl fun j hj => by simp [hj]
theorem own_cell2 {w : World} {B : Nat} {e : TypeId} {size n : Nat} {v : Value} {g cap : Nat} {xs : List Value} (h : w.ownsRow B e size v n xs) (hv : v = .slice (some ⟨g, 0, none⟩) n cap) {j : Nat} (hj : j < n * size) : (∃ u, w.cell? ⟨g, j, none⟩ = some u) ∧ w.frozen? ⟨g, j, none⟩ = false := by
  subst hv
  refine ⟨⟨xs[j]'(by rw [h.1]; exact hj), ?_⟩, h.frozenAt j⟩
  rw [h.cellAt j hj]
  simp [h.1, hj]

theorem Rd.put {w : World} {g N : Nat} {F : Nat → Value} (h : Rd w (some ⟨g, 0, none⟩) N F) {p : Addr} (hp : g ≠ p.block) (u : Value) : Rd (w.setCell p u) (some ⟨g, 0, none⟩) N F := by
  rcases h with h | ⟨b, off, he, h⟩
  · exact .inl h
  · obtain ⟨rfl, rfl⟩ : g = b ∧ 0 = off := by simpa using he
    exact .inr ⟨_, _, rfl, fun j hj => (World.cell?_of_block (Below.heap_setCell _ _ _ _ hp)).trans (h j hj)⟩

structure Fd where
  name : ByteArray
  text : ByteArray
def nthD (fs : List Fd) (i : Nat) : Fd := fs[i]?.getD ⟨ByteArray.empty, ByteArray.empty⟩
theorem nthD_eq {fs : List Fd} {i : Nat} (h : i < fs.length) : nthD fs i = fs[i] := by simp [nthD, h]
def fdC (fs : List Fd) (j : Nat) : Value := if j % 2 = 0 then .string (nthD fs (j / 2)).name else .string (nthD fs (j / 2)).text
/-- A slice that reads as fs. -/
structure Flds (w : World) (a : Option Addr) (n : Nat) (fs : List Fd) : Prop where
  len : fs.length = n
  fit : ∀ j, (nthD fs j).name.size ≤ maxLen ∧ ((nthD fs j).text.size ≤ maxLen)
  rd : Rd w a (n * 2) (fdC fs)
theorem Flds.below {w w' : World} {a : Option Addr} {n : Nat} {fs : List Fd} (h : Flds w a n fs) (hb : Below w.heap.size w w') : Flds w' a n fs := ⟨h.len, h.fit, h.rd.below hb⟩
theorem Flds.drewN {w : World} {a : Option Addr} {n : Nat} {fs : List Fd} (h : Flds w a n fs) (k : Nat) : Flds (w.drewN k) a n fs := ⟨h.len, h.fit, h.rd⟩
theorem Flds.alloc {w : World} {a : Option Addr} {n : Nat} {fs : List Fd} (h : Flds w a n fs) (o : Obj) : Flds (w.alloc o) a n fs := ⟨h.len, h.fit, h.rd.alloc o⟩
theorem Flds.put {w : World} {g n : Nat} {fs : List Fd} (h : Flds w (some ⟨g, 0, none⟩) n fs) {p : Addr} (hp : g ≠ p.block) (u : Value) : Flds (w.setCell p u) (some ⟨g, 0, none⟩) n fs := ⟨h.len, h.fit, h.rd.put hp u⟩
theorem Flds.pos {w : World} {a : Option Addr} {n i : Nat} {fs : List Fd} (h : Flds w a n fs) (hi : i < n) : ∃ b off, a = some ⟨b, off, none⟩ ∧ ∀ i, i < n →
    w.cell? ⟨b, off + i * 2, none⟩ = some (.string (nthD fs i).name) ∧ w.cell? ⟨b, off + i * 2 + 1, none⟩ = some (.string (nthD fs i).text) := by
  obtain ⟨b, off, rfl, hc⟩ := h.rd.pos (k := i * 2) (by omega)
  refine ⟨b, off, rfl, fun i hi => ⟨?_, ?_⟩⟩
  · rw [hc (i * 2) (by omega), fdC, if_pos (by omega), Nat.mul_div_cancel _ (by omega)]
  · rw [Nat.add_assoc, hc (i * 2 + 1) (by omega), fdC, if_neg (by omega), show (i * 2 + 1) / 2 = i by omega]
theorem info_Fd : (Tryd.prog.info? 49).map (fun i => (i.zero, i.size, i.bytes)) = some (some (.agg #[.string ByteArray.empty, .string ByteArray.empty]), 2, 32) := by kernel_rfl
theorem szField_any (t : ByteArray) (u : ByteArray) (left : Int) (w : World) (ht : t.size ≤ maxLen) (hu : u.size ≤ maxLen) (h0 : 0 ≤ left) (h1 : left ≤ 1048576) :
    Calls Tryd.prog 62 #[.agg #[.string t, .string u], .int .i64 left] w fun e w' => ∃ r : Int, e = .returned (.int .i64 r) ∧ -1 ≤ r ∧ r ≤ left ∧ Below w.heap.size w w' := by
  unfold maxLen at ht hu
  by_cases hn : left - (t.size : Int) < 0
  · go_enter Tryd.func62, Tryd.ntmps62
    go_wp2_with fail
    go_ret
    exact ⟨_, rfl, by omega, by omega, (Below.refl _ _).alloc (Nat.le_refl _) _⟩
  · by_cases hn2 : left - (t.size : Int) - (u.size : Int) < 0
    · go_enter Tryd.func62, Tryd.ntmps62
      go_wp2_with fail
      go_ret
      exact ⟨_, rfl, by omega, by omega, (Below.refl _ _).alloc (Nat.le_refl _) _⟩
    · go_enter Tryd.func62, Tryd.ntmps62
      go_wp2_with fail
      go_ret
      exact ⟨_, rfl, by omega, by omega, (Below.refl _ _).alloc (Nat.le_refl _) _⟩
theorem szFieldS_any (a : Option Addr) (n cap : Nat) (fs : List Fd) (left : Int) (w : World) (hx : Flds w a n fs) (hn : n ≤ maxLen) (h0 : 0 ≤ left) (h1 : left ≤ 1048576) :
    Calls Tryd.prog 42 #[.slice a n cap, .int .i64 left] w fun e w' => ∃ r : Int, e = .returned (.int .i64 r) ∧ -1 ≤ r ∧ r ≤ left ∧ (0 ≤ r → (n : Int) ≤ left) ∧ Below w.heap.size w w' := by
  have HX := Lib.hid hx; clear hx
  have c2 : Tryd.prog.cellsOf 86 = 2 := by kernel_rfl
  unfold maxLen at hn
  by_cases hneg : left - (n : Int) < 0
  · go_enter Tryd.func42, Tryd.ntmps42
    go_wp2_with fail
    go_ret
    exact ⟨_, rfl, by omega, by omega, fun h => by omega, Below.refl _ _⟩
  · go_enter Tryd.func42, Tryd.ntmps42
    go_wp2_with fail
    go_loopw [1, 5] (fun t i wr => ∃ (k : Nat) (r : Int), k ≤ n ∧ i = .int .i64 k ∧ t = .int .i64 r ∧ 0 ≤ r ∧ r ≤ left ∧ Below w.heap.size w wr) (fun _ i _ => n - (intOf i).toNat)
    case atStart => exact ⟨0, _, Nat.zero_le _, rfl, rfl, by omega, by omega, Below.refl _ _⟩
    case round =>
      obtain ⟨k, r, hk, rfl, rfl, hr0, hr1, hb⟩ := hrel
      by_cases hlt : k < n
      · obtain ⟨b, off, rfl, hc⟩ := (HX.out.below hb).pos hlt
        obtain ⟨x0, x1⟩ := hc k hlt
        obtain ⟨f0, f1⟩ := HX.out.fit k
        have HB := Lib.hid hb; clear hb hc
        have F0 := Lib.hid f0; clear f0
        have F1 := Lib.hid f1; clear f1
        go_wp2_with fail
        refine (szField_any _ _ r _ F0.out F1.out hr0 (by omega)).mono ?_
        rintro e w1 ⟨r2, rfl, hr2, hr3, hb1⟩
        have HB1 := Lib.hid (HB.out.trans (hb1.mono HB.out.size)); clear hb1
        by_cases hneg2 : r2 < 0
        · go_wp2_with fail
          go_ret
          exact ⟨_, rfl, by omega, by omega, fun h => by omega, HB1.out⟩
        · go_wp2_with fail
          go_roundw
          case rel => exact ⟨k + 1, r2, by omega, by go_num, rfl, by omega, by omega, HB1.out⟩
          case measure => simp [intOf]; omega
      · have HB := Lib.hid hb; clear hb
        go_wp2_with fail
        go_ret
        exact ⟨r, rfl, by omega, hr1, fun _ => by omega, HB.out⟩
theorem toField_any (t : ByteArray) (u : ByteArray) (w : World) :
    Calls Tryd.prog 64 #[.agg #[.string t, .string u]] w fun e w' => e = .returned (.agg #[.string t, .string u]) ∧ Below w.heap.size w w' := by
  go_enter Tryd.func64, Tryd.ntmps64
  go_wp2_with fail
  exact bodyPost_ret (v := .agg #[.string t, .string u]) (by simp [results, Tryd.results64, go_sem]) rfl ⟨rfl, (((Below.refl _ _).alloc (Nat.le_refl _) _).alloc (by simp) _).alloc (by simp; omega) _⟩
set_option maxHeartbeats 1000000 in
theorem toFieldS_any (a : Option Addr) (n cap : Nat) (fs : List Fd) (w : World) (hx : Flds w a n fs) (hn : n ≤ 1048576) :
    Calls Tryd.prog 44 #[.slice a n cap] w fun e w' => e = .returned (.slice (some ⟨w.heap.size, 0, none⟩) n n) ∧ Flds w' (some ⟨w.heap.size, 0, none⟩) n fs ∧ Below w.heap.size w w' := by
  have HX := Lib.hid hx; clear hx
  obtain ⟨i0, hi, hz0, hz1, hz2⟩ := info_parts info_Fd
  have c2 : Tryd.prog.cellsOf 86 = 2 := by kernel_rfl
  have c2' : Tryd.prog.cellsOf 49 = 2 := by kernel_rfl
  go_enter Tryd.func44, Tryd.ntmps44
  go_wp2_with (first | (refine wpList_make_full _ rfl (.tmp 6) (.tmp 6) _ rfl w.heap.size 49 i0 _ 2 Tryd.underlying23 hi hz0 hz1 .i64 .i64 _ _ n rfl rfl rfl rfl (by rw [hz2]; omega) (by unfold maxLen; omega) (Nat.le_refl _) ?_; intro w1 hown hg))
  have hb1 : Below w.heap.size w w1 := (Below.refl _ _).grown hg (Nat.le_refl _) (by simp)
  have hlen := hown.1
  rw [tab_any (madeCells _ _).toList, hlen] at hown
  obtain ⟨Z, hZ⟩ : ∃ Z : Nat → Value, Z = fun j => ((madeCells (Value.agg #[.string ByteArray.empty, .string ByteArray.empty]).cells (n * 2)).toList[j]?).getD undef := ⟨_, rfl⟩
  rw [← hZ] at hown
  have HO := Lib.hid hown; clear hown hg hlen hZ
  have HB := Lib.hid hb1; clear hb1
  go_loopw [4] (fun i wr => ∃ k : Nat, k ≤ n ∧ i = .int .i64 k ∧ wr.ownsRow w.heap.size 49 2 (.slice (some ⟨w.heap.size, 0, none⟩) n n) n (tab (n * 2) (upTo (k * 2) (fdC fs) Z)) ∧ Below w.heap.size w wr) (fun i _ => n - (intOf i).toNat)
  case atStart => exact ⟨0, Nat.zero_le _, rfl, by rw [Nat.zero_mul, tab_upTo_zero]; exact HO.out, HB.out⟩
  case round =>
    obtain ⟨k, hk, rfl, hown, hb⟩ := hrel
    by_cases hlt : k < n
    · obtain ⟨b, off, rfl, hc⟩ := (HX.out.below hb).pos hlt
      obtain ⟨x0, x1⟩ := hc k hlt
      have OW := Lib.hid hown; clear hown
      have HB2 := Lib.hid hb; clear hb hc
      go_wp2_with fail
      refine (toField_any _ _ _).mono ?_
      rintro e w2 ⟨rfl, hb2⟩
      have O2 := own_below OW.out hb2 (Nat.le_refl _)
      obtain ⟨⟨v0, hc0⟩, hf0⟩ := own_cell2 O2 rfl (j := k * 2) (by omega)
      obtain ⟨⟨v1, hc1⟩, hf1⟩ := own_cell2 O2 rfl (j := k * 2 + 1) (by omega)
      have S0 := O2.stored (k * 2) (.string (nthD fs k).name)
      have S1 := S0.1.stored (k * 2 + 1) (.string (nthD fs k).text)
      have OX := S1.1
      rw [tab_upTo_set (by omega) (by rw [fdC, if_pos (by omega), Nat.mul_div_cancel _ (by omega)]), tab_upTo_set (by omega) (by rw [fdC, if_neg (by omega), show (k * 2 + 1) / 2 = k by omega])] at OX
      have BX := Lib.hid (((HB2.out.trans (hb2.mono HB2.out.size)).setCell (p := ⟨w.heap.size, k * 2, none⟩) (Nat.le_refl _) (.string (nthD fs k).name)).setCell (p := ⟨w.heap.size, k * 2 + 1, none⟩) (Nat.le_refl _) (.string (nthD fs k).text))
      have OX1 := Lib.hid OX
      clear O2 S0 S1 OX hb2
      go_wp2_with fail
      go_roundw
      case rel => exact ⟨k + 1, by omega, by go_num, by rw [show (k + 1) * 2 = k * 2 + 1 + 1 by omega]; exact OX1.out, BX.out⟩
      case measure => simp [intOf]; omega
    · obtain rfl : k = n := by omega
      have OW := Lib.hid hown; clear hown
      have HB2 := Lib.hid hb; clear hb
      go_wp2_with fail
      go_ret
      exact ⟨rfl, ⟨HX.out.len, HX.out.fit, Rd.of_own (by have := OW.out; rwa [tab_upTo_full] at this)⟩, HB2.out⟩
theorem eqField_same (t : ByteArray) (u : ByteArray) (w : World) :
    Calls Tryd.prog 59 #[.agg #[.string t, .string u], .agg #[.string t, .string u]] w fun e w' => e = .returned (.bool true) ∧ Below w.heap.size w w' := by
  go_enter Tryd.func59, Tryd.ntmps59
  go_wp2_with fail
  go_ret
  exact ⟨rfl, ((Below.refl _ _).alloc (Nat.le_refl _) _).alloc (by simp) _⟩
theorem eqFieldS_same (a : Option Addr) (n c : Nat) (fs : List Fd) (b : Option Addr) (d : Nat) (w : World) (hx : Flds w a n fs) (hy : Flds w b n fs) (hn : n ≤ maxLen) :
    Calls Tryd.prog 36 #[.slice a n c, .slice b n d] w fun e w' => e = .returned (.bool true) ∧ Below w.heap.size w w' := by
  have HX := Lib.hid hx; clear hx
  have HY := Lib.hid hy; clear hy
  unfold maxLen at hn
  have c2 : Tryd.prog.cellsOf 49 = 2 := by kernel_rfl
  go_enter Tryd.func36, Tryd.ntmps36
  go_wp2_with fail
  go_loopw [5] (fun i wr => ∃ k : Nat, k ≤ n ∧ i = .int .i64 k ∧ Below w.heap.size w wr) (fun i _ => n - (intOf i).toNat)
  case atStart => exact ⟨0, Nat.zero_le _, rfl, Below.refl _ _⟩
  case round =>
    obtain ⟨k, hk, rfl, hb⟩ := hrel
    by_cases hlt : k < n
    · obtain ⟨b1, o1, rfl, hc1⟩ := (HX.out.below hb).pos hlt
      obtain ⟨x0, x1⟩ := hc1 k hlt
      obtain ⟨b2, o2, rfl, hc2⟩ := (HY.out.below hb).pos hlt
      obtain ⟨y0, y1⟩ := hc2 k hlt
      have HB := Lib.hid hb
      clear hc1 hc2 hb
      go_wp2_with fail
      go_region_with (go_at_call 59; refine (eqField_same _ _ _).mono ?_; rintro e w1 ⟨rfl, hb1⟩; have BB := Lib.hid (Below.trans (Below.drew HB.out) (hb1.mono (show w.heap.size ≤ wr.heap.size from HB.out.size))); clear hb1)
      all_goals
        go_wp2_with fail
        go_roundw
        case rel => exact ⟨k + 1, by omega, by go_num, BB.out⟩
        case measure => simp [intOf]; omega
    · have HB := Lib.hid hb; clear hb
      go_wp2_with fail
      go_ret
      exact ⟨rfl, HB.out⟩

structure Ad where
  name : ByteArray
  num : Int
def nthA (fs : List Ad) (i : Nat) : Ad := fs[i]?.getD ⟨ByteArray.empty, 0⟩
theorem nthA_eq {fs : List Ad} {i : Nat} (h : i < fs.length) : nthA fs i = fs[i] := by simp [nthA, h]
def adC (fs : List Ad) (j : Nat) : Value := if j % 2 = 0 then .string (nthA fs (j / 2)).name else .int .i64 (nthA fs (j / 2)).num
/-- A slice that reads as fs. -/
structure Atts (w : World) (a : Option Addr) (n : Nat) (fs : List Ad) : Prop where
  len : fs.length = n
  fit : ∀ j, (nthA fs j).name.size ≤ maxLen ∧ ((Lit.int .i64 (nthA fs j).num).wf = true)
  rd : Rd w a (n * 2) (adC fs)
theorem Atts.below {w w' : World} {a : Option Addr} {n : Nat} {fs : List Ad} (h : Atts w a n fs) (hb : Below w.heap.size w w') : Atts w' a n fs := ⟨h.len, h.fit, h.rd.below hb⟩
theorem Atts.drewN {w : World} {a : Option Addr} {n : Nat} {fs : List Ad} (h : Atts w a n fs) (k : Nat) : Atts (w.drewN k) a n fs := ⟨h.len, h.fit, h.rd⟩
theorem Atts.alloc {w : World} {a : Option Addr} {n : Nat} {fs : List Ad} (h : Atts w a n fs) (o : Obj) : Atts (w.alloc o) a n fs := ⟨h.len, h.fit, h.rd.alloc o⟩
theorem Atts.put {w : World} {g n : Nat} {fs : List Ad} (h : Atts w (some ⟨g, 0, none⟩) n fs) {p : Addr} (hp : g ≠ p.block) (u : Value) : Atts (w.setCell p u) (some ⟨g, 0, none⟩) n fs := ⟨h.len, h.fit, h.rd.put hp u⟩
theorem Atts.pos {w : World} {a : Option Addr} {n i : Nat} {fs : List Ad} (h : Atts w a n fs) (hi : i < n) : ∃ b off, a = some ⟨b, off, none⟩ ∧ ∀ i, i < n →
    w.cell? ⟨b, off + i * 2, none⟩ = some (.string (nthA fs i).name) ∧ w.cell? ⟨b, off + i * 2 + 1, none⟩ = some (.int .i64 (nthA fs i).num) := by
  obtain ⟨b, off, rfl, hc⟩ := h.rd.pos (k := i * 2) (by omega)
  refine ⟨b, off, rfl, fun i hi => ⟨?_, ?_⟩⟩
  · rw [hc (i * 2) (by omega), adC, if_pos (by omega), Nat.mul_div_cancel _ (by omega)]
  · rw [Nat.add_assoc, hc (i * 2 + 1) (by omega), adC, if_neg (by omega), show (i * 2 + 1) / 2 = i by omega]
theorem info_Ad : (Tryd.prog.info? 51).map (fun i => (i.zero, i.size, i.bytes)) = some (some (.agg #[.string ByteArray.empty, .int .i64 0]), 2, 24) := by kernel_rfl
theorem szAttr_any (t : ByteArray) (u : Int) (left : Int) (w : World) (ht : t.size ≤ maxLen) (h0 : 0 ≤ left) (h1 : left ≤ 1048576) :
    Calls Tryd.prog 63 #[.agg #[.string t, .int .i64 u], .int .i64 left] w fun e w' => ∃ r : Int, e = .returned (.int .i64 r) ∧ -1 ≤ r ∧ r ≤ left ∧ Below w.heap.size w w' := by
  unfold maxLen at ht
  by_cases hn : left - (t.size : Int) < 0
  · go_enter Tryd.func63, Tryd.ntmps63
    go_wp2_with fail
    go_ret
    exact ⟨_, rfl, by omega, by omega, (Below.refl _ _).alloc (Nat.le_refl _) _⟩
  · go_enter Tryd.func63, Tryd.ntmps63
    go_wp2_with fail
    go_ret
    exact ⟨_, rfl, by omega, by omega, (Below.refl _ _).alloc (Nat.le_refl _) _⟩
theorem szAttrS_any (a : Option Addr) (n cap : Nat) (fs : List Ad) (left : Int) (w : World) (hx : Atts w a n fs) (hn : n ≤ maxLen) (h0 : 0 ≤ left) (h1 : left ≤ 1048576) :
    Calls Tryd.prog 43 #[.slice a n cap, .int .i64 left] w fun e w' => ∃ r : Int, e = .returned (.int .i64 r) ∧ -1 ≤ r ∧ r ≤ left ∧ (0 ≤ r → (n : Int) ≤ left) ∧ Below w.heap.size w w' := by
  have HX := Lib.hid hx; clear hx
  have c2 : Tryd.prog.cellsOf 88 = 2 := by kernel_rfl
  unfold maxLen at hn
  by_cases hneg : left - (n : Int) < 0
  · go_enter Tryd.func43, Tryd.ntmps43
    go_wp2_with fail
    go_ret
    exact ⟨_, rfl, by omega, by omega, fun h => by omega, Below.refl _ _⟩
  · go_enter Tryd.func43, Tryd.ntmps43
    go_wp2_with fail
    go_loopw [1, 5] (fun t i wr => ∃ (k : Nat) (r : Int), k ≤ n ∧ i = .int .i64 k ∧ t = .int .i64 r ∧ 0 ≤ r ∧ r ≤ left ∧ Below w.heap.size w wr) (fun _ i _ => n - (intOf i).toNat)
    case atStart => exact ⟨0, _, Nat.zero_le _, rfl, rfl, by omega, by omega, Below.refl _ _⟩
    case round =>
      obtain ⟨k, r, hk, rfl, rfl, hr0, hr1, hb⟩ := hrel
      by_cases hlt : k < n
      · obtain ⟨b, off, rfl, hc⟩ := (HX.out.below hb).pos hlt
        obtain ⟨x0, x1⟩ := hc k hlt
        obtain ⟨f0, f1⟩ := HX.out.fit k
        have HB := Lib.hid hb; clear hb hc
        have F0 := Lib.hid f0; clear f0
        have F1 := Lib.hid f1; clear f1
        go_wp2_with fail
        refine (szAttr_any _ _ r _ F0.out hr0 (by omega)).mono ?_
        rintro e w1 ⟨r2, rfl, hr2, hr3, hb1⟩
        have HB1 := Lib.hid (HB.out.trans (hb1.mono HB.out.size)); clear hb1
        by_cases hneg2 : r2 < 0
        · go_wp2_with fail
          go_ret
          exact ⟨_, rfl, by omega, by omega, fun h => by omega, HB1.out⟩
        · go_wp2_with fail
          go_roundw
          case rel => exact ⟨k + 1, r2, by omega, by go_num, rfl, by omega, by omega, HB1.out⟩
          case measure => simp [intOf]; omega
      · have HB := Lib.hid hb; clear hb
        go_wp2_with fail
        go_ret
        exact ⟨r, rfl, by omega, hr1, fun _ => by omega, HB.out⟩
theorem toAttr_any (t : ByteArray) (u : Int) (w : World) :
    Calls Tryd.prog 65 #[.agg #[.string t, .int .i64 u]] w fun e w' => e = .returned (.agg #[.string t, .int .i64 u]) ∧ Below w.heap.size w w' := by
  go_enter Tryd.func65, Tryd.ntmps65
  go_wp2_with fail
  exact bodyPost_ret (v := .agg #[.string t, .int .i64 u]) (by simp [results, Tryd.results65, go_sem]) rfl ⟨rfl, (((Below.refl _ _).alloc (Nat.le_refl _) _).alloc (by simp) _).alloc (by simp; omega) _⟩
set_option maxHeartbeats 1000000 in
theorem toAttrS_any (a : Option Addr) (n cap : Nat) (fs : List Ad) (w : World) (hx : Atts w a n fs) (hn : n ≤ 1048576) :
    Calls Tryd.prog 45 #[.slice a n cap] w fun e w' => e = .returned (.slice (some ⟨w.heap.size, 0, none⟩) n n) ∧ Atts w' (some ⟨w.heap.size, 0, none⟩) n fs ∧ Below w.heap.size w w' := by
  have HX := Lib.hid hx; clear hx
  obtain ⟨i0, hi, hz0, hz1, hz2⟩ := info_parts info_Ad
  have c2 : Tryd.prog.cellsOf 88 = 2 := by kernel_rfl
  have c2' : Tryd.prog.cellsOf 51 = 2 := by kernel_rfl
  go_enter Tryd.func45, Tryd.ntmps45
  go_wp2_with (first | (refine wpList_make_full _ rfl (.tmp 6) (.tmp 6) _ rfl w.heap.size 51 i0 _ 2 Tryd.underlying24 hi hz0 hz1 .i64 .i64 _ _ n rfl rfl rfl rfl (by rw [hz2]; omega) (by unfold maxLen; omega) (Nat.le_refl _) ?_; intro w1 hown hg))
  have hb1 : Below w.heap.size w w1 := (Below.refl _ _).grown hg (Nat.le_refl _) (by simp)
  have hlen := hown.1
  rw [tab_any (madeCells _ _).toList, hlen] at hown
  obtain ⟨Z, hZ⟩ : ∃ Z : Nat → Value, Z = fun j => ((madeCells (Value.agg #[.string ByteArray.empty, .int .i64 0]).cells (n * 2)).toList[j]?).getD undef := ⟨_, rfl⟩
  rw [← hZ] at hown
  have HO := Lib.hid hown; clear hown hg hlen hZ
  have HB := Lib.hid hb1; clear hb1
  go_loopw [4] (fun i wr => ∃ k : Nat, k ≤ n ∧ i = .int .i64 k ∧ wr.ownsRow w.heap.size 51 2 (.slice (some ⟨w.heap.size, 0, none⟩) n n) n (tab (n * 2) (upTo (k * 2) (adC fs) Z)) ∧ Below w.heap.size w wr) (fun i _ => n - (intOf i).toNat)
  case atStart => exact ⟨0, Nat.zero_le _, rfl, by rw [Nat.zero_mul, tab_upTo_zero]; exact HO.out, HB.out⟩
  case round =>
    obtain ⟨k, hk, rfl, hown, hb⟩ := hrel
    by_cases hlt : k < n
    · obtain ⟨b, off, rfl, hc⟩ := (HX.out.below hb).pos hlt
      obtain ⟨x0, x1⟩ := hc k hlt
      have OW := Lib.hid hown; clear hown
      have HB2 := Lib.hid hb; clear hb hc
      go_wp2_with fail
      refine (toAttr_any _ _ _).mono ?_
      rintro e w2 ⟨rfl, hb2⟩
      have O2 := own_below OW.out hb2 (Nat.le_refl _)
      obtain ⟨⟨v0, hc0⟩, hf0⟩ := own_cell2 O2 rfl (j := k * 2) (by omega)
      obtain ⟨⟨v1, hc1⟩, hf1⟩ := own_cell2 O2 rfl (j := k * 2 + 1) (by omega)
      have S0 := O2.stored (k * 2) (.string (nthA fs k).name)
      have S1 := S0.1.stored (k * 2 + 1) (.int .i64 (nthA fs k).num)
      have OX := S1.1
      rw [tab_upTo_set (by omega) (by rw [adC, if_pos (by omega), Nat.mul_div_cancel _ (by omega)]), tab_upTo_set (by omega) (by rw [adC, if_neg (by omega), show (k * 2 + 1) / 2 = k by omega])] at OX
      have BX := Lib.hid (((HB2.out.trans (hb2.mono HB2.out.size)).setCell (p := ⟨w.heap.size, k * 2, none⟩) (Nat.le_refl _) (.string (nthA fs k).name)).setCell (p := ⟨w.heap.size, k * 2 + 1, none⟩) (Nat.le_refl _) (.int .i64 (nthA fs k).num))
      have OX1 := Lib.hid OX
      clear O2 S0 S1 OX hb2
      go_wp2_with fail
      go_roundw
      case rel => exact ⟨k + 1, by omega, by go_num, by rw [show (k + 1) * 2 = k * 2 + 1 + 1 by omega]; exact OX1.out, BX.out⟩
      case measure => simp [intOf]; omega
    · obtain rfl : k = n := by omega
      have OW := Lib.hid hown; clear hown
      have HB2 := Lib.hid hb; clear hb
      go_wp2_with fail
      go_ret
      exact ⟨rfl, ⟨HX.out.len, HX.out.fit, Rd.of_own (by have := OW.out; rwa [tab_upTo_full] at this)⟩, HB2.out⟩
theorem eqAttr_same (t : ByteArray) (u : Int) (w : World) :
    Calls Tryd.prog 60 #[.agg #[.string t, .int .i64 u], .agg #[.string t, .int .i64 u]] w fun e w' => e = .returned (.bool true) ∧ Below w.heap.size w w' := by
  go_enter Tryd.func60, Tryd.ntmps60
  go_wp2_with fail
  go_ret
  exact ⟨rfl, ((Below.refl _ _).alloc (Nat.le_refl _) _).alloc (by simp) _⟩
theorem eqAttrS_same (a : Option Addr) (n c : Nat) (fs : List Ad) (b : Option Addr) (d : Nat) (w : World) (hx : Atts w a n fs) (hy : Atts w b n fs) (hn : n ≤ maxLen) :
    Calls Tryd.prog 37 #[.slice a n c, .slice b n d] w fun e w' => e = .returned (.bool true) ∧ Below w.heap.size w w' := by
  have HX := Lib.hid hx; clear hx
  have HY := Lib.hid hy; clear hy
  unfold maxLen at hn
  have c2 : Tryd.prog.cellsOf 51 = 2 := by kernel_rfl
  go_enter Tryd.func37, Tryd.ntmps37
  go_wp2_with fail
  go_loopw [5] (fun i wr => ∃ k : Nat, k ≤ n ∧ i = .int .i64 k ∧ Below w.heap.size w wr) (fun i _ => n - (intOf i).toNat)
  case atStart => exact ⟨0, Nat.zero_le _, rfl, Below.refl _ _⟩
  case round =>
    obtain ⟨k, hk, rfl, hb⟩ := hrel
    by_cases hlt : k < n
    · obtain ⟨b1, o1, rfl, hc1⟩ := (HX.out.below hb).pos hlt
      obtain ⟨x0, x1⟩ := hc1 k hlt
      obtain ⟨b2, o2, rfl, hc2⟩ := (HY.out.below hb).pos hlt
      obtain ⟨y0, y1⟩ := hc2 k hlt
      have HB := Lib.hid hb
      clear hc1 hc2 hb
      go_wp2_with fail
      go_region_with (go_at_call 60; refine (eqAttr_same _ _ _).mono ?_; rintro e w1 ⟨rfl, hb1⟩; have BB := Lib.hid (Below.trans (Below.drew HB.out) (hb1.mono (show w.heap.size ≤ wr.heap.size from HB.out.size))); clear hb1)
      all_goals
        go_wp2_with fail
        go_roundw
        case rel => exact ⟨k + 1, by omega, by go_num, BB.out⟩
        case measure => simp [intOf]; omega
    · have HB := Lib.hid hb; clear hb
      go_wp2_with fail
      go_ret
      exact ⟨rfl, HB.out⟩
end Go.Proofs.YtlbopihffpodkaaDoor
