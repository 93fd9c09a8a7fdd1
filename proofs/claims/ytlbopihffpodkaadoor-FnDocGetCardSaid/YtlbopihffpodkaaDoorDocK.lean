/- The walks of the laws' helpers that mark a document's rows and look for the marks. Conditions: what is marked is the call's own. -/
import Derived.Test.YtlbopihffpodkaaDoorDocB
import Derived.Test.YtlbopihffpodkaaDoorMark
import Derived.Deep.RegionWith
namespace Go.Proofs.YtlbopihffpodkaaDoor
set_option maxRecDepth 100000
open Go.RowKit
theorem cells_Ad : Tryd.prog.cellsOf 51 = 2 := by kernel_rfl
theorem cells_Fd : Tryd.prog.cellsOf 49 = 2 := by kernel_rfl
theorem own_cellK {w : World} {B : Nat} {e : TypeId} {size n : Nat} {v : Value} {g cap : Nat} {xs : List Value} (h : w.ownsRow B e size v n xs) (hv : v = .slice (some ⟨g, 0, none⟩) n cap) {j : Nat} (hj : j < n * size) : (∃ u, w.cell? ⟨g, j, none⟩ = some u) ∧ w.frozen? ⟨g, j, none⟩ = false := by
  subst hv
  refine ⟨⟨xs[j]'(by rw [h.1]; exact hj), ?_⟩, h.frozenAt j⟩
  rw [h.cellAt j hj]
  simp [h.1, hj]
def marksT (k : Nat) (j : Nat) : Value := if j % 2 = 0 then .string (markS (k + j)) else .int .i64 ((k + j : Nat) : Int)
set_option maxHeartbeats 1000000 in
theorem markAttrS_any (a : Option Addr) (n cap : Nat) (k : Nat) (B : Nat) (F : Nat → Value) (w : World) (ho : w.ownsRow B 51 2 (.slice a n cap) n (tab (n * 2) F)) (h0 : 0 < k) (h1 : k + n * 2 ≤ 1152921504606846976) :
    Calls Tryd.prog 39 #[.slice a n cap, .int .i64 k] w fun e w' => e = .returned (.int .i64 ((k + n * 2 : Nat) : Int)) ∧ w'.ownsRow B 51 2 (.slice a n cap) n (tab (n * 2) (marksT k)) ∧ w.grownBy w' (Value.slice a n cap).ownBlock := by
  have HO := Lib.hid ho; clear ho
  have c4 := cells_Ad
  go_enter Tryd.func39, Tryd.ntmps39
  go_wp2_with fail
  go_loopw [1, 5] (fun v i wr => ∃ m : Nat, m ≤ n ∧ i = .int .i64 m ∧ v = .int .i64 ((k + m * 2 : Nat) : Int) ∧ wr.ownsRow B 51 2 (.slice a n cap) n (tab (n * 2) (upTo (m * 2) (marksT k) F)) ∧ w.grownBy wr (Value.slice a n cap).ownBlock) (fun _ i _ => n - (intOf i).toNat)
  case atStart => exact ⟨0, Nat.zero_le _, rfl, rfl, by rw [Nat.zero_mul, tab_upTo_zero]; exact HO.out, World.grownBy.refl _ _⟩
  case round =>
    obtain ⟨m, hm, rfl, rfl, hown, hgr⟩ := hrel
    by_cases hlt : m < n
    · obtain ⟨g, rfl, hB, hgs⟩ := own_pos hown (by omega)
      have OW := Lib.hid hown; clear hown
      have GR := Lib.hid hgr; clear hgr
      obtain ⟨q, hq⟩ : ∃ q, q = k + m * 2 := ⟨_, rfl⟩
      rw [← hq]
      have hq1 : 0 < q := by omega
      have hq2 : q + 2 ≤ 1152921504606846976 := by omega
      have HQ := Lib.hid hq; clear hq
      go_wp2_with fail
      refine (markText_any q (by omega) (by omega) _).mono ?_
      rintro e w1 ⟨rfl, hb⟩
      have O1 := own_below OW.out hb (Nat.le_refl _)
      obtain ⟨⟨v0, hc0⟩, hf0⟩ := own_cellK O1 rfl (j := m * 2) (by omega)
      obtain ⟨⟨v1, hc1⟩, hf1⟩ := own_cellK O1 rfl (j := m * 2 + 1) (by omega)
      have S0 := O1.stored (m * 2) (.string (markS q))
      have S1 := S0.1.stored (m * 2 + 1) (.int .i64 ((q : Int) + 1))
      have OX := S1.1
      rw [tab_upTo_set (by omega) (by rw [marksT, if_pos (by omega), HQ.out]), tab_upTo_set (by omega) (by rw [marksT, if_neg (by omega), HQ.out]; exact vint (by omega))] at OX
      have G1 := Lib.hid (grownBy_trans GR.out (grownBy_trans (grownBy_of_below hb _) (grownBy_trans S0.2 S1.2)))
      have OX1 := Lib.hid OX
      clear O1 S0 S1 OX hb
      go_wp2_with fail
      go_roundw
      case rel => exact ⟨m + 1, by omega, by go_num, vint (by have := HQ.out; omega), by rw [show (m + 1) * 2 = m * 2 + 1 + 1 by omega]; exact OX1.out, G1.out⟩
      case measure => simp [intOf]; omega
    · obtain rfl : m = n := by omega
      have OW := Lib.hid hown; clear hown
      have GR := Lib.hid hgr; clear hgr
      go_wp2_with fail
      go_ret
      exact ⟨rfl, by have := OW.out; rwa [tab_upTo_full] at this, GR.out⟩
set_option maxHeartbeats 1000000 in
theorem heldAttrS_any (a : Option Addr) (n cap : Nat) (k : Nat) (w : World) (hr : Rd w a (n * 2) (marksT k)) (h0 : 0 < k) (h1 : k + n * 2 ≤ 1152921504606846976) :
    Calls Tryd.prog 41 #[.slice a n cap, .int .i64 k] w fun e w' => e = .returned (.int .i64 ((k + n * 2 : Nat) : Int)) ∧ Below w.heap.size w w' := by
  have HR := Lib.hid hr; clear hr
  have c4 := cells_Ad
  go_enter Tryd.func41, Tryd.ntmps41
  go_wp2_with fail
  go_loopw [1, 5] (fun v i wr => ∃ m : Nat, m ≤ n ∧ i = .int .i64 m ∧ v = .int .i64 ((k + m * 2 : Nat) : Int) ∧ Below w.heap.size w wr) (fun _ i _ => n - (intOf i).toNat)
  case atStart => exact ⟨0, Nat.zero_le _, rfl, rfl, Below.refl _ _⟩
  case round =>
    obtain ⟨m, hm, rfl, rfl, hb⟩ := hrel
    by_cases hlt : m < n
    · obtain ⟨b, off, rfl, hc⟩ := (HR.out.below hb).pos (show m * 2 < n * 2 by omega)
      obtain ⟨q, hq⟩ : ∃ q, q = k + m * 2 := ⟨_, rfl⟩
      rw [← hq]
      have hq1 : 0 < q := by omega
      have hq2 : q + 2 ≤ 1152921504606846976 := by omega
      have hc0 : wr.cell? ⟨b, off + m * 2, none⟩ = some (.string (markS q)) := by rw [hc (m * 2) (by omega), marksT, if_pos (by omega), hq]
      have hc1 : wr.cell? ⟨b, off + m * 2 + 1, none⟩ = some (.int .i64 ((q : Int) + 1)) := by rw [Nat.add_assoc, hc (m * 2 + 1) (by omega), marksT, if_neg (by omega), hq]; exact congrArg some (vint (by omega))
      have HQ := Lib.hid hq; clear hq hc
      have HB := Lib.hid hb; clear hb
      have hlb := World.block_lt_of_cell? wr _ hc0
      have M := Lib.hid (fun w => markText_any q (by omega) (by omega) w)
      go_wp2_with fail
      go_region_with (go_at_call 61; refine (M.out _).mono ?_; rintro e w1 ⟨rfl, hb1⟩; have hd0 := (hb1.cell (p := ⟨b, off + m * 2, none⟩) hlb).trans hc0; have hd1 := (hb1.cell (p := ⟨b, off + m * 2 + 1, none⟩) hlb).trans hc1; have BB := Lib.hid ((Below.drew HB.out).trans (hb1.mono (show w.heap.size ≤ wr.heap.size from HB.out.size))); clear hb1)
      all_goals
        go_wp2_with fail
        go_roundw
        case rel => exact ⟨m + 1, by omega, by go_num, vint (by have := HQ.out; omega), BB.out⟩
        case measure => simp [intOf]; omega
    · obtain rfl : m = n := by omega
      have HB := Lib.hid hb; clear hb
      go_wp2_with fail
      go_ret
      exact ⟨rfl, HB.out⟩
def marksF (k : Nat) (j : Nat) : Value := .string (markS (k + j))
set_option maxRecDepth 100000 in
set_option maxHeartbeats 1000000 in
theorem markFieldS_any (a : Option Addr) (n cap : Nat) (k : Nat) (B : Nat) (F : Nat → Value) (w : World) (ho : w.ownsRow B 49 2 (.slice a n cap) n (tab (n * 2) F)) (h0 : 0 < k) (h1 : k + n * 2 ≤ 1152921504606846976) :
    Calls Tryd.prog 38 #[.slice a n cap, .int .i64 k] w fun e w' => e = .returned (.int .i64 ((k + n * 2 : Nat) : Int)) ∧ w'.ownsRow B 49 2 (.slice a n cap) n (tab (n * 2) (marksF k)) ∧ w.grownBy w' (Value.slice a n cap).ownBlock := by
  have HO := Lib.hid ho; clear ho
  have c4 := cells_Fd
  go_enter Tryd.func38, Tryd.ntmps38
  go_wp2_with fail
  go_loopw [1, 5] (fun v i wr => ∃ m : Nat, m ≤ n ∧ i = .int .i64 m ∧ v = .int .i64 ((k + m * 2 : Nat) : Int) ∧ wr.ownsRow B 49 2 (.slice a n cap) n (tab (n * 2) (upTo (m * 2) (marksF k) F)) ∧ w.grownBy wr (Value.slice a n cap).ownBlock) (fun _ i _ => n - (intOf i).toNat)
  case atStart => exact ⟨0, Nat.zero_le _, rfl, rfl, by rw [Nat.zero_mul, tab_upTo_zero]; exact HO.out, World.grownBy.refl _ _⟩
  case round =>
    obtain ⟨m, hm, rfl, rfl, hown, hgr⟩ := hrel
    by_cases hlt : m < n
    · obtain ⟨g, rfl, hB, hgs⟩ := own_pos hown (by omega)
      have OW := Lib.hid hown; clear hown
      have GR := Lib.hid hgr; clear hgr
      obtain ⟨q, hq⟩ : ∃ q, q = k + m * 2 := ⟨_, rfl⟩
      rw [← hq]
      have hq1 : 0 < q := by omega
      have hq2 : q + 2 ≤ 1152921504606846976 := by omega
      have HQ := Lib.hid hq; clear hq
      go_wp2_with fail
      refine (markText_any q (by omega) (by omega) _).mono ?_
      rintro e w1 ⟨rfl, hb⟩
      have O1 := own_below OW.out hb (Nat.le_refl _)
      obtain ⟨⟨v0, hc0⟩, hf0⟩ := own_cellK O1 rfl (j := m * 2) (by omega)
      have S0 := O1.stored (m * 2) (.string (markS q))
      have OX := S0.1
      rw [tab_upTo_set (by omega) (by rw [marksF, HQ.out])] at OX
      have G1 := Lib.hid (grownBy_trans GR.out (grownBy_trans (grownBy_of_below hb _) S0.2))
      have OX1 := Lib.hid OX
      clear O1 S0 OX hb
      go_wp2_with fail
      refine (markText_any (q + 1) (by omega) (by omega) _).mono ?_
      rintro e w2 ⟨rfl, hb⟩
      have O2 := own_below OX1.out hb (Nat.le_refl _)
      obtain ⟨⟨v1, hc1⟩, hf1⟩ := own_cellK O2 rfl (j := m * 2 + 1) (by omega)
      have S1 := O2.stored (m * 2 + 1) (.string (markS (q + 1)))
      have OX := S1.1
      rw [tab_upTo_set (by omega) (by rw [marksF, HQ.out]; exact congrArg (fun u => Value.string (markS u)) (by omega))] at OX
      have G2 := Lib.hid (grownBy_trans G1.out (grownBy_trans (grownBy_of_below hb _) S1.2))
      have OX2 := Lib.hid OX
      clear O2 S1 OX hb hc0 hf0
      go_wp2_with fail
      go_roundw
      case rel => exact ⟨m + 1, by omega, by go_num, vint (by have := HQ.out; omega), by rw [show (m + 1) * 2 = m * 2 + 1 + 1 by omega]; exact OX2.out, G2.out⟩
      case measure => simp [intOf]; omega
    · obtain rfl : m = n := by omega
      have OW := Lib.hid hown; clear hown
      have GR := Lib.hid hgr; clear hgr
      go_wp2_with fail
      go_ret
      exact ⟨rfl, by have := OW.out; rwa [tab_upTo_full] at this, GR.out⟩
set_option maxHeartbeats 1000000 in
theorem heldFieldS_any (a : Option Addr) (n cap : Nat) (k : Nat) (w : World) (hr : Rd w a (n * 2) (marksF k)) (h0 : 0 < k) (h1 : k + n * 2 ≤ 1152921504606846976) :
    Calls Tryd.prog 40 #[.slice a n cap, .int .i64 k] w fun e w' => e = .returned (.int .i64 ((k + n * 2 : Nat) : Int)) ∧ Below w.heap.size w w' := by
  have HR := Lib.hid hr; clear hr
  have c4 := cells_Fd
  go_enter Tryd.func40, Tryd.ntmps40
  go_wp2_with fail
  go_loopw [1, 5] (fun v i wr => ∃ m : Nat, m ≤ n ∧ i = .int .i64 m ∧ v = .int .i64 ((k + m * 2 : Nat) : Int) ∧ Below w.heap.size w wr) (fun _ i _ => n - (intOf i).toNat)
  case atStart => exact ⟨0, Nat.zero_le _, rfl, rfl, Below.refl _ _⟩
  case round =>
    obtain ⟨m, hm, rfl, rfl, hb⟩ := hrel
    by_cases hlt : m < n
    · obtain ⟨b, off, rfl, hc⟩ := (HR.out.below hb).pos (show m * 2 < n * 2 by omega)
      obtain ⟨q, hq⟩ : ∃ q, q = k + m * 2 := ⟨_, rfl⟩
      rw [← hq]
      have hq1 : 0 < q := by omega
      have hq2 : q + 2 ≤ 1152921504606846976 := by omega
      have hc0 : wr.cell? ⟨b, off + m * 2, none⟩ = some (.string (markS q)) := by rw [hc (m * 2) (by omega), marksF, hq]
      have hc1 : wr.cell? ⟨b, off + m * 2 + 1, none⟩ = some (.string (markS (q + 1))) := by rw [Nat.add_assoc, hc (m * 2 + 1) (by omega), marksF, hq, Nat.add_assoc]
      have HQ := Lib.hid hq; clear hq hc
      have HB := Lib.hid hb; clear hb
      have hlb := World.block_lt_of_cell? wr _ hc0
      have M := Lib.hid (fun w => markText_any q (by omega) (by omega) w)
      have M1 := Lib.hid (fun w => markText_any (q + 1) (by omega) (by omega) w)
      go_wp2_with fail
      go_region_with (go_at_call 61; refine (M.out _).mono ?_; rintro e w1 ⟨rfl, hb1⟩; have hd0 := (hb1.cell (p := ⟨b, off + m * 2, none⟩) hlb).trans hc0; have hd1 := (hb1.cell (p := ⟨b, off + m * 2 + 1, none⟩) hlb).trans hc1; have hlb1 := World.block_lt_of_cell? w1 _ hd1; have B1 := Lib.hid ((Below.drew HB.out).trans (hb1.mono (show w.heap.size ≤ wr.heap.size from HB.out.size))); clear hb1)
      all_goals
        go_wp2_with fail
        go_region_with (go_at_call 61; refine (M1.out _).mono ?_; rintro e w2 ⟨rfl, hb2⟩; have he1 := (hb2.cell (p := ⟨b, off + m * 2 + 1, none⟩) hlb1).trans hd1; have BB := Lib.hid ((Below.drew B1.out).trans (hb2.mono (show w.heap.size ≤ w1.heap.size from B1.out.size))); clear hb2)
        all_goals
          go_wp2_with fail
          go_roundw
          case rel => exact ⟨m + 1, by omega, by go_num, vint (by have := HQ.out; omega), BB.out⟩
          case measure => simp [intOf]; omega
    · obtain rfl : m = n := by omega
      have HB := Lib.hid hb; clear hb
      go_wp2_with fail
      go_ret
      exact ⟨rfl, HB.out⟩
end Go.Proofs.YtlbopihffpodkaaDoor
