/- The walks of the laws' helpers on slices of terms, and of what marks how words are read. Conditions: what is read fits the model's sizes. -/
import Derived.Test.YtejooloflcldiaaPlain
import Derived.Test.YtejooloflcldiaaSynT
import Derived.Test.YtejooloflcldiaaMark
import Derived.Deep.RegionWith
namespace Go.Proofs.Ytejooloflcldiaa
open Go.RowKit
theorem cells_term : Try.prog.cellsOf 42 = 2 := by kernel_rfl
theorem own_cellT {w : World} {B : Nat} {e : TypeId} {size n : Nat} {v : Value} {g cap : Nat} {xs : List Value} (h : w.ownsRow B e size v n xs) (hv : v = .slice (some ⟨g, 0, none⟩) n cap) {j : Nat} (hj : j < n * size) : (∃ u, w.cell? ⟨g, j, none⟩ = some u) ∧ w.frozen? ⟨g, j, none⟩ = false := by
  subst hv
  refine ⟨⟨xs[j]'(by rw [h.1]; exact hj), ?_⟩, h.frozenAt j⟩
  rw [h.cellAt j hj]
  simp [h.1, hj]
theorem eqTerm_same (t : ByteArray) (p : Int) (w : World) :
    Calls Try.prog 53 #[.agg #[.string t, .int .i64 p], .agg #[.string t, .int .i64 p]] w fun e w' => e = .returned (.bool true) ∧ Below w.heap.size w w' := by
  go_enter Try.func53, Try.ntmps53
  go_wp2_with fail
  go_ret
  exact ⟨rfl, ((Below.refl _ _).alloc (Nat.le_refl _) _).alloc (by simp) _⟩
theorem eqTermS_same (a : Option Addr) (n c : Nat) (ts : List Tm) (b : Option Addr) (d : Nat) (w : World) (hx : Tms w a n ts) (hy : Tms w b n ts) (hn : n ≤ maxLen) :
    Calls Try.prog 28 #[.slice a n c, .slice b n d] w fun e w' => e = .returned (.bool true) ∧ Below w.heap.size w w' := by
  have HX := Lib.hid hx; clear hx
  have HY := Lib.hid hy; clear hy
  unfold maxLen at hn
  have c4 := cells_term
  go_enter Try.func28, Try.ntmps28
  go_wp2_with fail
  go_loopw [5] (fun i wr => ∃ k : Nat, k ≤ n ∧ i = .int .i64 k ∧ Below w.heap.size w wr) (fun i _ => n - (intOf i).toNat)
  case atStart => exact ⟨0, Nat.zero_le _, rfl, Below.refl _ _⟩
  case round =>
    obtain ⟨k, hk, rfl, hb⟩ := hrel
    by_cases hlt : k < n
    · obtain ⟨b1, o1, rfl, hc1⟩ := (HX.out.below hb).pos hlt
      obtain ⟨x0, x1⟩ := hc1 k hlt
      obtain ⟨b2, o2, rfl, hc2⟩ := (HY.out.below hb).pos hlt
      obtain ⟨y0, y1⟩ := hc2 k hlt
      have HB := Lib.hid hb
      clear hc1 hc2 hb
      go_wp2_with fail
      go_region_with (go_at_call 53; refine (eqTerm_same _ _ _).mono ?_; rintro e w1 ⟨rfl, hb1⟩; have BB := Lib.hid (Below.trans (Below.drew HB.out) (hb1.mono (show w.heap.size ≤ wr.heap.size from HB.out.size))); clear hb1)
      all_goals
        go_wp2_with fail
        go_roundw
        case rel => exact ⟨k + 1, by omega, by go_num, BB.out⟩
        case measure => simp [intOf]; omega
    · have HB := Lib.hid hb; clear hb
      go_wp2_with fail
      go_ret
      exact ⟨rfl, HB.out⟩
def marksT (k : Nat) (j : Nat) : Value := if j % 2 = 0 then .string (markS (k + j)) else .int .i64 ((k + j : Nat) : Int)
set_option maxHeartbeats 1000000 in
theorem markTermS_any (a : Option Addr) (n cap : Nat) (k : Nat) (B : Nat) (F : Nat → Value) (w : World) (ho : w.ownsRow B 42 2 (.slice a n cap) n (tab (n * 2) F)) (h0 : 0 < k) (h1 : k + n * 2 ≤ 1152921504606846976) :
    Calls Try.prog 30 #[.slice a n cap, .int .i64 k] w fun e w' => e = .returned (.int .i64 ((k + n * 2 : Nat) : Int)) ∧ w'.ownsRow B 42 2 (.slice a n cap) n (tab (n * 2) (marksT k)) ∧ w.grownBy w' (Value.slice a n cap).ownBlock := by
  have HO := Lib.hid ho; clear ho
  have c4 := cells_term
  go_enter Try.func30, Try.ntmps30
  go_wp2_with fail
  go_loopw [1, 5] (fun v i wr => ∃ m : Nat, m ≤ n ∧ i = .int .i64 m ∧ v = .int .i64 ((k + m * 2 : Nat) : Int) ∧ wr.ownsRow B 42 2 (.slice a n cap) n (tab (n * 2) (upTo (m * 2) (marksT k) F)) ∧ w.grownBy wr (Value.slice a n cap).ownBlock) (fun _ i _ => n - (intOf i).toNat)
  case atStart => exact ⟨0, Nat.zero_le _, rfl, rfl, by rw [Nat.zero_mul, tab_upTo_zero]; exact HO.out, World.grownBy.refl _ _⟩
  case round =>
    obtain ⟨m, hm, rfl, rfl, hown, hgr⟩ := hrel
    by_cases hlt : m < n
    · obtain ⟨g, rfl, hB, hgs⟩ := own_pos hown (by omega)
      have OW := Lib.hid hown; clear hown
      have GR := Lib.hid hgr; clear hgr
      obtain ⟨q, hq⟩ : ∃ q, q = k + m * 2 := ⟨_, rfl⟩
      rw [← hq]
      have hq1 : 0 < q := by omega
      have hq2 : q + 2 ≤ 1152921504606846976 := by omega
      have HQ := Lib.hid hq; clear hq
      go_wp2_with fail
      refine (markText_any q (by omega) (by omega) _).mono ?_
      rintro e w1 ⟨rfl, hb⟩
      have O1 := own_below OW.out hb (Nat.le_refl _)
      obtain ⟨⟨v0, hc0⟩, hf0⟩ := own_cellT O1 rfl (j := m * 2) (by omega)
      obtain ⟨⟨v1, hc1⟩, hf1⟩ := own_cellT O1 rfl (j := m * 2 + 1) (by omega)
      have S0 := O1.stored (m * 2) (.string (markS q))
      have S1 := S0.1.stored (m * 2 + 1) (.int .i64 ((q : Int) + 1))
      have OX := S1.1
      rw [tab_upTo_set (by omega) (by rw [marksT, if_pos (by omega), HQ.out]), tab_upTo_set (by omega) (by rw [marksT, if_neg (by omega), HQ.out]; exact vint (by omega))] at OX
      have G1 := Lib.hid (grownBy_trans GR.out (grownBy_trans (grownBy_of_below hb _) (grownBy_trans S0.2 S1.2)))
      have OX1 := Lib.hid OX
      clear O1 S0 S1 OX hb
      go_wp2_with fail
      go_roundw
      case rel => exact ⟨m + 1, by omega, by go_num, vint (by have := HQ.out; omega), by rw [show (m + 1) * 2 = m * 2 + 1 + 1 by omega]; exact OX1.out, G1.out⟩
      case measure => simp [intOf]; omega
    · obtain rfl : m = n := by omega
      have OW := Lib.hid hown; clear hown
      have GR := Lib.hid hgr; clear hgr
      go_wp2_with fail
      go_ret
      exact ⟨rfl, by have := OW.out; rwa [tab_upTo_full] at this, GR.out⟩
set_option maxHeartbeats 1000000 in
theorem heldTermS_any (a : Option Addr) (n cap : Nat) (k : Nat) (w : World) (hr : Rd w a (n * 2) (marksT k)) (h0 : 0 < k) (h1 : k + n * 2 ≤ 1152921504606846976) :
    Calls Try.prog 31 #[.slice a n cap, .int .i64 k] w fun e w' => e = .returned (.int .i64 ((k + n * 2 : Nat) : Int)) ∧ Below w.heap.size w w' := by
  have HR := Lib.hid hr; clear hr
  have c4 := cells_term
  go_enter Try.func31, Try.ntmps31
  go_wp2_with fail
  go_loopw [1, 5] (fun v i wr => ∃ m : Nat, m ≤ n ∧ i = .int .i64 m ∧ v = .int .i64 ((k + m * 2 : Nat) : Int) ∧ Below w.heap.size w wr) (fun _ i _ => n - (intOf i).toNat)
  case atStart => exact ⟨0, Nat.zero_le _, rfl, rfl, Below.refl _ _⟩
  case round =>
    obtain ⟨m, hm, rfl, rfl, hb⟩ := hrel
    by_cases hlt : m < n
    · obtain ⟨b, off, rfl, hc⟩ := (HR.out.below hb).pos (show m * 2 < n * 2 by omega)
      obtain ⟨q, hq⟩ : ∃ q, q = k + m * 2 := ⟨_, rfl⟩
      rw [← hq]
      have hq1 : 0 < q := by omega
      have hq2 : q + 2 ≤ 1152921504606846976 := by omega
      have hc0 : wr.cell? ⟨b, off + m * 2, none⟩ = some (.string (markS q)) := by rw [hc (m * 2) (by omega), marksT, if_pos (by omega), hq]
      have hc1 : wr.cell? ⟨b, off + m * 2 + 1, none⟩ = some (.int .i64 ((q : Int) + 1)) := by rw [Nat.add_assoc, hc (m * 2 + 1) (by omega), marksT, if_neg (by omega), hq]; exact congrArg some (vint (by omega))
      have HQ := Lib.hid hq; clear hq hc
      have HB := Lib.hid hb; clear hb
      have hlb := World.block_lt_of_cell? wr _ hc0
      have M := Lib.hid (fun w => markText_any q (by omega) (by omega) w)
      go_wp2_with fail
      go_region_with (go_at_call 56; refine (M.out _).mono ?_; rintro e w1 ⟨rfl, hb1⟩; have hd0 := (hb1.cell (p := ⟨b, off + m * 2, none⟩) hlb).trans hc0; have hd1 := (hb1.cell (p := ⟨b, off + m * 2 + 1, none⟩) hlb).trans hc1; have BB := Lib.hid ((Below.drew HB.out).trans (hb1.mono (show w.heap.size ≤ wr.heap.size from HB.out.size))); clear hb1)
      all_goals
        go_wp2_with fail
        go_roundw
        case rel => exact ⟨m + 1, by omega, by go_num, vint (by have := HQ.out; omega), BB.out⟩
        case measure => simp [intOf]; omega
    · obtain rfl : m = n := by omega
      have HB := Lib.hid hb; clear hb
      go_wp2_with fail
      go_ret
      exact ⟨rfl, HB.out⟩
end Go.Proofs.Ytejooloflcldiaa
