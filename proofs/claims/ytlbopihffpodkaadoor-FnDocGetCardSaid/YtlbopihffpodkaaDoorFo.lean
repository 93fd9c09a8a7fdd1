/- The laws' own look whether two documents read the same. Condition: both read the same. -/
import Derived.Test.YtlbopihffpodkaaDoorDocX
import Derived.Test.YtlbopihffpodkaaDoorDocB
import Derived.Deep.RegionWith
namespace Go.Proofs.YtlbopihffpodkaaDoor
set_option maxRecDepth 100000
open Go.RowKit
theorem res_cellsF {w : World} {R : Nat} {a b c : Value} {t : TypeId} (h : w.heap[R]? = some (.cells #[a, b, c] t (0, 0))) : w.cell? ⟨R, 0, none⟩ = some a ∧ w.cell? ⟨R, 1, none⟩ = some b ∧ w.cell? ⟨R, 2, none⟩ = some c ∧ w.frozen? ⟨R, 0, none⟩ = false ∧ w.frozen? ⟨R, 1, none⟩ = false ∧ w.frozen? ⟨R, 2, none⟩ = false :=
  ⟨by simp [World.cell?, h], by simp [World.cell?, h], by simp [World.cell?, h], by simp [World.frozen?, h], by simp [World.frozen?, h], by simp [World.frozen?, h]⟩
set_option maxRecDepth 100000 in
set_option maxHeartbeats 4000000 in
theorem foDoc_same (id : Int) (a : Option Addr) (n c : Nat) (fs : List Fd) (b : Option Addr) (m d : Nat) (ns : List Ad) (a' : Option Addr) (c' : Nat) (b' : Option Addr) (d' : Nat) (w : World) (hx : Flds w a n fs) (hy : Atts w b m ns) (hx' : Flds w a' n fs) (hy' : Atts w b' m ns) (hn : n ≤ 1000) (hm : m ≤ 1000) :
    Calls Tryd.prog 13 #[.agg #[.int .i64 id, .slice a n c, .slice b m d], .agg #[.int .i64 id, .slice a' n c', .slice b' m d']] w fun e w' => e = .returned (.bool true) ∧ Below w.heap.size w w' := by
  have k2 : Tryd.prog.cellsOf 49 = 2 := by kernel_rfl
  have k3 : Tryd.prog.cellsOf 51 = 2 := by kernel_rfl
  have BW : Below w.heap.size w ((w.alloc (.cells #[.int .i64 id, .slice a n c, .slice b m d] 26)).alloc (.cells #[.int .i64 id, .slice a' n c', .slice b' m d'] 26)) := ((Below.refl _ _).alloc (Nat.le_refl _) _).alloc (by simp) _
  have HX := Lib.hid (hx.below BW); clear hx
  have HY := Lib.hid (hy.below BW); clear hy
  have HX' := Lib.hid (hx'.below BW); clear hx'
  have HY' := Lib.hid (hy'.below BW); clear hy'
  have B0 := Lib.hid BW; clear BW
  have P0 : Hid (((w.alloc (.cells #[.int .i64 id, .slice a n c, .slice b m d] 26)).alloc (.cells #[.int .i64 id, .slice a' n c', .slice b' m d'] 26)).heap[w.heap.size]? = some (.cells #[.int .i64 id, .slice a n c, .slice b m d] 26 (0, 0))) := by
    show _ = _
    rw [Below.heap_alloc _ _ _ (by simp)]; exact heap_alloc_new _ _
  have Q0 : Hid (((w.alloc (.cells #[.int .i64 id, .slice a n c, .slice b m d] 26)).alloc (.cells #[.int .i64 id, .slice a' n c', .slice b' m d'] 26)).heap[w.heap.size + 1]? = some (.cells #[.int .i64 id, .slice a' n c', .slice b' m d'] 26 (0, 0))) := by
    have h1 := heap_alloc_new (w.alloc (.cells #[.int .i64 id, .slice a n c, .slice b m d] 26)) (.cells #[.int .i64 id, .slice a' n c', .slice b' m d'] 26)
    have z : (w.alloc (.cells #[.int .i64 id, .slice a n c, .slice b m d] 26)).heap.size = w.heap.size + 1 := by simp
    rw [z] at h1
    exact h1
  go_enter Tryd.func13, Tryd.ntmps13
  go_wp2_with fail
  obtain ⟨W0, hW0⟩ : ∃ W : World, W = (w.alloc (.cells #[.int .i64 id, .slice a n c, .slice b m d] 26)).alloc (.cells #[.int .i64 id, .slice a' n c', .slice b' m d'] 26) := ⟨_, rfl⟩
  rw [← hW0] at HX HY HX' HY' B0 P0 Q0 ⊢
  clear hW0
  go_loopw [5] (fun i wr => ∃ k : Nat, k ≤ n ∧ i = .int .i64 k ∧ Below W0.heap.size W0 wr) (fun i _ => n - (intOf i).toNat)
  case atStart => exact ⟨0, Nat.zero_le _, rfl, Below.refl _ _⟩
  case round =>
    obtain ⟨k, hk, rfl, hb⟩ := hrel
    have HB := Lib.hid hb; clear hb
    obtain ⟨p0, p1, p2, -, -, -⟩ := res_cellsF ((HB.out.block _ (Array.getElem?_eq_some_iff.1 P0.out).1).trans P0.out)
    obtain ⟨q0, q1, q2, -, -, -⟩ := res_cellsF ((HB.out.block _ (Array.getElem?_eq_some_iff.1 Q0.out).1).trans Q0.out)
    by_cases hlt : k < n
    · obtain ⟨b1, o1, rfl, hc1⟩ := (HX.out.below HB.out).pos hlt
      obtain ⟨x0, x1⟩ := hc1 k hlt
      obtain ⟨b2, o2, rfl, hc2⟩ := (HX'.out.below HB.out).pos hlt
      obtain ⟨y0, y1⟩ := hc2 k hlt
      obtain ⟨f, hf⟩ : ∃ f, f = nthD fs k := ⟨_, rfl⟩
      rw [← hf] at x0 x1 y0 y1
      clear hc1 hc2 hf
      clear p0 p2 q0 q2
      go_wp2_with fail
      go_quiet (fail)
      go_wp2_with fail
      go_roundw
      case rel => exact ⟨k + 1, by omega, by go_num, below_drewN HB.out nq⟩
      case measure => simp [intOf]; omega
    · obtain rfl : k = n := by omega
      clear p0 p2 q0 q2
      go_wp2_with fail
      clear p1 q1
      go_loopw [6] (fun i wr => ∃ j : Nat, j ≤ m ∧ i = .int .i64 j ∧ Below W0.heap.size W0 wr) (fun i _ => m - (intOf i).toNat)
      case atStart => exact ⟨0, Nat.zero_le _, rfl, HB.out⟩
      case round =>
        obtain ⟨j, hj, rfl, hb⟩ := hrel
        have HB2 := Lib.hid hb; clear hb
        obtain ⟨p0, p1, p2, -, -, -⟩ := res_cellsF ((HB2.out.block _ (Array.getElem?_eq_some_iff.1 P0.out).1).trans P0.out)
        obtain ⟨q0, q1, q2, -, -, -⟩ := res_cellsF ((HB2.out.block _ (Array.getElem?_eq_some_iff.1 Q0.out).1).trans Q0.out)
        by_cases hlt2 : j < m
        · obtain ⟨b1, o1, rfl, hc1⟩ := (HY.out.below HB2.out).pos hlt2
          obtain ⟨x0, x1⟩ := hc1 j hlt2
          obtain ⟨b2, o2, rfl, hc2⟩ := (HY'.out.below HB2.out).pos hlt2
          obtain ⟨y0, y1⟩ := hc2 j hlt2
          obtain ⟨f, hf⟩ : ∃ f, f = nthA ns j := ⟨_, rfl⟩
          rw [← hf] at x0 x1 y0 y1
          clear hc1 hc2 hf
          clear p0 p1 q0 q1
          go_wp2_with fail
          go_quiet (fail)
          go_wp2_with fail
          go_roundw
          case rel => exact ⟨j + 1, by omega, by go_num, below_drewN HB2.out nq⟩
          case measure => simp [intOf]; omega
        · obtain rfl : j = m := by omega
          clear p0 p1 q0 q1
          go_wp2_with fail
          go_ret
          exact ⟨rfl, B0.out.trans (HB2.out.mono B0.out.size)⟩
end Go.Proofs.YtlbopihffpodkaaDoor
