/- The reader that draws: numbers below a bound, one of a list. Conditions: bounds on how often it is read. -/
import Derived.Test.YtlbopihffpodkaaDoorMem
import Derived.Test.YtlbopihffpodkaaDoorBits
import Derived.Test.YtlbopihffpodkaaDoorInts
import Derived.Test.YtlbopihffpodkaaDoorOpen
import Derived.IntWalk
import Derived.Deep.RegionWith
import Derived.StillTailTactics
namespace Go.Proofs.YtlbopihffpodkaaDoor
set_option maxRecDepth 100000
open Go.ChangeShapes Go.WideShapes Go.RowKit

/-- A slice of bytes that came in. -/
structure Byts (w : World) (a : Option Addr) (n cap : Nat) (xs : List Int) : Prop where
  ints : Ints w .u8 a n xs
  cap : n ≤ cap
section
variable {H : Type} {enc : TypeId × Value → H} {W : World} {base : Nat} {v : Value} {d : DataW H} {p : List MemPlace}
theorem open_b (hv : Value.okWide Tryd.prog W .any base 22 v) (h : DataW.Trod enc Tryd.prog W 0 (fun _ => true) true 22 v d p) :
    ∃ a n cap xs, v = .slice a n cap ∧ Byts W a n cap xs ∧ n ≤ maxLen := by
  obtain ⟨a, n, cap, rfl⟩ := okWide_slice Tryd.underlying22 hv
  obtain ⟨fuel, hf⟩ := h
  refine ⟨a, n, cap, ?_⟩
  rcases open_ints Tryd.underlying22 Tryd.underlying5 (by kernel_rfl) hf with ⟨hcs, _⟩ | ⟨x, l, c, ss, hcs, _, hl, hm, hz, _, hcell, hws⟩
  · simp [Value.cells] at hcs
    obtain ⟨rfl, rfl, rfl⟩ := hcs
    exact ⟨[], rfl, ⟨⟨rfl, fun j => by simp [nthI]; decide, Rd.zero⟩, Nat.le_refl _⟩, Nat.zero_le _⟩
  · simp [Value.cells] at hcs
    obtain ⟨rfl, rfl, rfl⟩ := hcs
    have hz' : ss.length = cap := by simpa using hz
    refine ⟨ss.take n, rfl, ⟨⟨by simp; omega, fun j => ?_, ?_⟩, hl⟩, by omega⟩
    · unfold nthI
      cases hj : (ss.take n)[j]? with
      | none => simp; decide
      | some s => exact hws s (List.mem_of_mem_take (List.mem_of_getElem? hj))
    · rcases Nat.eq_zero_or_pos n with h0 | h0
      · exact .inl (by omega)
      · obtain ⟨b, off, spot⟩ := x
        have h1 := hcell 0 (by omega)
        have hspot : spot = none := by simpa [Addr.add] using World.cell?_spot h1
        subst hspot
        refine .inr ⟨b, off, rfl, fun j hj => ?_⟩
        have h2 := hcell j (by omega)
        have e1 : (⟨b, off, none⟩ : Addr).add j = ⟨b, off + j, none⟩ := by unfold Addr.add; split <;> simp_all
        rw [e1] at h2
        rw [h2]
        simp [nthI, hj]
end

/-- The reader in block g: its bytes lie elsewhere; it has been read p times. -/
structure Rdr (w : World) (g p : Nat) : Prop where
  is : ∃ (a : Option Addr) (n c : Nat) (xs : List Int), w.heap[g]? = some (.cells #[.slice a n c, .int .i64 p] 73 (0, 0)) ∧ Ints w .u8 a n xs ∧ n ≤ 2000 ∧ (0 < n → ∀ b off, a = some ⟨b, off, none⟩ → b < g)
theorem Rdr.lt {w : World} {g p : Nat} (h : Rdr w g p) : g < w.heap.size := by
  obtain ⟨a, n, c, xs, hh, _⟩ := h.is
  exact (Array.getElem?_eq_some_iff.1 hh).1
theorem Rd.grown {w w' : World} {a : Option Addr} {N : Nat} {F : Nat → Value} {row : Option Nat} (h : Rd w a N F) (hg : w.grownBy w' row) (hne : 0 < N → ∀ b off, a = some ⟨b, off, none⟩ → some b ≠ row) : Rd w' a N F := by
  rcases h with h | ⟨b, off, ha, hc⟩
  · exact .inl h
  · refine .inr ⟨b, off, ha, fun j hj => ?_⟩
    have h1 := hc j hj
    rw [World.cell?_of_block (hg.block b (World.block_lt_of_cell? w _ h1) (hne (by omega) b off ha))]
    exact h1
theorem Ints.grown {w w' : World} {k : IntKind} {a : Option Addr} {n : Nat} {xs : List Int} {row : Option Nat} (h : Ints w k a n xs) (hg : w.grownBy w' row) (hne : 0 < n → ∀ b off, a = some ⟨b, off, none⟩ → some b ≠ row) : Ints w' k a n xs := ⟨h.len, h.fit, h.rd.grown hg hne⟩
theorem Strs.grown {w w' : World} {a : Option Addr} {n : Nat} {xs : List ByteArray} {row : Option Nat} (h : Strs w a n xs) (hg : w.grownBy w' row) (hne : 0 < n → ∀ b off, a = some ⟨b, off, none⟩ → some b ≠ row) : Strs w' a n xs := ⟨h.len, h.fit, h.rd.grown hg hne⟩
/-- What changes another block only leaves the reader as it was. -/
theorem Rdr.below {w w' : World} {g p : Nat} (h : Rdr w g p) (hb : Below w.heap.size w w') : Rdr w' g p := by
  obtain ⟨a, n, c, xs, hh, hx, hn, hl⟩ := h.is
  exact ⟨a, n, c, xs, (hb.block g h.lt).trans hh, hx.below hb, hn, hl⟩
theorem Rdr.kept {w w' : World} {g p : Nat} {row : Option Nat} (h : Rdr w g p) (hg : w.grownBy w' row) (hr : ∀ k, row = some k → g < k) : Rdr w' g p := by
  obtain ⟨a, n, c, xs, hh, hx, hn, hl⟩ := h.is
  refine ⟨a, n, c, xs, (hg.block g h.lt (fun e => by have := hr g e.symm; omega)).trans hh, hx.grown hg (fun hp b off ha e => ?_), hn, hl⟩
  have h1 := hl hp b off ha
  have h2 := hr b e.symm
  omega
theorem Rdr.drewN {w : World} {g p : Nat} (h : Rdr w g p) (k : Nat) : Rdr (w.drewN k) g p := by
  obtain ⟨a, n, c, xs, hh, hx, hn, hl⟩ := h.is
  exact ⟨a, n, c, xs, hh, hx.drewN k, hn, hl⟩
theorem Rdr.alloc {w : World} {g p : Nat} (h : Rdr w g p) (o : Obj) : Rdr (w.alloc o) g p := h.below ((Below.refl _ _).alloc (Nat.le_refl _) o)
theorem only_drewN {a w : World} {row : Option Nat} (h : a.grownBy w row) (n : Nat) : a.grownBy (w.drewN n) row := ⟨h.os, h.tape, h.output, h.size, h.block⟩
theorem only_alloc {a w : World} {row : Option Nat} (h : a.grownBy w row) (o : Obj) : a.grownBy (w.alloc o) row :=
  ⟨h.os, h.tape, h.output, Nat.le_trans h.size (by simp), fun i hi hne => (Below.heap_alloc w o i (Nat.lt_of_lt_of_le hi h.size)).trans (h.block i hi hne)⟩
theorem only_below {a w w' : World} {row : Option Nat} (h : a.grownBy w row) (hb : Below w.heap.size w w') : a.grownBy w' row := grownBy_trans h (grownBy_of_below hb row)
/-- The reader's place after it was read once more. -/
theorem Rdr.next {w : World} {g p q : Nat} (h : Rdr w g p) : Rdr (w.setCell ⟨g, 1, none⟩ (.int .i64 q)) g q ∧ w.grownBy (w.setCell ⟨g, 1, none⟩ (.int .i64 q)) (some g) := by
  have hg : w.grownBy (w.setCell ⟨g, 1, none⟩ (.int .i64 q)) (some g) :=
    ⟨rfl, rfl, rfl, by simp [World.setCell], fun i hi hne => Below.heap_setCell w _ _ i (fun e => hne (by subst e; rfl))⟩
  obtain ⟨a, n, c, xs, hh, hx, hn, hl⟩ := h.is
  refine ⟨⟨a, n, c, xs, ?_, hx.grown hg (fun hp b off ha e => by injection e with e; have := hl hp b off ha; omega), hn, hl⟩, hg⟩
  simp [World.setCell, Array.getElem?_modify, hh]
theorem Rdr.cells {w : World} {g p : Nat} (h : Rdr w g p) : ∃ (a : Option Addr) (n c : Nat) (xs : List Int), w.cell? ⟨g, 0, none⟩ = some (.slice a n c) ∧ w.cell? ⟨g, 1, none⟩ = some (.int .i64 p) ∧ w.frozen? ⟨g, 1, none⟩ = false ∧ Ints w .u8 a n xs ∧ n ≤ 2000 ∧ (0 < n → ∀ b off, a = some ⟨b, off, none⟩ → b < g) := by
  obtain ⟨a, n, c, xs, hh, hx, hn, hl⟩ := h.is
  exact ⟨a, n, c, xs, by simp [World.cell?, hh], by simp [World.cell?, hh], by simp [World.frozen?, hh], hx, hn, hl⟩
theorem Ints.u8 {w : World} {a : Option Addr} {n : Nat} {xs : List Int} (h : Ints w .u8 a n xs) (j : Nat) : ∃ c : Nat, nthI xs j = (c : Int) ∧ c < 256 := by
  have h1 := h.fit j
  simp only [Lit.wf, Bool.and_eq_true, decide_eq_true_eq] at h1
  have h2 : (0 : Int) ≤ nthI xs j ∧ nthI xs j ≤ 255 := h1
  exact ⟨(nthI xs j).toNat, by omega, by omega⟩
theorem ints_far {w : World} {g p q : Nat} {a : Option Addr} {n : Nat} {xs : List Int} (hr : Rdr w g p) (h : Ints w .u8 a n xs) (hl : 0 < n → ∀ b off, a = some ⟨b, off, none⟩ → b < g) : Ints (w.setCell ⟨g, 1, none⟩ (.int .i64 q)) .u8 a n xs :=
  h.grown (hr.next (q := q)).2 (fun hp b off ha e => by injection e with e; have := hl hp b off ha; omega)
theorem Rdr.step {w : World} {g p : Nat} (h : Rdr w g p) : Rdr (w.setCell ⟨g, 1, none⟩ (.int .i64 ((p : Int) + 1))) g (p + 1) ∧ w.grownBy (w.setCell ⟨g, 1, none⟩ (.int .i64 ((p : Int) + 1))) (some g) := h.next (q := p + 1)
set_option maxHeartbeats 1000000 in
theorem pick_any (g p n : Nat) {w : World} (hr : Rdr w g p) (hp : p ≤ 1000000) (hn : n ≤ 1000000) :
    Calls Tryd.prog 33 #[.pointer (some ⟨g, 0, none⟩), .int .i64 n] w fun e w' => ∃ k : Nat, e = .returned (.int .i64 k) ∧ k ≤ n - 1 ∧ Rdr w' g (p + 1) ∧ w.grownBy w' (some g) := by
  obtain ⟨a, m, c, xs, hc0, hc1, hf1, hx, hm, hl⟩ := hr.cells
  have NX := Lib.hid hr.step
  have HX := Lib.hid hx
  have HL := Lib.hid hl
  clear hl hr hx
  by_cases h0 : n < 1
  · have h0' : (n : Int) < 1 := by omega
    go_enter Tryd.func33, Tryd.ntmps33
    go_wp2_with fail
    go_ret
    exact ⟨0, rfl, Nat.zero_le _, NX.out⟩
  have h0' : (1 : Int) ≤ (n : Int) := by omega
  by_cases hm0 : m = 0
  · have bm : ((m : Int) == 0) = true := beq_t (by omega)
    clear hm0 h0
    go_enter Tryd.func33, Tryd.ntmps33
    go_wp2_with fail
    go_ret
    exact ⟨0, rfl, Nat.zero_le _, NX.out⟩
  have bm : ((m : Int) == 0) = false := beq_f (by omega)
  by_cases hpm : p < m
  · obtain ⟨b, off, rfl, hcell⟩ := HX.out.rd.pos hpm
    have hbg := HL.out (by omega) b off rfl
    have hne : b ≠ g := by omega
    have hne' : g ≠ b := by omega
    have hck := hcell p hpm
    obtain ⟨cc, hcc, hc8⟩ := HX.out.u8 p
    rw [hcc] at hck
    have HCC := Lib.hid hcc
    clear hcell hcc
    go_enter Tryd.func33, Tryd.ntmps33
    go_wp2_with fail
    go_ret
    exact ⟨cc % n, rfl, by have := Nat.mod_lt cc (show 0 < n by omega); omega, NX.out⟩
  · have hm1 : 0 < m := by omega
    obtain ⟨j1, hj1⟩ : ∃ j, j = p % m := ⟨_, rfl⟩
    obtain ⟨j2, hj2⟩ : ∃ j, j = (p * 7 + 3) % m := ⟨_, rfl⟩
    obtain ⟨q, hq⟩ : ∃ j, j = p / m := ⟨_, rfl⟩
    have hj1' : (p : Int) % (m : Int) = (j1 : Int) := by rw [hj1]; rfl
    have hj2' : ((p : Int) * 7 + 3) % (m : Int) = (j2 : Int) := by rw [hj2]; rfl
    have hq' : (p : Int) / (m : Int) = (q : Int) := by rw [hq]; rfl
    have l1 : j1 < m := by rw [hj1]; exact Nat.mod_lt _ hm1
    have l2 : j2 < m := by rw [hj2]; exact Nat.mod_lt _ hm1
    have l3 : q ≤ 1000000 := by rw [hq]; exact Nat.le_trans (Nat.div_le_self _ _) hp
    clear hj1 hj2 hq
    obtain ⟨b, off, rfl, hcell⟩ := HX.out.rd.pos l1
    have hbg := HL.out (by omega) b off rfl
    have hne : b ≠ g := by omega
    have hne' : g ≠ b := by omega
    have hck1 := hcell j1 l1
    have hck2 := hcell j2 l2
    obtain ⟨c1, hcc1, hc81⟩ := HX.out.u8 j1
    obtain ⟨c2, hcc2, hc82⟩ := HX.out.u8 j2
    rw [hcc1] at hck1
    rw [hcc2] at hck2
    clear hcell hcc1 hcc2
    obtain ⟨x, hx⟩ : ∃ x, x = c1 * 131 + c2 * 1117 + p * 29 + q * 53 := ⟨_, rfl⟩
    obtain ⟨z, hz⟩ : ∃ z, z = x ^^^ (x / 64) := ⟨_, rfl⟩
    have hx1 : x ≤ 1000000000 := by omega
    have hz1 : z ≤ 1073741824 := by
      have : x ^^^ (x / 64) < 2 ^ 30 := Nat.xor_lt_two_pow (by omega) (by omega)
      omega
    have hxi : (c1 : Int) * 131 + (c2 : Int) * 1117 + (p : Int) * 29 + (q : Int) * 53 = (x : Int) := by omega
    have X := Lib.hid (show bits .xor .i64 (x : Int) ((x : Int) / 64) = (z : Int) by
      rw [show (x : Int) / 64 = ((x / 64 : Nat) : Int) by omega, xor64 _ _ (by omega) (by omega), hz])
    have HXI := Lib.hid hxi
    clear hx hz hxi
    go_enter Tryd.func33, Tryd.ntmps33
    go_wp2_with fail
    have v1 : IntKind.i64.wrap ((p : Int) * 7) = (p : Int) * 7 := IntWalk.i64_in _ (by omega)
    have v2 : IntKind.i64.wrap ((p : Int) * 7 + 3) = (p : Int) * 7 + 3 := IntWalk.i64_in _ (by omega)
    have v3 : IntKind.i64.wrap ((c1 : Int) * 131) = (c1 : Int) * 131 := IntWalk.i64_in _ (by omega)
    have v4 : IntKind.i64.wrap ((c2 : Int) * 1117) = (c2 : Int) * 1117 := IntWalk.i64_in _ (by omega)
    have v5 : IntKind.i64.wrap ((c1 : Int) * 131 + (c2 : Int) * 1117) = (c1 : Int) * 131 + (c2 : Int) * 1117 := IntWalk.i64_in _ (by omega)
    have v6 : IntKind.i64.wrap ((p : Int) * 29) = (p : Int) * 29 := IntWalk.i64_in _ (by omega)
    have v7 : IntKind.i64.wrap ((c1 : Int) * 131 + (c2 : Int) * 1117 + (p : Int) * 29) = (c1 : Int) * 131 + (c2 : Int) * 1117 + (p : Int) * 29 := IntWalk.i64_in _ (by omega)
    have v8 : IntKind.i64.wrap ((q : Int) * 53) = (q : Int) * 53 := IntWalk.i64_in _ (by omega)
    have v9 : IntKind.i64.wrap ((c1 : Int) * 131 + (c2 : Int) * 1117 + (p : Int) * 29 + (q : Int) * 53) = (c1 : Int) * 131 + (c2 : Int) * 1117 + (p : Int) * 29 + (q : Int) * 53 := IntWalk.i64_in _ (by omega)
    have d1 : (p : Int).tmod (m : Int) = (j1 : Int) := by rw [Int.tmod_eq_emod_of_nonneg (by omega)]; exact hj1'
    have d2 : ((p : Int) * 7 + 3).tmod (m : Int) = (j2 : Int) := by rw [Int.tmod_eq_emod_of_nonneg (by omega)]; exact hj2'
    have d3 : (p : Int).tdiv (m : Int) = (q : Int) := by rw [Int.tdiv_eq_ediv_of_nonneg (by omega)]; exact hq'
    go_quiet (fail)
    clear v1 v2 v3 v4 v5 v6 v7 v8 v9 d1 d2 d3 hj1' hj2' hq'
    rw [HXI.out]
    have X1 := X.out
    go_wp2_with fail
    go_ret
    exact ⟨z % n, rfl, by have := Nat.mod_lt z (show 0 < n by omega); omega, NX.out.1.drewN _, only_drewN NX.out.2 _⟩
theorem Strs.far {w w' : World} {g g' : Nat} {off n : Nat} {xs : List ByteArray} (h : Strs w (some ⟨g', off, none⟩) n xs) (hg : w.grownBy w' (some g)) (hne : g' ≠ g) : Strs w' (some ⟨g', off, none⟩) n xs :=
  h.grown hg (fun _ b off ha e => by injection ha with ha; injection ha with h1; injection e with e; omega)
theorem Ints.far {w w' : World} {k : IntKind} {g g' : Nat} {off n : Nat} {xs : List Int} (h : Ints w k (some ⟨g', off, none⟩) n xs) (hg : w.grownBy w' (some g)) (hne : g' ≠ g) : Ints w' k (some ⟨g', off, none⟩) n xs :=
  h.grown hg (fun _ b off ha e => by injection ha with ha; injection ha with h1; injection e with e; omega)
theorem Ints.cell {w : World} {k : IntKind} {g off n j : Nat} {xs : List Int} (h : Ints w k (some ⟨g, off, none⟩) n xs) (hj : j < n) : w.cell? ⟨g, off + j, none⟩ = some (.int k (nthI xs j)) := by
  obtain ⟨b, o, he, hc⟩ := h.rd.pos hj
  injection he with he; injection he with h1 h2
  subst h1; subst h2
  exact hc j hj
theorem Strs.cell {w : World} {g off n j : Nat} {xs : List ByteArray} (h : Strs w (some ⟨g, off, none⟩) n xs) (hj : j < n) : w.cell? ⟨g, off + j, none⟩ = some (.string (nthS xs j)) := by
  obtain ⟨b, o, he, hc⟩ := h.rd.pos hj
  injection he with he; injection he with h1 h2
  subst h1; subst h2
  exact hc j hj
theorem Rd.lt_of {w : World} {a : Option Addr} {N : Nat} {F : Nat → Value} (h : Rd w a N F) (h0 : 0 < N) {b off : Nat} (ha : a = some ⟨b, off, none⟩) : b < w.heap.size := by
  obtain ⟨b2, off2, he, hc⟩ := h.pos h0
  rw [ha] at he
  injection he with he; injection he with h1 h2
  subst h1
  exact World.block_lt_of_cell? w _ (hc 0 h0)
theorem Ints.take {w : World} {k : IntKind} {a : Option Addr} {n m : Nat} {xs : List Int} (h : Ints w k a n xs) (hm : m ≤ n) (hz : (Lit.int k 0).wf = true) : Ints w k a m (xs.take m) := by
  have hn : ∀ j, j < m → nthI (xs.take m) j = nthI xs j := fun j hj => by simp [nthI, hj]
  refine ⟨by rw [List.length_take, h.len]; omega, fun j => ?_, ?_⟩
  · by_cases hj : j < m
    · rw [hn j hj]; exact h.fit j
    · have : nthI (xs.take m) j = 0 := by simp [nthI, List.getElem?_take, hj]
      rw [this]; exact hz
  · rcases h.rd with h1 | ⟨b, off, ha, hc⟩
    · exact .inl (by omega)
    · exact .inr ⟨b, off, ha, fun j hj => by rw [hc j (by omega)]; simp only [hn j hj]⟩
theorem rdr_new {w : World} {a : Option Addr} {n c : Nat} {xs : List Int} (hx : Ints w .u8 a n xs) (hn : n ≤ 2000) : Rdr (w.alloc (.cells #[.slice a n c, .int .i64 0] 73)) w.heap.size 0 :=
  ⟨a, n, c, xs, heap_alloc_new w _, hx.below ((Below.refl _ _).alloc (Nat.le_refl _) _), hn, fun h0 _ _ ha => hx.rd.lt_of h0 ha⟩
/-- A block that was just made, of numbers. -/
theorem ints_new (w : World) (e : TypeId) (k : IntKind) (xs : List Int) (cs : Array Value) (hcs : cs = (xs.map (Value.int k)).toArray) (hz : (Lit.int k 0).wf = true) (hf : ∀ x ∈ xs, (Lit.int k x).wf = true) : Ints (w.alloc (.cells cs e)) k (some ⟨w.heap.size, 0, none⟩) xs.length xs := by
  refine ⟨rfl, fun j => ?_, .inr ⟨w.heap.size, 0, rfl, fun j hj => ?_⟩⟩
  · unfold nthI
    cases hj : xs[j]? with
    | none => exact hz
    | some x => exact hf x (List.mem_of_getElem? hj)
  · rw [cell_of_row _ _ _ cs e (0, 0) (heap_alloc_new w _), hcs, Nat.zero_add]
    simp [nthI, hj]
theorem strs_new (w : World) (e : TypeId) (xs : List ByteArray) (cs : Array Value) (hcs : cs = (xs.map Value.string).toArray) (hf : ∀ x ∈ xs, x.size ≤ maxLen) : Strs (w.alloc (.cells cs e)) (some ⟨w.heap.size, 0, none⟩) xs.length xs := by
  refine ⟨rfl, fun j => ?_, .inr ⟨w.heap.size, 0, rfl, fun j hj => ?_⟩⟩
  · unfold nthS
    cases hj : xs[j]? with
    | none => simp
    | some x => exact hf x (List.mem_of_getElem? hj)
  · rw [cell_of_row _ _ _ cs e (0, 0) (heap_alloc_new w _), hcs, Nat.zero_add]
    simp [nthS, hj]
/-- A block that was just made is a row of the call's own. -/
theorem own_new (w : World) (B : Nat) (e : TypeId) (size n : Nat) (cs : Array Value) (hB : B ≤ w.heap.size) (hs : cs.size = n * size) (hn : n ≤ maxLen) : (w.alloc (.cells cs e)).ownsRow B e size (.slice (some ⟨w.heap.size, 0, none⟩) n n) n cs.toList :=
  ⟨by simp [hs], .inr ⟨w.heap.size, n, cs, rfl, hB, heap_alloc_new w _, Nat.le_refl _, hn, hs, by rw [List.take_of_length_le (by simp [hs])]⟩⟩
theorem nthI_all {P : Int → Prop} {xs : List Int} (h : ∀ x ∈ xs, P x) {k : Nat} (hk : k < xs.length) : P (nthI xs k) := by
  rw [nthI_eq hk]; exact h _ (List.getElem_mem hk)
theorem nthS_all {P : ByteArray → Prop} {xs : List ByteArray} (h : ∀ x ∈ xs, P x) {k : Nat} (hk : k < xs.length) : P (nthS xs k) := by
  rw [nthS_eq hk]; exact h _ (List.getElem_mem hk)
theorem own_only {w w' : World} {B g : Nat} {e : TypeId} {size n cap : Nat} {a : Option Addr} {xs : List Value} (h : w.ownsRow B e size (.slice a n cap) n xs) (hg : w.grownBy w' (some g)) (hB : g < B) : w'.ownsRow B e size (.slice a n cap) n xs :=
  h.kept hg (by
    cases hv : (Value.slice a n cap).ownBlock with
    | none => exact .inl rfl
    | some k => right; intro e; injection e with e; have := (own_block h k hv).1; omega)
/-- What only writes into block g, or makes blocks: seen from a world whose blocks all lie below g. -/
theorem below_only {a w w' : World} {B g : Nat} (h : Below B a w) (hg : w.grownBy w' (some g)) (hB : B ≤ g) (hs : B ≤ w.heap.size) : Below B a w' := h.grown hg hs (fun k hk => by injection hk with hk; omega)
theorem one_any (g p g' off n c : Nat) (xs : List Int) {w : World} (hr : Rdr w g p) (hp : p ≤ 1000000) (hx : Ints w .i64 (some ⟨g', off, none⟩) n xs) (h0 : 0 < n) (hn : n ≤ 1000000) (hne : g' ≠ g) :
    Calls Tryd.prog 46 #[.pointer (some ⟨g, 0, none⟩), .slice (some ⟨g', off, none⟩) n c] w fun e w' => ∃ k : Nat, e = .returned (.int .i64 (nthI xs k)) ∧ k < n ∧ Rdr w' g (p + 1) ∧ w.grownBy w' (some g) := by
  have HX := Lib.hid hx; clear hx
  have HR := Lib.hid hr; clear hr
  have hne' : g ≠ g' := fun e => hne e.symm
  go_enter Tryd.func46, Tryd.ntmps46
  go_wp2_with fail
  refine (pick_any g p n HR.out hp hn).mono ?_
  rintro e w1 ⟨k, rfl, hk, hr1, hg1⟩
  have hck := (HX.out.far hg1 hne).cell (show k < n by omega)
  have HR1 := Lib.hid hr1; clear hr1
  have HG1 := Lib.hid hg1; clear hg1
  have hkn : k < n := by omega
  go_wp2_with fail
  go_ret
  exact ⟨k, rfl, hkn, HR1.out, HG1.out⟩
/-- One of the numbers of a block that was just made. -/
theorem one_new (g p n : Nat) (xs : List Int) (P : Int → Prop) {w : World} {e : TypeId} {cs : Array Value} (hr : Rdr w g p) (hcs : cs = (xs.map (Value.int .i64)).toArray) (hl : xs.length = n) (h0 : 0 < n) (hn : n ≤ 1000000) (hp : p ≤ 1000000) (hf : ∀ x ∈ xs, -9223372036854775808 ≤ x ∧ x ≤ 9223372036854775807) (hP : ∀ x ∈ xs, P x) :
    Calls Tryd.prog 46 #[.pointer (some ⟨g, 0, none⟩), .slice (some ⟨w.heap.size, 0, none⟩) n n] (w.alloc (.cells cs e)) fun e w' => ∃ x : Int, e = .returned (.int .i64 x) ∧ P x ∧ Rdr w' g (p + 1) ∧ w.grownBy w' (some g) := by
  have hx := ints_new w e .i64 xs cs hcs (by decide) (fun x hx => WalkArith.wf_i64 (hf x hx))
  rw [hl] at hx
  refine (one_any g p w.heap.size 0 n n xs (hr.alloc _) hp hx h0 hn (by have := hr.lt; omega)).mono ?_
  rintro e w1 ⟨k, rfl, hk, hr1, hg1⟩
  exact ⟨_, rfl, nthI_all hP (by omega), hr1, grownBy_trans (only_alloc (World.grownBy.refl _ _) _) hg1⟩
theorem of_any (g p g' off n c : Nat) (xs : List ByteArray) {w : World} (hr : Rdr w g p) (hp : p ≤ 1000000) (hx : Strs w (some ⟨g', off, none⟩) n xs) (h0 : 0 < n) (hn : n ≤ 1000000) (hne : g' ≠ g) :
    Calls Tryd.prog 57 #[.pointer (some ⟨g, 0, none⟩), .slice (some ⟨g', off, none⟩) n c] w fun e w' => ∃ k : Nat, e = .returned (.string (nthS xs k)) ∧ k < n ∧ Rdr w' g (p + 1) ∧ w.grownBy w' (some g) := by
  have HX := Lib.hid hx; clear hx
  have HR := Lib.hid hr; clear hr
  have hne' : g ≠ g' := fun e => hne e.symm
  go_enter Tryd.func57, Tryd.ntmps57
  go_wp2_with fail
  refine (pick_any g p n HR.out hp hn).mono ?_
  rintro e w1 ⟨k, rfl, hk, hr1, hg1⟩
  have hck := (HX.out.far hg1 hne).cell (show k < n by omega)
  have HR1 := Lib.hid hr1; clear hr1
  have HG1 := Lib.hid hg1; clear hg1
  have hkn : k < n := by omega
  go_wp2_with fail
  go_ret
  exact ⟨k, rfl, hkn, HR1.out, HG1.out⟩
/-- One of the strings of a block that was just made. -/
theorem of_new (g p n : Nat) (xs : List ByteArray) (P : ByteArray → Prop) {w : World} {e : TypeId} {cs : Array Value} (hr : Rdr w g p) (hcs : cs = (xs.map Value.string).toArray) (hl : xs.length = n) (h0 : 0 < n) (hn : n ≤ 1000000) (hp : p ≤ 1000000) (hf : ∀ x ∈ xs, x.size ≤ 1000) (hP : ∀ x ∈ xs, P x) :
    Calls Tryd.prog 57 #[.pointer (some ⟨g, 0, none⟩), .slice (some ⟨w.heap.size, 0, none⟩) n n] (w.alloc (.cells cs e)) fun e w' => ∃ x : ByteArray, e = .returned (.string x) ∧ P x ∧ Rdr w' g (p + 1) ∧ w.grownBy w' (some g) := by
  have hx := strs_new w e xs cs hcs (fun x hx => Nat.le_trans (hf x hx) (by decide))
  rw [hl] at hx
  refine (of_any g p w.heap.size 0 n n xs (hr.alloc _) hp hx h0 hn (by have := hr.lt; omega)).mono ?_
  rintro e w1 ⟨k, rfl, hk, hr1, hg1⟩
  exact ⟨_, rfl, nthS_all hP (by omega), hr1, grownBy_trans (only_alloc (World.grownBy.refl _ _) _) hg1⟩
theorem open_any (a : Option Addr) (n cap : Nat) (xs : List Int) {w : World} (hx : Byts w a n cap xs) (hn : n ≤ 1048576) :
    Calls Tryd.prog 22 #[.slice a n cap] w fun e w' => e = .returned (.pointer (some ⟨w.heap.size, 0, none⟩)) ∧ Rdr w' w.heap.size 0 ∧ Below w.heap.size w w' ∧ w'.heap.size = w.heap.size + 1 := by
  have HX := Lib.hid hx.ints
  have hcap := hx.cap
  clear hx
  by_cases h2 : 2000 < n
  · have h2' : (2000 : Int) < (n : Int) := by omega
    go_enter Tryd.func22, Tryd.ntmps22
    go_wp2_with fail
    go_ret
    exact ⟨rfl, rdr_new (HX.out.take (m := 2000) (by omega) (by decide)) (Nat.le_refl _), (Below.refl _ _).alloc (Nat.le_refl _) _, by simp⟩
  · have h2' : (n : Int) ≤ 2000 := by omega
    go_enter Tryd.func22, Tryd.ntmps22
    go_wp2_with fail
    go_ret
    exact ⟨rfl, rdr_new HX.out (by omega), (Below.refl _ _).alloc (Nat.le_refl _) _, by simp⟩
end Go.Proofs.YtlbopihffpodkaaDoor
