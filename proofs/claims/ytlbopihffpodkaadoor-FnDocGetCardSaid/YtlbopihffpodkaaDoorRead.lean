/- The state of a reading: a document that is built in block D, the result's block R. No condition. -/
import Derived.Test.YtlbopihffpodkaaDoorDocB
namespace Go.Proofs.YtlbopihffpodkaaDoor
set_option maxRecDepth 100000
open Go.RowKit
/-- A document in block D whose rows are the call's own. -/
structure RSt (w0 : World) (R D : Nat) (w : World) (x : DocA) : Prop where
  obj : DocObj w D x
  f : w.ownsRow w0.heap.size 49 2 (.slice x.a x.n x.c) x.n (tab (x.n * 2) (fdC x.fs))
  g : w.ownsRow w0.heap.size 51 2 (.slice x.b x.m x.d) x.m (tab (x.m * 2) (adC x.ns))
  lf : x.fs.length = x.n
  lg : x.ns.length = x.m
  ff : ∀ y ∈ x.fs, y.name.size ≤ maxLen ∧ y.text.size ≤ maxLen
  fg : ∀ y ∈ x.ns, y.name.size ≤ maxLen ∧ -9223372036854775808 ≤ y.num ∧ y.num ≤ 9223372036854775807
  bel : Below w0.heap.size w0 w
  le : w0.heap.size ≤ R
  rd : R < D
  res : w.heap[R]? = some (.cells #[.int .i64 0, .slice none 0 0, .slice none 0 0] 26 (0, 0))
theorem RSt.below {w0 w w' : World} {R D : Nat} {x : DocA} (h : RSt w0 R D w x) (hb : Below w.heap.size w w') : RSt w0 R D w' x :=
  ⟨h.obj.below hb, own_below h.f hb (Nat.le_refl _), own_below h.g hb (Nat.le_refl _), h.lf, h.lg, h.ff, h.fg, h.bel.trans (hb.mono h.bel.size), h.le, h.rd, (hb.block R (Array.getElem?_eq_some_iff.1 h.res).1).trans h.res⟩
theorem RSt.rows {w0 w : World} {R D : Nat} {x : DocA} (h : RSt w0 R D w x) (hn : x.n ≤ maxLen) (hm : x.m ≤ maxLen) : x.In w := by
  refine ⟨⟨h.lf, fun j => ?_, Rd.of_own h.f⟩, ⟨h.lg, fun j => ?_, Rd.of_own h.g⟩, hn, hm⟩
  · unfold nthD
    cases hj : x.fs[j]? with
    | none => simp
    | some y => exact h.ff y (List.mem_of_getElem? hj)
  · unfold nthA
    cases hj : x.ns[j]? with
    | none => simp; decide
    | some y =>
      have := h.fg y (List.mem_of_getElem? hj)
      show y.name.size ≤ maxLen ∧ (Lit.int .i64 y.num).wf = true
      exact ⟨this.1, WalkArith.wf_i64 (by omega)⟩
theorem RSt.rowf {w0 w : World} {R D : Nat} {x : DocA} (h : RSt w0 R D w x) : (Value.slice x.a x.n x.c).ownBlock ≠ some D ∧ (Value.slice x.a x.n x.c).ownBlock ≠ some R := by
  refine ⟨fun e => ?_, fun e => ?_⟩
  · obtain ⟨cur, hc⟩ := own_kind h.f e
    have := h.obj
    rw [DocObj, hc] at this
    injection this with this
    injection this with _ h2
    exact absurd h2 (by decide)
  · obtain ⟨cur, hc⟩ := own_kind h.f e
    have := h.res
    rw [hc] at this
    injection this with this
    injection this with _ h2
    exact absurd h2 (by decide)
theorem RSt.rowg {w0 w : World} {R D : Nat} {x : DocA} (h : RSt w0 R D w x) : (Value.slice x.b x.m x.d).ownBlock ≠ some D ∧ (Value.slice x.b x.m x.d).ownBlock ≠ some R := by
  refine ⟨fun e => ?_, fun e => ?_⟩
  · obtain ⟨cur, hc⟩ := own_kind h.g e
    have := h.obj
    rw [DocObj, hc] at this
    injection this with this
    injection this with _ h2
    exact absurd h2 (by decide)
  · obtain ⟨cur, hc⟩ := own_kind h.g e
    have := h.res
    rw [hc] at this
    injection this with this
    injection this with _ h2
    exact absurd h2 (by decide)
/-- .. once its number was set. -/
theorem RSt.ident {w0 w : World} {R D : Nat} {x : DocA} (h : RSt w0 R D w x) (i : Int) : RSt w0 R D (w.setCell ⟨D, 0, none⟩ (.int .i64 i)) { x with id := i } := by
  have so := set_only (w := w) ⟨D, 0, none⟩ (.int .i64 i)
  exact ⟨h.obj.set0 i, own_other h.f so (fun k hk => by injection hk with hk; have e : D = k := hk; rw [← e]; exact ⟨_, _, by decide, h.obj⟩), own_other h.g so (fun k hk => by injection hk with hk; have e : D = k := hk; rw [← e]; exact ⟨_, _, by decide, h.obj⟩), h.lf, h.lg, h.ff, h.fg, h.bel.setCell (p := ⟨D, 0, none⟩) (by have := h.le; have := h.rd; show w0.heap.size ≤ D; omega) _, h.le, h.rd, res_kept h.res so (fun e => by injection e with e; have : D = R := e; have := h.rd; omega)⟩
/-- .. once a field was added. -/
theorem RSt.field {w0 w w' : World} {R D : Nat} {x : DocA} (h : RSt w0 R D w x) {a' : Option Addr} {c' : Nat} {f : Fd} (hf : f.name.size ≤ maxLen ∧ f.text.size ≤ maxLen)
    (ho : w'.ownsRow w0.heap.size 49 2 (.slice a' (x.n + 1) c') (x.n + 1) (tab (x.n * 2) (fdC x.fs) ++ [.string f.name, .string f.text])) (hg : w.grownBy w' (Value.slice x.a x.n x.c).ownBlock) :
    RSt w0 R D (w'.setCell ⟨D, 1, none⟩ (.slice a' (x.n + 1) c')) { x with a := a', n := x.n + 1, c := c', fs := x.fs ++ [f] } := by
  have hlt := h.lf
  have o1 : DocObj w' D x := h.obj.kept hg h.rowf.1
  have gA : w'.ownsRow w0.heap.size 51 2 (.slice x.b x.m x.d) x.m (tab (x.m * 2) (adC x.ns)) := own_other h.g hg (fun k hk => by obtain ⟨cur, hc⟩ := own_kind h.f hk; exact ⟨cur, _, by decide, hc⟩)
  rw [fd_snoc hlt] at ho
  have so := set_only (w := w') ⟨D, 1, none⟩ (.slice a' (x.n + 1) c')
  have bel1 : Below w0.heap.size w0 w' := h.bel.grown hg h.bel.size (fun k hk => (own_block h.f k hk).1)
  refine ⟨o1.set1 _ _ _ _, own_other ho so (fun k hk => by injection hk with hk; have e : D = k := hk; rw [← e]; exact ⟨_, _, by decide, o1⟩), own_other gA so (fun k hk => by injection hk with hk; have e : D = k := hk; rw [← e]; exact ⟨_, _, by decide, o1⟩), by show (x.fs ++ [f]).length = _; rw [List.length_append, hlt]; rfl, h.lg, fun y hy => ?_, h.fg, bel1.setCell (p := ⟨D, 1, none⟩) (by have := h.le; have := h.rd; show w0.heap.size ≤ D; omega) _, h.le, h.rd, res_kept (res_kept h.res hg h.rowf.2) so (fun e => by injection e with e; have : D = R := e; have := h.rd; omega)⟩
  rw [List.mem_append, List.mem_singleton] at hy
  rcases hy with hy | hy
  · exact h.ff y hy
  · rw [hy]; exact hf
/-- .. once a number was added. -/
theorem RSt.attr {w0 w w' : World} {R D : Nat} {x : DocA} (h : RSt w0 R D w x) {b' : Option Addr} {d' : Nat} {f : Ad} (hf : f.name.size ≤ maxLen ∧ -9223372036854775808 ≤ f.num ∧ f.num ≤ 9223372036854775807)
    (ho : w'.ownsRow w0.heap.size 51 2 (.slice b' (x.m + 1) d') (x.m + 1) (tab (x.m * 2) (adC x.ns) ++ [.string f.name, .int .i64 f.num])) (hg : w.grownBy w' (Value.slice x.b x.m x.d).ownBlock) :
    RSt w0 R D (w'.setCell ⟨D, 2, none⟩ (.slice b' (x.m + 1) d')) { x with b := b', m := x.m + 1, d := d', ns := x.ns ++ [f] } := by
  have hlt := h.lg
  have o1 : DocObj w' D x := h.obj.kept hg h.rowg.1
  have gA : w'.ownsRow w0.heap.size 49 2 (.slice x.a x.n x.c) x.n (tab (x.n * 2) (fdC x.fs)) := own_other h.f hg (fun k hk => by obtain ⟨cur, hc⟩ := own_kind h.g hk; exact ⟨cur, _, by decide, hc⟩)
  rw [ad_snoc hlt] at ho
  have so := set_only (w := w') ⟨D, 2, none⟩ (.slice b' (x.m + 1) d')
  have bel1 : Below w0.heap.size w0 w' := h.bel.grown hg h.bel.size (fun k hk => (own_block h.g k hk).1)
  refine ⟨o1.set2 _ _ _ _, own_other gA so (fun k hk => by injection hk with hk; have e : D = k := hk; rw [← e]; exact ⟨_, _, by decide, o1⟩), own_other ho so (fun k hk => by injection hk with hk; have e : D = k := hk; rw [← e]; exact ⟨_, _, by decide, o1⟩), h.lf, by show (x.ns ++ [f]).length = _; rw [List.length_append, hlt]; rfl, h.ff, fun y hy => ?_, bel1.setCell (p := ⟨D, 2, none⟩) (by have := h.le; have := h.rd; show w0.heap.size ≤ D; omega) _, h.le, h.rd, res_kept (res_kept h.res hg h.rowg.2) so (fun e => by injection e with e; have : D = R := e; have := h.rd; omega)⟩
  rw [List.mem_append, List.mem_singleton] at hy
  rcases hy with hy | hy
  · exact h.fg y hy
  · rw [hy]; exact hf
end Go.Proofs.YtlbopihffpodkaaDoor
