/- How words are drawn to be read: the state of such a draw. Conditions: what is read fits the model's sizes. -/
import Derived.Test.YtejooloflcldiaaSynT
import Derived.Test.YtejooloflcldiaaPlain
import Derived.Test.YtejooloflcldiaaDrawS
namespace Go.Proofs.Ytejooloflcldiaa
open Go.ChangeShapes Go.WideShapes Go.RowKit
theorem put_only {w : World} (p : Addr) (v : Value) : w.grownBy (w.setCell p v) (some p.block) :=
  ⟨rfl, rfl, rfl, by simp [World.setCell], fun i hi hne => Below.heap_setCell w _ _ i (fun e => hne (by rw [e]))⟩
theorem grow_only {a w w' : World} {g : Nat} {row : Option Nat} (h : a.grownBy w (some g)) (hg : w.grownBy w' row) (hr : ∀ k, row = some k → a.heap.size ≤ k) : a.grownBy w' (some g) :=
  ⟨hg.os.trans h.os, hg.tape.trans h.tape, hg.output.trans h.output, Nat.le_trans h.size hg.size, fun i hi hne => (hg.block i (Nat.lt_of_lt_of_le hi h.size) (fun e => by have := hr i e.symm; omega)).trans (h.block i hi hne)⟩
/-- One of what stands for others, its words the call's own. -/
structure SynOwn (w : World) (B : Nat) (y : SynA) : Prop where
  own : OwnStrs w B y.a y.n y.c y.fs
  n : y.n ≤ 3
  to : y.to.size ≤ 12
theorem SynOwn.kept {w w' : World} {B : Nat} {y : SynA} {row : Option Nat} (h : SynOwn w B y) (hg : w.grownBy w' row) (hr : ∀ k, row = some k → k < B ∨ ∃ cur e', e' ≠ 9 ∧ w.heap[k]? = some (.cells cur e' (0, 0))) : SynOwn w' B y := by
  refine ⟨h.own.kept hg ?_, h.n, h.to⟩
  cases hv : (Value.slice y.a y.n y.c).ownBlock with
  | none => exact .inl rfl
  | some k =>
    right
    intro e
    rcases hr k e.symm with h1 | ⟨cur, e', h1, h2⟩
    · have := (own_block h.own.own k hv).1; omega
    · obtain ⟨cur', h3⟩ := own_kind h.own.own hv
      rw [h2] at h3
      injection h3 with h3
      injection h3 with _ h4
      exact h1 h4
theorem SynOwn.below {w w' : World} {B : Nat} {y : SynA} (h : SynOwn w B y) (hb : Below w.heap.size w w') : SynOwn w' B y := ⟨h.own.below hb, h.n, h.to⟩
/-- How words are read, its rows the call's own. -/
structure ConfOwn (w : World) (B : Nat) (x : ConfA) : Prop where
  s : OwnStrs w B x.a x.n x.c x.ss
  row : w.ownsRow B 53 2 (.slice x.b x.m x.d) x.m (tab (x.m * 2) (syC x.ys))
  len : x.ys.length = x.m
  each : ∀ y ∈ x.ys, SynOwn w B y
  hn : x.n ≤ 2
  hm : x.m ≤ 4
theorem nthY_mem {ys : List SynA} {j : Nat} (h : j < ys.length) : nthY ys j ∈ ys := by
  have : nthY ys j = ys[j] := by simp [nthY, h]
  rw [this]; exact List.getElem_mem _
theorem ConfOwn.in {w : World} {B : Nat} {x : ConfA} (h : ConfOwn w B x) : x.In w := by
  refine ⟨h.s.strs, ⟨h.len, fun j hj => ?_, Rd.of_own h.row⟩, by have := h.hn; unfold maxLen; omega, by have := h.hm; unfold maxLen; omega⟩
  have := h.each _ (nthY_mem (by rw [h.len]; exact hj))
  exact ⟨this.own.strs, by have := this.n; unfold maxLen; omega, by have := this.to; unfold maxLen; omega⟩
theorem ConfOwn.base {w : World} {B B' : Nat} {x : ConfA} (h : ConfOwn w B x) (hB : B' ≤ B) : ConfOwn w B' x := ⟨h.s.base hB, own_base h.row hB, h.len, fun y hy => ⟨(h.each y hy).own.base hB, (h.each y hy).n, (h.each y hy).to⟩, h.hn, h.hm⟩
theorem ConfOwn.below {w w' : World} {B : Nat} {x : ConfA} (h : ConfOwn w B x) (hb : Below w.heap.size w w') : ConfOwn w' B x := ⟨h.s.below hb, own_below h.row hb (Nat.le_refl _), h.len, fun y hy => (h.each y hy).below hb, h.hn, h.hm⟩
/-- A block has turned that is elder, or of another kind. -/
theorem ConfOwn.kept {w w' : World} {B : Nat} {x : ConfA} {row : Option Nat} (h : ConfOwn w B x) (hg : w.grownBy w' row) (hr : ∀ k, row = some k → k < B ∨ ∃ cur e', e' ≠ 9 ∧ e' ≠ 53 ∧ w.heap[k]? = some (.cells cur e' (0, 0))) : ConfOwn w' B x := by
  have one : ∀ {e : TypeId} {size n : Nat} {v : Value} {xs : List Value}, (e = 9 ∨ e = 53) → w.ownsRow B e size v n xs → w'.ownsRow B e size v n xs := by
    intro e size n v xs he ho
    refine ho.kept hg ?_
    cases hv : v.ownBlock with
    | none => exact .inl rfl
    | some k =>
      right
      intro e2
      rcases hr k e2.symm with h1 | ⟨cur, e', h1, h1', h2⟩
      · have := (own_block ho k hv).1; omega
      · obtain ⟨cur', h3⟩ := own_kind ho hv
        rw [h2] at h3
        injection h3 with h3
        injection h3 with _ h4
        rcases he with he | he
        · exact h1 (h4.trans he)
        · exact h1' (h4.trans he)
  exact ⟨⟨h.s.len, h.s.fit, one (.inl rfl) h.s.own⟩, one (.inr rfl) h.row, h.len, fun y hy => (h.each y hy).kept hg (fun k hk => by
    rcases hr k hk with h1 | ⟨c, e, h1, h2, h3⟩
    · exact .inl h1
    · exact .inr ⟨c, e, h1, h3⟩), h.hn, h.hm⟩
theorem ConfOwn.only {w w' : World} {B g : Nat} {x : ConfA} (h : ConfOwn w B x) (hg : w.grownBy w' (some g)) (hB : g < B) : ConfOwn w' B x := h.kept hg fun k hk => .inl (by injection hk with hk; omega)
/-- Its two cells lie in block D. -/
def ConfObj (w : World) (D : Nat) (x : ConfA) : Prop := w.heap[D]? = some (.cells #[.slice x.a x.n x.c, .slice x.b x.m x.d] 30 (0, 0))
theorem ConfObj.lt {w : World} {D : Nat} {x : ConfA} (h : ConfObj w D x) : D < w.heap.size := (Array.getElem?_eq_some_iff.1 h).1
theorem ConfObj.cells {w : World} {D : Nat} {x : ConfA} (h : ConfObj w D x) : w.cell? ⟨D, 0, none⟩ = some (.slice x.a x.n x.c) ∧ w.cell? ⟨D, 1, none⟩ = some (.slice x.b x.m x.d) ∧ w.frozen? ⟨D, 0, none⟩ = false ∧ w.frozen? ⟨D, 1, none⟩ = false := obj_cells2 h
theorem ConfObj.kept {w w' : World} {D : Nat} {x : ConfA} {row : Option Nat} (h : ConfObj w D x) (hg : w.grownBy w' row) (hr : row ≠ some D) : ConfObj w' D x := (hg.block D h.lt (fun e => hr e.symm)).trans h
theorem ConfObj.below {w w' : World} {D : Nat} {x : ConfA} (h : ConfObj w D x) (hb : Below w.heap.size w w') : ConfObj w' D x := (hb.block D h.lt).trans h
/-- The state of a draw: how words are read in block D, the reader in block g, the result's place in block R. -/
structure CSt (w0 : World) (g R D : Nat) (most ms : Nat) (w : World) (x : ConfA) (q : Nat) : Prop where
  m : x.m ≤ ms
  obj : ConfObj w D x
  own : ConfOwn w w0.heap.size x
  rdr : Rdr w g q
  q : q ≤ most
  only : w0.grownBy w (some g)
  lt : g < w0.heap.size
  le : w0.heap.size ≤ R
  rd : R < D
  res : w.heap[R]? = some (.cells #[.slice none 0 0, .slice none 0 0] 30 (0, 0))
def ConfSt (w0 : World) (g R D most ms : Nat) (w : World) : Prop := ∃ x q, CSt w0 g R D most ms w x q
theorem CSt.more {w0 w : World} {g R D most ms most' ms' : Nat} {x : ConfA} {q : Nat} (h : CSt w0 g R D most ms w x q) (h1 : most ≤ most') (h2 : ms ≤ ms') : CSt w0 g R D most' ms' w x q :=
  ⟨Nat.le_trans h.m h2, h.obj, h.own, h.rdr, Nat.le_trans h.q h1, h.only, h.lt, h.le, h.rd, h.res⟩
theorem obj_kept {w w' : World} {R : Nat} {row : Option Nat} {o : Obj} (h : w.heap[R]? = some o) (hg : w.grownBy w' row) (hr : row ≠ some R) : w'.heap[R]? = some o := (hg.block R (Array.getElem?_eq_some_iff.1 h).1 (fun e => hr e.symm)).trans h
theorem CSt.read {w0 w w' : World} {g R D most ms q' : Nat} {x : ConfA} {q most' : Nat} (h : CSt w0 g R D most ms w x q) (hr : Rdr w' g q') (hq : q' ≤ most') (hg : w.grownBy w' (some g)) : CSt w0 g R D most' ms w' x q' :=
  ⟨h.m, h.obj.kept hg (fun e => by injection e with e; have := h.lt; have := h.le; have := h.rd; omega), h.own.only hg h.lt, hr, hq, grownBy_trans h.only hg, h.lt, h.le, h.rd, obj_kept h.res hg (fun e => by injection e with e; have := h.lt; have := h.le; omega)⟩
theorem CSt.below {w0 w w' : World} {g R D most ms : Nat} {x : ConfA} {q : Nat} (h : CSt w0 g R D most ms w x q) (hb : Below w.heap.size w w') : CSt w0 g R D most ms w' x q :=
  ⟨h.m, h.obj.below hb, h.own.below hb, h.rdr.below hb, h.q, only_below h.only hb, h.lt, h.le, h.rd, (hb.block R (Array.getElem?_eq_some_iff.1 h.res).1).trans h.res⟩
theorem CSt.put {w0 w : World} {g R D most ms : Nat} {x y : ConfA} {q : Nat} {j : Nat} {v : Value} (h : CSt w0 g R D most ms w x q) (hy : ConfOwn w w0.heap.size y) (hm : y.m ≤ ms) (ho : ConfObj (w.setCell ⟨D, j, none⟩ v) D y) : CSt w0 g R D most ms (w.setCell ⟨D, j, none⟩ v) y q := by
  have so := put_only (w := w) ⟨D, j, none⟩ v
  have hle := h.le
  have hrd := h.rd
  have hlt := h.lt
  refine ⟨hm, ho, hy.kept so (fun k hk => ?_), h.rdr.kept so (fun k hk => by injection hk with hk; have e : D = k := hk; omega), h.q, grow_only h.only so (fun k hk => by injection hk with hk; have e : D = k := hk; omega), h.lt, h.le, h.rd, obj_kept h.res so (fun e => by injection e with e; have e : D = R := e; omega)⟩
  injection hk with hk
  have e : D = k := hk
  rw [← e]
  exact .inr ⟨_, _, by decide, by decide, h.obj⟩
theorem tab_set0 (xs : List ByteArray) (n : Nat) (h : xs.length = n) : xs.map Value.string = tab n fun j => .string (nthS xs j) := by subst h; exact tab_strs xs
/-- .. once other words are passed over. -/
theorem CSt.stops {w0 w : World} {g R D most ms : Nat} {x : ConfA} {q : Nat} (h : CSt w0 g R D most ms w x q) (ss : List ByteArray) (n : Nat) (hl : ss.length = n) (hn : n ≤ 2) (hf : ∀ s ∈ ss, s.size ≤ 100) {cs : Array Value} (hcs : cs = (ss.map Value.string).toArray) :
    CSt w0 g R D most ms ((w.alloc (.cells cs 9)).setCell ⟨D, 0, none⟩ (.slice (some ⟨w.heap.size, 0, none⟩) n n)) { x with a := some ⟨w.heap.size, 0, none⟩, n := n, c := n, ss := ss } q := by
  have hb : Below w.heap.size w (w.alloc (.cells cs 9)) := (Below.refl _ _).alloc (Nat.le_refl _) _
  have h1 := h.below hb
  have hsz := h.only.size
  have hfit : ∀ j, (nthS ss j).size ≤ maxLen := fun j => by
    unfold nthS
    cases hj : ss[j]? with
    | none => simp
    | some s => have := hf s (List.mem_of_getElem? hj); simp; unfold maxLen; omega
  have hrow : (w.alloc (.cells cs 9)).ownsRow w0.heap.size 9 1 (.slice (some ⟨w.heap.size, 0, none⟩) n n) n (tab n fun j => .string (nthS ss j)) := by
    have := World.ownsRow_lit (base := w0.heap.size) (e := 9) (size := 1) w cs n hsz (by unfold maxLen; omega) (by rw [hcs]; simp [hl])
    rw [hcs] at this ⊢
    rw [← tab_set0 ss n hl]
    simpa using this
  refine h1.put ⟨⟨hl, hfit, hrow⟩, h1.own.row, h1.own.len, h1.own.each, hn, h1.own.hm⟩ h1.m ?_
  have := h1.obj
  unfold ConfObj at this ⊢
  simp [World.setCell, Array.getElem?_modify, this]
/-- .. once other words stand for others. -/
theorem CSt.syns {w0 w : World} {g R D most ms : Nat} {x : ConfA} {q : Nat} (h : CSt w0 g R D most ms w x q) (b : Option Addr) (m d : Nat) (ys : List SynA) (hl : ys.length = m) (hm4 : m ≤ 4) (hm : m ≤ ms) (hrow : w.ownsRow w0.heap.size 53 2 (.slice b m d) m (tab (m * 2) (syC ys))) (he : ∀ y ∈ ys, SynOwn w w0.heap.size y) :
    CSt w0 g R D most ms (w.setCell ⟨D, 1, none⟩ (.slice b m d)) { x with b := b, m := m, d := d, ys := ys } q := by
  refine h.put ⟨h.own.s, hrow, hl, he, h.own.hn, hm4⟩ hm ?_
  have := h.obj
  unfold ConfObj at this ⊢
  simp [World.setCell, Array.getElem?_modify, this]
end Go.Proofs.Ytejooloflcldiaa
