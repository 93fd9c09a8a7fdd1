/- Documents that are drawn. Conditions: bounds on how often the reader is read. -/
import Derived.Test.YtlbopihffpodkaaDoorDocL
import Derived.Test.YtlbopihffpodkaaDoorDrawS
import Derived.Deep.RegionLaw
import Derived.Deep.DeepCutAuto
namespace Go.Proofs.YtlbopihffpodkaaDoor
set_option maxRecDepth 100000
open Go.ChangeShapes Go.WideShapes Go.RowKit
/-- A row of the call's own has grown: still nothing but block g and new blocks have turned. -/
theorem row_only {a w w' : World} {g : Nat} {row : Option Nat} (h : a.grownBy w (some g)) (hg : w.grownBy w' row) (hr : ∀ k, row = some k → a.heap.size ≤ k) : a.grownBy w' (some g) :=
  ⟨hg.os.trans h.os, hg.tape.trans h.tape, hg.output.trans h.output, Nat.le_trans h.size hg.size, fun i hi hne => (hg.block i (Nat.lt_of_lt_of_le hi h.size) (fun e => by have := hr i e.symm; omega)).trans (h.block i hi hne)⟩
/-- append to a row of the call's own, as one step of a region that draws. -/
theorem step_append_own {P : Program} {ops : Array Oper} {o : Oper} {a : Act} {w : World} {K : Act → World → Prop} {Q : Exit → Act → World → Prop} {E : Prop} (hg : o.guard = none) (s x : Operand) (t : TypeId)
    (ho : o.op = .call { callee := .builtin .append, args := #[s, x], argTypes := #[t, t] })
    (base : Nat) (e : TypeId) (i : TypeInfo) (z : Value) (size bytes : Nat) (ht : P.underlying t = some (.slice e)) (hi : P.info? e = some i) (hz : i.zero = some z)
    (hsize : i.size = size) (hby : i.bytes = bytes) (hzs : z.cells.size = size) (hsz : 0 < size)
    (v : Value) (n : Nat) (xs : List Value) (hs : a.eval s = v) (hown : w.ownsRow base e size v n xs)
    (ad : Addr) (m c : Nat) (news : List Value) (hx : a.eval x = .slice (some ad) m c) (hl : news.length = m * size) (hnews : ∀ j u, news[j]? = some u → w.cell? (ad.add j) = some u) (h1 : ∀ u ∈ news, u.oneCell' = true)
    (h63 : n + m ≤ maxLen) (hbytes : (n + m) * bytes ≤ 140737488355328) (hbase : base ≤ w.heap.size)
    (h : ∀ v' w', w'.ownsRow base e size v' (n + m) (xs ++ news) → w.grownBy w' v.ownBlock → (v' = .slice none 0 0 ↔ v = .slice none 0 0 ∧ m = 0) → K (a.put o.dst v') w') :
    if Region.wanted o (yielded ops a.tmps) = true then Oper.wp P o a w K Q else E := by
  rw [if_pos (by simp [Region.wanted, hg])]
  exact wp_append_own w s x t ho base e i z size bytes ht hi hz hsize hby hzs hsz v n xs hs hown ad m c news hx hl hnews h1 h63 hbytes hbase h
theorem own_kind {w : World} {B : Nat} {e : TypeId} {size n : Nat} {v : Value} {xs : List Value} (h : w.ownsRow B e size v n xs) {k : Nat} (hk : v.ownBlock = some k) : ∃ cur, w.heap[k]? = some (.cells cur e (0, 0)) := by
  rcases h.2 with ⟨rfl, _⟩ | ⟨g, cap, cur, rfl, _, hh, _⟩
  · cases hk
  · injection hk with hk
    subst hk
    exact ⟨cur, hh⟩
/-- A row of another kind has grown. -/
theorem own_other {w w' : World} {B : Nat} {e : TypeId} {size n : Nat} {v : Value} {xs : List Value} {row : Option Nat} (h : w.ownsRow B e size v n xs) (hg : w.grownBy w' row) (hr : ∀ k, row = some k → ∃ cur e', e' ≠ e ∧ w.heap[k]? = some (.cells cur e' (0, 0))) : w'.ownsRow B e size v n xs := by
  refine h.kept hg ?_
  cases hv : v.ownBlock with
  | none => exact .inl rfl
  | some k =>
    right
    intro he
    obtain ⟨cur, h1⟩ := own_kind h hv
    obtain ⟨cur', e', h2, h3⟩ := hr k (by rw [← he])
    rw [h1] at h3
    injection h3 with h3
    injection h3 with _ h4
    exact h2 h4.symm
/-- A document's rows are the call's own, its names and texts short. -/
structure DocOwn (w : World) (B : Nat) (x : DocA) : Prop where
  f : w.ownsRow B 49 2 (.slice x.a x.n x.c) x.n (tab (x.n * 2) (fdC x.fs))
  g : w.ownsRow B 51 2 (.slice x.b x.m x.d) x.m (tab (x.m * 2) (adC x.ns))
  lf : x.fs.length = x.n
  lg : x.ns.length = x.m
  ff : ∀ y ∈ x.fs, y.name.size ≤ 20 ∧ y.text.size ≤ 400
  fg : ∀ y ∈ x.ns, y.name.size ≤ 20 ∧ -1 ≤ y.num ∧ y.num ≤ 1000000000
  nf : x.n ≤ 3
  nm : x.m ≤ 3
theorem DocOwn.in {w : World} {B : Nat} {x : DocA} (h : DocOwn w B x) : x.In w := by
  refine ⟨⟨h.lf, fun j => ?_, Rd.of_own h.f⟩, ⟨h.lg, fun j => ?_, Rd.of_own h.g⟩, by have := h.nf; unfold maxLen; omega, by have := h.nm; unfold maxLen; omega⟩
  · unfold nthD
    cases hj : x.fs[j]? with
    | none => simp
    | some y => have := h.ff y (List.mem_of_getElem? hj); simp; unfold maxLen; omega
  · unfold nthA
    cases hj : x.ns[j]? with
    | none => simp; decide
    | some y => have := h.fg y (List.mem_of_getElem? hj); simp; exact ⟨by unfold maxLen; omega, WalkArith.wf_i64 (by omega)⟩
theorem DocOwn.base {w : World} {B B' : Nat} {x : DocA} (h : DocOwn w B x) (hB : B' ≤ B) : DocOwn w B' x := ⟨own_base h.f hB, own_base h.g hB, h.lf, h.lg, h.ff, h.fg, h.nf, h.nm⟩
theorem DocOwn.below {w w' : World} {B : Nat} {x : DocA} (h : DocOwn w B x) (hb : Below w.heap.size w w') : DocOwn w' B x := ⟨own_below h.f hb (Nat.le_refl _), own_below h.g hb (Nat.le_refl _), h.lf, h.lg, h.ff, h.fg, h.nf, h.nm⟩
theorem DocOwn.only {w w' : World} {B g : Nat} {x : DocA} (h : DocOwn w B x) (hg : w.grownBy w' (some g)) (hB : g < B) : DocOwn w' B x := ⟨own_only h.f hg hB, own_only h.g hg hB, h.lf, h.lg, h.ff, h.fg, h.nf, h.nm⟩
theorem DocOwn.apart {w w' : World} {B : Nat} {x : DocA} {row : Option Nat} (h : DocOwn w B x) (hg : w.grownBy w' row) (hr : ∀ k, row = some k → ∃ cur e', e' ≠ 49 ∧ e' ≠ 51 ∧ w.heap[k]? = some (.cells cur e' (0, 0))) : DocOwn w' B x :=
  ⟨own_other h.f hg (fun k hk => by obtain ⟨c, e, h1, _, h3⟩ := hr k hk; exact ⟨c, e, h1, h3⟩), own_other h.g hg (fun k hk => by obtain ⟨c, e, _, h2, h3⟩ := hr k hk; exact ⟨c, e, h2, h3⟩), h.lf, h.lg, h.ff, h.fg, h.nf, h.nm⟩
/-- A document's three cells lie in block D. -/
def DocObj (w : World) (D : Nat) (x : DocA) : Prop := w.heap[D]? = some (.cells #[.int .i64 x.id, .slice x.a x.n x.c, .slice x.b x.m x.d] 26 (0, 0))
theorem DocObj.lt {w : World} {D : Nat} {x : DocA} (h : DocObj w D x) : D < w.heap.size := (Array.getElem?_eq_some_iff.1 h).1
theorem DocObj.cells {w : World} {D : Nat} {x : DocA} (h : DocObj w D x) : w.cell? ⟨D, 0, none⟩ = some (.int .i64 x.id) ∧ w.cell? ⟨D, 1, none⟩ = some (.slice x.a x.n x.c) ∧ w.cell? ⟨D, 2, none⟩ = some (.slice x.b x.m x.d) ∧ w.frozen? ⟨D, 0, none⟩ = false ∧ w.frozen? ⟨D, 1, none⟩ = false ∧ w.frozen? ⟨D, 2, none⟩ = false := by
  unfold DocObj at h
  exact ⟨by simp [World.cell?, h], by simp [World.cell?, h], by simp [World.cell?, h], by simp [World.frozen?, h], by simp [World.frozen?, h], by simp [World.frozen?, h]⟩
theorem DocObj.kept {w w' : World} {D : Nat} {x : DocA} {row : Option Nat} (h : DocObj w D x) (hg : w.grownBy w' row) (hr : row ≠ some D) : DocObj w' D x := (hg.block D h.lt (fun e => hr e.symm)).trans h
theorem DocObj.below {w w' : World} {D : Nat} {x : DocA} (h : DocObj w D x) (hb : Below w.heap.size w w') : DocObj w' D x := (hb.block D h.lt).trans h
theorem DocObj.set0 {w : World} {D : Nat} {x : DocA} (h : DocObj w D x) (i : Int) : DocObj (w.setCell ⟨D, 0, none⟩ (.int .i64 i)) D { x with id := i } := by
  unfold DocObj at h ⊢; simp [World.setCell, Array.getElem?_modify, h]
theorem DocObj.set1 {w : World} {D : Nat} {x : DocA} (h : DocObj w D x) (a : Option Addr) (n c : Nat) (fs : List Fd) : DocObj (w.setCell ⟨D, 1, none⟩ (.slice a n c)) D { x with a := a, n := n, c := c, fs := fs } := by
  unfold DocObj at h ⊢; simp [World.setCell, Array.getElem?_modify, h]
theorem DocObj.set2 {w : World} {D : Nat} {x : DocA} (h : DocObj w D x) (b : Option Addr) (m d : Nat) (ns : List Ad) : DocObj (w.setCell ⟨D, 2, none⟩ (.slice b m d)) D { x with b := b, m := m, d := d, ns := ns } := by
  unfold DocObj at h ⊢; simp [World.setCell, Array.getElem?_modify, h]
theorem set_only {w : World} (p : Addr) (v : Value) : w.grownBy (w.setCell p v) (some p.block) :=
  ⟨rfl, rfl, rfl, by simp [World.setCell], fun i hi hne => Below.heap_setCell w _ _ i (fun e => hne (by rw [e]))⟩
/-- Only block g, and blocks behind B, have turned since w. -/
def Only (w : World) (g B : Nat) (w' : World) : Prop := w.grownBy w' (some g) ∧ B = w.heap.size
theorem fd_snoc {n : Nat} {fs : List Fd} {f : Fd} (hl : fs.length = n) : tab (n * 2) (fdC fs) ++ [.string f.name, .string f.text] = tab ((n + 1) * 2) (fdC (fs ++ [f])) := by
  subst hl
  refine tab_ext (by simp [tab_length]; omega) fun j hj => ?_
  by_cases h : j < fs.length * 2
  · rw [List.getElem?_append_left (by rw [tab_length]; exact h), tab_get _ _ _ h]
    unfold fdC
    rw [show nthD (fs ++ [f]) (j / 2) = nthD fs (j / 2) by simp [nthD, List.getElem?_append_left (show j / 2 < fs.length by omega)]]
  · rw [List.getElem?_append_right (by rw [tab_length]; omega), tab_length]
    have e : nthD (fs ++ [f]) fs.length = f := by simp [nthD]
    unfold fdC
    rw [show j / 2 = fs.length by omega, e]
    rcases (show j = fs.length * 2 ∨ j = fs.length * 2 + 1 by omega) with h1 | h1
    · rw [h1, if_pos (by omega), Nat.sub_self]; rfl
    · rw [h1, if_neg (by omega), show fs.length * 2 + 1 - fs.length * 2 = 1 by omega]; rfl
theorem ad_snoc {n : Nat} {fs : List Ad} {f : Ad} (hl : fs.length = n) : tab (n * 2) (adC fs) ++ [.string f.name, .int .i64 f.num] = tab ((n + 1) * 2) (adC (fs ++ [f])) := by
  subst hl
  refine tab_ext (by simp [tab_length]; omega) fun j hj => ?_
  by_cases h : j < fs.length * 2
  · rw [List.getElem?_append_left (by rw [tab_length]; exact h), tab_get _ _ _ h]
    unfold adC
    rw [show nthA (fs ++ [f]) (j / 2) = nthA fs (j / 2) by simp [nthA, List.getElem?_append_left (show j / 2 < fs.length by omega)]]
  · rw [List.getElem?_append_right (by rw [tab_length]; omega), tab_length]
    have e : nthA (fs ++ [f]) fs.length = f := by simp [nthA]
    unfold adC
    rw [show j / 2 = fs.length by omega, e]
    rcases (show j = fs.length * 2 ∨ j = fs.length * 2 + 1 by omega) with h1 | h1
    · rw [h1, if_pos (by omega), Nat.sub_self]; rfl
    · rw [h1, if_neg (by omega), show fs.length * 2 + 1 - fs.length * 2 = 1 by omega]; rfl
/-- The state of a draw: a document in block D, the reader in block g. -/
structure DSt (w0 : World) (g R D : Nat) (id : Int) (most : Nat) (nf nm : Nat) (w : World) (x : DocA) (q : Nat) : Prop where
  id : x.id = id
  n : x.n ≤ nf
  m : x.m ≤ nm
  obj : DocObj w D x
  own : DocOwn w w0.heap.size x
  rdr : Rdr w g q
  q : q ≤ most
  only : w0.grownBy w (some g)
  lt : g < w0.heap.size
  le : w0.heap.size ≤ R
  rd : R < D
  res : w.heap[R]? = some (.cells #[.int .i64 0, .slice none 0 0, .slice none 0 0] 26 (0, 0))
theorem res_kept {w w' : World} {R : Nat} {row : Option Nat} {o : Obj} (h : w.heap[R]? = some o) (hg : w.grownBy w' row) (hr : row ≠ some R) : w'.heap[R]? = some o := (hg.block R (Array.getElem?_eq_some_iff.1 h).1 (fun e => hr e.symm)).trans h
/-- What a draw leaves, behind a name. -/
def DocSt (w0 : World) (g R D : Nat) (id : Int) (most : Nat) (nf nm : Nat) (w : World) : Prop := ∃ x q, DSt w0 g R D id most nf nm w x q
theorem DSt.more {w0 w : World} {g R D most nf nm most' nf' nm' : Nat} {id : Int} {x : DocA} {q : Nat} (h : DSt w0 g R D id most nf nm w x q) (h1 : most ≤ most') (h2 : nf ≤ nf') (h3 : nm ≤ nm') : DSt w0 g R D id most' nf' nm' w x q :=
  ⟨h.id, Nat.le_trans h.n h2, Nat.le_trans h.m h3, h.obj, h.own, h.rdr, Nat.le_trans h.q h1, h.only, h.lt, h.le, h.rd, h.res⟩
/-- .. once the reader was read. -/
theorem DSt.read {w0 w w' : World} {g R D most nf nm q' : Nat} {id : Int} {x : DocA} {q most' : Nat} (h : DSt w0 g R D id most nf nm w x q) (hr : Rdr w' g q') (hq : q' ≤ most') (hg : w.grownBy w' (some g)) : DSt w0 g R D id most' nf nm w' x q' :=
  ⟨h.id, h.n, h.m, h.obj.kept hg (fun e => by injection e with e; have := h.lt; have := h.le; have := h.rd; omega), h.own.only hg h.lt, hr, hq, grownBy_trans h.only hg, h.lt, h.le, h.rd, res_kept h.res hg (fun e => by injection e with e; have := h.lt; have := h.le; omega)⟩
theorem DSt.below {w0 w w' : World} {g R D most nf nm : Nat} {id : Int} {x : DocA} {q : Nat} (h : DSt w0 g R D id most nf nm w x q) (hb : Below w.heap.size w w') : DSt w0 g R D id most nf nm w' x q :=
  ⟨h.id, h.n, h.m, h.obj.below hb, h.own.below hb, h.rdr.below hb, h.q, only_below h.only hb, h.lt, h.le, h.rd, (hb.block R (Array.getElem?_eq_some_iff.1 h.res).1).trans h.res⟩
theorem DSt.rowf {w0 w : World} {g R D most nf nm : Nat} {id : Int} {x : DocA} {q : Nat} (h : DSt w0 g R D id most nf nm w x q) : (Value.slice x.a x.n x.c).ownBlock ≠ some D ∧ (Value.slice x.a x.n x.c).ownBlock ≠ some R := by
  refine ⟨fun e => ?_, fun e => ?_⟩
  · obtain ⟨cur, hc⟩ := own_kind h.own.f e
    have := h.obj
    rw [DocObj, hc] at this
    injection this with this
    injection this with _ h2
    exact absurd h2 (by decide)
  · obtain ⟨cur, hc⟩ := own_kind h.own.f e
    have := h.res
    rw [hc] at this
    injection this with this
    injection this with _ h2
    exact absurd h2 (by decide)
theorem DSt.rowg {w0 w : World} {g R D most nf nm : Nat} {id : Int} {x : DocA} {q : Nat} (h : DSt w0 g R D id most nf nm w x q) : (Value.slice x.b x.m x.d).ownBlock ≠ some D ∧ (Value.slice x.b x.m x.d).ownBlock ≠ some R := by
  refine ⟨fun e => ?_, fun e => ?_⟩
  · obtain ⟨cur, hc⟩ := own_kind h.own.g e
    have := h.obj
    rw [DocObj, hc] at this
    injection this with this
    injection this with _ h2
    exact absurd h2 (by decide)
  · obtain ⟨cur, hc⟩ := own_kind h.own.g e
    have := h.res
    rw [hc] at this
    injection this with this
    injection this with _ h2
    exact absurd h2 (by decide)
/-- .. once a field was added. -/
theorem DSt.field {w0 w w' : World} {g R D most nf nm : Nat} {id : Int} {x : DocA} {q : Nat} (h : DSt w0 g R D id most nf nm w x q) (hnf : nf < 3) {a' : Option Addr} {c' : Nat} {f : Fd} (hf : f.name.size ≤ 20 ∧ f.text.size ≤ 400)
    (ho : w'.ownsRow w0.heap.size 49 2 (.slice a' (x.n + 1) c') (x.n + 1) (tab (x.n * 2) (fdC x.fs) ++ [.string f.name, .string f.text])) (hg : w.grownBy w' (Value.slice x.a x.n x.c).ownBlock) :
    DSt w0 g R D id most (nf + 1) nm (w'.setCell ⟨D, 1, none⟩ (.slice a' (x.n + 1) c')) { x with a := a', n := x.n + 1, c := c', fs := x.fs ++ [f] } q := by
  have hgD : g < D := by have := h.lt; have := h.le; have := h.rd; omega
  have hlt := h.own.lf
  have rowB : ∀ k, (Value.slice x.a x.n x.c).ownBlock = some k → w0.heap.size ≤ k := fun k hk => (own_block h.own.f k hk).1
  have o1 : DocObj w' D x := h.obj.kept hg h.rowf.1
  have gA : w'.ownsRow w0.heap.size 51 2 (.slice x.b x.m x.d) x.m (tab (x.m * 2) (adC x.ns)) := own_other h.own.g hg (fun k hk => by obtain ⟨cur, hc⟩ := own_kind h.own.f hk; exact ⟨cur, _, by decide, hc⟩)
  rw [fd_snoc hlt] at ho
  have so := set_only (w := w') ⟨D, 1, none⟩ (.slice a' (x.n + 1) c')
  have rdr1 : Rdr w' g q := h.rdr.kept hg (fun k hk => by have := rowB k hk; have := h.lt; omega)
  refine ⟨h.id, by have := h.n; show x.n + 1 ≤ _; omega, h.m, o1.set1 _ _ _ _, ⟨own_other ho so (fun k hk => by injection hk with hk; have e : D = k := hk; rw [← e]; exact ⟨_, _, by decide, o1⟩), own_other gA so (fun k hk => by injection hk with hk; have e : D = k := hk; rw [← e]; exact ⟨_, _, by decide, o1⟩), by show (x.fs ++ [f]).length = _; rw [List.length_append, hlt]; rfl, h.own.lg, fun y hy => ?_, h.own.fg, by have := h.n; show x.n + 1 ≤ 3; omega, h.own.nm⟩, rdr1.kept so (fun k hk => by injection hk with hk; have : D = k := hk; omega), h.q, ?_, h.lt, h.le, h.rd, res_kept (res_kept h.res hg h.rowf.2) so (fun e => by injection e with e; have : D = R := e; have := h.rd; omega)⟩
  · rw [List.mem_append, List.mem_singleton] at hy
    rcases hy with hy | hy
    · exact h.own.ff y hy
    · rw [hy]; exact hf
  · exact row_only (row_only h.only hg (fun k hk => by have := rowB k hk; have := h.le; have := h.rd; omega)) so (fun k hk => by injection hk with hk; have : D = k := hk; have := h.le; have := h.rd; omega)
/-- .. once a number was added. -/
theorem DSt.attr {w0 w w' : World} {g R D most nf nm : Nat} {id : Int} {x : DocA} {q : Nat} (h : DSt w0 g R D id most nf nm w x q) (hnm : nm < 3) {b' : Option Addr} {d' : Nat} {f : Ad} (hf : f.name.size ≤ 20 ∧ -1 ≤ f.num ∧ f.num ≤ 1000000000)
    (ho : w'.ownsRow w0.heap.size 51 2 (.slice b' (x.m + 1) d') (x.m + 1) (tab (x.m * 2) (adC x.ns) ++ [.string f.name, .int .i64 f.num])) (hg : w.grownBy w' (Value.slice x.b x.m x.d).ownBlock) :
    DSt w0 g R D id most nf (nm + 1) (w'.setCell ⟨D, 2, none⟩ (.slice b' (x.m + 1) d')) { x with b := b', m := x.m + 1, d := d', ns := x.ns ++ [f] } q := by
  have hgD : g < D := by have := h.lt; have := h.le; have := h.rd; omega
  have hlt := h.own.lg
  have rowB : ∀ k, (Value.slice x.b x.m x.d).ownBlock = some k → w0.heap.size ≤ k := fun k hk => (own_block h.own.g k hk).1
  have o1 : DocObj w' D x := h.obj.kept hg h.rowg.1
  have gA : w'.ownsRow w0.heap.size 49 2 (.slice x.a x.n x.c) x.n (tab (x.n * 2) (fdC x.fs)) := own_other h.own.f hg (fun k hk => by obtain ⟨cur, hc⟩ := own_kind h.own.g hk; exact ⟨cur, _, by decide, hc⟩)
  rw [ad_snoc hlt] at ho
  have so := set_only (w := w') ⟨D, 2, none⟩ (.slice b' (x.m + 1) d')
  have rdr1 : Rdr w' g q := h.rdr.kept hg (fun k hk => by have := rowB k hk; have := h.lt; omega)
  refine ⟨h.id, h.n, by have := h.m; show x.m + 1 ≤ _; omega, o1.set2 _ _ _ _, ⟨own_other gA so (fun k hk => by injection hk with hk; have e : D = k := hk; rw [← e]; exact ⟨_, _, by decide, o1⟩), own_other ho so (fun k hk => by injection hk with hk; have e : D = k := hk; rw [← e]; exact ⟨_, _, by decide, o1⟩), h.own.lf, by show (x.ns ++ [f]).length = _; rw [List.length_append, hlt]; rfl, h.own.ff, fun y hy => ?_, h.own.nf, by have := h.m; show x.m + 1 ≤ 3; omega⟩, rdr1.kept so (fun k hk => by injection hk with hk; have : D = k := hk; omega), h.q, ?_, h.lt, h.le, h.rd, res_kept (res_kept h.res hg h.rowg.2) so (fun e => by injection e with e; have : D = R := e; have := h.rd; omega)⟩
  · rw [List.mem_append, List.mem_singleton] at hy
    rcases hy with hy | hy
    · exact h.own.fg y hy
    · rw [hy]; exact hf
  · exact row_only (row_only h.only hg (fun k hk => by have := rowB k hk; have := h.le; have := h.rd; omega)) so (fun k hk => by injection hk with hk; have : D = k := hk; have := h.le; have := h.rd; omega)
end Go.Proofs.YtlbopihffpodkaaDoor
