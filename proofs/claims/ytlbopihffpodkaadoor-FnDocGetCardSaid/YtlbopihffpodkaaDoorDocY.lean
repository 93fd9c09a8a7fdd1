/- Documents read out of text: both answers in one form, and the walks of what marks a document. Conditions: the text is not too long; the library's variables hold what they are laid to hold. -/
import Derived.Test.YtlbopihffpodkaaDoorDocJ
import Derived.Test.YtlbopihffpodkaaDoorDocK
namespace Go.Proofs.YtlbopihffpodkaaDoor
set_option maxRecDepth 100000
open Go.RowKit
def stOf (o : Option St) : St := o.getD ⟨0, [], []⟩
theorem nil_in (w : World) : (⟨0, none, 0, 0, [], none, 0, 0, []⟩ : DocA).In w := ⟨⟨rfl, fun j => by simp [nthD], Rd.zero⟩, ⟨rfl, fun j => by simp [nthA]; decide, Rd.zero⟩, Nat.zero_le _, Nat.zero_le _⟩
theorem nil_own (w : World) (B : Nat) : DocOwn w B ⟨0, none, 0, 0, [], none, 0, 0, []⟩ := ⟨World.ownsRow_nil _ _ _ _, World.ownsRow_nil _ _ _ _, rfl, rfl, by simp, by simp, Nat.zero_le _, Nat.zero_le _⟩
theorem sDocGet_one (s : ByteArray) (w : World) (hs : s.size ≤ 1152921504606846976) :
    Calls Tryd.prog 15 #[.string s] w fun e w' => ∃ x : DocA, e = .returned (.tuple #[x.v, .bool (iGet s).isSome]) ∧ x.In w' ∧ Same x (stOf (iGet s)) ∧ Below w.heap.size w w' := by
  refine (sDocGet_any s w hs).mono ?_
  rw [get_same]
  intro e w' h
  unfold Got at h
  revert h
  cases iGet s with
  | none => rintro ⟨rfl, hb⟩; exact ⟨⟨0, none, 0, 0, [], none, 0, 0, []⟩, rfl, nil_in _, ⟨rfl, rfl, rfl, rfl, rfl⟩, hb⟩
  | some t => rintro ⟨⟨x, rfl, hi, h1, h2, h3, h4, h5⟩, hb⟩; exact ⟨x, rfl, hi, ⟨h1, h2, h3, h4, h5⟩, hb⟩
theorem iDocGet_one (s : ByteArray) (w : World) (hs : s.size ≤ 4000000) (he : Env w) :
    Calls Tryd.prog 12 #[.string s] w fun e w' => ∃ x : DocA, e = .returned (.tuple #[x.v, .bool (iGet s).isSome]) ∧ DocOwn w' w.heap.size x ∧ Same x (stOf (iGet s)) ∧ Below w.heap.size w w' := by
  refine (iDocGet_any s w hs he).mono ?_
  intro e w' h
  unfold GotI at h
  revert h
  cases iGet s with
  | none => rintro ⟨rfl, hb⟩; exact ⟨⟨0, none, 0, 0, [], none, 0, 0, []⟩, rfl, nil_own _ _, ⟨rfl, rfl, rfl, rfl, rfl⟩, hb⟩
  | some t => rintro ⟨⟨x, rfl, hi, hsm⟩, hb⟩; exact ⟨x, rfl, hi, hsm, hb⟩
theorem eqDoc_alike (x y : DocA) (w : World) (hx : x.In w) (hy : y.In w) {t : St} (h1 : Same x t) (h2 : Same y t) :
    Calls Tryd.prog 16 #[.agg #[.int .i64 x.id, .slice x.a x.n x.c, .slice x.b x.m x.d], .agg #[.int .i64 y.id, .slice y.a y.n y.c, .slice y.b y.m y.d]] w fun e w' => e = .returned (.bool true) ∧ Below w.heap.size w w' := by
  obtain ⟨a1, a2, a3, a4, a5⟩ := h1
  obtain ⟨b1, b2, b3, b4, b5⟩ := h2
  have hyf := hy.f
  have hyg := hy.g
  have e := eqDoc_same x.id x.a x.n x.c x.fs x.b x.m x.d x.ns y.a y.c y.b y.d w hx.f hx.g (by rw [a2, a3, ← b2, ← b3]; exact hyf) (by rw [a4, a5, ← b4, ← b5]; exact hyg) hx.hn hx.hm
  unfold docV at e
  rw [b1, b2, b4, ← a1, ← a2, ← a4]
  exact e
/-- A document whose rows are marked. -/
structure MarkD (w : World) (B : Nat) (x : DocA) (k : Nat) : Prop where
  f : w.ownsRow B 49 2 (.slice x.a x.n x.c) x.n (tab (x.n * 2) (marksF k))
  g : w.ownsRow B 51 2 (.slice x.b x.m x.d) x.m (tab (x.m * 2) (marksT (k + x.n * 2)))
theorem MarkD.below {w w' : World} {B k : Nat} {x : DocA} (h : MarkD w B x k) (hb : Below w.heap.size w w') : MarkD w' B x k := ⟨own_below h.f hb (Nat.le_refl _), own_below h.g hb (Nat.le_refl _)⟩
def DocsKept (w w' : World) : Prop := ∀ (i : Nat) (cs : Array Value), w.heap[i]? = some (Obj.cells cs 26 (0, 0)) → w'.heap[i]? = some (Obj.cells cs 26 (0, 0))
theorem kept_grown {w w' : World} {row : Option Nat} (hg : w.grownBy w' row) (hr : ∀ k, row = some k → ∃ cur e', e' ≠ 26 ∧ w.heap[k]? = some (.cells cur e' (0, 0))) : DocsKept w w' := by
  intro i cs h
  refine (hg.block i (Array.getElem?_eq_some_iff.1 h).1 (fun e => ?_)).trans h
  obtain ⟨cur, e', h1, h2⟩ := hr i e.symm
  rw [h] at h2
  injection h2 with h2
  injection h2 with _ h3
  exact h1 h3.symm
set_option maxHeartbeats 1000000 in
theorem markDoc_any (x : DocA) (k B : Nat) (w : World) (hx : DocOwn w B x) (hB : B ≤ w.heap.size) (h0 : 0 < k) (h1 : k ≤ 1000000) :
    Calls Tryd.prog 17 #[.agg #[.int .i64 x.id, .slice x.a x.n x.c, .slice x.b x.m x.d], .int .i64 k] w fun e w' => e = .returned (.int .i64 ((k + x.n * 2 + x.m * 2 : Nat) : Int)) ∧ MarkD w' B x k ∧ Below B w w' ∧ DocsKept w w' := by
  have hn := hx.nf
  have hm := hx.nm
  have HX := Lib.hid hx; clear hx
  go_enter Tryd.func17, Tryd.ntmps17
  go_wp2_with fail
  have BW : Hid (Below w.heap.size w (w.alloc (.cells #[.int .i64 x.id, .slice x.a x.n x.c, .slice x.b x.m x.d] 26))) := (Below.refl _ _).alloc (Nat.le_refl _) _
  have OB : Hid (DocObj (w.alloc (.cells #[.int .i64 x.id, .slice x.a x.n x.c, .slice x.b x.m x.d] 26)) w.heap.size x) := heap_alloc_new _ _
  have X0 := Lib.hid (HX.out.below BW.out)
  have K0 : Hid (DocsKept w (w.alloc (.cells #[.int .i64 x.id, .slice x.a x.n x.c, .slice x.b x.m x.d] 26))) := fun i cs h => (BW.out.block i (Array.getElem?_eq_some_iff.1 h).1).trans h
  generalize w.alloc (.cells #[.int .i64 x.id, .slice x.a x.n x.c, .slice x.b x.m x.d] 26) = W0 at *
  refine (markFieldS_any _ _ _ k B _ _ X0.out.f h0 (by omega)).mono ?_
  rintro e w1 ⟨rfl, hf1, hg1⟩
  have F1 := Lib.hid hf1; clear hf1
  have KF : Hid (∀ j, (Value.slice x.a x.n x.c).ownBlock = some j → ∃ cur, W0.heap[j]? = some (.cells cur 49 (0, 0))) := fun j hj => own_kind X0.out.f hj
  have G1 : Hid (w1.ownsRow B 51 2 (.slice x.b x.m x.d) x.m (tab (x.m * 2) (adC x.ns))) := own_other X0.out.g hg1 (fun j hj => by obtain ⟨cur, h⟩ := KF.out j hj; exact ⟨cur, _, by decide, h⟩)
  have K1 := Lib.hid (kept_grown hg1 (fun j hj => by obtain ⟨cur, h⟩ := KF.out j hj; exact ⟨cur, _, by decide, h⟩))
  have B1 := Lib.hid (((BW.out.mono hB)).grown hg1 (Nat.le_trans hB BW.out.size) (fun j hj => (own_block X0.out.f j hj).1))
  have OB1 : Hid (DocObj w1 w.heap.size x) := K1.out _ _ OB.out
  clear hg1 KF
  obtain ⟨d0, d1, d2, -, -, -⟩ := OB1.out.cells
  go_wp2_with fail
  refine (markAttrS_any _ _ _ (k + x.n * 2) B _ _ G1.out (by omega) (by omega)).mono ?_
  rintro e w2 ⟨rfl, hf2, hg2⟩
  have G2 := Lib.hid hf2; clear hf2
  have KG : Hid (∀ j, (Value.slice x.b x.m x.d).ownBlock = some j → ∃ cur, w1.heap[j]? = some (.cells cur 51 (0, 0))) := fun j hj => own_kind G1.out hj
  have F2 : Hid (w2.ownsRow B 49 2 (.slice x.a x.n x.c) x.n (tab (x.n * 2) (marksF k))) := own_other F1.out hg2 (fun j hj => by obtain ⟨cur, h⟩ := KG.out j hj; exact ⟨cur, _, by decide, h⟩)
  have K2 := Lib.hid (kept_grown hg2 (fun j hj => by obtain ⟨cur, h⟩ := KG.out j hj; exact ⟨cur, _, by decide, h⟩))
  have B2 := Lib.hid (B1.out.grown hg2 (Nat.le_trans hB B1.out.size) (fun j hj => (own_block G1.out j hj).1))
  clear hg2 KG d0 d1 d2
  go_wp2_with fail
  go_ret
  exact ⟨rfl, ⟨F2.out, G2.out⟩, B2.out, fun i cs h => K2.out _ _ (K1.out _ _ (K0.out _ _ h))⟩
set_option maxHeartbeats 1000000 in
theorem heldDoc_any (x : DocA) (k B : Nat) (w : World) (hx : MarkD w B x k) (hn : x.n ≤ 3) (hm : x.m ≤ 3) (h0 : 0 < k) (h1 : k ≤ 1000000) :
    Calls Tryd.prog 18 #[.agg #[.int .i64 x.id, .slice x.a x.n x.c, .slice x.b x.m x.d], .int .i64 k] w fun e w' => e = .returned (.int .i64 ((k + x.n * 2 + x.m * 2 : Nat) : Int)) ∧ Below w.heap.size w w' := by
  have HX := Lib.hid hx; clear hx
  go_enter Tryd.func18, Tryd.ntmps18
  go_wp2_with fail
  have BW : Hid (Below w.heap.size w (w.alloc (.cells #[.int .i64 x.id, .slice x.a x.n x.c, .slice x.b x.m x.d] 26))) := (Below.refl _ _).alloc (Nat.le_refl _) _
  have OB : Hid (DocObj (w.alloc (.cells #[.int .i64 x.id, .slice x.a x.n x.c, .slice x.b x.m x.d] 26)) w.heap.size x) := heap_alloc_new _ _
  have X0 := Lib.hid (HX.out.below BW.out)
  generalize w.alloc (.cells #[.int .i64 x.id, .slice x.a x.n x.c, .slice x.b x.m x.d] 26) = W0 at *
  refine (heldFieldS_any _ _ _ k _ (Rd.of_own X0.out.f) h0 (by omega)).mono ?_
  rintro e w1 ⟨rfl, hb1⟩
  have OB1 := Lib.hid (OB.out.below hb1)
  have X1 := Lib.hid (X0.out.below hb1)
  have B1 := Lib.hid (BW.out.trans (hb1.mono BW.out.size)); clear hb1
  obtain ⟨d0, d1, d2, -, -, -⟩ := OB1.out.cells
  have hneg : ¬ ((k + x.n * 2 : Nat) : Int) < 0 := by omega
  go_wp2_with fail
  refine (heldAttrS_any _ _ _ (k + x.n * 2) _ (Rd.of_own X1.out.g) (by omega) (by omega)).mono ?_
  rintro e w2 ⟨rfl, hb2⟩
  have B2 := Lib.hid (B1.out.trans (hb2.mono B1.out.size)); clear hb2 d0 d1 d2 hneg
  have hneg : ¬ ((k + x.n * 2 + x.m * 2 : Nat) : Int) < 0 := by omega
  go_wp2_with fail
  go_ret
  exact ⟨rfl, B2.out⟩
end Go.Proofs.YtlbopihffpodkaaDoor
