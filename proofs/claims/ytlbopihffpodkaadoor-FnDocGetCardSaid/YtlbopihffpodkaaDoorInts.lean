/- The walks of the laws' helpers on slices of numbers: their copy, whether two are the same, marks. Conditions: what is read fits the model's sizes. -/
import Derived.Test.YtlbopihffpodkaaDoorMem
namespace Go.Proofs.YtlbopihffpodkaaDoor
set_option maxRecDepth 100000
open Go.RowKit

/-- A slice of numbers that the call itself made. -/
structure OwnInts (w : World) (B : Nat) (a : Option Addr) (n cap : Nat) (xs : List Int) : Prop where
  len : xs.length = n
  fit : ∀ j, (Lit.int .i64 (nthI xs j)).wf = true
  own : w.ownsRow B 3 1 (.slice a n cap) n (tab n fun j => .int .i64 (nthI xs j))
theorem OwnInts.ints {w : World} {B : Nat} {a : Option Addr} {n cap : Nat} {xs : List Int} (h : OwnInts w B a n cap xs) : Ints w .i64 a n xs := ⟨h.len, h.fit, Rd.of_own1 h.own⟩
theorem OwnInts.below {w w' : World} {B : Nat} {a : Option Addr} {n cap : Nat} {xs : List Int} (h : OwnInts w B a n cap xs) (hb : Below w.heap.size w w') : OwnInts w' B a n cap xs := ⟨h.len, h.fit, own_below h.own hb (Nat.le_refl _)⟩
theorem OwnInts.base {w : World} {B B' : Nat} {a : Option Addr} {n cap : Nat} {xs : List Int} (h : OwnInts w B a n cap xs) (hB : B' ≤ B) : OwnInts w B' a n cap xs := ⟨h.len, h.fit, own_base h.own hB⟩
theorem OwnInts.kept {w w' : World} {B : Nat} {a : Option Addr} {n cap : Nat} {xs : List Int} {row : Option Nat} (h : OwnInts w B a n cap xs) (hg : w.grownBy w' row) (hne : (Value.slice a n cap).ownBlock = none ∨ (Value.slice a n cap).ownBlock ≠ row) : OwnInts w' B a n cap xs := ⟨h.len, h.fit, h.own.kept hg hne⟩
theorem Ints.below {w w' : World} {k : IntKind} {a : Option Addr} {n : Nat} {xs : List Int} (h : Ints w k a n xs) (hb : Below w.heap.size w w') : Ints w' k a n xs := ⟨h.len, h.fit, h.rd.below hb⟩
theorem Ints.drewN {w : World} {k : IntKind} {a : Option Addr} {n : Nat} {xs : List Int} (h : Ints w k a n xs) (q : Nat) : Ints (w.drewN q) k a n xs := ⟨h.len, h.fit, h.rd⟩
theorem info_int : (Tryd.prog.info? 3).map (fun i => (i.zero, i.size, i.bytes)) = some (some (.int .i64 0), 1, 8) := by kernel_rfl
def eqInts (n m : Nat) (xs ys : List Int) : Bool := decide (n = m) && allN n fun j => nthI xs j == nthI ys j
theorem eqInts_refl (n : Nat) (xs : List Int) : eqInts n n xs xs = true := by
  rw [eqInts, Bool.and_eq_true, allN_iff]; exact ⟨by simp, fun j _ => by simp⟩
def marksI (k : Nat) (j : Nat) : Value := .int .i64 ((k + j : Nat) : Int)
end Go.Proofs.YtlbopihffpodkaaDoor
