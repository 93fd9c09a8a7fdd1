/- Slices of documents as they lie in memory. Conditions: what is read fits the model's sizes. -/
import Derived.Test.YtlbopihffpodkaaDoorOpenD
import Derived.Test.YtlbopihffpodkaaDoorDocOk
namespace Go.Proofs.YtlbopihffpodkaaDoor
set_option maxRecDepth 100000
open Go.RowKit
def DocA.none : DocA := ⟨0, Option.none, 0, 0, [], Option.none, 0, 0, []⟩
def nthX (xs : List DocA) (i : Nat) : DocA := xs[i]?.getD DocA.none
def dcC (xs : List DocA) (j : Nat) : Value := if j % 3 = 0 then .int .i64 (nthX xs (j / 3)).id else if j % 3 = 1 then .slice (nthX xs (j / 3)).a (nthX xs (j / 3)).n (nthX xs (j / 3)).c else .slice (nthX xs (j / 3)).b (nthX xs (j / 3)).m (nthX xs (j / 3)).d
/-- A slice that reads as documents. -/
structure Docs (w : World) (a : Option Addr) (n : Nat) (xs : List DocA) : Prop where
  len : xs.length = n
  each : ∀ j, j < n → (nthX xs j).In w
  rd : Rd w a (n * 3) (dcC xs)
theorem DocA.In.below {w w' : World} {x : DocA} (h : x.In w) (hb : Below w.heap.size w w') : x.In w' := ⟨h.f.below hb, h.g.below hb, h.hn, h.hm⟩
theorem Docs.below {w w' : World} {a : Option Addr} {n : Nat} {xs : List DocA} (h : Docs w a n xs) (hb : Below w.heap.size w w') : Docs w' a n xs := ⟨h.len, fun j hj => (h.each j hj).below hb, h.rd.below hb⟩
theorem Docs.pos {w : World} {a : Option Addr} {n i : Nat} {xs : List DocA} (h : Docs w a n xs) (hi : i < n) : ∃ b off, a = some ⟨b, off, none⟩ ∧ ∀ i, i < n →
    w.cell? ⟨b, off + i * 3, none⟩ = some (.int .i64 (nthX xs i).id) ∧ w.cell? ⟨b, off + i * 3 + 1, none⟩ = some (.slice (nthX xs i).a (nthX xs i).n (nthX xs i).c) ∧ w.cell? ⟨b, off + i * 3 + 2, none⟩ = some (.slice (nthX xs i).b (nthX xs i).m (nthX xs i).d) := by
  obtain ⟨b, off, rfl, hc⟩ := h.rd.pos (k := i * 3) (by omega)
  refine ⟨b, off, rfl, fun i hi => ⟨?_, ?_, ?_⟩⟩
  · rw [hc (i * 3) (by omega), dcC, if_pos (by omega), Nat.mul_div_cancel _ (by omega)]
  · rw [Nat.add_assoc, hc (i * 3 + 1) (by omega), dcC, if_neg (by omega), if_pos (by omega), show (i * 3 + 1) / 3 = i by omega]
  · rw [Nat.add_assoc, hc (i * 3 + 2) (by omega), dcC, if_neg (by omega), if_neg (by omega), show (i * 3 + 2) / 3 = i by omega]
end Go.Proofs.YtlbopihffpodkaaDoor
