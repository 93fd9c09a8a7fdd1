/- The walks of what tells whether numbers ascend. Conditions: what is read fits the model's sizes. -/
import Derived.Test.YtlbopihffpodkaaDoorInts
import Derived.Test.YtlbopihffpodkaaDoorVar
namespace Go.Proofs.YtlbopihffpodkaaDoor
set_option maxRecDepth 100000
open Go.RowKit

def upAt (xs : List Int) (j : Nat) : Bool := numOk (nthI xs j) && (decide (j = 0) || decide (nthI xs (j - 1) < nthI xs j))
/-- The first n numbers ascend, none below 0 or too great. -/
def upAsc (n : Nat) (xs : List Int) : Bool := allN n (upAt xs)
def upOk (n : Nat) (xs : List Int) : Bool := upAsc n xs && decide (n ≤ 60)
theorem within_num (x : Int) (w : World) : Calls Tryd.prog 26 #[.int .i64 x, .int .i64 0, .int .i64 999999999] w fun e w' => e = .returned (.bool (numOk x)) ∧ w = w' :=
  (within_any x 0 999999999 w).mono fun _ _ h => ⟨by rw [h.1, Bool.decide_and]; rfl, h.2⟩
theorem l1In_num (x : Int) (w : World) : Calls Tryd.prog 51 #[.int .i64 x, .int .i64 0, .int .i64 999999999] w fun e w' => e = .returned (.bool (numOk x)) ∧ w = w' :=
  (l1In_any x 0 999999999 w).mono fun _ _ h => ⟨by rw [h.1, Bool.decide_and]; rfl, h.2⟩
end Go.Proofs.YtlbopihffpodkaaDoor
