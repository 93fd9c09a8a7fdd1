/- The walks of what tells whether a text is ok: the program's and the reference's come to one Lean function. Condition: the string fits the model's sizes. -/
import Derived.Test.YtcniiinapnkbfaaBase
namespace Go.Proofs.Ytcniiinapnkbfaa
open Go.RowKit

def textB (c : Int) : Bool := decide (32 ≤ c ∧ c ≤ 126)
def textOk (s : ByteArray) : Bool := allB textB s.data.toList && decide (s.size ≤ 160)

theorem within_any (a b c : Int) (w : World) :
    Calls Try.prog 37 #[.int .i64 a, .int .i64 b, .int .i64 c] w fun e w' => e = .returned (.bool (decide (b ≤ a ∧ a ≤ c))) ∧ w = w' := by
  go_enter Try.func37, Try.ntmps37
  go_wp2
  all_goals (go_ret; refine ⟨ret_bool ?_, rfl⟩; simp; try omega)
theorem l1In_any (a b c : Int) (w : World) :
    Calls Try.prog 38 #[.int .i64 a, .int .i64 b, .int .i64 c] w fun e w' => e = .returned (.bool (decide (b ≤ a ∧ a ≤ c))) ∧ w = w' := by
  go_enter Try.func38, Try.ntmps38
  go_wp2
  all_goals (go_ret; refine ⟨ret_bool ?_, rfl⟩; simp; try omega)
end Go.Proofs.Ytcniiinapnkbfaa
