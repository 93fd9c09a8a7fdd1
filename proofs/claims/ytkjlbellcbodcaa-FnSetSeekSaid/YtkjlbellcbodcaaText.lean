/- The walks of what tells whether a text is ok: the program's and the reference's come to one Lean function. Condition: the string fits the model's sizes. -/
import Derived.Test.YtkjlbellcbodcaaBase
namespace Go.Proofs.Ytkjlbellcbodcaa
open Go.RowKit

def textB (c : Int) : Bool := decide (32 ≤ c ∧ c ≤ 126)
def textOk (s : ByteArray) : Bool := allB textB s.data.toList && decide (s.size ≤ 160)

theorem within_any (a b c : Int) (w : World) :
    Calls Try.prog 43 #[.int .i64 a, .int .i64 b, .int .i64 c] w fun e w' => e = .returned (.bool (decide (b ≤ a ∧ a ≤ c))) ∧ w = w' := by
  go_enter Try.func43, Try.ntmps43
  go_wp2
  all_goals (go_ret; refine ⟨ret_bool ?_, rfl⟩; simp; try omega)
theorem l1In_any (a b c : Int) (w : World) :
    Calls Try.prog 41 #[.int .i64 a, .int .i64 b, .int .i64 c] w fun e w' => e = .returned (.bool (decide (b ≤ a ∧ a ≤ c))) ∧ w = w' := by
  go_enter Try.func41, Try.ntmps41
  go_wp2
  all_goals (go_ret; refine ⟨ret_bool ?_, rfl⟩; simp; try omega)
end Go.Proofs.Ytkjlbellcbodcaa
