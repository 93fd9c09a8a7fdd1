/- The constants are those of the reference. No condition. -/
import Derived.Test.YtehgljcngkodcaaBase
namespace Go.Proofs.Ytehgljcngkodcaa
open Go.RowKit
theorem xConstants_any (w : World) : Calls Try.prog 3 #[] w fun e w' => e = .returned (.bool true) ∧ Below w.heap.size w w' := by
  go_enter Try.func3, Try.ntmps3
  go_wp2
  go_ret
  exact ⟨rfl, Below.refl _ _⟩
end Go.Proofs.Ytehgljcngkodcaa
