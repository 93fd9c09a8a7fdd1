/- The laws that tell that the program's answers on documents are the reference's. No condition. -/
import Derived.Test.YtlbopihffpodkaaDoorDocOk
import Derived.Test.YtlbopihffpodkaaDoorOpenD
namespace Go.Proofs.YtlbopihffpodkaaDoor
set_option maxRecDepth 100000
open Go.RowKit
theorem sDocOk_any (id : Int) (a : Option Addr) (n c : Nat) (fs : List Fd) (b : Option Addr) (m d : Nat) (ns : List Ad) (w : World) (hx : Flds w a n fs) (hy : Atts w b m ns) (hn : n ≤ maxLen) (hm : m ≤ maxLen) :
    Calls Tryd.prog 11 #[docV id a n c b m d] w fun e w' => e = .returned (.bool (docOk id n fs m ns)) ∧ Below w.heap.size w w' := by
  have HX := Lib.hid hx; clear hx
  have HY := Lib.hid hy; clear hy
  have HN := Lib.hid hn; clear hn
  have HM := Lib.hid hm; clear hm
  unfold docV
  go_enter Tryd.func11, Tryd.ntmps11
  go_wp2_with fail
  refine (l6Ok_any _ _ _ _ _ _ _ _ _ _ (HX.out.alloc _) (HY.out.alloc _) HN.out HM.out).mono ?_
  rintro e w1 ⟨rfl, hb1⟩
  have B1 : Hid (Below w.heap.size w w1) := (((Below.refl _ _).alloc (Nat.le_refl _) _).trans (hb1.mono (by simp))); clear hb1
  go_wp2_with fail
  go_ret
  exact ⟨rfl, B1.out⟩
end Go.Proofs.YtlbopihffpodkaaDoor
