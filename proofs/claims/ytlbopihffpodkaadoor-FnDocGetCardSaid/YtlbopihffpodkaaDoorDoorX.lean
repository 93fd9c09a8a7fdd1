/- What a row that lists the library's table of powers gives the walks. No condition. -/
import Derived.Test.YtlbopihffpodkaaDoorOpenD
import Derived.Test.YtlbopihffpodkaaDoorRows
import Derived.Lib.LaidTab
import Derived.Lib.ItoaNum
import Derived.LaidMore
import Derived.LaidHandle
import Derived.MakeChecks
import Derived.Stop.LaidErr
namespace Go.Proofs.YtlbopihffpodkaaDoor
set_option maxRecDepth 100000
theorem pow_is {H : Type} : (Rows.laid_internal_strconv_uint64pow10 : DataW H) = Lib.tabData .u64 Lib.pow10Tab := by kernel_rfl
theorem pow_at {W : World} {rest : List (String × DataW Unit)} (h : laidMet Tryd.prog (("internal/strconv.uint64pow10", Rows.laid_internal_strconv_uint64pow10) :: rest) W) : Lib.TabIs Tryd.prog W "internal/strconv.uint64pow10" .u64 Lib.pow10Tab := by
  rw [pow_is] at h
  exact Lib.tabIs_of_head (g := 0) (t := 112) (e := 97) (n := 20) (by kernel_rfl) (by kernel_rfl) Tryd.underlying112 Tryd.underlying97 (by kernel_rfl) (by kernel_rfl) h
theorem pow_third {W : World} {x y : String × DataW Unit} {rest : List (String × DataW Unit)} (h : laidMet Tryd.prog (x :: y :: ("internal/strconv.uint64pow10", Rows.laid_internal_strconv_uint64pow10) :: rest) W) : Lib.TabIs Tryd.prog W "internal/strconv.uint64pow10" .u64 Lib.pow10Tab := pow_at h.tail.tail
end Go.Proofs.YtlbopihffpodkaaDoor
