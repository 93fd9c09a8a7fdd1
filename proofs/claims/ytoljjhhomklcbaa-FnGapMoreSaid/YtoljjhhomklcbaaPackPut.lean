/- The law of PackPut: program and reference say the same. Conditions: what is read fits the model's sizes. -/
import Derived.Test.YtoljjhhomklcbaaPack2
import Derived.Test.YtoljjhhomklcbaaInts
namespace Go.Proofs.Ytoljjhhomklcbaa
open Go.RowKit
theorem packPut_size (n : Nat) (xs : List Int) : (packPut n xs).size ≤ maxLen := by
  unfold maxLen
  by_cases hneg : packWidth n xs < 0
  · rw [packPut, if_pos hneg]; show 0 ≤ _; omega
  · obtain ⟨hn60, _, W, hW, hW30⟩ := packWidth_yes hneg
    rw [packPut, if_neg hneg, hW]
    have z0 : n * W ≤ 60 * 30 := Nat.mul_le_mul hn60 hW30
    have z1 : (varS n).size ≤ 10 := varS_le10 n (by omega)
    have z2 : (varS W).size ≤ 10 := varS_le10 W (by omega)
    rw [Int.toNat_natCast, ByteArray.size_append, ByteArray.size_append, strOfNums_size, packB_len]
    omega
end Go.Proofs.Ytoljjhhomklcbaa
