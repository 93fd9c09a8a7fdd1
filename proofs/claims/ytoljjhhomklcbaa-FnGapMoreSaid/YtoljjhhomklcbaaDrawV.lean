/- Bytes that are drawn: of numbers, of gaps, of bits, bent. Conditions: bounds on how often the reader is read. -/
import Derived.Test.YtoljjhhomklcbaaDrawN
import Derived.Test.YtoljjhhomklcbaaPackPut
namespace Go.Proofs.Ytoljjhhomklcbaa
open Go.ChangeShapes Go.WideShapes Go.RowKit
/-- A number that a draw gives. -/
def DrawnN (w : World) (e : Ending) (w' : World) : Prop := ∃ x : Int, e = .returned (.int .i64 x) ∧ -1 ≤ x ∧ x ≤ 1000000000 ∧ Below w.heap.size w w'
/-- A string that a draw gives. -/
def DrawnS (w : World) (e : Ending) (w' : World) : Prop := ∃ s : ByteArray, e = .returned (.string s) ∧ s.size ≤ 100000 ∧ Below w.heap.size w w'
theorem pv31 {n : Nat} (h : n ≤ 999999999) : n ≤ 4294967296 := by omega
theorem packPut_small (n : Nat) (xs : List Int) : (packPut n xs).size ≤ 1000 := by
  by_cases hneg : packWidth n xs < 0
  · rw [packPut, if_pos hneg]; show 0 ≤ _; omega
  · obtain ⟨hn60, _, W, hW, hW30⟩ := packWidth_yes hneg
    rw [packPut, if_neg hneg, hW]
    have z0 : n * W ≤ 60 * 30 := Nat.mul_le_mul hn60 hW30
    have z1 : (varS n).size ≤ 10 := varS_le10 n (by omega)
    have z2 : (varS W).size ≤ 10 := varS_le10 W (by omega)
    rw [Int.toNat_natCast, ByteArray.size_append, ByteArray.size_append, strOfNums_size, packB_len]
    omega
end Go.Proofs.Ytoljjhhomklcbaa
