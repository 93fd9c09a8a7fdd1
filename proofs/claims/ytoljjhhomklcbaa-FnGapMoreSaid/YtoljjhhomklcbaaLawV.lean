/- The laws on numbers, gaps and bits read back. Conditions: what is read fits the model's sizes. -/
import Derived.Test.YtoljjhhomklcbaaDrawV
import Derived.Test.YtoljjhhomklcbaaPackLaw
namespace Go.Proofs.Ytoljjhhomklcbaa
open Go.RowKit

theorem str_none {s : ByteArray} (h : 0 < s.size) : s.toList.isEmpty = false ∧ ¬ s.toList = [] := by
  have h1 : s.toList ≠ [] := by
    rw [ByteArray.toList_eq]
    intro e
    have h2 : s.size = 0 := by have := congrArg List.length e; simpa using this
    omega
  exact ⟨by simp [h1], h1⟩
theorem varPut_no {x : Int} (h : ¬ numOk x = true) : varPut x = ⟨#[]⟩ := by rw [varPut, if_neg h]
theorem numOk_nat {x : Int} (h : numOk x = true) : ∃ m : Nat, x = m ∧ m ≤ 999999999 := by
  have := numOk_bd h
  exact ⟨x.toNat, by omega, by omega⟩
end Go.Proofs.Ytoljjhhomklcbaa
