/- The walks of the laws' marks: the letter m and figures. Conditions: numbers that are not too great. -/
import Derived.Test.YtoljjhhomklcbaaStrs
import Derived.Deep.RegionWith
namespace Go.Proofs.Ytoljjhhomklcbaa
open Go.RowKit

/-- A number in figures, nothing for nought. -/
def digs (k : Nat) : List UInt8 := if _h : k = 0 then [] else digs (k / 10) ++ [UInt8.ofNat (48 + k % 10)]
theorem digs_zero : digs 0 = [] := by rw [digs]; rfl
theorem digs_pos {k : Nat} (h : 0 < k) : digs k = digs (k / 10) ++ [UInt8.ofNat (48 + k % 10)] := by rw [digs, dif_neg (by omega)]
theorem digs_len : ∀ k : Nat, (digs k).length ≤ k := by
  intro k
  induction k using Nat.strongRecOn with
  | ind k ih =>
    by_cases h : k = 0
    · subst h; rw [digs_zero]; exact Nat.le_refl _
    · rw [digs_pos (by omega), List.length_append]
      have := ih (k / 10) (by omega)
      simp only [List.length_cons, List.length_nil]
      omega
def markS (k : Nat) : ByteArray := ⟨(109 :: digs k).toArray⟩
def one8 (n : Nat) : ByteArray := ⟨#[UInt8.ofNat n]⟩
theorem cv_one {w : World} (x : Int) (g : Nat) (hx : w.cell? ⟨g, 0, none⟩ = some (.int .u8 x)) : (convert 22 9 (.slice (some ⟨g, 0, none⟩) 1 1)).run Try.prog w = .ok (.string (one8 x.toNat)) w := by
  have hc : ∀ i, i < 1 → w.cell? ⟨g, 0 + i, none⟩ = some (.int .u8 ([x].getD i 0)) := by
    intro i hi
    obtain rfl : i = 0 := by omega
    simpa using hx
  rw [run_convert_bytes_arg (P := Try.prog) w 22 5 Try.underlying22 Try.underlying5 g 0 1 1 [x] rfl hc 9 Try.underlying9]
  rfl
theorem one8_app (n : Nat) (out : List UInt8) : one8 n ++ (⟨out.toArray⟩ : ByteArray) = ⟨(UInt8.ofNat n :: out).toArray⟩ := by
  apply ByteArray.ext; simp [one8, ByteArray.data_append]
theorem m_app (out : List UInt8) : (⟨#[109]⟩ : ByteArray) ++ (⟨out.toArray⟩ : ByteArray) = ⟨(109 :: out).toArray⟩ := by
  apply ByteArray.ext; simp [ByteArray.data_append]
theorem one8_size (n : Nat) : (one8 n).size = 1 := rfl
def marksS (k : Nat) (j : Nat) : Value := .string (markS (k + j))
end Go.Proofs.Ytoljjhhomklcbaa
