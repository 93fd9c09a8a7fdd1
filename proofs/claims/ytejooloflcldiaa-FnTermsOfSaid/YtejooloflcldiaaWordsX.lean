/- The walks of the words of a text, and of the laws' helpers on slices of words. Conditions: what is read fits the model's sizes. -/
import Derived.Test.YtejooloflcldiaaWordsOf
import Derived.Test.YtejooloflcldiaaMark
import Derived.Deep.RegionWith
namespace Go.Proofs.Ytejooloflcldiaa
open Go.RowKit

def wordsMany (s : ByteArray) : Int := if textOk s then ((wordsOf s).length : Int) else -1
theorem WordsMany_any (s : ByteArray) (hs : s.size ≤ maxLen) (w : World) :
    Calls Try.prog 26 #[.string s] w fun e w' => e = .returned (.int .i64 (wordsMany s)) ∧ Below w.heap.size w w' := by
  cases h1 : textOk s
  · have R := Lib.hid (show wordsMany s = -1 by rw [wordsMany, h1]; rfl)
    go_enter Try.func26, Try.ntmps26
    go_wp2_with fail
    refine (TextOk_any _ _ hs).mono ?_
    rintro e w' ⟨rfl, rfl⟩
    go_wp2_with fail
    go_ret
    exact ⟨ret_int R.out.symm, Below.refl _ _⟩
  · have R := Lib.hid (show wordsMany s = ((wordsOf s).length : Int) by rw [wordsMany, h1]; rfl)
    have hl := wordsOf_len s
    go_enter Try.func26, Try.ntmps26
    go_wp2_with fail
    refine (TextOk_any _ _ hs).mono ?_
    rintro e w' ⟨rfl, rfl⟩
    go_wp2_with fail
    refine (WordsOf_any _ hs _).mono ?_
    rintro e w1 ⟨a1, c1, rfl, ho, hb⟩
    have HB := Lib.hid hb; clear hb ho
    go_wp2_with fail
    go_ret
    exact ⟨ret_int R.out.symm, HB.out⟩
def marksW (k : Nat) (j : Nat) : Value := if j % 4 = 0 then .string (markS (k + j)) else .int .i64 ((k + j : Nat) : Int)
theorem own_cell {w : World} {B : Nat} {e : TypeId} {size n : Nat} {v : Value} {g cap : Nat} {xs : List Value} (h : w.ownsRow B e size v n xs) (hv : v = .slice (some ⟨g, 0, none⟩) n cap) {j : Nat} (hj : j < n * size) : (∃ u, w.cell? ⟨g, j, none⟩ = some u) ∧ w.frozen? ⟨g, j, none⟩ = false := by
  subst hv
  refine ⟨⟨xs[j]'(by rw [h.1]; exact hj), ?_⟩, h.frozenAt j⟩
  rw [h.cellAt j hj]
  simp [h.1, hj]
end Go.Proofs.Ytejooloflcldiaa
