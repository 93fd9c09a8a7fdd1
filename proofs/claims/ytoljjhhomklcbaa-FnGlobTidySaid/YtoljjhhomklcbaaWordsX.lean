/- The walks of the words of a text, and of the laws' helpers on slices of words. Conditions: what is read fits the model's sizes. -/
import Derived.Test.YtoljjhhomklcbaaWordsOf
import Derived.Test.YtoljjhhomklcbaaMark
import Derived.Deep.RegionWith
namespace Go.Proofs.Ytoljjhhomklcbaa
open Go.RowKit

theorem sWordsOf_any (s : ByteArray) (hs : s.size ≤ maxLen) (w : World) :
    Calls Try.prog 25 #[.string s] w fun e w' => ∃ a' c', e = .returned (.slice a' (wordsOf s).length c') ∧ OwnWds w' w.heap.size a' (wordsOf s).length c' (wordsOf s) ∧ Below w.heap.size w w' := by
  cases h1 : textOk s
  · rw [show wordsOf s = [] by rw [wordsOf, h1]; rfl]
    go_enter Try.func25, Try.ntmps25
    go_wp2_with fail
    refine (l1Text_any _ _ hs).mono ?_
    rintro e w' ⟨rfl, rfl⟩
    go_wp2_with fail
    go_ret
    exact ⟨_, _, rfl, ⟨rfl, fun j => by simp [nthW], World.ownsRow_nil w _ _ _⟩, Below.refl _ _⟩
  · have HW := Lib.hid (show wordsOf s = wds s 0 0 by rw [wordsOf, h1]; rfl)
    have h160 := textOk_size h1
    go_enter Try.func25, Try.ntmps25
    go_wp2_with fail
    refine (l1Text_any _ _ hs).mono ?_
    rintro e w' ⟨rfl, rfl⟩
    go_wp2_with fail
    refine (l1Words_any _ h160 _).mono ?_
    rintro e w1 ⟨a1, c1, rfl, ho, hb⟩
    have HO := Lib.hid ho; clear ho
    have HB := Lib.hid hb; clear hb
    go_wp2_with fail
    go_ret
    rw [HW.out]
    exact ⟨_, _, rfl, HO.out, HB.out⟩
def wordsMany (s : ByteArray) : Int := if textOk s then ((wordsOf s).length : Int) else -1
def marksW (k : Nat) (j : Nat) : Value := if j % 4 = 0 then .string (markS (k + j)) else .int .i64 ((k + j : Nat) : Int)
theorem own_cell {w : World} {B : Nat} {e : TypeId} {size n : Nat} {v : Value} {g cap : Nat} {xs : List Value} (h : w.ownsRow B e size v n xs) (hv : v = .slice (some ⟨g, 0, none⟩) n cap) {j : Nat} (hj : j < n * size) : (∃ u, w.cell? ⟨g, j, none⟩ = some u) ∧ w.frozen? ⟨g, j, none⟩ = false := by
  subst hv
  refine ⟨⟨xs[j]'(by rw [h.1]; exact hj), ?_⟩, h.frozenAt j⟩
  rw [h.cellAt j hj]
  simp [h.1, hj]
end Go.Proofs.Ytoljjhhomklcbaa
