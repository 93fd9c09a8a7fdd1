/- The walks of the words of a pattern. Conditions: what is read fits the model's sizes. -/
import Derived.Test.YtlbopihffpodkaaDoorGlob
import Derived.Test.YtlbopihffpodkaaDoorWordsUp
import Derived.Test.YtlbopihffpodkaaDoorMark
namespace Go.Proofs.YtlbopihffpodkaaDoor
set_option maxRecDepth 100000
open Go.RowKit

theorem take_snocS (xs : List ByteArray) (k : Nat) (h : k < xs.length) : xs.take (k + 1) = xs.take k ++ [nthS xs k] := by
  rw [List.take_succ_eq_append_getElem h, nthS_eq h]
theorem filter_yes {xs : List ByteArray} {q : ByteArray → Bool} {k : Nat} (h : k < xs.length) (hq : q (nthS xs k) = true) : (xs.take (k + 1)).filter q = (xs.take k).filter q ++ [nthS xs k] := by
  rw [take_snocS xs k h, List.filter_append]; simp [hq]
theorem filter_no {xs : List ByteArray} {q : ByteArray → Bool} {k : Nat} (h : k < xs.length) (hq : q (nthS xs k) = false) : (xs.take (k + 1)).filter q = (xs.take k).filter q := by
  rw [take_snocS xs k h, List.filter_append]; simp [hq]
theorem nthS_mem_fit {xs ys : List ByteArray} (h : ∀ j, (nthS xs j).size ≤ maxLen) (hs : ∀ y ∈ ys, y ∈ xs) : ∀ j, (nthS ys j).size ≤ maxLen := by
  intro j
  unfold nthS
  cases hj : ys[j]? with
  | none => simp
  | some y =>
    have hy := hs y (List.mem_of_getElem? hj)
    obtain ⟨i, hi⟩ := List.getElem?_of_mem hy
    have := h i
    simpa [nthS, hi] using this
def globOf (n : Nat) (xs : List ByteArray) (p : ByteArray) : List ByteArray := if wordsUp n xs && globOk p then xs.filter (globHasB p) else []
theorem own_nil_made (w : World) : OwnStrs (w.alloc (.cells #[] 9)) w.heap.size (some ⟨w.heap.size, 0, none⟩) 0 0 [] :=
  ⟨rfl, fun j => by simp [nthS], World.ownsRow_made w #[] 0 (Nat.le_refl _) (Nat.zero_le _) rfl⟩
theorem own_of_map {w : World} {B : Nat} {a : Option Addr} {n cap : Nat} {xs ys : List ByteArray} (hl : ys.length = n) (h : w.ownsRow B 9 1 (.slice a n cap) n (ys.map Value.string)) (hf : ∀ j, (nthS xs j).size ≤ maxLen) (hs : ∀ y ∈ ys, y ∈ xs) : OwnStrs w B a n cap ys :=
  ⟨hl, nthS_mem_fit hf hs, by rw [tab_strs, hl] at h; exact h⟩
theorem cells_new (w : World) (v : Value) (e : TypeId) : ∀ j u, [v][j]? = some u → (w.alloc (.cells #[v] e)).cell? ((⟨w.heap.size, 0, none⟩ : Addr).add j) = some u := by
  intro j u hj
  match j, hj with
  | 0, hj => simp at hj; subst hj; simp [Addr.add]
theorem own_none (w : World) (B : Nat) : OwnStrs w B none 0 0 [] := ⟨rfl, fun j => by simp [nthS], World.ownsRow_nil w B _ _⟩
theorem wordsUp_ok {n : Nat} {xs : List ByteArray} (h : wordsUp n xs = true) {j : Nat} (hj : j < n) : wordOk (nthS xs j) = true := by
  simp only [wordsUp, wordsAsc, Bool.and_eq_true] at h
  have := allN_iff.1 h.2 j hj
  simp only [ascAt, Bool.and_eq_true] at this
  exact this.1
theorem globOf_le (n : Nat) (xs : List ByteArray) (p : ByteArray) (hl : xs.length = n) : (globOf n xs p).length ≤ n := by
  unfold globOf; split
  · rw [← hl]; exact List.length_filter_le _ _
  · exact Nat.zero_le _
end Go.Proofs.YtlbopihffpodkaaDoor
