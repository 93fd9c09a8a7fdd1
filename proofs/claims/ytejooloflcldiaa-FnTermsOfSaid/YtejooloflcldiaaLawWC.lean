/- The law on words of two texts. Conditions: what is read fits the model's sizes. -/
import Derived.Test.YtejooloflcldiaaLawS2
import Derived.Maps.AppendAt
namespace Go.Proofs.Ytejooloflcldiaa
open Go.RowKit
theorem text_tail {a b : ByteArray} (h : textOk (a ++ blankS ++ b) = true) : textOk b = true ∧ a.size + 1 + b.size ≤ 160 := by
  have hs := textOk_size h
  rw [ByteArray.size_append, ByteArray.size_append] at hs
  have e : blankS.size = 1 := rfl
  rw [e] at hs
  refine ⟨?_, hs⟩
  rw [textOk, Bool.and_eq_true, byWb]
  refine ⟨fun k hk => ?_, by simp; omega⟩
  have h1 := text_of h (a.size + 1 + k) (by rw [ByteArray.size_append, ByteArray.size_append, e]; omega)
  have h2 : byW (a ++ blankS ++ b) ((a ++ blankS).size + k) = byW b k := byW_app_r hk
  rw [ByteArray.size_append, e] at h2
  rw [h2] at h1; exact h1
theorem words_cut {a b : ByteArray} (ha : textOk a = true) (h : textOk (a ++ blankS ++ b) = true) : wordsOf (a ++ blankS ++ b) = wordsOf a ++ shiftW (wordsOf a).length (a.size + 1) (wordsOf b) := by
  rw [wordsOf, if_pos h, wordsOf, if_pos ha, wordsOf, if_pos (text_tail h).1, wds_cut]
theorem shiftW_take (c d : Nat) (ws : List Wd) {k : Nat} (hk : k < ws.length) : shiftW c d (ws.take (k + 1)) = shiftW c d (ws.take k) ++ [⟨(nthW ws k).text, (nthW ws k).at_ + c, (nthW ws k).from_ + d, (nthW ws k).to_ + d⟩] := by
  rw [List.take_succ_eq_append_getElem hk, shiftW, List.map_append, ← nthW_eq hk]; rfl
theorem nthW_mem_fit {ws : List Wd} (h : ∀ x ∈ ws, x.text.size ≤ 12) (j : Nat) : (nthW ws j).text.size ≤ maxLen := by
  have := nthW_fit h j; unfold maxLen; omega
theorem shiftW_fit {c d : Nat} {ws : List Wd} (h : ∀ x ∈ ws, x.text.size ≤ 12) : ∀ x ∈ shiftW c d ws, x.text.size ≤ 12 := by
  intro x hx
  simp only [shiftW, List.mem_map] at hx
  obtain ⟨y, hy, rfl⟩ := hx
  exact h y hy
theorem both_fit {wa wb : List Wd} {c d k : Nat} (h1 : ∀ x ∈ wa, x.text.size ≤ 12) (h2 : ∀ x ∈ wb, x.text.size ≤ 12) : ∀ x ∈ wa ++ shiftW c d (wb.take k), x.text.size ≤ 12 := by
  intro x hx
  rw [List.mem_append] at hx
  rcases hx with hx | hx
  · exact h1 x hx
  · exact shiftW_fit (fun y hy => h2 y (List.mem_of_mem_take hy)) x hx
/-- What lies between B and the heap's end is as it was. -/
theorem OwnWds.keep {w w' : World} {B : Nat} {a : Option Addr} {n cap : Nat} {ws : List Wd} (h : OwnWds w B a n cap ws) (hk : ∀ i, B ≤ i → i < w.heap.size → w'.heap[i]? = w.heap[i]?) : OwnWds w' B a n cap ws := by
  refine ⟨h.len, h.fit, h.own.1, ?_⟩
  rcases h.own.2 with hn | ⟨g, cap', cur, hv, hg, hh, r⟩
  · exact .inl hn
  · exact .inr ⟨g, cap', cur, hv, hg, by rw [hk g hg (Array.getElem?_eq_some_iff.1 hh).1]; exact hh, r⟩
theorem four_next (w : World) (o : Obj) (a b c d : Value) (t : TypeId) : ∀ j u, [a, b, c, d][j]? = some u → ((w.alloc o).alloc (.cells #[a, b, c, d] t)).cell? ((⟨w.heap.size + 1, 0, none⟩ : Addr).add j) = some u := by
  have h := cell_four_new (w.alloc o) a b c d t
  rw [World.size_alloc] at h; exact h
end Go.Proofs.Ytejooloflcldiaa
