/- The walks of numbers read from gaps. Conditions: the strings fit the model's sizes. -/
import Derived.Test.YtoljjhhomklcbaaGap
namespace Go.Proofs.Ytoljjhhomklcbaa
open Go.RowKit

theorem vgF_le (s : ByteArray) : ∀ f k, (vgF s f k).2 ≤ s.size := by
  intro f
  induction f with
  | zero => intro k; exact Nat.zero_le _
  | succ f ih =>
    intro k
    rw [vgF]
    split
    · split
      · split
        · exact Nat.zero_le _
        · show k + 1 ≤ _; omega
      · exact ih _
    · exact Nat.zero_le _
theorem varGet_le (s : ByteArray) : (varGet s).2 ≤ s.size := vgF_le s 5 0
theorem vgF_num (s : ByteArray) : ∀ f k, (vgF s f k).1 ≤ 999999999 := by
  intro f
  induction f with
  | zero => intro k; exact Nat.zero_le _
  | succ f ih =>
    intro k
    rw [vgF]
    split
    · split
      · split
        · exact Nat.zero_le _
        · rename_i h
          simp only [vgBad, Bool.or_eq_true, decide_eq_true_eq, not_or] at h
          show pv s (k + 1) ≤ _; omega
      · exact ih _
    · exact Nat.zero_le _
theorem varGet_num (s : ByteArray) : (varGet s).1 ≤ 999999999 := vgF_num s 5 0
def vgAt (t : ByteArray) (at_ : Nat) : Nat × Nat := varGet (t.extract at_ t.size)
theorem vgAt_le (t : ByteArray) (k : Nat) (h : k ≤ t.size) : k + (vgAt t k).2 ≤ t.size := by
  have := varGet_le (t.extract k t.size)
  unfold vgAt
  simp only [ByteArray.size_extract] at this
  omega
/-- So many numbers from a place on, the last ahead being known. -/
def gp (t : ByteArray) : Nat → Nat → Int → Option (List Int × Nat)
  | 0, k, _ => some ([], k)
  | m + 1, k, last => if (vgAt t k).2 = 0 then none else if 999999999 < last + (vgAt t k).1 + 1 then none else
      (gp t m (k + (vgAt t k).2) (last + (vgAt t k).1 + 1)).map fun x => ((last + (vgAt t k).1 + 1) :: x.1, x.2)
def gapRes (t : ByteArray) (m k : Nat) (last : Int) (out : List Int) : List Int × Nat :=
  match gp t m k last with
  | none => ([], 0)
  | some x => (out ++ x.1, x.2)
def gapGet (t : ByteArray) : List Int × Nat := if (varGet t).2 = 0 ∨ 60 < (varGet t).1 then ([], 0) else gapRes t (varGet t).1 (varGet t).2 (-1) []
theorem gapRes_zero (t : ByteArray) (k : Nat) (last : Int) (out : List Int) : gapRes t 0 k last out = (out, k) := by simp [gapRes, gp]
theorem gapRes_none {t : ByteArray} {m k : Nat} {last : Int} {out : List Int} (h : (vgAt t k).2 = 0) : gapRes t (m + 1) k last out = ([], 0) := by simp [gapRes, gp, h]
theorem gapRes_big {t : ByteArray} {m k : Nat} {last : Int} {out : List Int} (h : 999999999 < last + (vgAt t k).1 + 1) : gapRes t (m + 1) k last out = ([], 0) := by
  rw [gapRes, gp]; split
  · rfl
  · rename_i x hx
    split at hx
    · cases hx
    · first | cases hx | (rw [if_pos h] at hx; cases hx)
theorem gapRes_step {t : ByteArray} {m k : Nat} {last : Int} {out : List Int} (h : (vgAt t k).2 ≠ 0) (h1 : ¬ 999999999 < last + (vgAt t k).1 + 1) :
    gapRes t (m + 1) k last out = gapRes t m (k + (vgAt t k).2) (last + (vgAt t k).1 + 1) (out ++ [last + (vgAt t k).1 + 1]) := by
  rw [gapRes, gp, if_neg h, if_neg h1, gapRes]
  cases gp t m (k + (vgAt t k).2) (last + (vgAt t k).1 + 1) with
  | none => rfl
  | some x => simp
theorem nthI_app {xs : List Int} {x : Int} {j : Nat} (h : j < xs.length) : nthI (xs ++ [x]) j = nthI xs j := by simp [nthI, List.getElem?_append_left h]
theorem nthI_last {xs : List Int} {x : Int} : nthI (xs ++ [x]) xs.length = x := by simp [nthI]
theorem upAt_app {xs : List Int} {x : Int} {j : Nat} (h : j < xs.length) : upAt (xs ++ [x]) j = upAt xs j := by
  unfold upAt; rw [nthI_app h, nthI_app (show j - 1 < xs.length by omega)]
theorem upAsc_app {xs : List Int} {x : Int} (h : upAsc xs.length xs = true) (h0 : lastI xs xs.length < x) (h1 : -1 ≤ lastI xs xs.length) (h2 : x ≤ 999999999) : upAsc (xs.length + 1) (xs ++ [x]) = true := by
  unfold upAsc at *
  refine allN_step ?_ ?_
  · rw [allN_iff] at *
    intro j hj; rw [upAt_app hj]; exact h j hj
  · unfold upAt numOk
    rw [nthI_last]
    unfold lastI at h0
    simp only [Bool.and_eq_true, Bool.or_eq_true, decide_eq_true_eq]
    refine ⟨by unfold lastI at h1; omega, ?_⟩
    by_cases hz : xs.length = 0
    · exact .inl hz
    · right
      rw [if_neg hz] at h0
      rw [nthI_app (by omega)]; exact h0
theorem upAsc_bad {xs : List Int} {x : Int} (h : upAsc xs.length xs = false) : upAsc (xs.length + 1) (xs ++ [x]) = false := by
  rw [Bool.eq_false_iff] at *
  intro ht
  apply h
  unfold upAsc at *
  rw [allN_iff] at *
  intro j hj
  rw [← upAt_app (x := x) hj]; exact ht j (by omega)
theorem upAsc_big {xs : List Int} {x : Int} (h : 999999999 < x) : upAsc (xs.length + 1) (xs ++ [x]) = false := by
  refine allN_fail (k := xs.length) (by omega) ?_
  unfold upAt numOk
  rw [nthI_last]
  simp; omega
theorem lastI_app (xs : List Int) (x : Int) : lastI (xs ++ [x]) (xs.length + 1) = x := by rw [lastI_succ, nthI_last]
theorem gapRes_fit (t : ByteArray) : ∀ (m k : Nat) (last : Int) (out : List Int), -1 ≤ last → (∀ x ∈ out, 0 ≤ x ∧ x ≤ 999999999) → ∀ x ∈ (gapRes t m k last out).1, 0 ≤ x ∧ x ≤ 999999999 := by
  intro m
  induction m with
  | zero => intro k last out _ h; rw [gapRes_zero]; exact h
  | succ m ih =>
    intro k last out hl h
    by_cases h1 : (vgAt t k).2 = 0
    · rw [gapRes_none h1]; simp
    · by_cases h2 : 999999999 < last + (vgAt t k).1 + 1
      · rw [gapRes_big h2]; simp
      · rw [gapRes_step h1 h2]
        refine ih _ _ _ (by omega) ?_
        intro x hx
        rw [List.mem_append] at hx
        rcases hx with hx | hx
        · exact h x hx
        · simp at hx; subst hx; omega
theorem gapGet_fit (t : ByteArray) : ∀ x ∈ (gapGet t).1, 0 ≤ x ∧ x ≤ 999999999 := by
  unfold gapGet; split
  · simp
  · exact gapRes_fit t _ _ _ _ (by omega) (by simp)
theorem fitI {xs : List Int} (h : ∀ x ∈ xs, 0 ≤ x ∧ x ≤ 999999999) (j : Nat) : (Lit.int .i64 (nthI xs j)).wf = true := by
  have : 0 ≤ nthI xs j ∧ nthI xs j ≤ 999999999 := by
    unfold nthI
    cases hj : xs[j]? with
    | none => simp
    | some x => exact h x (List.mem_of_getElem? hj)
  exact WalkArith.wf_i64 (by omega)
theorem fitB {xs : List Int} (h : ∀ x ∈ xs, 0 ≤ x ∧ x ≤ 1000000000000) (j : Nat) : (Lit.int .i64 (nthI xs j)).wf = true := by
  have : 0 ≤ nthI xs j ∧ nthI xs j ≤ 1000000000000 := by
    unfold nthI
    cases hj : xs[j]? with
    | none => simp
    | some x => exact h x (List.mem_of_getElem? hj)
  exact WalkArith.wf_i64 (by omega)
theorem ints_nil_made (w : World) : (w.alloc (.cells #[] 3)).ownsRow w.heap.size 3 1 (.slice (some ⟨w.heap.size, 0, none⟩) 0 0) 0 (([] : List Int).map (Value.int .i64)) :=
  World.ownsRow_made w #[] 0 (Nat.le_refl _) (Nat.zero_le _) rfl
theorem OwnInts.of_map {w : World} {B : Nat} {a : Option Addr} {cap : Nat} {ys : List Int} (h : w.ownsRow B 3 1 (.slice a ys.length cap) ys.length (ys.map (Value.int .i64))) (hf : ∀ x ∈ ys, 0 ≤ x ∧ x ≤ 999999999) : OwnInts w B a ys.length cap ys :=
  ⟨rfl, fitI hf, by rw [tab_ints] at h; exact h⟩
theorem ownI_none (w : World) (B : Nat) : OwnInts w B none 0 0 [] := ⟨rfl, fitI (by simp), World.ownsRow_nil w B _ _⟩
theorem ext_fit (t : ByteArray) (k : Nat) (h : t.size ≤ maxLen) : (t.extract k t.size).size ≤ maxLen := by simp only [ByteArray.size_extract]; omega
theorem ownI_new (w : World) (B : Nat) (h : B ≤ w.heap.size) : OwnInts (w.alloc (.cells #[] 3)) B (some ⟨w.heap.size, 0, none⟩) 0 0 [] :=
  ⟨rfl, fitI (by simp), own_base (World.ownsRow_made w #[] 0 (Nat.le_refl _) (Nat.zero_le _) rfl) h⟩
/-- What the program's loop has gathered: it is on its way, or lost. -/
def OnWay (t : ByteArray) (m k : Nat) (last : Int) (ys : List Int) : Prop :=
  (last ≤ 999999999 ∧ last = lastI ys ys.length ∧ upAsc ys.length ys = true ∧ gapRes t m k last ys = gapGet t) ∨ (gapGet t = ([], 0) ∧ upAsc ys.length ys = false)
theorem OnWay.lost {t : ByteArray} {m k : Nat} {last : Int} {ys : List Int} (h : OnWay t (m + 1) k last ys) (h0 : (vgAt t k).2 = 0) : gapGet t = ([], 0) := by
  rcases h with h | h
  · rw [← h.2.2.2]; exact gapRes_none h0
  · exact h.1
theorem OnWay.next {t : ByteArray} {m k : Nat} {last : Int} {ys : List Int} (h : OnWay t (m + 1) k last ys) (hl : -1 ≤ last) (h0 : (vgAt t k).2 ≠ 0) :
    OnWay t m (k + (vgAt t k).2) (last + (vgAt t k).1 + 1) (ys ++ [last + (vgAt t k).1 + 1]) := by
  rcases h with ⟨h1, h2, h3, h4⟩ | ⟨h1, h2⟩
  · by_cases hb : 999999999 < last + (vgAt t k).1 + 1
    · refine .inr ⟨by rw [← h4]; exact gapRes_big hb, ?_⟩
      rw [List.length_append]; exact upAsc_big hb
    · refine .inl ⟨by omega, ?_, ?_, ?_⟩
      · rw [List.length_append]; exact (lastI_app _ _).symm
      · rw [List.length_append]; exact upAsc_app h3 (by omega) (by omega) (by omega)
      · rw [← h4, gapRes_step h0 hb]
  · exact .inr ⟨h1, by rw [List.length_append]; exact upAsc_bad h2⟩
theorem OnWay.done {t : ByteArray} {k : Nat} {last : Int} {ys : List Int} (h : OnWay t 0 k last ys) : (upAsc ys.length ys = true ∧ gapGet t = (ys, k)) ∨ (upAsc ys.length ys = false ∧ gapGet t = ([], 0)) := by
  rcases h with ⟨h1, h2, h3, h4⟩ | ⟨h1, h2⟩
  · exact .inl ⟨h3, by rw [← h4, gapRes_zero]⟩
  · exact .inr ⟨h2, h1⟩
theorem gapRes_len (t : ByteArray) : ∀ (m k : Nat) (last : Int) (out : List Int), (gapRes t m k last out).1.length ≤ out.length + m := by
  intro m
  induction m with
  | zero => intro k last out; rw [gapRes_zero]; exact Nat.le_refl _
  | succ m ih =>
    intro k last out
    by_cases h1 : (vgAt t k).2 = 0
    · rw [gapRes_none h1]; simp
    · by_cases h2 : 999999999 < last + (vgAt t k).1 + 1
      · rw [gapRes_big h2]; simp
      · rw [gapRes_step h1 h2]
        have := ih (k + (vgAt t k).2) (last + (vgAt t k).1 + 1) (out ++ [last + (vgAt t k).1 + 1])
        rw [List.length_append] at this
        simp only [List.length_cons, List.length_nil] at this
        omega
theorem gapGet_len (t : ByteArray) : (gapGet t).1.length ≤ 60 := by
  unfold gapGet; split
  · simp
  · rename_i h
    have := gapRes_len t (varGet t).1 (varGet t).2 (-1) []
    simp only [List.length_nil] at this
    omega
end Go.Proofs.Ytoljjhhomklcbaa
