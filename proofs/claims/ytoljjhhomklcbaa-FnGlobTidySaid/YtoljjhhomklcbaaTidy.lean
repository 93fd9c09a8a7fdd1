/- Patterns that are tidied, by the program and by the reference. Conditions: what is read fits the model's sizes. -/
import Derived.Test.YtoljjhhomklcbaaTidyL
import Derived.Test.YtoljjhhomklcbaaLawGH
namespace Go.Proofs.Ytoljjhhomklcbaa
open Go.RowKit
/-- A pattern without needless stars: of stars and marks side by side, the marks, then one star if there was any. -/
def tidyL : Bool → List UInt8 → List UInt8
  | st, [] => if st then [42] else []
  | st, c :: p => if c = 42 then tidyL true p else if c = 63 then 63 :: tidyL st p else (if st then [42] else []) ++ c :: tidyL false p
theorem tidy_star (st : Bool) (p : List UInt8) : tidyL st (42 :: p) = tidyL true p := by rw [tidyL, if_pos rfl]
theorem tidy_mark (st : Bool) (p : List UInt8) : tidyL st (63 :: p) = 63 :: tidyL st p := by rw [tidyL, if_neg (by decide), if_pos rfl]
theorem tidy_else {st : Bool} {c : UInt8} {p : List UInt8} (h : c ≠ 42) (h1 : c ≠ 63) : tidyL st (c :: p) = (if st then [42] else []) ++ c :: tidyL false p := by rw [tidyL, if_neg h, if_neg h1]
theorem tidy_run : ∀ (run : List UInt8) (st : Bool) (rest : List UInt8), (∀ c ∈ run, c = 42 ∨ c = 63) → (rest = [] ∨ ∃ c r, rest = c :: r ∧ c ≠ 42 ∧ c ≠ 63) →
    tidyL st (run ++ rest) = List.replicate (run.count 63) 63 ++ (if st || run.contains 42 then [42] else []) ++ tidyL false rest := by
  intro run
  induction run with
  | nil =>
    intro st rest _ hr
    rcases hr with rfl | ⟨c, r, rfl, h1, h2⟩
    · cases st <;> rfl
    · rw [List.nil_append, tidy_else h1 h2, tidy_else h1 h2]
      cases st <;> rfl
  | cons c run ih =>
    intro st rest hc hr
    have hc' : ∀ d ∈ run, d = 42 ∨ d = 63 := fun d hd => hc d (List.mem_cons_of_mem _ hd)
    rcases hc c List.mem_cons_self with rfl | rfl
    · rw [List.cons_append, tidy_star, ih true rest hc' hr, List.count_cons_of_ne (by decide)]
      simp
    · rw [List.cons_append, tidy_mark, ih st rest hc' hr, List.count_cons_self, List.replicate_succ]
      simp
theorem tidy_len : ∀ (p : List UInt8) (st : Bool), (tidyL st p).length ≤ p.length + (if st then 1 else 0) := by
  intro p
  induction p with
  | nil => intro st; cases st <;> simp [tidyL]
  | cons c p ih =>
    intro st
    by_cases h : c = 42
    · subst h; rw [tidy_star]; have := ih true; simp at this ⊢; omega
    · by_cases h1 : c = 63
      · subst h1; rw [tidy_mark]; have := ih st; simp at this ⊢; omega
      · rw [tidy_else h h1]; have := ih false; cases st <;> simp at this ⊢ <;> omega
theorem tidy_mem : ∀ (p : List UInt8) (st : Bool), ∀ c ∈ tidyL st p, c ∈ p ∨ c = 42 := by
  intro p
  induction p with
  | nil => intro st c hc; cases st <;> simp [tidyL] at hc; exact .inr hc
  | cons d p ih =>
    intro st c hc
    by_cases h : d = 42
    · subst h; rw [tidy_star] at hc
      rcases ih true c hc with h | h
      · exact .inl (List.mem_cons_of_mem _ h)
      · exact .inr h
    · by_cases h1 : d = 63
      · subst h1; rw [tidy_mark] at hc
        rcases List.mem_cons.1 hc with h | h
        · exact .inl (by rw [h]; exact List.mem_cons_self)
        · rcases ih st c h with h | h
          · exact .inl (List.mem_cons_of_mem _ h)
          · exact .inr h
      · rw [tidy_else h h1] at hc
        rcases List.mem_append.1 hc with h | h
        · cases st <;> simp at h; exact .inr h
        · rcases List.mem_cons.1 h with h | h
          · exact .inl (by rw [h]; exact List.mem_cons_self)
          · rcases ih false c h with h | h
            · exact .inl (List.mem_cons_of_mem _ h)
            · exact .inr h
theorem tidy_nil : ∀ (p : List UInt8) (st : Bool), tidyL st p = [] → p = [] := by
  intro p
  induction p with
  | nil => intro st _; rfl
  | cons d p ih =>
    intro st hc
    by_cases h : d = 42
    · subst h; rw [tidy_star] at hc
      have := ih true hc
      subst this
      simp [tidyL] at hc
    · by_cases h1 : d = 63
      · subst h1; rw [tidy_mark] at hc; cases hc
      · rw [tidy_else h h1] at hc; simp at hc
theorem tidy_again : ∀ (p : List UInt8) (st : Bool), tidyL false (tidyL st p) = tidyL st p := by
  intro p
  induction p with
  | nil => intro st; cases st <;> rfl
  | cons d p ih =>
    intro st
    by_cases h : d = 42
    · subst h; rw [tidy_star]; exact ih true
    · by_cases h1 : d = 63
      · subst h1; rw [tidy_mark, tidy_mark, ih st]
      · rw [tidy_else h h1]
        cases st
        · show tidyL false (d :: tidyL false p) = _
          rw [tidy_else h h1, ih false]
          first | done | rfl
        · show tidyL false (42 :: d :: tidyL false p) = _
          rw [tidy_star, tidy_else h h1, ih false]
          first | done | rfl
theorem star_cons (f : List UInt8 → Bool) (d : UInt8) (s : List UInt8) : starM f (d :: s) = (f (d :: s) || starM f s) := by simp [starM]
theorem star_nil (f : List UInt8 → Bool) : starM f [] = f [] := by simp [starM]
theorem glob_star (p s : List UInt8) : globM (42 :: p) s = starM (globM p) s := by simp [globM]
theorem star_twice (f : List UInt8 → Bool) : ∀ s, starM (starM f) s = starM f s := by
  intro s
  induction s with
  | nil => rw [star_nil]
  | cons d s ih => rw [star_cons, ih, star_cons]; cases f (d :: s) <;> cases starM f s <;> rfl
theorem star_mark (p : List UInt8) : ∀ s, starM (globM (63 :: p)) s = (match s with | [] => false | _ :: t => starM (globM p) t) := by
  intro s
  induction s with
  | nil => rw [star_nil]; exact (globM_ne 63 p (by decide)).1
  | cons d s ih =>
    rw [star_cons, ih]
    have e : globM (63 :: p) (d :: s) = globM p s := by rw [(globM_ne 63 p (by decide)).2]; simp
    rw [e]
    cases s with
    | nil => show (globM p [] || false) = starM (globM p) []; rw [star_nil]; simp
    | cons d2 t => show (globM p (d2 :: t) || starM (globM p) t) = starM (globM p) (d2 :: t); rw [star_cons]
theorem tidy_has : ∀ (p : List UInt8) (st : Bool) (s : List UInt8), globM (tidyL st p) s = (if st then starM (globM p) s else globM p s) := by
  intro p
  induction p with
  | nil => intro st s; cases st <;> rfl
  | cons d p ih =>
    intro st s
    have ih1 : ∀ st, globM (tidyL st p) = (if st then starM (globM p) else globM p) := fun st => funext fun s => by rw [ih st s]; cases st <;> rfl
    by_cases h : d = 42
    · subst h
      rw [tidy_star, ih true s]
      have e : ∀ s, globM (42 :: p) s = starM (globM p) s := glob_star p
      cases st
      · rw [e]; rfl
      · rw [funext e, if_pos rfl, if_pos rfl, star_twice]
    · by_cases h1 : d = 63
      · subst h1
        rw [tidy_mark]
        cases st
        · cases s with
          | nil => rw [(globM_ne 63 _ (by decide)).1]; exact ((globM_ne 63 p (by decide)).1).symm
          | cons c t => rw [(globM_ne 63 _ (by decide)).2, if_neg (by decide), (globM_ne 63 p (by decide)).2, ih1 false]; rfl
        · rw [if_pos rfl, star_mark]
          cases s with
          | nil => exact (globM_ne 63 _ (by decide)).1
          | cons c t => rw [(globM_ne 63 _ (by decide)).2, ih1 true]; simp
      · rw [tidy_else h h1]
        have e : ∀ s, globM (d :: tidyL false p) s = globM (d :: p) s := fun s => by
          cases s with
          | nil => rw [(globM_ne d _ h).1, (globM_ne d _ h).1]
          | cons c t => rw [(globM_ne d _ h).2, (globM_ne d _ h).2, ih1 false]; rfl
        cases st
        · exact e s
        · show globM (42 :: d :: tidyL false p) s = _
          rw [glob_star, funext e]; rfl
def tidyS (p : ByteArray) : ByteArray := ⟨(tidyL false p.data.toList).toArray⟩
/-- A pattern, tidied. -/
def globTidy (p : ByteArray) : ByteArray := if globOk p then tidyS p else ByteArray.empty
theorem tidyS_size (p : ByteArray) : (tidyS p).size ≤ p.size := by
  have := tidy_len p.data.toList false
  show ((tidyL false p.data.toList).toArray).size ≤ _
  simpa using this
theorem tidyS_ok {p : ByteArray} (h : globOk p = true) : globOk (tidyS p) = true := by
  obtain ⟨h1, h2⟩ := glob_size h
  have hs := tidyS_size p
  have hne : tidyL false p.data.toList ≠ [] := fun e => by
    have := tidy_nil _ _ e
    have h3 : p.data.toList.length = p.size := by simp
    rw [this] at h3; simp at h3; omega
  have hpos : 1 ≤ (tidyS p).size := by
    show 1 ≤ ((tidyL false p.data.toList).toArray).size
    have := List.length_pos_iff.2 hne
    simp at this ⊢; omega
  simp only [globOk, Bool.and_eq_true, allB, List.all_eq_true] at h ⊢
  refine ⟨fun c hc => ?_, decide_eq_true (by omega)⟩
  rcases tidy_mem p.data.toList false c (by simpa [tidyS] using hc) with h4 | h4
  · exact h.1 c h4
  · rw [h4]; rfl
theorem tidyS_has {p : ByteArray} (h : globOk p = true) (s : ByteArray) : globHasB (tidyS p) s = globHasB p s := by
  unfold globHasB
  rw [tidyS_ok h, h]
  have : gl (tidyS p) s = gl p s := by
    show globM (tidyL false p.data.toList) s.data.toList = _
    rw [tidy_has]; rfl
  rw [this]
theorem tidyS_again (p : ByteArray) : tidyS (tidyS p) = tidyS p := by
  apply ByteArray.ext
  show (tidyL false (tidyL false p.data.toList)).toArray = _
  rw [tidy_again]; rfl
end Go.Proofs.Ytoljjhhomklcbaa
