/- What holds of the terms of a text, in plain words. No condition. -/
import Derived.Test.YtejooloflcldiaaTermY
import Derived.Test.YtejooloflcldiaaLawS
import Derived.Test.YtejooloflcldiaaLawWC
namespace Go.Proofs.Ytejooloflcldiaa
open Go.RowKit
/-- Where a term comes from: one of these, or what stands for others. -/
def FromT (x : ConfA) (ts : List Tm) (t : Tm) : Prop := (∃ u ∈ ts, u.at_ = t.at_) ∧ (t ∈ ts ∨ ∃ k, k < x.m ∧ (nthY x.ys k).to = t.text)
theorem FromT.more {x : ConfA} {ts us : List Tm} {t : Tm} (h : FromT x ts t) (hs : ∀ u ∈ ts, u ∈ us) : FromT x us t := by
  obtain ⟨⟨u, hu, e⟩, h2⟩ := h
  refine ⟨⟨u, hs u hu, e⟩, ?_⟩
  rcases h2 with h2 | h2
  · exact .inl (hs t h2)
  · exact .inr h2
theorem trm_from (x : ConfA) : ∀ f ts, ∀ t ∈ trm x f ts, FromT x ts t := by
  intro f
  induction f with
  | zero => intro ts t ht; cases ht
  | succ f ih =>
    intro ts t ht
    match ts with
    | [] => rw [trm_nil] at ht; cases ht
    | u :: r =>
      rw [trm] at ht
      cases hs : synTo (u :: r) x.ys x.m with
      | none =>
        rw [hs] at ht
        rcases List.mem_cons.1 ht with rfl | h
        · exact ⟨⟨t, List.mem_cons_self, rfl⟩, .inl List.mem_cons_self⟩
        · exact (ih r t h).more fun v hv => List.mem_cons_of_mem _ hv
      | some k =>
        rw [hs] at ht
        rcases List.mem_cons.1 ht with rfl | h
        · exact ⟨⟨u, List.mem_cons_self, rfl⟩, .inr ⟨k, synTo_lt _ _ _ _ hs, rfl⟩⟩
        · exact (ih _ t h).more fun v hv => List.mem_cons_of_mem _ (List.mem_of_mem_drop hv)
def Asc (ts : List Tm) : Prop := ts.Pairwise fun a b => a.at_ < b.at_
theorem trm_asc (x : ConfA) : ∀ f ts, Asc ts → Asc (trm x f ts) := by
  intro f
  induction f with
  | zero => intro ts _; exact List.Pairwise.nil
  | succ f ih =>
    intro ts h
    match ts with
    | [] => rw [trm_nil]; exact List.Pairwise.nil
    | u :: r =>
      obtain ⟨h1, h2⟩ := List.pairwise_cons.1 h
      rw [trm]
      cases hs : synTo (u :: r) x.ys x.m with
      | none =>
        refine List.pairwise_cons.2 ⟨fun t ht => ?_, ih r h2⟩
        obtain ⟨⟨v, hv, e⟩, _⟩ := trm_from x f r t ht
        have := h1 v hv; omega
      | some k =>
        refine List.pairwise_cons.2 ⟨fun t ht => ?_, ih _ (h2.sublist (List.drop_sublist _ _))⟩
        obtain ⟨⟨v, hv, e⟩, _⟩ := trm_from x f _ t ht
        have := h1 v (List.mem_of_mem_drop hv)
        show u.at_ < t.at_
        omega
theorem nthT_eq {ts : List Tm} {i : Nat} (h : i < ts.length) : nthT ts i = ts[i] := by simp [nthT, h]
theorem asc_at {ts : List Tm} (h : Asc ts) {i j : Nat} (hij : i < j) (hj : j < ts.length) : (nthT ts i).at_ < (nthT ts j).at_ := by
  rw [nthT_eq hj, nthT_eq (Nat.lt_trans hij hj)]
  exact List.pairwise_iff_getElem.1 h i j _ _ hij
/-- The words of a text, one behind the other. -/
def Row (ws : List Wd) : Prop := ∀ i, i < ws.length → (nthW ws i).at_ = i
theorem wds_row (s : ByteArray) : Row (wds s 0 0) := fun i hi => by have := wds_at s _ 0 0 rfl i hi; omega
theorem plainT_from {x : ConfA} {ws : List Wd} (h : Row ws) : ∀ t ∈ plainT x ws, t.at_ < ws.length ∧ keepT x (nthW ws t.at_) = true ∧ t.text = stemB (nthW ws t.at_).text := by
  intro t ht
  simp only [plainT, List.mem_map, List.mem_filter] at ht
  obtain ⟨d, ⟨hd, hk⟩, rfl⟩ := ht
  obtain ⟨i, hi, he⟩ := List.mem_iff_getElem.1 hd
  have h2 := h i hi
  rw [nthW_eq hi, he] at h2
  show d.at_ < _ ∧ keepT x (nthW ws d.at_) = true ∧ stemB d.text = stemB (nthW ws d.at_).text
  rw [h2, nthW_eq hi, he]
  exact ⟨hi, hk, rfl⟩
theorem plainT_asc {x : ConfA} {ws : List Wd} (h : Row ws) : Asc (plainT x ws) := by
  unfold Asc plainT
  rw [List.pairwise_map]
  refine List.Pairwise.filter _ ?_
  rw [List.pairwise_iff_getElem]
  intro i j hi hj hij
  have h1 := h i hi
  have h2 := h j hj
  rw [nthW_eq hi] at h1
  rw [nthW_eq hj] at h2
  show ws[i].at_ < ws[j].at_
  omega
theorem word_at {s : ByteArray} {i : Nat} (hi : i < (wds s 0 0).length) : wordOk (nthW (wds s 0 0) i).text = true :=
  (wGood_at _ 0 0 i (wds_good s _ 0 0 0 rfl (.inl (Nat.le_refl _))) hi).2.2.2.1
/-- What the law on terms asks of each. -/
theorem term_good {x : ConfA} {s : ByteArray} (hc : confOk x = true) (hs : textOk s = true) {i : Nat} (hi : i < (termsOf x s).length) :
    (nthT (termsOf x s) i).at_ < (wordsOf s).length ∧ (∀ j, j < i → (nthT (termsOf x s) j).at_ < (nthT (termsOf x s) i).at_) ∧ wordOk (nthT (termsOf x s) i).text = true ∧ stemOf (nthT (termsOf x s) i).text = (nthT (termsOf x s) i).text ∧
    ((∃ k, k < x.m ∧ (nthY x.ys k).to = (nthT (termsOf x s) i).text) ∨ (hasS x.n x.ss (nthT (termsOf x s) i).text = false ∧ stemOf (nthW (wordsOf s) (nthT (termsOf x s) i).at_).text = (nthT (termsOf x s) i).text)) := by
  have he : termsOf x s = termsT x (plainT x (wds s 0 0)) := by rw [termsOf, hc, hs]; rfl
  have hw : wordsOf s = wds s 0 0 := by rw [wordsOf, hs]; rfl
  rw [he] at hi ⊢
  rw [hw]
  have hr := wds_row s
  have ha := trm_asc x (plainT x (wds s 0 0)).length _ (plainT_asc (x := x) hr)
  have hm : nthT (termsT x (plainT x (wds s 0 0))) i ∈ termsT x (plainT x (wds s 0 0)) := by rw [nthT_eq hi]; exact List.getElem_mem _
  obtain ⟨⟨u, hu, e⟩, h2⟩ := trm_from x _ _ _ hm
  obtain ⟨u1, u2, u3⟩ := plainT_from hr u hu
  rw [e] at u1
  refine ⟨u1, fun j hj => asc_at ha hj hi, ?_⟩
  rcases h2 with h2 | ⟨k, hk, h2⟩
  · obtain ⟨v1, v2, v3⟩ := plainT_from hr _ h2
    have hwo := word_at v1
    obtain ⟨w1, w2⟩ := stem_word hwo
    rw [v3]
    have hid := (stemB_facts (nthW (wds s 0 0) (nthT (termsT x (plainT x (wds s 0 0))) i).at_).text).2.2.2
    refine ⟨w1, by rw [stem_eq w1, hid], .inr ⟨?_, by rw [stem_eq hwo]⟩⟩
    simp only [keepT, Bool.and_eq_true, Bool.not_eq_true'] at v2
    exact v2.2
  · have hy : wordOk (nthY x.ys k).to = true ∧ stemSame (nthY x.ys k).to = true := by
      simp only [confOk, Bool.and_eq_true] at hc
      have h3 := (allN_iff.1 hc.2) k hk
      simp only [synAt, Bool.and_eq_true] at h3
      exact ⟨h3.1.1.2, h3.1.2⟩
    rw [← h2]
    refine ⟨hy.1, ?_, .inl ⟨k, hk, rfl⟩⟩
    rw [stem_eq hy.1]
    have := hy.2
    simp only [stemSame, beq_iff_eq, ByteArray.toList_eq] at this
    exact ByteArray.ext (Array.ext' this)
theorem terms_fewer {x : ConfA} {s : ByteArray} : (termsOf x s).length ≤ (wordsOf s).length := by
  unfold termsOf
  split
  · rename_i h
    simp only [Bool.and_eq_true] at h
    rw [wordsOf, h.2, if_pos rfl]
    exact Nat.le_trans (termsT_len x _) (plainT_len x _)
  · exact Nat.zero_le _
/-- No words are passed over, and none stand for others. -/
def bareC : ConfA := ⟨none, 0, 0, [], none, 0, 0, []⟩
theorem bare_trm : ∀ f ts, ts.length ≤ f → trm bareC f ts = ts := by
  intro f
  induction f with
  | zero => intro ts h; rw [List.length_eq_zero_iff.1 (Nat.le_zero.1 h)]; rfl
  | succ f ih =>
    intro ts h
    match ts with
    | [] => rfl
    | t :: r =>
      rw [trm]
      show t :: trm bareC f r = _
      rw [ih r (by simpa using h)]
theorem bare_ok : confOk bareC = true := by
  simp [confOk, bareC, allN, wordsAsc]
theorem bare_terms {s : ByteArray} (hs : textOk s = true) : (termsOf bareC s).length = (wordsOf s).length ∧ ∀ i, i < (wordsOf s).length → (nthT (termsOf bareC s) i).at_ = i ∧ (nthT (termsOf bareC s) i).text = stemOf (nthW (wordsOf s) i).text := by
  have hw : wordsOf s = wds s 0 0 := by rw [wordsOf, hs]; rfl
  have he : termsOf bareC s = (wds s 0 0).map termT := by
    rw [termsOf, hs, bare_ok]
    show termsT bareC _ = _
    unfold termsT
    rw [bare_trm _ _ (Nat.le_refl _), plainT, List.filter_eq_self.2]
    intro d _
    rfl
  rw [he, hw]
  refine ⟨by rw [List.length_map], fun i hi => ?_⟩
  have h1 := wds_row s i hi
  have h2 := word_at hi
  have h3 : nthT ((wds s 0 0).map termT) i = termT (nthW (wds s 0 0) i) := by
    rw [nthT, List.getElem?_map, List.getElem?_eq_getElem hi, nthW_eq hi]; rfl
  rw [h3]
  exact ⟨h1, (stem_eq h2).symm⟩
theorem trm_one (x : ConfA) (t : Tm) : ∃ u, termsT x [t] = [u] ∧ u.at_ = t.at_ := by
  unfold termsT
  show ∃ u, trm x 1 [t] = [u] ∧ _
  rw [trm]
  cases hs : synTo [t] x.ys x.m with
  | none => exact ⟨t, by rw [show trm x 0 ([] : List Tm) = [] from rfl], rfl⟩
  | some k => exact ⟨⟨(nthY x.ys k).to, t.at_⟩, rfl, rfl⟩
theorem termOf_word {x : ConfA} {s : ByteArray} (hc : confOk x = true) (hs : wordOk s = true) : (termsOf x s = [] ∧ termOf x s = ByteArray.empty) ∨ termsOf x s = [⟨termOf x s, 0⟩] := by
  have he : termsOf x s = termsT x (plainT x (wds s 0 0)) := by rw [termsOf, hc, word_textOk hs]; rfl
  have ht : termOf x s = (nthT (termsOf x s) 0).text := by rw [termOf, hs]; rfl
  rw [ht]
  rw [wds_one hs] at he
  unfold plainT at he
  cases hk : keepT x ⟨s, 0, 0, s.size⟩
  · left
    rw [List.filter_cons_of_neg (by simp [hk])] at he
    rw [he]; exact ⟨rfl, rfl⟩
  · right
    rw [List.filter_cons_of_pos (by simp [hk])] at he
    obtain ⟨u, hu, ha⟩ := trm_one x (termT ⟨s, 0, 0, s.size⟩)
    have : termsOf x s = [u] := by rw [he, ← hu]; rfl
    rw [this]
    have h0 : u.at_ = 0 := ha
    cases u; simp_all [nthT]
/-- Terms some places further on. -/
def shiftT (c : Nat) (ts : List Tm) : List Tm := ts.map fun t => ⟨t.text, t.at_ + c⟩
theorem shiftT_nth {c j : Nat} {ts : List Tm} (h : j < ts.length) : nthT (shiftT c ts) j = ⟨(nthT ts j).text, (nthT ts j).at_ + c⟩ := by
  rw [nthT_eq h, nthT, shiftT, List.getElem?_map, List.getElem?_eq_getElem h]; rfl
theorem shiftT_len (c : Nat) (ts : List Tm) : (shiftT c ts).length = ts.length := by simp [shiftT]
theorem begins_shift (c : Nat) (ts : List Tm) (n : Nat) (fs : List ByteArray) : begins (shiftT c ts) n fs = begins ts n fs :=
  allN_congr fun j _ => by
    unfold beginsAt
    rw [shiftT_len]
    by_cases h : j < ts.length
    · rw [shiftT_nth h, shiftT_nth (show 0 < ts.length by omega)]
      congr 1
      simp only [decide_eq_decide]
      omega
    · rw [decide_eq_false h]; simp
theorem synTo_shift (c : Nat) (ts : List Tm) (ys : List SynA) : ∀ k, synTo (shiftT c ts) ys k = synTo ts ys k := by
  intro k
  induction k with
  | zero => rfl
  | succ k ih => rw [synTo, synTo, ih, begins_shift]
theorem trm_shift (x : ConfA) (c : Nat) : ∀ f ts, trm x f (shiftT c ts) = shiftT c (trm x f ts) := by
  intro f
  induction f with
  | zero => intro ts; rfl
  | succ f ih =>
    intro ts
    match ts with
    | [] => rw [show shiftT c [] = [] from rfl, trm_nil]; rfl
    | t :: r =>
      have hs := synTo_shift c (t :: r) x.ys x.m
      rw [show shiftT c (t :: r) = ⟨t.text, t.at_ + c⟩ :: shiftT c r from rfl] at hs ⊢
      rw [trm, trm, hs]
      cases synTo (t :: r) x.ys x.m with
      | none => simp only [ih]; rfl
      | some k =>
        simp only
        rw [show (shiftT c r).drop ((nthY x.ys k).n - 1) = shiftT c (r.drop ((nthY x.ys k).n - 1)) by simp [shiftT, List.map_drop], ih]
        rfl
/-- No term of the second stands next to one of the first. -/
def Gap (ta tb : List Tm) : Prop := ∀ u ∈ ta, ∀ v ∈ tb, u.at_ + 1 < v.at_
theorem begins_gap {ta tb : List Tm} (hg : Gap ta tb) (hne : 0 < ta.length) (n : Nat) (fs : List ByteArray) : begins (ta ++ tb) n fs = begins ta n fs := by
  have hl : ∀ j, j < ta.length → nthT (ta ++ tb) j = nthT ta j := fun j hj => by unfold nthT; rw [List.getElem?_append_left hj]
  by_cases hn : n ≤ ta.length
  · refine allN_congr fun j hj => ?_
    unfold beginsAt
    rw [hl j (by omega), hl 0 hne, decide_eq_true (show j < (ta ++ tb).length by rw [List.length_append]; omega), decide_eq_true (show j < ta.length by omega)]
  · have h1 : begins ta n fs = false := by
      cases h : begins ta n fs
      · rfl
      · have := begins_len h; omega
    rw [h1]
    cases h : begins (ta ++ tb) n fs
    · rfl
    · exfalso
      have h2 := (allN_iff.1 h) (ta.length - 1) (by omega)
      have h3 := (allN_iff.1 h) ta.length (by omega)
      simp only [beginsAt, Bool.and_eq_true, decide_eq_true_eq] at h2 h3
      have hb : ta.length < (ta ++ tb).length := h3.1.1
      rw [List.length_append] at hb
      have e2 := h2.2
      have e3 := h3.2
      have m2 : nthT (ta ++ tb) (ta.length - 1) ∈ ta := by rw [hl _ (by omega), nthT_eq (by omega)]; exact List.getElem_mem _
      have m3 : nthT (ta ++ tb) ta.length ∈ tb := by
        have : nthT (ta ++ tb) ta.length = nthT tb 0 := by unfold nthT; rw [List.getElem?_append_right (Nat.le_refl _), Nat.sub_self]
        rw [this, nthT_eq (show 0 < tb.length by omega)]; exact List.getElem_mem _
      have := hg _ m2 _ m3
      omega
theorem synTo_gap {ta tb : List Tm} (hg : Gap ta tb) (hne : 0 < ta.length) (ys : List SynA) : ∀ k, synTo (ta ++ tb) ys k = synTo ta ys k := by
  intro k
  induction k with
  | zero => rfl
  | succ k ih => rw [synTo, synTo, ih, begins_gap hg hne]
theorem termsT_cons_none {x : ConfA} {t : Tm} {r : List Tm} (h : synTo (t :: r) x.ys x.m = none) : termsT x (t :: r) = t :: termsT x r := by
  unfold termsT; rw [List.length_cons, trm, h]
theorem termsT_cons_some {x : ConfA} {t : Tm} {r : List Tm} {k : Nat} (h : synTo (t :: r) x.ys x.m = some k) : termsT x (t :: r) = ⟨(nthY x.ys k).to, t.at_⟩ :: termsT x (r.drop ((nthY x.ys k).n - 1)) := by
  unfold termsT; rw [List.length_cons, trm, h]
  show _ :: trm x _ _ = _
  rw [trm_more x _ (r.drop ((nthY x.ys k).n - 1)).length _ (by rw [List.length_drop]; omega) (Nat.le_refl _)]
theorem termsT_gap {x : ConfA} {tb : List Tm} : ∀ n ta, ta.length ≤ n → Gap ta tb → termsT x (ta ++ tb) = termsT x ta ++ termsT x tb := by
  intro n
  induction n with
  | zero => intro ta h _; rw [List.length_eq_zero_iff.1 (Nat.le_zero.1 h)]; rfl
  | succ n ih =>
    intro ta h hg
    match ta with
    | [] => rfl
    | t :: r =>
      have hs := synTo_gap hg (by simp) x.ys x.m
      rw [List.cons_append] at hs ⊢
      have hg2 : ∀ ts : List Tm, (∀ u ∈ ts, u ∈ r) → Gap ts tb := fun ts hts u hu v hv => hg u (List.mem_cons_of_mem _ (hts u hu)) v hv
      cases hc : synTo (t :: r) x.ys x.m with
      | none =>
        rw [hc] at hs
        rw [termsT_cons_none hs, termsT_cons_none hc, ih r (by simpa using h) (hg2 r fun u hu => hu)]; rfl
      | some k =>
        rw [hc] at hs
        have hbl := begins_len (synTo_begins _ _ _ _ hc)
        rw [List.length_cons] at hbl
        rw [termsT_cons_some hs, termsT_cons_some hc, List.drop_append_of_le_length (by omega), ih (r.drop _) (by rw [List.length_drop]; simp at h; omega) (hg2 _ fun u hu => List.mem_of_mem_drop hu)]; rfl
theorem plainT_app (x : ConfA) (a b : List Wd) : plainT x (a ++ b) = plainT x a ++ plainT x b := by simp [plainT]
theorem plainT_shift (x : ConfA) (c d : Nat) (ws : List Wd) : plainT x (shiftW c d ws) = shiftT c (plainT x ws) := by
  induction ws with
  | nil => rfl
  | cons w ws ih =>
    have hk : keepT x ⟨w.text, w.at_ + c, w.from_ + d, w.to_ + d⟩ = keepT x w := rfl
    rw [show shiftW c d (w :: ws) = ⟨w.text, w.at_ + c, w.from_ + d, w.to_ + d⟩ :: shiftW c d ws from rfl]
    unfold plainT at ih ⊢
    cases h : keepT x w
    · rw [List.filter_cons_of_neg (by rw [hk, h]; decide), List.filter_cons_of_neg (by rw [h]; decide), ih]
    · rw [List.filter_cons_of_pos (by rw [hk, h]), List.filter_cons_of_pos h, List.map_cons, ih, List.map_cons]; rfl
theorem text_head {a b : ByteArray} (h : textOk (a ++ b) = true) : textOk a = true := by
  have hs := textOk_size h
  rw [ByteArray.size_append] at hs
  rw [textOk, Bool.and_eq_true, byWb]
  refine ⟨fun k hk => ?_, by simp; omega⟩
  have h1 := text_of h k (by rw [ByteArray.size_append]; omega)
  rwa [byW_app_l hk] at h1
/-- Terms of two texts with a word between that is passed over. -/
theorem terms_cut {x : ConfA} {a b p : ByteArray} (hc : confOk x = true) (hp : wordOk p = true) (hh : hasS x.n x.ss p = true) (h : textOk (a ++ blankS ++ p ++ blankS ++ b) = true) :
    termsOf x (a ++ blankS ++ p ++ blankS ++ b) = termsOf x a ++ shiftT ((wordsOf a).length + 1) (termsOf x b) := by
  have h1 : textOk (a ++ blankS ++ p) = true := text_head (b := blankS ++ b) (by rw [← ByteArray.append_assoc]; exact h)
  have h2 : textOk a = true := text_head (b := blankS ++ p) (by rw [← ByteArray.append_assoc]; exact h1)
  have h3 : textOk b = true := (text_tail h).1
  have e1 := words_cut h1 h
  have e2 := words_cut h2 h1
  rw [wordsOf_word hp] at e2
  have w0 : ∀ t, textOk t = true → wds t 0 0 = wordsOf t := fun t ht => by rw [wordsOf, if_pos ht]
  rw [termsOf, hc, h, termsOf, h2, hc, termsOf, h3, hc]
  simp only [Bool.and_self, if_true]
  rw [w0 _ h, w0 _ h2, w0 _ h3, e1, e2]
  have hsp : plainT x (shiftW (wordsOf a).length (a.size + 1) [⟨p, 0, 0, p.size⟩]) = [] := by
    rw [plainT_shift]
    have : keepT x ⟨p, 0, 0, p.size⟩ = false := by rw [keepT, hh]; rfl
    unfold plainT
    rw [List.filter_cons_of_neg (by rw [this]; decide)]; rfl
  rw [plainT_app, plainT_app, hsp, List.append_nil, plainT_shift]
  rw [show (wordsOf a ++ shiftW (wordsOf a).length (a.size + 1) [⟨p, 0, 0, p.size⟩]).length = (wordsOf a).length + 1 by simp [shiftW]]
  rw [termsT_gap _ _ (Nat.le_refl _) ?_]
  · congr 1
    unfold termsT
    rw [trm_shift, shiftT_len]
  · intro u hu v hv
    have hr : Row (wordsOf a) := by rw [← w0 _ h2]; exact wds_row a
    have := (plainT_from hr u hu).1
    simp only [shiftT, List.mem_map] at hv
    obtain ⟨t, _, rfl⟩ := hv
    show u.at_ + 1 < t.at_ + _
    omega
end Go.Proofs.Ytejooloflcldiaa
