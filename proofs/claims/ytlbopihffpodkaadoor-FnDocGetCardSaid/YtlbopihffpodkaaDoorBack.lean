/- What is written as a document is read back, by the program's way and by the reference's, in plain Lean. No condition. -/
import Derived.Test.YtlbopihffpodkaaDoorDocR
import Derived.Test.YtlbopihffpodkaaDoorPl
namespace Go.Proofs.YtlbopihffpodkaaDoor
set_option maxRecDepth 100000
open Go.RowKit
/-- One line, as the program reads it. -/
def iRow (l : ByteArray) (t : St) : St :=
  if cut1 l = ⟨#[100, 111, 99]⟩ then { t with id := atoiV (cut2 l) }
  else if cut1 l = ⟨#[102, 105, 101, 108, 100]⟩ then { t with fs := t.fs ++ [⟨cut1 (cut2 l), cut2 (cut2 l)⟩] }
  else if cut1 l = ⟨#[110, 117, 109]⟩ then { t with ns := t.ns ++ [⟨cut1 (cut2 l), atoiV (cut2 (cut2 l))⟩] }
  else t
def iAt (xs : List ByteArray) : Nat → St
  | 0 => ⟨0, [], []⟩
  | k + 1 => iRow (nthS xs k) (iAt xs k)
def iRead (s : ByteArray) : St := iAt (lines s) (lines s).length
/-- What the program gives back. -/
def iGet (s : ByteArray) : Option St :=
  if s = ⟨#[]⟩ then none else if okSt (iRead s) = true ∧ putSt (iRead s) = s then some (iRead s) else none
theorem atoiV_in (s : ByteArray) : -9223372036854775808 ≤ atoiV s ∧ atoiV s ≤ 9223372036854775807 := by
  unfold atoiV
  match h : Lib.atoiAll s.data.toList with
  | .ok v => exact Lib.atoiAll_bounds h
  | Lib.NumEnd.syntax => show -9223372036854775808 ≤ (0 : Int) ∧ (0 : Int) ≤ 9223372036854775807; omega
  | .range => show -9223372036854775808 ≤ Lib.atoiSat _ ∧ Lib.atoiSat _ ≤ 9223372036854775807; unfold Lib.atoiSat; split <;> omega
def docL (id : Int) : List UInt8 := [100, 111, 99] ++ 32 :: Lib.decDigits id.toNat
def fdL (f : Fd) : List UInt8 := [102, 105, 101, 108, 100] ++ 32 :: (f.name.data.toList ++ 32 :: f.text.data.toList)
def adL (f : Ad) : List UInt8 := [110, 117, 109] ++ 32 :: (f.name.data.toList ++ 32 :: Lib.decDigits f.num.toNat)
def rowsL (t : St) : List (List UInt8) := docL t.id :: (t.fs.map fdL ++ t.ns.map adL)
theorem accB_list (h : ByteArray) (L : Nat → ByteArray) (k : Nat) : (accB h L k).data.toList = h.data.toList ++ (List.range k).flatMap fun j => (L j).data.toList := by
  induction k with
  | zero => simp [accB]
  | succ k ih => rw [accB, List.range_succ, List.flatMap_append, ByteArray.data_append, Array.toList_append, ih]; simp
theorem range_fs (fs : List Fd) (g : Fd → List UInt8) : (List.range fs.length).flatMap (fun j => g (nthD fs j)) = fs.flatMap g := by
  have e : (List.range fs.length).map (nthD fs) = fs := List.ext_getElem (by simp) (fun i h1 h2 => by simp [nthD_eq h2])
  have h := congrArg (List.flatMap g) e
  rw [List.flatMap_map] at h
  exact h
theorem range_ns (fs : List Ad) (g : Ad → List UInt8) : (List.range fs.length).flatMap (fun j => g (nthA fs j)) = fs.flatMap g := by
  have e : (List.range fs.length).map (nthA fs) = fs := List.ext_getElem (by simp) (fun i h1 h2 => by simp [nthA_eq h2])
  have h := congrArg (List.flatMap g) e
  rw [List.flatMap_map] at h
  exact h
theorem mkB_of {x : ByteArray} {l : List UInt8} (h : x.data.toList = l) : x = mkB l := by rw [← h]; exact (mk_list x).symm
theorem fdLine_list (f : Fd) : (fdLine f).data.toList = fdL f ++ [10] := by
  unfold fdLine fdL
  simp only [ByteArray.data_append, Array.toList_append, List.append_assoc]
  simp
theorem adLine_list (f : Ad) : (adLine f).data.toList = adL f ++ [10] := by
  unfold adLine adL decS
  simp only [ByteArray.data_append, Array.toList_append, List.append_assoc]
  simp
theorem put_rows (t : St) : putSt t = mkB (joinL (rowsL t)) := by
  refine mkB_of ?_
  unfold putSt putA putF putH
  rw [accB_list, accB_list]
  simp only [fdLine_list, adLine_list]
  rw [range_fs t.fs (fun f => fdL f ++ [10]), range_ns t.ns (fun f => adL f ++ [10])]
  unfold rowsL
  rw [joinL_cons, joinL_app]
  unfold joinL
  rw [List.flatMap_map, List.flatMap_map, ByteArray.data_append, ByteArray.data_append]
  simp [docL, decS]
theorem allB_free {p : Int → Bool} {l : List UInt8} {c : UInt8} (h : allB p l = true) (hc : p (c.toNat : Int) = false) : c ∉ l := fun hm => by
  have := List.all_eq_true.1 h c hm
  rw [hc] at this
  cases this
structure OkT (t : St) : Prop where
  id0 : 1 ≤ t.id
  id1 : t.id ≤ 9999
  n3 : t.fs.length ≤ 3
  m3 : t.ns.length ≤ 3
  f : ∀ x ∈ t.fs, wordOk x.name = true ∧ textOk x.text = true
  g : ∀ x ∈ t.ns, wordOk x.name = true ∧ numOk x.num = true
theorem okT {t : St} (h : okSt t = true) : OkT t := by
  simp only [okSt, docOk, Bool.and_eq_true, decide_eq_true_eq, idOk] at h
  obtain ⟨⟨⟨⟨⟨h1, h2⟩, h3⟩, h4⟩, h5⟩, h6⟩ := h
  have F := fun k hk => allN_iff.1 h5 k hk
  have A := fun k hk => allN_iff.1 h6 k hk
  simp only [fdAt, adAt, Bool.and_eq_true] at F A
  refine ⟨h1, h2, h3, h4, fun x hx => ?_, fun x hx => ?_⟩
  · obtain ⟨k, hk, rfl⟩ := List.getElem_of_mem hx
    rw [← nthD_eq hk]
    exact (F k hk).1
  · obtain ⟨k, hk, rfl⟩ := List.getElem_of_mem hx
    rw [← nthA_eq hk]
    exact (A k hk).1
theorem word_free {s : ByteArray} (h : wordOk s = true) : 10 ∉ s.data.toList ∧ 32 ∉ s.data.toList := by
  simp only [wordOk, Bool.and_eq_true] at h
  exact ⟨allB_free h.1 (by decide), allB_free h.1 (by decide)⟩
theorem text_free {s : ByteArray} (h : textOk s = true) : 10 ∉ s.data.toList := by
  simp only [textOk, Bool.and_eq_true] at h
  exact allB_free h.1 (by decide)
theorem dec_free (n : Nat) : 10 ∉ Lib.decDigits n ∧ 32 ∉ Lib.decDigits n := ⟨allB_free (dec_digs n).1 (by decide), allB_free (dec_digs n).1 (by decide)⟩
theorem rows_free {t : St} (h : OkT t) : ∀ a ∈ rowsL t, 10 ∉ a := by
  intro a ha
  unfold rowsL at ha
  rcases List.mem_cons.1 ha with rfl | ha
  · have := (dec_free t.id.toNat).1
    simp [docL, this]
  · rcases List.mem_append.1 ha with ha | ha
    · obtain ⟨f, hf, rfl⟩ := List.mem_map.1 ha
      have h1 := (word_free (h.f f hf).1).1
      have h2 := text_free (h.f f hf).2
      unfold fdL
      intro hm
      simp only [List.mem_append, List.mem_cons] at hm
      rcases hm with hm | hm | hm | hm | hm
      · revert hm; decide
      · revert hm; decide
      · exact h1 hm
      · revert hm; decide
      · exact h2 hm
    · obtain ⟨f, hf, rfl⟩ := List.mem_map.1 ha
      have h1 := (word_free (h.g f hf).1).1
      have h2 := (dec_free f.num.toNat).1
      unfold adL
      intro hm
      simp only [List.mem_append, List.mem_cons] at hm
      rcases hm with hm | hm | hm | hm | hm
      · revert hm; decide
      · revert hm; decide
      · exact h1 hm
      · revert hm; decide
      · exact h2 hm
theorem k_doc : (⟨#[100, 111, 99]⟩ : ByteArray) = mkB [100, 111, 99] := rfl
theorem k_field : (⟨#[102, 105, 101, 108, 100]⟩ : ByteArray) = mkB [102, 105, 101, 108, 100] := rfl
theorem k_num : (⟨#[110, 117, 109]⟩ : ByteArray) = mkB [110, 117, 109] := rfl
theorem iRow_doc {id : Int} (t : St) (h0 : 0 ≤ id) (h1 : id ≤ 999999999) : iRow (mkB (docL id)) t = { t with id := id } := by
  obtain ⟨e1, e2⟩ := cut_joined [100, 111, 99] (Lib.decDigits id.toNat) (by decide)
  unfold iRow docL
  rw [e1, e2, k_doc, k_field, k_num, if_pos rfl]
  have := atoiV_dec (n := id.toNat) (by omega)
  show ({ t with id := atoiV (decS id.toNat) } : St) = _
  rw [this, Int.toNat_of_nonneg h0]
theorem iRow_fd (f : Fd) (t : St) (h : 32 ∉ f.name.data.toList) : iRow (mkB (fdL f)) t = { t with fs := t.fs ++ [f] } := by
  obtain ⟨e1, e2⟩ := cut_joined [102, 105, 101, 108, 100] (f.name.data.toList ++ 32 :: f.text.data.toList) (by decide)
  obtain ⟨e3, e4⟩ := cut_joined f.name.data.toList f.text.data.toList h
  unfold iRow fdL
  rw [e1, e2, e3, e4, k_doc, k_field, k_num, if_neg (fun e => absurd (mkB_inj (b := [100, 111, 99]) e) (by decide)), if_pos rfl]
  have a1 : mkB f.name.data.toList = f.name := mk_list _
  have a2 : mkB f.text.data.toList = f.text := mk_list _
  rw [a1, a2]
theorem iRow_ad (f : Ad) (t : St) (h : 32 ∉ f.name.data.toList) (h0 : 0 ≤ f.num) (h1 : f.num ≤ 999999999) : iRow (mkB (adL f)) t = { t with ns := t.ns ++ [f] } := by
  obtain ⟨e1, e2⟩ := cut_joined [110, 117, 109] (f.name.data.toList ++ 32 :: Lib.decDigits f.num.toNat) (by decide)
  obtain ⟨e3, e4⟩ := cut_joined f.name.data.toList (Lib.decDigits f.num.toNat) h
  unfold iRow adL
  rw [e1, e2, e3, e4, k_doc, k_field, k_num, if_neg (fun e => absurd (mkB_inj (b := [100, 111, 99]) e) (by decide)), if_neg (fun e => absurd (mkB_inj (b := [102, 105, 101, 108, 100]) e) (by decide)), if_pos rfl]
  have a1 : mkB f.name.data.toList = f.name := mk_list _
  have a2 : atoiV (mkB (Lib.decDigits f.num.toNat)) = f.num := by
    have := atoiV_dec (n := f.num.toNat) (by omega)
    show atoiV (decS _) = _
    rw [this, Int.toNat_of_nonneg h0]
  rw [a1, a2]
theorem iRow_nil (t : St) : iRow (mkB []) t = t := by
  obtain ⟨e1, e2⟩ := cut_none [] (by simp)
  unfold iRow
  rw [e1, k_doc, k_field, k_num, if_neg (fun e => absurd (mkB_inj (b := [100, 111, 99]) e) (by decide)), if_neg (fun e => absurd (mkB_inj (b := [102, 105, 101, 108, 100]) e) (by decide)), if_neg (fun e => absurd (mkB_inj (b := [110, 117, 109]) e) (by decide))]
theorem sRow_doc {id : Int} (t : St) (h0 : 0 ≤ id) (h1 : id ≤ 999999999) : sRow 0 (cutS (mkB (docL id)) 32 2) t = some { t with id := id } := by
  unfold sRow docL
  rw [cutS_one _ _ (by decide) (dec_free _).2, if_pos ⟨rfl, rfl, rfl⟩]
  have := numV_dec (n := id.toNat) (by omega)
  show some ({ t with id := numV (decS id.toNat) } : St) = _
  rw [this, Int.toNat_of_nonneg h0]
theorem sRow_fd {i : Nat} (f : Fd) (t : St) (hi : 0 < i) (h : 32 ∉ f.name.data.toList) : sRow i (cutS (mkB (fdL f)) 32 2) t = some { t with fs := t.fs ++ [f] } := by
  unfold sRow fdL
  rw [cutS_two _ _ _ (by decide) h, if_neg (fun e => by omega), if_pos ⟨hi, rfl, rfl⟩]
  have a1 : mkB f.name.data.toList = f.name := mk_list _
  have a2 : mkB f.text.data.toList = f.text := mk_list _
  show some ({ t with fs := t.fs ++ [⟨mkB f.name.data.toList, mkB f.text.data.toList⟩] } : St) = _
  rw [a1, a2]
theorem sRow_ad {i : Nat} (f : Ad) (t : St) (hi : 0 < i) (h : 32 ∉ f.name.data.toList) (h0 : 0 ≤ f.num) (h1 : f.num ≤ 999999999) : sRow i (cutS (mkB (adL f)) 32 2) t = some { t with ns := t.ns ++ [f] } := by
  unfold sRow adL
  rw [cutS_two _ _ _ (by decide) h, if_neg (fun e => by omega), if_neg (fun e => absurd (mkB_inj (a := [110, 117, 109]) (b := [102, 105, 101, 108, 100]) e.2.1) (by decide)), if_pos ⟨hi, rfl, rfl⟩]
  have a1 : mkB f.name.data.toList = f.name := mk_list _
  have a2 : numV (mkB (Lib.decDigits f.num.toNat)) = f.num := by
    have := numV_dec (n := f.num.toNat) (by omega)
    show numV (decS _) = _
    rw [this, Int.toNat_of_nonneg h0]
  show some ({ t with ns := t.ns ++ [⟨mkB f.name.data.toList, numV (mkB (Lib.decDigits f.num.toNat))⟩] } : St) = _
  rw [a1, a2]
/-- The lines of what is written. -/
def textRows (t : St) : List ByteArray := mkB (docL t.id) :: (t.fs.map (fun f => mkB (fdL f)) ++ (t.ns.map (fun f => mkB (adL f)) ++ [mkB []]))
theorem text_rows (t : St) : (rowsL t).map mkB ++ [mkB []] = textRows t := by simp [rowsL, textRows]; rfl
theorem nth_zero (t : St) : nthS (textRows t) 0 = mkB (docL t.id) := rfl
theorem nth_fd (t : St) {j : Nat} (h : j < t.fs.length) : nthS (textRows t) (1 + j) = mkB (fdL (t.fs[j])) := by
  unfold nthS textRows
  rw [Nat.add_comm, List.getElem?_cons_succ, List.getElem?_append_left (by simpa using h), List.getElem?_map, List.getElem?_eq_getElem h]
  rfl
theorem nth_ad (t : St) {j : Nat} (h : j < t.ns.length) : nthS (textRows t) (1 + t.fs.length + j) = mkB (adL (t.ns[j])) := by
  unfold nthS textRows
  rw [show 1 + t.fs.length + j = (t.fs.length + j) + 1 by omega, List.getElem?_cons_succ, List.getElem?_append_right (by simp), List.length_map, Nat.add_sub_cancel_left, List.getElem?_append_left (by simpa using h), List.getElem?_map, List.getElem?_eq_getElem h]
  rfl
theorem nth_last (t : St) : nthS (textRows t) (1 + t.fs.length + t.ns.length) = mkB [] := by
  unfold nthS textRows
  rw [show 1 + t.fs.length + t.ns.length = (t.fs.length + t.ns.length) + 1 by omega, List.getElem?_cons_succ, List.getElem?_append_right (by simp), List.length_map, Nat.add_sub_cancel_left, List.getElem?_append_right (by simp), List.length_map, Nat.sub_self]
  rfl
theorem rows_length (t : St) : (textRows t).length = 1 + t.fs.length + t.ns.length + 1 := by simp [textRows]; omega
theorem take_next {α : Type} (l : List α) {j : Nat} (h : j < l.length) : l.take (j + 1) = l.take j ++ [l[j]] := List.take_succ_eq_append_getElem h
theorem iAt_fd {t : St} (h : OkT t) : ∀ j, j ≤ t.fs.length → iAt (textRows t) (1 + j) = ⟨t.id, t.fs.take j, []⟩ := by
  intro j
  induction j with
  | zero =>
    intro _
    show iRow (nthS (textRows t) 0) ⟨0, [], []⟩ = _
    have := h.id0
    have := h.id1
    rw [nth_zero, iRow_doc _ (by omega) (by omega)]
    rfl
  | succ j ih =>
    intro hj
    show iRow (nthS (textRows t) (1 + j)) (iAt (textRows t) (1 + j)) = _
    rw [ih (by omega), nth_fd t (by omega), iRow_fd _ _ (word_free (h.f _ (List.getElem_mem _)).1).2, take_next _ (by omega)]
theorem iAt_ad {t : St} (h : OkT t) : ∀ j, j ≤ t.ns.length → iAt (textRows t) (1 + t.fs.length + j) = ⟨t.id, t.fs, t.ns.take j⟩ := by
  intro j
  induction j with
  | zero =>
    intro _
    have := iAt_fd h t.fs.length (Nat.le_refl _)
    rw [List.take_length] at this
    exact this
  | succ j ih =>
    intro hj
    show iRow (nthS (textRows t) (1 + t.fs.length + j)) (iAt (textRows t) (1 + t.fs.length + j)) = _
    have hg := h.g (t.ns[j]) (List.getElem_mem _)
    have hn := hg.2
    simp only [numOk, Bool.and_eq_true, decide_eq_true_eq] at hn
    rw [ih (by omega), nth_ad t (by omega), iRow_ad _ _ (word_free hg.1).2 hn.1 hn.2, take_next _ (by omega)]
theorem sAt_fd {t : St} (h : OkT t) : ∀ j, j ≤ t.fs.length → sAt (textRows t) (1 + j) = some ⟨t.id, t.fs.take j, []⟩ := by
  intro j
  induction j with
  | zero =>
    intro _
    show sRow 0 (cutS (nthS (textRows t) 0) 32 2) ⟨0, [], []⟩ = _
    have := h.id0
    have := h.id1
    rw [nth_zero, sRow_doc _ (by omega) (by omega)]
    rfl
  | succ j ih =>
    intro hj
    show (sAt (textRows t) (1 + j)).bind (sRow (1 + j) (cutS (nthS (textRows t) (1 + j)) 32 2)) = _
    rw [ih (by omega), nth_fd t (by omega), Option.bind_some, sRow_fd _ _ (by omega) (word_free (h.f _ (List.getElem_mem _)).1).2, take_next _ (by omega)]
theorem sAt_ad {t : St} (h : OkT t) : ∀ j, j ≤ t.ns.length → sAt (textRows t) (1 + t.fs.length + j) = some ⟨t.id, t.fs, t.ns.take j⟩ := by
  intro j
  induction j with
  | zero =>
    intro _
    have := sAt_fd h t.fs.length (Nat.le_refl _)
    rw [List.take_length] at this
    exact this
  | succ j ih =>
    intro hj
    show (sAt (textRows t) (1 + t.fs.length + j)).bind (sRow (1 + t.fs.length + j) (cutS (nthS (textRows t) (1 + t.fs.length + j)) 32 2)) = _
    have hg := h.g (t.ns[j]) (List.getElem_mem _)
    have hn := hg.2
    simp only [numOk, Bool.and_eq_true, decide_eq_true_eq] at hn
    rw [ih (by omega), nth_ad t (by omega), Option.bind_some, sRow_ad _ _ (by omega) (word_free hg.1).2 hn.1 hn.2, take_next _ (by omega)]
/-- The program reads back what is written. -/
theorem iRead_put {t : St} (h : okSt t = true) : iRead (putSt t) = t := by
  have o := okT h
  unfold iRead
  rw [put_rows, lines_join _ (rows_free o), text_rows, rows_length]
  show iRow (nthS (textRows t) (1 + t.fs.length + t.ns.length)) (iAt (textRows t) (1 + t.fs.length + t.ns.length)) = _
  rw [nth_last, iRow_nil, iAt_ad o _ (Nat.le_refl _), List.take_length]
/-- .. and so does the reference. -/
theorem sRead_put {t : St} (h : okSt t = true) : sAt (cutS (putSt t) 10 8) ((cutS (putSt t) 10 8).length - 1) = some t := by
  have o := okT h
  have h1 := o.n3
  have h2 := o.m3
  rw [put_rows, cutS_join _ 8 (rows_free o) (by simp [rowsL]; omega), text_rows, rows_length, Nat.add_sub_cancel, sAt_ad o _ (Nat.le_refl _), List.take_length]
theorem put_some (t : St) : putSt t ≠ ⟨#[]⟩ := by
  rw [put_rows]
  intro e
  have : joinL (rowsL t) = [] := mkB_inj (b := []) e
  unfold rowsL at this
  rw [joinL_cons] at this
  simp at this
/-- Both give the same. -/
theorem get_same (s : ByteArray) : sGet s = iGet s := by
  unfold iGet
  by_cases h0 : s = ⟨#[]⟩
  · rw [if_pos h0]
    unfold sGet
    cases hs : sAt (cutS s 10 8) ((cutS s 10 8).length - 1) with
    | none => rfl
    | some t => exact if_neg (fun h => put_some t (h.2.trans h0))
  · rw [if_neg h0]
    by_cases hi : okSt (iRead s) = true ∧ putSt (iRead s) = s
    · rw [if_pos hi]
      have := sRead_put hi.1
      rw [hi.2] at this
      unfold sGet
      rw [this]
      exact if_pos hi
    · rw [if_neg hi]
      unfold sGet
      cases hs : sAt (cutS s 10 8) ((cutS s 10 8).length - 1) with
      | none => rfl
      | some t =>
        refine if_neg (fun h => hi ?_)
        have := iRead_put h.1
        rw [h.2] at this
        rw [this]
        exact h
end Go.Proofs.YtlbopihffpodkaaDoor
