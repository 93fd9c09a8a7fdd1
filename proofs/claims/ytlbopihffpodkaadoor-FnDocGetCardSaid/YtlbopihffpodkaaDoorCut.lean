/- Texts cut at a byte, as the reference cuts them. Condition: the string fits the model's sizes. -/
import Derived.Test.YtlbopihffpodkaaDoorGlobOf
namespace Go.Proofs.YtlbopihffpodkaaDoor
set_option maxRecDepth 100000
open Go.RowKit
/-- What is left is cut at c, m times at most; acc: what lies ahead of it since the last cut. -/
def cutA (c : UInt8) : List UInt8 → List UInt8 → Nat → List (List UInt8)
  | acc, [], _ => [acc]
  | acc, x :: r, 0 => [acc ++ x :: r]
  | acc, x :: r, m + 1 => if x = c then acc :: cutA c [] r m else cutA c (acc ++ [x]) r (m + 1)
def cutS (s : ByteArray) (c : UInt8) (k : Nat) : List ByteArray := (cutA c [] s.data.toList k).map fun p => ⟨p.toArray⟩
theorem cutA_end (c : UInt8) (acc l : List UInt8) : cutA c acc l 0 = [acc ++ l] := by cases l <;> simp [cutA]
theorem cutA_run (c : UInt8) : ∀ (a acc r : List UInt8) (m : Nat), c ∉ a → cutA c acc (a ++ r) (m + 1) = cutA c (acc ++ a) r (m + 1) := by
  intro a
  induction a with
  | nil => intro acc r m _; simp
  | cons x a ih =>
    intro acc r m h
    simp only [List.mem_cons, not_or] at h
    rw [List.cons_append, cutA, if_neg (fun e => h.1 e.symm), ih _ _ _ h.2]
    simp
theorem cutA_hit (c : UInt8) (a r : List UInt8) (m : Nat) (h : c ∉ a) : cutA c [] (a ++ c :: r) (m + 1) = a :: cutA c [] r m := by
  rw [cutA_run c a [] _ m h, cutA, if_pos rfl]; simp
theorem cutA_miss (c : UInt8) (a : List UInt8) (m : Nat) (h : c ∉ a) : cutA c [] a m = [a] := by
  cases m with
  | zero => rw [cutA_end]; simp
  | succ m =>
    have := cutA_run c a [] [] m h
    rw [List.append_nil] at this
    rw [this, cutA]; simp
theorem cutA_len (c : UInt8) : ∀ (l acc : List UInt8) (m : Nat), (cutA c acc l m).length ≤ m + 1 := by
  intro l
  induction l with
  | nil => intro acc m; simp [cutA]
  | cons x l ih =>
    intro acc m
    cases m with
    | zero => simp [cutA]
    | succ m =>
      rw [cutA]
      split
      · have := ih [] m
        simp only [List.length_cons]
        omega
      · exact ih _ _
theorem cutA_size (c : UInt8) : ∀ (l acc : List UInt8) (m : Nat), ∀ p ∈ cutA c acc l m, p.length ≤ acc.length + l.length := by
  intro l
  induction l with
  | nil => intro acc m p hp; simp only [cutA, List.mem_singleton] at hp; subst hp; simp
  | cons x l ih =>
    intro acc m p hp
    cases m with
    | zero => simp only [cutA, List.mem_singleton] at hp; subst hp; simp
    | succ m =>
      rw [cutA] at hp
      split at hp
      · rcases List.mem_cons.1 hp with rfl | h
        · omega
        · have := ih [] m p h
          simp only [List.length_nil, List.length_cons] at this ⊢
          omega
      · have := ih _ _ p hp
        simp only [List.length_append, List.length_cons, List.length_nil] at this ⊢
        omega
theorem cutS_size (s : ByteArray) (c : UInt8) (k j : Nat) : (nthS (cutS s c k) j).size ≤ s.size := by
  unfold nthS cutS
  cases hj : ((cutA c [] s.data.toList k).map fun p => (⟨p.toArray⟩ : ByteArray))[j]? with
  | none => simp
  | some y =>
    have hm := List.mem_of_getElem? hj
    obtain ⟨p, hp, rfl⟩ := List.mem_map.1 hm
    have := cutA_size c s.data.toList [] k p hp
    show p.toArray.size ≤ s.size
    simpa using this
theorem cutA_some (c : UInt8) (l acc : List UInt8) (m : Nat) : 1 ≤ (cutA c acc l m).length := by
  induction l generalizing acc m with
  | nil => simp [cutA]
  | cons x l ih =>
    cases m with
    | zero => simp [cutA]
    | succ m => rw [cutA]; split <;> simp_all
theorem cutS_some (s : ByteArray) (c : UInt8) (k : Nat) : 1 ≤ (cutS s c k).length := by
  unfold cutS; rw [List.length_map]; exact cutA_some _ _ _ _
theorem ext_list (s : ByteArray) (f i : Nat) : (s.extract f i).data.toList = (s.data.toList.drop f).take (i - f) := by
  rw [ByteArray.data_extract, Array.toList_extract]
/-- One step of the loop. -/
theorem cut_hit {s : ByteArray} {c : UInt8} {f i m : Nat} (hi : i < s.size) (h : s[i]'hi = c) :
    cutA c ((s.data.toList.drop f).take (i - f)) (s.data.toList.drop i) (m + 1) = (s.extract f i).data.toList :: cutA c ((s.data.toList.drop (i + 1)).take (i + 1 - (i + 1))) (s.data.toList.drop (i + 1)) m := by
  rw [List.drop_eq_getElem_cons (i := i) (by simpa using hi), cutA, if_pos (by simpa [ByteArray.getElem_eq_getElem_data] using h), ext_list, Nat.sub_self, List.take_zero]
theorem cut_skip {s : ByteArray} {c : UInt8} {f i m : Nat} (hi : i < s.size) (hf : f ≤ i) (h : s[i]'hi ≠ c) :
    cutA c ((s.data.toList.drop f).take (i - f)) (s.data.toList.drop i) (m + 1) = cutA c ((s.data.toList.drop f).take (i + 1 - f)) (s.data.toList.drop (i + 1)) (m + 1) := by
  have hl : i < s.data.toList.length := by simpa using hi
  rw [List.drop_eq_getElem_cons (i := i) hl, cutA, if_neg (by simpa [ByteArray.getElem_eq_getElem_data] using h)]
  congr 1
  rw [show i + 1 - f = (i - f) + 1 by omega, List.take_succ_eq_append_getElem (by rw [List.length_drop]; omega)]
  congr 2
  rw [List.getElem_drop]
  congr 1
  omega
theorem cut_last {s : ByteArray} {c : UInt8} {f i m : Nat} (hf : f ≤ i) (hi : i ≤ s.size) (h : i = s.size ∨ m = 0) :
    cutA c ((s.data.toList.drop f).take (i - f)) (s.data.toList.drop i) m = [(s.extract f s.size).data.toList] := by
  have e : (s.data.toList.drop f).take (i - f) ++ s.data.toList.drop i = s.data.toList.drop f := by
    rw [show s.data.toList.drop i = (s.data.toList.drop f).drop (i - f) by rw [List.drop_drop]; congr 1; omega, List.take_append_drop]
  have e2 : (s.extract f s.size).data.toList = s.data.toList.drop f := by
    rw [ext_list, List.take_of_length_le (by simp)]
  rw [e2]
  rcases h with rfl | rfl
  · rw [List.drop_of_length_le (l := s.data.toList) (i := s.size) (by simp)] at e ⊢
    rw [List.append_nil] at e
    rw [cutA, e]
  · rw [cutA_end, e]
theorem mk_list (x : ByteArray) : (⟨x.data.toList.toArray⟩ : ByteArray) = x := by cases x; simp
theorem mk_lists (ys : List ByteArray) : (ys.map (·.data.toList)).map (fun p => (⟨p.toArray⟩ : ByteArray)) = ys := by
  rw [List.map_map]
  conv => rhs; rw [← List.map_id ys]
  exact List.map_congr_left fun y _ => mk_list y
set_option maxHeartbeats 1000000 in
theorem l1Cut_any (s : ByteArray) (c : UInt8) (k : Nat) (w : World) (hs : s.size ≤ 1152921504606846976) (hk : k ≤ 100) :
    Calls Tryd.prog 34 #[.string s, .int .u8 (c.toNat : Int), .int .i64 (k : Int)] w fun e w' => ∃ (a' : Option Addr) (c' : Nat), e = .returned (.slice a' (cutS s c k).length c') ∧ OwnStrs w' w.heap.size a' (cutS s c k).length c' (cutS s c k) ∧ Below w.heap.size w w' := by
  have HA := Lib.hid ((Below.refl w.heap.size w).alloc (Nat.le_refl _) (.cells #[] 9))
  have ON := Lib.hid (own_nil_made w)
  obtain ⟨i0, hi, hz0, hz1, hz2⟩ := info_parts info_str
  go_enter Tryd.func34, Tryd.ntmps34
  go_wp2_with fail
  go_loopw [7, 8, 9] (fun v f i wr => ∃ (j fr : Nat) (a' : Option Addr) (c' : Nat) (ys : List ByteArray), fr ≤ j ∧ j ≤ s.size ∧ ys.length ≤ k ∧ i = .int .i64 j ∧ f = .int .i64 fr ∧ v = .slice a' ys.length c' ∧ (∀ y ∈ ys, y.size ≤ maxLen) ∧ ys.map (·.data.toList) ++ cutA c ((s.data.toList.drop fr).take (j - fr)) (s.data.toList.drop j) (k - ys.length) = cutA c [] s.data.toList k ∧ wr.ownsRow w.heap.size 9 1 (.slice a' ys.length c') ys.length (ys.map Value.string) ∧ Below w.heap.size w wr) (fun _ _ i _ => s.size - (intOf i).toNat)
  case atStart => exact ⟨0, 0, _, _, [], Nat.le_refl _, Nat.zero_le _, Nat.zero_le _, rfl, rfl, rfl, (fun y hy => nomatch hy), (by simp), ON.out.own, HA.out⟩
  case round =>
    obtain ⟨j, fr, a', c', ys, hfj, hjs, hyk, rfl, rfl, rfl, hfit, heq, hown, hb⟩ := hrel
    have HF := Lib.hid hfit; clear hfit
    have HE := Lib.hid heq; clear heq
    have HO := Lib.hid hown; clear hown
    have HB := Lib.hid hb; clear hb
    by_cases hlt : j < s.size
    · by_cases hkl : ys.length < k
      · by_cases hc : s[j]'hlt = c
        · have hq : (((s[j]'hlt).toNat : Int) == (c.toNat : Int)) = true := beq_t (by rw [hc])
          have NX := cut_hit (f := fr) (m := k - ys.length - 1) hlt hc
          rw [show k - ys.length - 1 + 1 = k - ys.length by omega] at NX
          have NXT := Lib.hid NX; clear NX
          have HC := Lib.hid hc; clear hc
          go_wp2_with (at_builtin; refine wpList_append_own _ rfl _ _ 54 rfl w.heap.size 9 i0 (.string ByteArray.empty) 1 16 Tryd.underlying54 hi hz0 hz1 hz2 rfl (by decide) _ _ _ rfl (HO.out.alloc _) ⟨wr.heap.size, 0, none⟩ 1 1 [.string (s.extract fr j)] rfl rfl ?c1 ?c2 ?c3 ?c4 ?c5 ?_)
          case c1 => exact cells_new wr _ _
          case c2 => intro u hu; simp at hu; subst hu; rfl
          case c3 => unfold maxLen; omega
          case c4 => omega
          case c5 => have := HB.out.size; show w.heap.size ≤ (wr.alloc _).heap.size; simp; omega
          · intro v' w1 hown' hgrow _
            obtain ⟨a2, c2, hv⟩ := own_form hown'
            rw [hv] at hown'
            have HO2 := Lib.hid hown'; clear hown'
            have HB2 := Lib.hid ((HB.out.alloc HB.out.size _).grown hgrow (by have := HB.out.size; show w.heap.size ≤ (wr.alloc _).heap.size; simp; omega) (fun k hk => (own_block HO.out k hk).1))
            clear hgrow
            rw [hv]
            clear hv
            have hes : (s.extract fr j).size ≤ maxLen := by rw [ByteArray.size_extract]; unfold maxLen; omega
            have FI : Hid (∀ y ∈ ys ++ [s.extract fr j], y.size ≤ maxLen) := fun y hy => by
              rcases List.mem_append.1 hy with h | h
              · exact HF.out y h
              · rw [List.mem_singleton] at h; subst h; exact hes
            go_wp2_with fail
            go_roundw
            case rel => exact ⟨j + 1, j + 1, a2, c2, ys ++ [s.extract fr j], Nat.le_refl _, by omega, by simp; omega, by go_num, by go_num, by simp, FI.out, by rw [← HE.out, NXT.out, List.map_append, List.length_append]; simp [Nat.sub_sub], by have := HO2.out; simpa using this, HB2.out⟩
            case measure => simp [intOf]; omega
        · have hq : (((s[j]'hlt).toNat : Int) == (c.toNat : Int)) = false := beq_f (fun e => hc (UInt8.toNat_inj.1 (by omega)))
          have NX := cut_skip (m := k - ys.length - 1) hlt hfj hc
          rw [show k - ys.length - 1 + 1 = k - ys.length by omega] at NX
          have NXT := Lib.hid NX; clear NX
          have HC := Lib.hid hc; clear hc
          go_wp2_with fail
          go_roundw
          case rel => exact ⟨j + 1, fr, a', c', ys, by omega, by omega, hyk, by go_num, rfl, rfl, HF.out, by rw [← NXT.out]; exact HE.out, HO.out, HB.out⟩
          case measure => simp [intOf]; omega
      · have hke : k = ys.length := by omega
        have NX := Lib.hid (cut_last (c := c) (m := k - ys.length) hfj hjs (.inr (by omega)))
        have ES : Hid (cutS s c k = ys ++ [s.extract fr s.size]) := by
          show _ = _
          unfold cutS
          rw [← HE.out, NX.out, List.map_append, mk_lists]
          simp only [List.map_cons, List.map_nil, mk_list]
        have hes : (s.extract fr s.size).size ≤ maxLen := by rw [ByteArray.size_extract]; unfold maxLen; omega
        have FI : Hid (∀ y ∈ ys ++ [s.extract fr s.size], y.size ≤ maxLen) := fun y hy => by
          rcases List.mem_append.1 hy with h | h
          · exact HF.out y h
          · rw [List.mem_singleton] at h; subst h; exact hes
        clear hes
        go_wp2_with (at_builtin; refine wpList_append_own _ rfl _ _ 54 rfl w.heap.size 9 i0 (.string ByteArray.empty) 1 16 Tryd.underlying54 hi hz0 hz1 hz2 rfl (by decide) _ _ _ rfl (HO.out.alloc _) ⟨wr.heap.size, 0, none⟩ 1 1 [.string (s.extract fr s.size)] rfl rfl ?d1 ?d2 ?d3 ?d4 ?d5 ?_)
        case d1 => exact cells_new wr _ _
        case d2 => intro u hu; simp at hu; subst hu; rfl
        case d3 => unfold maxLen; omega
        case d4 => omega
        case d5 => have := HB.out.size; show w.heap.size ≤ (wr.alloc _).heap.size; simp; omega
        · intro v' w1 hown' hgrow _
          obtain ⟨a2, c2, hv⟩ := own_form hown'
          rw [hv] at hown'
          have HO2 := Lib.hid hown'; clear hown'
          have HB2 := Lib.hid ((HB.out.alloc HB.out.size _).grown hgrow (by have := HB.out.size; show w.heap.size ≤ (wr.alloc _).heap.size; simp; omega) (fun k hk => (own_block HO.out k hk).1))
          clear hgrow
          rw [hv]
          clear hv
          go_wp2_with fail
          go_ret
          rw [ES.out]
          exact ⟨a2, c2, by simp, ⟨rfl, fun j => by
            unfold nthS
            cases hj : (ys ++ [s.extract fr s.size])[j]? with
            | none => simp
            | some y => exact FI.out y (List.mem_of_getElem? hj), by have h := HO2.out; rw [show ys.map Value.string ++ [Value.string (s.extract fr s.size)] = (ys ++ [s.extract fr s.size]).map Value.string by simp, tab_strs] at h; simpa using h⟩, HB2.out⟩
    · have hje : j = s.size := by omega
      have NX := Lib.hid (cut_last (c := c) (m := k - ys.length) hfj hjs (.inl hje))
      have ES : Hid (cutS s c k = ys ++ [s.extract fr s.size]) := by
        show _ = _
        unfold cutS
        rw [← HE.out, NX.out, List.map_append, mk_lists]
        simp only [List.map_cons, List.map_nil, mk_list]
      have hes : (s.extract fr s.size).size ≤ maxLen := by rw [ByteArray.size_extract]; unfold maxLen; omega
      have FI : Hid (∀ y ∈ ys ++ [s.extract fr s.size], y.size ≤ maxLen) := fun y hy => by
        rcases List.mem_append.1 hy with h | h
        · exact HF.out y h
        · rw [List.mem_singleton] at h; subst h; exact hes
      clear hes
      go_wp2_with (at_builtin; refine wpList_append_own _ rfl _ _ 54 rfl w.heap.size 9 i0 (.string ByteArray.empty) 1 16 Tryd.underlying54 hi hz0 hz1 hz2 rfl (by decide) _ _ _ rfl (HO.out.alloc _) ⟨wr.heap.size, 0, none⟩ 1 1 [.string (s.extract fr s.size)] rfl rfl ?e1 ?e2 ?e3 ?e4 ?e5 ?_)
      case e1 => exact cells_new wr _ _
      case e2 => intro u hu; simp at hu; subst hu; rfl
      case e3 => unfold maxLen; omega
      case e4 => omega
      case e5 => have := HB.out.size; show w.heap.size ≤ (wr.alloc _).heap.size; simp; omega
      · intro v' w1 hown' hgrow _
        obtain ⟨a2, c2, hv⟩ := own_form hown'
        rw [hv] at hown'
        have HO2 := Lib.hid hown'; clear hown'
        have HB2 := Lib.hid ((HB.out.alloc HB.out.size _).grown hgrow (by have := HB.out.size; show w.heap.size ≤ (wr.alloc _).heap.size; simp; omega) (fun k hk => (own_block HO.out k hk).1))
        clear hgrow
        rw [hv]
        clear hv
        go_wp2_with fail
        go_ret
        rw [ES.out]
        exact ⟨a2, c2, by simp, ⟨rfl, fun j => by
          unfold nthS
          cases hj : (ys ++ [s.extract fr s.size])[j]? with
          | none => simp
          | some y => exact FI.out y (List.mem_of_getElem? hj), by have h := HO2.out; rw [show ys.map Value.string ++ [Value.string (s.extract fr s.size)] = (ys ++ [s.extract fr s.size]).map Value.string by simp, tab_strs] at h; simpa using h⟩, HB2.out⟩
end Go.Proofs.YtlbopihffpodkaaDoor
