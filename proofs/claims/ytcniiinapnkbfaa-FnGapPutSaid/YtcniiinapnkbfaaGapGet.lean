/- The walks of numbers read from gaps. Conditions: the strings fit the model's sizes. -/
import Derived.Test.YtcniiinapnkbfaaGap
namespace Go.Proofs.Ytcniiinapnkbfaa
open Go.RowKit

theorem vgF_le (s : ByteArray) : ∀ f k, (vgF s f k).2 ≤ s.size := by
  intro f
  induction f with
  | zero => intro k; exact Nat.zero_le _
  | succ f ih =>
    intro k
    rw [vgF]
    split
    · split
      · split
        · exact Nat.zero_le _
        · show k + 1 ≤ _; omega
      · exact ih _
    · exact Nat.zero_le _
theorem varGet_le (s : ByteArray) : (varGet s).2 ≤ s.size := vgF_le s 5 0
theorem vgF_num (s : ByteArray) : ∀ f k, (vgF s f k).1 ≤ 999999999 := by
  intro f
  induction f with
  | zero => intro k; exact Nat.zero_le _
  | succ f ih =>
    intro k
    rw [vgF]
    split
    · split
      · split
        · exact Nat.zero_le _
        · rename_i h
          simp only [vgBad, Bool.or_eq_true, decide_eq_true_eq, not_or] at h
          show pv s (k + 1) ≤ _; omega
      · exact ih _
    · exact Nat.zero_le _
theorem varGet_num (s : ByteArray) : (varGet s).1 ≤ 999999999 := vgF_num s 5 0
def vgAt (t : ByteArray) (at_ : Nat) : Nat × Nat := varGet (t.extract at_ t.size)
theorem vgAt_le (t : ByteArray) (k : Nat) (h : k ≤ t.size) : k + (vgAt t k).2 ≤ t.size := by
  have := varGet_le (t.extract k t.size)
  unfold vgAt
  simp only [ByteArray.size_extract] at this
  omega
/-- So many numbers from a place on, the last ahead being known. -/
def gp (t : ByteArray) : Nat → Nat → Int → Option (List Int × Nat)
  | 0, k, _ => some ([], k)
  | m + 1, k, last => if (vgAt t k).2 = 0 then none else if 999999999 < last + (vgAt t k).1 + 1 then none else
      (gp t m (k + (vgAt t k).2) (last + (vgAt t k).1 + 1)).map fun x => ((last + (vgAt t k).1 + 1) :: x.1, x.2)
def gapRes (t : ByteArray) (m k : Nat) (last : Int) (out : List Int) : List Int × Nat :=
  match gp t m k last with
  | none => ([], 0)
  | some x => (out ++ x.1, x.2)
def gapGet (t : ByteArray) : List Int × Nat := if (varGet t).2 = 0 ∨ 60 < (varGet t).1 then ([], 0) else gapRes t (varGet t).1 (varGet t).2 (-1) []
theorem gapRes_zero (t : ByteArray) (k : Nat) (last : Int) (out : List Int) : gapRes t 0 k last out = (out, k) := by simp [gapRes, gp]
theorem gapRes_none {t : ByteArray} {m k : Nat} {last : Int} {out : List Int} (h : (vgAt t k).2 = 0) : gapRes t (m + 1) k last out = ([], 0) := by simp [gapRes, gp, h]
theorem gapRes_big {t : ByteArray} {m k : Nat} {last : Int} {out : List Int} (h : 999999999 < last + (vgAt t k).1 + 1) : gapRes t (m + 1) k last out = ([], 0) := by
  rw [gapRes, gp]; split
  · rfl
  · rename_i x hx
    split at hx
    · cases hx
    · first | cases hx | (rw [if_pos h] at hx; cases hx)
theorem gapRes_step {t : ByteArray} {m k : Nat} {last : Int} {out : List Int} (h : (vgAt t k).2 ≠ 0) (h1 : ¬ 999999999 < last + (vgAt t k).1 + 1) :
    gapRes t (m + 1) k last out = gapRes t m (k + (vgAt t k).2) (last + (vgAt t k).1 + 1) (out ++ [last + (vgAt t k).1 + 1]) := by
  rw [gapRes, gp, if_neg h, if_neg h1, gapRes]
  cases gp t m (k + (vgAt t k).2) (last + (vgAt t k).1 + 1) with
  | none => rfl
  | some x => simp
theorem nthI_app {xs : List Int} {x : Int} {j : Nat} (h : j < xs.length) : nthI (xs ++ [x]) j = nthI xs j := by simp [nthI, List.getElem?_append_left h]
theorem nthI_last {xs : List Int} {x : Int} : nthI (xs ++ [x]) xs.length = x := by simp [nthI]
theorem upAt_app {xs : List Int} {x : Int} {j : Nat} (h : j < xs.length) : upAt (xs ++ [x]) j = upAt xs j := by
  unfold upAt; rw [nthI_app h, nthI_app (show j - 1 < xs.length by omega)]
theorem upAsc_app {xs : List Int} {x : Int} (h : upAsc xs.length xs = true) (h0 : lastI xs xs.length < x) (h1 : -1 ≤ lastI xs xs.length) (h2 : x ≤ 999999999) : upAsc (xs.length + 1) (xs ++ [x]) = true := by
  unfold upAsc at *
  refine allN_step ?_ ?_
  · rw [allN_iff] at *
    intro j hj; rw [upAt_app hj]; exact h j hj
  · unfold upAt numOk
    rw [nthI_last]
    unfold lastI at h0
    simp only [Bool.and_eq_true, Bool.or_eq_true, decide_eq_true_eq]
    refine ⟨by unfold lastI at h1; omega, ?_⟩
    by_cases hz : xs.length = 0
    · exact .inl hz
    · right
      rw [if_neg hz] at h0
      rw [nthI_app (by omega)]; exact h0
theorem upAsc_bad {xs : List Int} {x : Int} (h : upAsc xs.length xs = false) : upAsc (xs.length + 1) (xs ++ [x]) = false := by
  rw [Bool.eq_false_iff] at *
  intro ht
  apply h
  unfold upAsc at *
  rw [allN_iff] at *
  intro j hj
  rw [← upAt_app (x := x) hj]; exact ht j (by omega)
theorem upAsc_big {xs : List Int} {x : Int} (h : 999999999 < x) : upAsc (xs.length + 1) (xs ++ [x]) = false := by
  refine allN_fail (k := xs.length) (by omega) ?_
  unfold upAt numOk
  rw [nthI_last]
  simp; omega
theorem lastI_app (xs : List Int) (x : Int) : lastI (xs ++ [x]) (xs.length + 1) = x := by rw [lastI_succ, nthI_last]
theorem gapRes_fit (t : ByteArray) : ∀ (m k : Nat) (last : Int) (out : List Int), -1 ≤ last → (∀ x ∈ out, 0 ≤ x ∧ x ≤ 999999999) → ∀ x ∈ (gapRes t m k last out).1, 0 ≤ x ∧ x ≤ 999999999 := by
  intro m
  induction m with
  | zero => intro k last out _ h; rw [gapRes_zero]; exact h
  | succ m ih =>
    intro k last out hl h
    by_cases h1 : (vgAt t k).2 = 0
    · rw [gapRes_none h1]; simp
    · by_cases h2 : 999999999 < last + (vgAt t k).1 + 1
      · rw [gapRes_big h2]; simp
      · rw [gapRes_step h1 h2]
        refine ih _ _ _ (by omega) ?_
        intro x hx
        rw [List.mem_append] at hx
        rcases hx with hx | hx
        · exact h x hx
        · simp at hx; subst hx; omega
theorem gapGet_fit (t : ByteArray) : ∀ x ∈ (gapGet t).1, 0 ≤ x ∧ x ≤ 999999999 := by
  unfold gapGet; split
  · simp
  · exact gapRes_fit t _ _ _ _ (by omega) (by simp)
theorem fitI {xs : List Int} (h : ∀ x ∈ xs, 0 ≤ x ∧ x ≤ 999999999) (j : Nat) : (Lit.int .i64 (nthI xs j)).wf = true := by
  have : 0 ≤ nthI xs j ∧ nthI xs j ≤ 999999999 := by
    unfold nthI
    cases hj : xs[j]? with
    | none => simp
    | some x => exact h x (List.mem_of_getElem? hj)
  exact WalkArith.wf_i64 (by omega)
theorem fitB {xs : List Int} (h : ∀ x ∈ xs, 0 ≤ x ∧ x ≤ 1000000000000) (j : Nat) : (Lit.int .i64 (nthI xs j)).wf = true := by
  have : 0 ≤ nthI xs j ∧ nthI xs j ≤ 1000000000000 := by
    unfold nthI
    cases hj : xs[j]? with
    | none => simp
    | some x => exact h x (List.mem_of_getElem? hj)
  exact WalkArith.wf_i64 (by omega)
theorem ints_nil_made (w : World) : (w.alloc (.cells #[] 3)).ownsRow w.heap.size 3 1 (.slice (some ⟨w.heap.size, 0, none⟩) 0 0) 0 (([] : List Int).map (Value.int .i64)) :=
  World.ownsRow_made w #[] 0 (Nat.le_refl _) (Nat.zero_le _) rfl
theorem OwnInts.of_map {w : World} {B : Nat} {a : Option Addr} {cap : Nat} {ys : List Int} (h : w.ownsRow B 3 1 (.slice a ys.length cap) ys.length (ys.map (Value.int .i64))) (hf : ∀ x ∈ ys, 0 ≤ x ∧ x ≤ 999999999) : OwnInts w B a ys.length cap ys :=
  ⟨rfl, fitI hf, by rw [tab_ints] at h; exact h⟩
theorem ownI_none (w : World) (B : Nat) : OwnInts w B none 0 0 [] := ⟨rfl, fitI (by simp), World.ownsRow_nil w B _ _⟩
theorem ext_fit (t : ByteArray) (k : Nat) (h : t.size ≤ maxLen) : (t.extract k t.size).size ≤ maxLen := by simp only [ByteArray.size_extract]; omega
set_option maxRecDepth 20000 in
set_option maxHeartbeats 2000000 in
theorem sGapGet_any (t : ByteArray) (ht : t.size ≤ maxLen) (w : World) :
    Calls Try.prog 30 #[.string t] w fun e w' => ∃ a' c', e = .returned (.tuple #[.slice a' (gapGet t).1.length c', .int .i64 ((gapGet t).2 : Int)]) ∧ OwnInts w' w.heap.size a' (gapGet t).1.length c' (gapGet t).1 ∧ Below w.heap.size w w' := by
  have HF := Lib.hid (gapGet_fit t)
  have HT := Lib.hid ht
  have HV := Lib.hid (varGet_le t)
  have HVN := Lib.hid (varGet_num t)
  unfold maxLen at ht
  obtain ⟨i0, hi, hz0, hz1, hz2⟩ := info_parts info_int
  obtain ⟨many, hmany⟩ : ∃ many, many = (varGet t).1 := ⟨_, rfl⟩
  obtain ⟨a0, ha0⟩ : ∃ a0, a0 = (varGet t).2 := ⟨_, rfl⟩
  have C := Lib.hid (fun w => by have := l3VarGet_any t HT.out w; rwa [← hmany, ← ha0] at this)
  have GE := Lib.hid (show gapGet t = if a0 = 0 ∨ 60 < many then ([], 0) else gapRes t many a0 (-1) [] by rw [gapGet, hmany, ha0])
  have ha1 : a0 ≤ t.size := by rw [ha0]; exact HV.out
  have hm1 : many ≤ 999999999 := by rw [hmany]; exact HVN.out
  clear hmany ha0
  by_cases hz : a0 = 0 ∨ 60 < many
  · have R := Lib.hid (show gapGet t = ([], 0) by rw [GE.out, if_pos hz])
    rw [R.out]
    by_cases h0 : a0 = 0
    · have b1 : ((a0 : Int) == 0) = true := beq_t (by omega)
      clear h0 hz
      go_enter Try.func30, Try.ntmps30
      go_wp2_with fail
      refine (C.out _).mono ?_
      rintro e w' ⟨rfl, rfl⟩
      go_wp2_with fail
      go_ret2
      exact ⟨_, _, rfl, ownI_none _ _, Below.refl _ _⟩
    · have b1 : ((a0 : Int) == 0) = false := beq_f (by omega)
      have b2 : (60 : Int) < (many : Int) := by omega
      clear h0 hz
      go_enter Try.func30, Try.ntmps30
      go_wp2_with fail
      refine (C.out _).mono ?_
      rintro e w' ⟨rfl, rfl⟩
      go_wp2_with fail
      go_ret2
      exact ⟨_, _, rfl, ownI_none _ _, Below.refl _ _⟩
  · have R := Lib.hid (show gapRes t many a0 (-1) [] = gapGet t by rw [GE.out, if_neg hz])
    have b1 : ((a0 : Int) == 0) = false := beq_f (by omega)
    have b2 : (many : Int) ≤ 60 := by omega
    have h60 : many ≤ 60 := by omega
    have HA := Lib.hid ((Below.refl w.heap.size w).alloc (Nat.le_refl _) (.cells #[] 3))
    have ON := Lib.hid (ints_nil_made w)
    clear hz
    go_enter Try.func30, Try.ntmps30
    go_wp2_with fail
    refine (C.out _).mono ?_
    rintro e w' ⟨rfl, rfl⟩
    go_wp2_with fail
    go_loopw [5, 6, 7, 8] (fun p o l i wr => ∃ (k pos : Nat) (last : Int) (a' : Option Addr) (c' : Nat) (ys : List Int), k ≤ many ∧ i = .int .i64 k ∧ p = .int .i64 pos ∧ pos ≤ t.size ∧ l = .int .i64 last ∧ -1 ≤ last ∧ last ≤ 999999999 ∧ o = .slice a' ys.length c' ∧ ys.length ≤ k ∧ gapRes t (many - k) pos last ys = gapGet t ∧ wr.ownsRow w.heap.size 3 1 (.slice a' ys.length c') ys.length (ys.map (Value.int .i64)) ∧ Below w.heap.size w wr) (fun _ _ _ i _ => many - (intOf i).toNat)
    case atStart => exact ⟨0, a0, -1, _, _, [], Nat.zero_le _, rfl, rfl, ha1, rfl, by omega, by omega, rfl, Nat.zero_le _, R.out, ON.out, HA.out⟩
    case round =>
      obtain ⟨k, pos, last, a', c', ys, hk, rfl, rfl, hpos, rfl, hl0, hl1, rfl, hyl, hres, hown, hb⟩ := hrel
      have HR := Lib.hid hres; clear hres
      have HO := Lib.hid hown; clear hown
      have HB := Lib.hid hb; clear hb
      by_cases hlt : k < many
      · obtain ⟨g, hg⟩ : ∃ g, g = (vgAt t pos).1 := ⟨_, rfl⟩
        obtain ⟨q, hq⟩ : ∃ q, q = (vgAt t pos).2 := ⟨_, rfl⟩
        have hg1 : g ≤ 999999999 := by rw [hg]; exact varGet_num _
        have hq1 : pos + q ≤ t.size := by rw [hq]; exact vgAt_le t pos hpos
        have C2 := Lib.hid (fun w => by have := l3VarGet_any (t.extract pos t.size) (ext_fit t pos HT.out) w; rwa [show varGet (t.extract pos t.size) = vgAt t pos from rfl, ← hg, ← hq] at this)
        have HG := Lib.hid hg; clear hg
        have HQ := Lib.hid hq; clear hq
        have MS := Lib.hid (show many - k = (many - (k + 1)) + 1 by omega)
        by_cases hq0 : q = 0
        · have b3 : ((q : Int) == 0) = true := beq_t (by omega)
          have F := Lib.hid (show gapGet t = ([], 0) by rw [← HR.out, MS.out]; exact gapRes_none (by rw [← HQ.out]; exact hq0))
          clear hq0
          go_wp2_with fail
          refine (C2.out _).mono ?_
          rintro e w' ⟨rfl, rfl⟩
          go_wp2_with fail
          go_ret2
          rw [F.out]
          exact ⟨_, _, rfl, ownI_none _ _, HB.out⟩
        · have b3 : ((q : Int) == 0) = false := beq_f (by omega)
          by_cases hbig : 999999999 < last + (g : Int) + 1
          · have F := Lib.hid (show gapGet t = ([], 0) by rw [← HR.out, MS.out]; exact gapRes_big (by rw [← HG.out]; exact hbig))
            go_wp2_with fail
            refine (C2.out _).mono ?_
            rintro e w' ⟨rfl, rfl⟩
            go_wp2_with fail
            go_ret2
            rw [F.out]
            exact ⟨_, _, rfl, ownI_none _ _, HB.out⟩
          · have F := Lib.hid (show gapRes t (many - (k + 1)) (pos + q) (last + (g : Int) + 1) (ys ++ [last + (g : Int) + 1]) = gapGet t by
              have h := gapRes_step (m := many - (k + 1)) (out := ys) (show (vgAt t pos).2 ≠ 0 by rw [← HQ.out]; exact hq0) (show ¬ 999999999 < last + ((vgAt t pos).1 : Int) + 1 by rw [← HG.out]; exact hbig)
              rw [← HR.out, MS.out, h, ← HG.out, ← HQ.out])
            go_wp2_with fail
            refine (C2.out _).mono ?_
            rintro e w' ⟨rfl, rfl⟩
            go_wp2_with (at_builtin; refine wpList_append_own _ rfl _ _ 30 rfl w.heap.size 3 i0 (.int .i64 0) 1 8 Try.underlying30 hi hz0 hz1 hz2 rfl (by decide) _ _ _ rfl (HO.out.alloc _) ⟨wr.heap.size, 0, none⟩ 1 1 [.int .i64 (last + (g : Int) + 1)] rfl rfl ?c1 ?c2 ?c3 ?c4 ?c5 ?_)
            case c1 => exact cells_new1 wr _ _
            case c2 => intro u hu; simp at hu; subst hu; rfl
            case c3 => unfold maxLen; omega
            case c4 => omega
            case c5 => have := HB.out.size; simp; omega
            · intro v' w1 hown' hgrow _
              obtain ⟨a2, c2, hv⟩ := own_form hown'
              rw [hv] at hown'
              have HO2 := Lib.hid hown'
              have HC := Lib.hid (((HB.out.alloc HB.out.size _).grown hgrow (by have := HB.out.size; simp; omega) (fun k hk => (own_block HO.out k hk).1)))
              clear hgrow hown'
              rw [hv]
              clear hv
              go_wp2_with fail
              go_roundw
              case rel => exact ⟨k + 1, pos + q, last + (g : Int) + 1, a2, c2, ys ++ [last + (g : Int) + 1], by omega, by go_num, by go_num, by omega, rfl, by omega, by omega, by simp, by simp; omega, F.out, by have := HO2.out; simpa using this, HC.out⟩
              case measure => simp [intOf]; omega
      · obtain rfl : k = many := by omega
        have E := Lib.hid (show gapGet t = (ys, pos) by rw [← HR.out, Nat.sub_self, gapRes_zero])
        go_wp2_with fail
        go_ret2
        rw [E.out]
        exact ⟨_, _, rfl, OwnInts.of_map HO.out (by have h := HF.out; rw [E.out] at h; exact h), HB.out⟩
theorem ownI_new (w : World) (B : Nat) (h : B ≤ w.heap.size) : OwnInts (w.alloc (.cells #[] 3)) B (some ⟨w.heap.size, 0, none⟩) 0 0 [] :=
  ⟨rfl, fitI (by simp), own_base (World.ownsRow_made w #[] 0 (Nat.le_refl _) (Nat.zero_le _) rfl) h⟩
/-- What the program's loop has gathered: it is on its way, or lost. -/
def OnWay (t : ByteArray) (m k : Nat) (last : Int) (ys : List Int) : Prop :=
  (last ≤ 999999999 ∧ last = lastI ys ys.length ∧ upAsc ys.length ys = true ∧ gapRes t m k last ys = gapGet t) ∨ (gapGet t = ([], 0) ∧ upAsc ys.length ys = false)
theorem OnWay.lost {t : ByteArray} {m k : Nat} {last : Int} {ys : List Int} (h : OnWay t (m + 1) k last ys) (h0 : (vgAt t k).2 = 0) : gapGet t = ([], 0) := by
  rcases h with h | h
  · rw [← h.2.2.2]; exact gapRes_none h0
  · exact h.1
theorem OnWay.next {t : ByteArray} {m k : Nat} {last : Int} {ys : List Int} (h : OnWay t (m + 1) k last ys) (hl : -1 ≤ last) (h0 : (vgAt t k).2 ≠ 0) :
    OnWay t m (k + (vgAt t k).2) (last + (vgAt t k).1 + 1) (ys ++ [last + (vgAt t k).1 + 1]) := by
  rcases h with ⟨h1, h2, h3, h4⟩ | ⟨h1, h2⟩
  · by_cases hb : 999999999 < last + (vgAt t k).1 + 1
    · refine .inr ⟨by rw [← h4]; exact gapRes_big hb, ?_⟩
      rw [List.length_append]; exact upAsc_big hb
    · refine .inl ⟨by omega, ?_, ?_, ?_⟩
      · rw [List.length_append]; exact (lastI_app _ _).symm
      · rw [List.length_append]; exact upAsc_app h3 (by omega) (by omega) (by omega)
      · rw [← h4, gapRes_step h0 hb]
  · exact .inr ⟨h1, by rw [List.length_append]; exact upAsc_bad h2⟩
theorem OnWay.done {t : ByteArray} {k : Nat} {last : Int} {ys : List Int} (h : OnWay t 0 k last ys) : (upAsc ys.length ys = true ∧ gapGet t = (ys, k)) ∨ (upAsc ys.length ys = false ∧ gapGet t = ([], 0)) := by
  rcases h with ⟨h1, h2, h3, h4⟩ | ⟨h1, h2⟩
  · exact .inl ⟨h3, by rw [← h4, gapRes_zero]⟩
  · exact .inr ⟨h2, h1⟩
set_option maxRecDepth 20000 in
set_option maxHeartbeats 2000000 in
theorem GapGet_any (t : ByteArray) (ht : t.size ≤ maxLen) (w : World) :
    Calls Try.prog 21 #[.string t] w fun e w' => ∃ a' c', e = .returned (.tuple #[.slice a' (gapGet t).1.length c', .int .i64 ((gapGet t).2 : Int)]) ∧ OwnInts w' w.heap.size a' (gapGet t).1.length c' (gapGet t).1 ∧ Below w.heap.size w w' := by
  have HF := Lib.hid (gapGet_fit t)
  have HT := Lib.hid ht
  have HV := Lib.hid (varGet_le t)
  have HVN := Lib.hid (varGet_num t)
  unfold maxLen at ht
  obtain ⟨i0, hi, hz0, hz1, hz2⟩ := info_parts info_int
  obtain ⟨many, hmany⟩ : ∃ many, many = (varGet t).1 := ⟨_, rfl⟩
  obtain ⟨a0, ha0⟩ : ∃ a0, a0 = (varGet t).2 := ⟨_, rfl⟩
  have C := Lib.hid (fun w => by have := VarGet_any t HT.out w; rwa [← hmany, ← ha0] at this)
  have GE := Lib.hid (show gapGet t = if a0 = 0 ∨ 60 < many then ([], 0) else gapRes t many a0 (-1) [] by rw [gapGet, hmany, ha0])
  have ha1 : a0 ≤ t.size := by rw [ha0]; exact HV.out
  have hm1 : many ≤ 999999999 := by rw [hmany]; exact HVN.out
  clear hmany ha0
  by_cases hz : a0 = 0 ∨ 60 < many
  · have R := Lib.hid (show gapGet t = ([], 0) by rw [GE.out, if_pos hz])
    by_cases h0 : a0 = 0
    · have b1 : ((a0 : Int) == 0) = true := beq_t (by omega)
      clear h0 hz
      go_enter Try.func21, Try.ntmps21
      go_wp2_with fail
      refine (C.out _).mono ?_
      rintro e w1 ⟨rfl, hb⟩
      have HB := Lib.hid hb; clear hb
      go_wp2_with fail
      go_ret2
      rw [R.out]
      exact ⟨_, _, rfl, ownI_new _ _ HB.out.size, HB.out.alloc HB.out.size _⟩
    · have b1 : ((a0 : Int) == 0) = false := beq_f (by omega)
      have b2 : (60 : Int) < (many : Int) := by omega
      clear h0 hz
      go_enter Try.func21, Try.ntmps21
      go_wp2_with fail
      refine (C.out _).mono ?_
      rintro e w1 ⟨rfl, hb⟩
      have HB := Lib.hid hb; clear hb
      go_wp2_with fail
      go_ret2
      rw [R.out]
      exact ⟨_, _, rfl, ownI_new _ _ HB.out.size, HB.out.alloc HB.out.size _⟩
  · have R := Lib.hid (show gapRes t many a0 (-1) [] = gapGet t by rw [GE.out, if_neg hz])
    have b1 : ((a0 : Int) == 0) = false := beq_f (by omega)
    have b2 : (many : Int) ≤ 60 := by omega
    have h60 : many ≤ 60 := by omega
    clear hz
    go_enter Try.func21, Try.ntmps21
    go_wp2_with fail
    refine (C.out _).mono ?_
    rintro e w0 ⟨rfl, hb⟩
    have HB0 := Lib.hid hb; clear hb
    have HA := Lib.hid (HB0.out.alloc HB0.out.size (.cells #[] 3))
    have ON := Lib.hid (own_base (ints_nil_made w0) HB0.out.size)
    go_wp2_with fail
    go_loopw [5, 6, 7, 24] (fun p o l i wr => ∃ (k pos : Nat) (last : Int) (a' : Option Addr) (c' : Nat) (ys : List Int), k ≤ many ∧ i = .int .i64 k ∧ p = .int .i64 pos ∧ pos ≤ t.size ∧ l = .int .i64 last ∧ -1 ≤ last ∧ last ≤ 1000000000 * (k : Int) ∧ o = .slice a' ys.length c' ∧ ys.length ≤ k ∧ OnWay t (many - k) pos last ys ∧ wr.ownsRow w.heap.size 3 1 (.slice a' ys.length c') ys.length (ys.map (Value.int .i64)) ∧ Below w.heap.size w wr ∧ (∀ x ∈ ys, 0 ≤ x ∧ x ≤ 1000000000000)) (fun _ _ _ i _ => many - (intOf i).toNat)
    case atStart => exact ⟨0, a0, -1, _, _, [], Nat.zero_le _, rfl, rfl, ha1, rfl, by omega, by omega, rfl, Nat.zero_le _, .inl ⟨by omega, rfl, rfl, R.out⟩, ON.out, HA.out, by simp⟩
    case round =>
      obtain ⟨k, pos, last, a', c', ys, hk, rfl, rfl, hpos, rfl, hl0, hl1, rfl, hyl, hres, hown, hb, hall⟩ := hrel
      have AL := Lib.hid hall; clear hall
      have HR := Lib.hid hres; clear hres
      have HO := Lib.hid hown; clear hown
      have HB := Lib.hid hb; clear hb
      by_cases hlt : k < many
      · obtain ⟨g, hg⟩ : ∃ g, g = (vgAt t pos).1 := ⟨_, rfl⟩
        obtain ⟨q, hq⟩ : ∃ q, q = (vgAt t pos).2 := ⟨_, rfl⟩
        have hg1 : g ≤ 999999999 := by rw [hg]; exact varGet_num _
        have hq1 : pos + q ≤ t.size := by rw [hq]; exact vgAt_le t pos hpos
        have C2 := Lib.hid (fun w => by have := VarGet_any (t.extract pos t.size) (ext_fit t pos HT.out) w; rwa [show varGet (t.extract pos t.size) = vgAt t pos from rfl, ← hg, ← hq] at this)
        have HG := Lib.hid hg; clear hg
        have HQ := Lib.hid hq; clear hq
        have MS := Lib.hid (show many - k = (many - (k + 1)) + 1 by omega)
        by_cases hq0 : q = 0
        · have b3 : ((q : Int) == 0) = true := beq_t (by omega)
          have F := Lib.hid (show gapGet t = ([], 0) by have h := HR.out; rw [MS.out] at h; exact h.lost (by rw [← HQ.out]; exact hq0))
          clear hq0
          go_wp2_with fail
          refine (C2.out _).mono ?_
          rintro e w1 ⟨rfl, hb1⟩
          have HB1 := Lib.hid (HB.out.trans (hb1.mono HB.out.size)); clear hb1
          go_wp2_with fail
          go_ret2
          rw [F.out]
          exact ⟨_, _, rfl, ownI_new _ _ HB1.out.size, HB1.out.alloc HB1.out.size _⟩
        · have b3 : ((q : Int) == 0) = false := beq_f (by omega)
          have F := Lib.hid (show OnWay t (many - (k + 1)) (pos + q) (last + ((g : Int) + 1)) (ys ++ [last + ((g : Int) + 1)]) by
            have h := HR.out; rw [MS.out] at h
            have h2 := h.next hl0 (by rw [← HQ.out]; exact hq0)
            rw [← HG.out, ← HQ.out, Int.add_assoc] at h2; exact h2)
          have hl2 : last + ((g : Int) + 1) ≤ 1000000000 * ((k + 1 : Nat) : Int) := by omega
          have hl3 : last + ((g : Int) + 1) ≤ 1000000000000 := by omega
          have hl4 : -1 ≤ last + ((g : Int) + 1) := by omega
          go_wp2_with fail
          refine (C2.out _).mono ?_
          rintro e w1 ⟨rfl, hb1⟩
          have HO1 := Lib.hid (own_below HO.out hb1 (Nat.le_refl _))
          have HB1 := Lib.hid (HB.out.trans (hb1.mono HB.out.size)); clear hb1
          go_wp2_with (at_builtin; refine wpList_append_own _ rfl _ _ 30 rfl w.heap.size 3 i0 (.int .i64 0) 1 8 Try.underlying30 hi hz0 hz1 hz2 rfl (by decide) _ _ _ rfl (HO1.out.alloc _) ⟨w1.heap.size, 0, none⟩ 1 1 [.int .i64 (last + ((g : Int) + 1))] rfl rfl ?c1 ?c2 ?c3 ?c4 ?c5 ?_)
          case c1 => exact cells_new1 w1 _ _
          case c2 => intro u hu; simp at hu; subst hu; rfl
          case c3 => unfold maxLen; omega
          case c4 => omega
          case c5 => have := HB1.out.size; simp; omega
          · intro v' w2 hown' hgrow _
            obtain ⟨a2, c2, hv⟩ := own_form hown'
            rw [hv] at hown'
            have HO2 := Lib.hid hown'
            have HC := Lib.hid (((HB1.out.alloc HB1.out.size _).grown hgrow (by have := HB1.out.size; simp; omega) (fun k hk => (own_block HO.out k hk).1)))
            clear hgrow hown'
            rw [hv]
            clear hv
            go_wp2_with fail
            go_roundw
            case rel => exact ⟨k + 1, pos + q, last + ((g : Int) + 1), a2, c2, ys ++ [last + ((g : Int) + 1)], by omega, by go_num, by go_num, by omega, rfl, hl4, hl2, by simp, by simp; omega, F.out, by have := HO2.out; simpa using this, HC.out, (fun x hx => by
              rw [List.mem_append] at hx
              rcases hx with hx | hx
              · exact AL.out x hx
              · simp at hx; subst hx; omega)⟩
            case measure => simp [intOf]; omega
      · obtain rfl : k = many := by omega
        have E := Lib.hid (show (upAsc ys.length ys = true ∧ gapGet t = (ys, pos)) ∨ (upAsc ys.length ys = false ∧ gapGet t = ([], 0)) by have h := HR.out; rw [Nat.sub_self] at h; exact h.done)
        have hy60 : ys.length ≤ 60 := by omega
        have hy9 : ys.length ≤ maxLen := by unfold maxLen; omega
        have RD := Lib.hid (show Ints wr .i64 a' ys.length ys from ⟨rfl, fitB AL.out, by have h := HO.out; rw [tab_ints] at h; exact Rd.of_own1 h⟩)
        rcases E.out with h | h
        · have U := h.1
          have UU : upOk ys.length ys = true := by rw [upOk, U]; simp [hy60]
          have G := Lib.hid h.2
          clear h U
          go_wp2_with fail
          refine (UpOk_any _ _ _ _ RD.out hy9).mono ?_
          rintro e w' ⟨rfl, rfl⟩
          go_wp2_with fail
          go_ret2
          rw [G.out]
          exact ⟨_, _, rfl, OwnInts.of_map HO.out (by have h := HF.out; rw [G.out] at h; exact h), HB.out⟩
        · have U := h.1
          have UU : upOk ys.length ys = false := by rw [upOk, U]; rfl
          have G := Lib.hid h.2
          clear h U
          go_wp2_with fail
          refine (UpOk_any _ _ _ _ RD.out hy9).mono ?_
          rintro e w' ⟨rfl, rfl⟩
          go_wp2_with fail
          go_ret2
          rw [G.out]
          exact ⟨_, _, rfl, ownI_new _ _ HB.out.size, HB.out.alloc HB.out.size _⟩
theorem gapRes_len (t : ByteArray) : ∀ (m k : Nat) (last : Int) (out : List Int), (gapRes t m k last out).1.length ≤ out.length + m := by
  intro m
  induction m with
  | zero => intro k last out; rw [gapRes_zero]; exact Nat.le_refl _
  | succ m ih =>
    intro k last out
    by_cases h1 : (vgAt t k).2 = 0
    · rw [gapRes_none h1]; simp
    · by_cases h2 : 999999999 < last + (vgAt t k).1 + 1
      · rw [gapRes_big h2]; simp
      · rw [gapRes_step h1 h2]
        have := ih (k + (vgAt t k).2) (last + (vgAt t k).1 + 1) (out ++ [last + (vgAt t k).1 + 1])
        rw [List.length_append] at this
        simp only [List.length_cons, List.length_nil] at this
        omega
theorem gapGet_len (t : ByteArray) : (gapGet t).1.length ≤ 60 := by
  unfold gapGet; split
  · simp
  · rename_i h
    have := gapRes_len t (varGet t).1 (varGet t).2 (-1) []
    simp only [List.length_nil] at this
    omega
end Go.Proofs.Ytcniiinapnkbfaa
