/- Lists of words that are drawn. Conditions: bounds on how often the reader is read. -/
import Derived.Test.YtoljjhhomklcbaaPutW
namespace Go.Proofs.Ytoljjhhomklcbaa
open Go.ChangeShapes Go.WideShapes Go.RowKit
/-- What is behind a draw of words. -/
def WordsPost (g p most k : Nat) (w : World) (e : Ending) (w' : World) : Prop := ∃ (g' n c : Nat) (xs : List ByteArray) (q : Nat), e = .returned (.slice (some ⟨g', 0, none⟩) n c) ∧ n ≤ most ∧ (∀ x ∈ xs, x.size ≤ 20) ∧ OwnStrs w' w.heap.size (some ⟨g', 0, none⟩) n c xs ∧ Rdr w' g q ∧ q ≤ p + k ∧ w.grownBy w' (some g)
set_option maxRecDepth 20000 in
set_option maxHeartbeats 1000000 in
theorem l30Words_any (g p : Nat) {w : World} (hr : Rdr w g p) (hp : p ≤ 100000) :
    Calls Try.prog 71 #[.pointer (some ⟨g, 0, none⟩)] w (WordsPost g p 8 9 w) := by
  have HR := Lib.hid hr
  have hlt := hr.lt
  clear hr
  have RA := Lib.hid (HR.out.alloc (.cells #[] 9))
  have GA := Lib.hid (only_alloc (World.grownBy.refl w (some g)) (.cells #[] 9))
  have ON := Lib.hid (own_nil_made w)
  go_enter Try.func71, Try.ntmps71
  go_wp2_with fail
  refine (pick_any g p 9 RA.out (by omega) (by omega)).mono ?_
  rintro e w1 ⟨k1, rfl, hk1, hr1, hg1⟩
  have HR1 := Lib.hid hr1; clear hr1
  have ON1 := Lib.hid (show OwnStrs w1 w.heap.size (some ⟨w.heap.size, 0, none⟩) 0 0 [] from ⟨rfl, ON.out.fit, own_only ON.out.own hg1 hlt⟩)
  have HG1 := Lib.hid (grownBy_trans GA.out hg1); clear hg1
  go_wp2_with fail
  go_loopw [3, 4] (fun o i wr => ∃ (m g' n' c' : Nat) (ys : List ByteArray) (q : Nat), i = .int .i64 m ∧ o = .slice (some ⟨g', 0, none⟩) n' c' ∧ n' + m ≤ 8 ∧ (∀ y ∈ ys, y.size ≤ 20) ∧ q + m ≤ p + 9 ∧ OwnStrs wr w.heap.size (some ⟨g', 0, none⟩) n' c' ys ∧ Rdr wr g q ∧ w.grownBy wr (some g)) (fun _ i _ => (intOf i).toNat)
  case atStart => exact ⟨k1, _, _, _, [], p + 1, rfl, rfl, by omega, by simp, by omega, ON1.out, HR1.out, HG1.out⟩
  case round =>
    obtain ⟨m, g', n', c', ys, q, rfl, rfl, hlen, hall, hq, hown, hr, hg⟩ := hrel
    have AL := Lib.hid hall; clear hall
    have HO := Lib.hid hown; clear hown
    have HR3 := Lib.hid hr
    have HG3 := Lib.hid hg
    have hs := hg.size
    clear hr hg
    by_cases hp0 : 0 < m
    · go_wp2_with fail
      refine (of_new g q 13 [_, _, _, _, _, _, _, _, _, _, _, _, _] (fun x => x.size ≤ 20) HR3.out rfl rfl (by omega) (by omega) (by omega) (fun x hx => by simp at hx; rcases hx with rfl | rfl | rfl | rfl | rfl | rfl | rfl | rfl | rfl | rfl | rfl | rfl | rfl <;> decide) (fun x hx => by simp at hx; rcases hx with rfl | rfl | rfl | rfl | rfl | rfl | rfl | rfl | rfl | rfl | rfl | rfl | rfl <;> decide)).mono ?_
      rintro e w4 ⟨x, rfl, hx, hr4, hg4⟩
      have HX := Lib.hid hx; clear hx
      have HR4 := Lib.hid hr4; clear hr4
      have HO4 := Lib.hid (show OwnStrs w4 w.heap.size (some ⟨g', 0, none⟩) n' c' ys from ⟨HO.out.len, HO.out.fit, own_only HO.out.own hg4 hlt⟩)
      have HG4 := Lib.hid (grownBy_trans HG3.out hg4)
      have hs4 := HG4.out.size
      clear hg4
      go_wp2_with fail
      refine (l7Put_any w.heap.size g' n' c' ys x HO4.out (by omega) (by have := HX.out; unfold maxLen; omega) hs4).mono ?_
      rintro e w5 ⟨g5, n5, c5, zs, rfl, hn5, hm5, ho5, hb5⟩
      have HO5 := Lib.hid ho5; clear ho5
      have HR5 := Lib.hid (HR4.out.below hb5)
      have HG5 := Lib.hid (only_below HG4.out hb5); clear hb5
      have AL5 : Hid (∀ y ∈ zs, y.size ≤ 20) := fun y hy => by
        rcases hm5 y hy with h | h
        · exact AL.out y h
        · rw [h]; exact HX.out
      clear hm5
      go_wp2_with fail
      go_roundw
      case rel => exact ⟨m - 1, g5, n5, c5, zs, q + 1, by go_num, rfl, by omega, AL5.out, by omega, HO5.out, HR5.out, HG5.out⟩
      case measure => simp [intOf]; omega
    · have hm0 : (m : Int) ≤ 0 := by omega
      go_wp2_with fail
      go_ret
      exact ⟨g', n', c', ys, q, rfl, by omega, AL.out, HO.out, HR3.out, by omega, HG3.out⟩
theorem fit20 {xs : List ByteArray} (h : ∀ x ∈ xs, x.size ≤ 20) (j : Nat) : (nthS xs j).size ≤ maxLen := by
  unfold nthS
  cases hj : xs[j]? with
  | none => simp
  | some x => have := h x (List.mem_of_getElem? hj); simp; unfold maxLen; omega
set_option maxHeartbeats 1000000 in
theorem l30AnyWords_any (g p : Nat) {w : World} (hr : Rdr w g p) (hp : p ≤ 100000) :
    Calls Try.prog 56 #[.pointer (some ⟨g, 0, none⟩)] w (WordsPost g p 9 12 w) := by
  have HR := Lib.hid hr
  have hlt := hr.lt
  clear hr
  obtain ⟨i0, hi, hz0, hz1, hz2⟩ := info_parts info_str
  go_enter Try.func56, Try.ntmps56
  go_wp2_with fail
  refine (l30Words_any g p HR.out hp).mono ?_
  rintro e w1 ⟨g', n', c', ys, q, rfl, hn, hall, ho, hr1, hq, hg1⟩
  have AL := Lib.hid hall; clear hall
  have HR1 := Lib.hid hr1; clear hr1
  have HO1 := Lib.hid ho; clear ho
  have HG1 := Lib.hid hg1; clear hg1
  go_wp2_with fail
  refine (pick_any g q 10 HR1.out (by omega) (by omega)).mono ?_
  rintro e w2 ⟨k, rfl, hk, hr2, hg2⟩
  have HR2 := Lib.hid hr2; clear hr2
  have HO2 := Lib.hid (show OwnStrs w2 w.heap.size (some ⟨g', 0, none⟩) n' c' ys from ⟨HO1.out.len, HO1.out.fit, own_only HO1.out.own hg2 hlt⟩)
  have HG2 := Lib.hid (grownBy_trans HG1.out hg2); clear hg2
  have hs2 := HG2.out.size
  by_cases k0 : k = 0
  · have b0 : ((k : Int) == 0) = true := beq_t (by omega)
    clear k0
    go_wp2_with fail
    refine (of_new g (q + 1) 3 [_, _, _] (fun x => x.size ≤ 20) HR2.out rfl rfl (by omega) (by omega) (by omega) (fun x hx => by simp at hx; rcases hx with rfl | rfl | rfl <;> decide) (fun x hx => by simp at hx; rcases hx with rfl | rfl | rfl <;> decide)).mono ?_
    rintro e w4 ⟨x, rfl, hx, hr4, hg4⟩
    have HX := Lib.hid hx; clear hx
    have HR4 := Lib.hid hr4; clear hr4
    have HO4 := Lib.hid (own_only HO2.out.own hg4 hlt)
    have HG4 := Lib.hid (grownBy_trans HG2.out hg4)
    have hs4 := HG4.out.size
    clear hg4
    go_wp2_with (at_builtin; refine wpList_append_own _ rfl _ _ 40 rfl w.heap.size 9 i0 (.string ByteArray.empty) 1 16 Try.underlying40 hi hz0 hz1 hz2 rfl (by decide) _ _ _ rfl (HO4.out.alloc _) ⟨w4.heap.size, 0, none⟩ 1 1 [.string x] rfl rfl ?d1 ?d2 ?d3 ?d4 ?d5 ?_)
    case d1 => exact cells_new w4 _ _
    case d2 => intro u hu; simp at hu; subst hu; rfl
    case d3 => unfold maxLen; omega
    case d4 => omega
    case d5 => simp; omega
    intro v5 w5 hown5 hgrow5 _
    obtain ⟨a5, c5, hv5⟩ := own_form hown5
    rw [hv5] at hown5
    obtain ⟨g5, rfl, hB5, -⟩ := own_pos hown5 (by omega)
    have hrow : ∀ j, (Value.slice (some ⟨g', 0, none⟩) n' c').ownBlock = some j → g < j := fun j hj => by have := (own_block HO4.out j hj).1; omega
    have HR5 := Lib.hid ((HR4.out.alloc _).kept hgrow5 hrow)
    have HG5 := Lib.hid (only_row (only_alloc HG4.out _) hgrow5 (fun j hj => (own_block HO4.out j hj).1))
    have AL5 : Hid (∀ y ∈ ys ++ [x], y.size ≤ 20) := fun y hy => by
      rw [List.mem_append, List.mem_singleton] at hy
      rcases hy with h | h
      · exact AL.out y h
      · rw [h]; exact HX.out
    have HO5 : Hid (OwnStrs w5 w.heap.size (some ⟨g5, 0, none⟩) (n' + 1) c5 (ys ++ [x])) := by
      refine ⟨by rw [List.length_append, HO1.out.len]; rfl, fit20 AL5.out, ?_⟩
      have h5 := hown5
      rw [show (tab n' fun j => Value.string (nthS ys j)) = ys.map Value.string by rw [tab_strs, HO1.out.len]] at h5
      rw [show n' + 1 = (ys ++ [x]).length by rw [List.length_append, HO1.out.len]; rfl, ← tab_strs, List.length_append, HO1.out.len]
      simpa using h5
    clear hown5 hgrow5 hrow hB5
    rw [hv5]
    clear hv5
    go_wp2_with fail
    go_ret
    exact ⟨g5, _, c5, ys ++ [x], q + 1 + 1, rfl, by omega, AL5.out, HO5.out, HR5.out, by omega, HG5.out⟩
  · have b0 : ((k : Int) == 0) = false := beq_f (by omega)
    clear k0
    have ON := Lib.hid (World.ownsRow_made (e := 9) (size := 1) w2 #[] 0 (Nat.le_refl _) (Nat.zero_le _) rfl)
    obtain ⟨L1, hL1⟩ : ∃ L1, L1 = ys.map Value.string := ⟨_, rfl⟩
    have T1 := Lib.hid (show L1.length = n' ∧ L1 = ys.map Value.string from ⟨by rw [hL1, List.length_map, HO1.out.len], hL1⟩)
    clear hL1
    go_wp2_with (at_builtin; refine wpList_append_own _ rfl _ _ 40 rfl w2.heap.size 9 i0 (.string ByteArray.empty) 1 16 Try.underlying40 hi hz0 hz1 hz2 rfl (by decide) _ _ _ rfl ON.out ⟨g', 0, none⟩ n' c' L1 rfl ?c1 ?c2 ?c3 ?c4 ?c5 ?c6 ?_)
    case c1 => have := T1.out.1; omega
    case c2 =>
      intro j u hj
      have := src_take (k := n') (HO2.out.strs.below ((Below.refl _ _).alloc (Nat.le_refl _) (.cells #[] 9))) (Nat.le_refl _) j u (by rw [T1.out.2] at hj; rw [← HO1.out.len, List.take_length]; exact hj)
      simpa [addr_add] using this
    case c3 => rw [T1.out.2]; exact one_strs _
    case c4 => unfold maxLen; omega
    case c5 => omega
    case c6 => simp
    intro v5 w5 hown5 hgrow5 hnn5
    obtain ⟨a5, c5, hv5⟩ := own_form hown5
    rw [hv5] at hown5 hnn5
    have HR5 := Lib.hid ((HR2.out.alloc (.cells #[] 9)).kept hgrow5 (fun j hj => by have := (own_block ON.out j hj).1; omega))
    have HG5 := Lib.hid (only_row (only_alloc HG2.out _) hgrow5 (fun j hj => by have := (own_block ON.out j hj).1; omega))
    have hne : ∃ g5, a5 = some ⟨g5, 0, none⟩ := by
      rcases hown5.2 with ⟨hv, _⟩ | ⟨g5, _, _, hv, _⟩
      · exact absurd hv (by simpa using hnn5)
      · injection hv with h1; exact ⟨g5, h1⟩
    obtain ⟨g5, rfl⟩ := hne
    have HO5 : Hid (OwnStrs w5 w.heap.size (some ⟨g5, 0, none⟩) n' c5 ys) := by
      refine ⟨HO1.out.len, HO1.out.fit, ?_⟩
      have h5 := own_base hown5 hs2
      rw [T1.out.2] at h5
      rw [← HO1.out.len, ← tab_strs, HO1.out.len]
      simpa using h5
    clear hown5 hgrow5 hnn5
    rw [hv5]
    clear hv5
    go_wp2_with fail
    go_ret
    exact ⟨g5, _, c5, ys, q + 1, rfl, by omega, AL.out, HO5.out, HR5.out, by omega, HG5.out⟩
/-- Words that are drawn for a law, with what else is drawn. -/
def DrawnWP (w : World) (e : Ending) (w' : World) : Prop := ∃ (g n c : Nat) (xs : List ByteArray) (s : ByteArray), e = .returned (.tuple #[.slice (some ⟨g, 0, none⟩) n c, .string s]) ∧ n ≤ 9 ∧ s.size ≤ 20 ∧ OwnStrs w' w.heap.size (some ⟨g, 0, none⟩) n c xs ∧ Below w.heap.size w w'
def DrawnWN (w : World) (e : Ending) (w' : World) : Prop := ∃ (g n c : Nat) (xs : List ByteArray) (s : ByteArray) (f : Nat), e = .returned (.tuple #[.slice (some ⟨g, 0, none⟩) n c, .string s, .int .i64 f]) ∧ n ≤ 9 ∧ wordOk s = true ∧ f ≤ 3 ∧ OwnStrs w' w.heap.size (some ⟨g, 0, none⟩) n c xs ∧ Below w.heap.size w w'
theorem DrawGlobOf_any (a : Option Addr) (n cap : Nat) (xs : List Int) {w : World} (hx : Byts w a n cap xs) (hn : n ≤ 1048576) :
    Calls Try.prog 28 #[.slice a n cap] w (DrawnWP w) := by
  have HX := Lib.hid hx; clear hx
  go_enter Try.func28, Try.ntmps28
  go_wp2_with fail
  refine (open_any _ _ _ _ HX.out hn).mono ?_
  rintro e w1 ⟨rfl, hr, hb, hs⟩
  have HR := Lib.hid hr; clear hr
  have HB := Lib.hid hb; clear hb
  have HS := Lib.hid hs; clear hs
  go_wp2_with fail
  refine (l30AnyWords_any _ 0 HR.out (by omega)).mono ?_
  rintro e w2 ⟨g', n', c', ys, q, rfl, hn', hall, ho, hr2, hq, hg2⟩
  have HR2 := Lib.hid hr2; clear hr2
  have HO := Lib.hid (show OwnStrs w2 (w.heap.size + 1) _ n' c' ys from ho.base (by rw [HS.out]; exact Nat.le_refl _)); clear ho hall
  have HB2 := Lib.hid (below_only HB.out hg2 (Nat.le_refl _) HB.out.size); clear hg2
  go_wp2_with fail
  refine (l30Glob_any _ q HR2.out (by omega)).mono ?_
  rintro e w3 ⟨s, rfl, hs, hr3, hg3⟩
  have HO3 := Lib.hid (show OwnStrs w3 w.heap.size _ n' c' ys from ⟨HO.out.len, HO.out.fit, own_base (own_only HO.out.own hg3 (by omega)) (by omega)⟩)
  have HB3 := Lib.hid (below_only HB2.out hg3 (Nat.le_refl _) HB2.out.size); clear hg3 hr3
  go_wp2_with fail
  go_ret2
  exact ⟨g', n', c', ys, s, rfl, hn', hs, HO3.out, HB3.out⟩
theorem DrawNearOf_any (a : Option Addr) (n cap : Nat) (xs : List Int) {w : World} (hx : Byts w a n cap xs) (hn : n ≤ 1048576) :
    Calls Try.prog 33 #[.slice a n cap] w (DrawnWN w) := by
  have HX := Lib.hid hx; clear hx
  go_enter Try.func33, Try.ntmps33
  go_wp2_with fail
  refine (open_any _ _ _ _ HX.out hn).mono ?_
  rintro e w1 ⟨rfl, hr, hb, hs⟩
  have HR := Lib.hid hr; clear hr
  have HB := Lib.hid hb; clear hb
  have HS := Lib.hid hs; clear hs
  go_wp2_with fail
  refine (l30AnyWords_any _ 0 HR.out (by omega)).mono ?_
  rintro e w2 ⟨g', n', c', ys, q, rfl, hn', hall, ho, hr2, hq, hg2⟩
  have HR2 := Lib.hid hr2; clear hr2
  have HO := Lib.hid (show OwnStrs w2 (w.heap.size + 1) _ n' c' ys from ho.base (by rw [HS.out]; exact Nat.le_refl _)); clear ho hall
  have HB2 := Lib.hid (below_only HB.out hg2 (Nat.le_refl _) HB.out.size); clear hg2
  go_wp2_with fail
  refine (l30Word_any _ q HR2.out (by omega)).mono ?_
  rintro e w3 ⟨s, rfl, hs, hr3, hg3⟩
  have HSW := Lib.hid hs; clear hs
  have HR3 := Lib.hid hr3; clear hr3
  have HO3 := Lib.hid (show OwnStrs w3 (w.heap.size + 1) _ n' c' ys from ⟨HO.out.len, HO.out.fit, own_only HO.out.own hg3 (by omega)⟩)
  have HB3 := Lib.hid (below_only HB2.out hg3 (Nat.le_refl _) HB2.out.size); clear hg3
  go_wp2_with fail
  refine (pick_any _ (q + 1) 4 HR3.out (by omega) (by omega)).mono ?_
  rintro e w4 ⟨f, rfl, hf, hr4, hg4⟩
  have HO4 := Lib.hid (show OwnStrs w4 w.heap.size _ n' c' ys from ⟨HO3.out.len, HO3.out.fit, own_base (own_only HO3.out.own hg4 (by omega)) (by omega)⟩)
  have HB4 := Lib.hid (below_only HB3.out hg4 (Nat.le_refl _) HB3.out.size); clear hg4 hr4
  go_wp2_with fail
  go_ret3
  exact ⟨g', n', c', ys, s, f, rfl, hn', HSW.out, by omega, HO4.out, HB4.out⟩
end Go.Proofs.Ytoljjhhomklcbaa
