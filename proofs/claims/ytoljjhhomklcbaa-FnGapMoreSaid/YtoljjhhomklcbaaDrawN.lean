/- Numbers that are drawn, and lists of them. Conditions: bounds on how often the reader is read. -/
import Derived.Test.YtoljjhhomklcbaaDraw
import Derived.Test.YtoljjhhomklcbaaGapGet
import Derived.Laws.AppendOwnNone
namespace Go.Proofs.Ytoljjhhomklcbaa
open Go.ChangeShapes Go.WideShapes Go.RowKit
theorem fitM {xs : List Int} (h : ∀ x ∈ xs, -1 ≤ x ∧ x ≤ 1000000) (j : Nat) : (Lit.int .i64 (nthI xs j)).wf = true := by
  have : -1 ≤ nthI xs j ∧ nthI xs j ≤ 1000000 := by
    unfold nthI
    cases hj : xs[j]? with
    | none => simp
    | some x => exact h x (List.mem_of_getElem? hj)
  exact WalkArith.wf_i64 (by omega)
/-- A row of the call's own has grown: still nothing but block g and new blocks have turned. -/
theorem only_row {a w w' : World} {g : Nat} {row : Option Nat} (h : a.grownBy w (some g)) (hg : w.grownBy w' row) (hr : ∀ k, row = some k → a.heap.size ≤ k) : a.grownBy w' (some g) :=
  ⟨hg.os.trans h.os, hg.tape.trans h.tape, hg.output.trans h.output, Nat.le_trans h.size hg.size, fun i hi hne => (hg.block i (Nat.lt_of_lt_of_le hi h.size) (fun e => by have := hr i e.symm; omega)).trans (h.block i hi hne)⟩
set_option maxRecDepth 20000 in
set_option maxHeartbeats 1000000 in
theorem l30Up_any (g p most : Nat) {w : World} (hr : Rdr w g p) (hp : p ≤ 100000) (hm : most ≤ 100) :
    Calls Try.prog 67 #[.pointer (some ⟨g, 0, none⟩), .int .i64 most] w fun e w' => ∃ (a : Option Addr) (n c : Nat) (xs : List Int) (q : Nat), e = .returned (.slice a n c) ∧ n ≤ most ∧ (∀ x ∈ xs, -1 ≤ x ∧ x ≤ 1000000) ∧ upAsc n xs = true ∧ OwnInts w' w.heap.size a n c xs ∧ Rdr w' g q ∧ q ≤ p + 2 + most ∧ w.grownBy w' (some g) := by
  have HR := Lib.hid hr
  have hlt := hr.lt
  clear hr
  obtain ⟨i0, hi, hz0, hz1, hz2⟩ := info_parts info_int
  have RA := Lib.hid (HR.out.alloc (.cells #[] 3))
  have GA := Lib.hid (only_alloc (World.grownBy.refl w (some g)) (.cells #[] 3))
  have ON := Lib.hid (ints_nil_made w)
  go_enter Try.func67, Try.ntmps67
  go_wp2_with fail
  refine (pick_any g p 4 RA.out (by omega) (by omega)).mono ?_
  rintro e w1 ⟨k1, rfl, hk1, hr1, hg1⟩
  have HR1 := Lib.hid hr1; clear hr1
  have ON1 := Lib.hid (own_only ON.out hg1 hlt)
  have HG1 := Lib.hid (grownBy_trans GA.out hg1); clear hg1
  go_wp2_with fail
  refine (pick_any g (p + 1) (most + 1) HR1.out (by omega) (by omega)).mono ?_
  rintro e w2 ⟨k2, rfl, hk2, hr2, hg2⟩
  have HR2 := Lib.hid hr2; clear hr2
  have ON2 := Lib.hid (own_only ON1.out hg2 hlt)
  have HG2 := Lib.hid (grownBy_trans HG1.out hg2); clear hg2
  go_wp2_with fail
  go_loopw [5, 6, 7] (fun o v i wr => ∃ (m : Nat) (y : Int) (a' : Option Addr) (c' : Nat) (ys : List Int) (q : Nat), i = .int .i64 m ∧ v = .int .i64 y ∧ o = .slice a' ys.length c' ∧ ys.length + m ≤ most ∧ -1 ≤ y ∧ y ≤ 3 + 201 * (ys.length : Int) ∧ (∀ x ∈ ys, -1 ≤ x ∧ x ≤ 1000000) ∧ upAsc ys.length ys = true ∧ -1 ≤ lastI ys ys.length ∧ lastI ys ys.length ≤ y ∧ q + m ≤ p + 2 + most ∧ wr.ownsRow w.heap.size 3 1 (.slice a' ys.length c') ys.length (ys.map (Value.int .i64)) ∧ Rdr wr g q ∧ w.grownBy wr (some g)) (fun _ _ i _ => (intOf i).toNat)
  case atStart => exact ⟨k2, (k1 : Int) - 1, _, _, [], p + 1 + 1, rfl, rfl, rfl, by simp; omega, by omega, by simp; omega, by simp, rfl, by show (-1 : Int) ≤ -1; omega, by show (-1 : Int) ≤ _; omega, by omega, ON2.out, HR2.out, HG2.out⟩
  case round =>
    obtain ⟨m, y, a', c', ys, q, rfl, rfl, rfl, hlen, hy0, hy1, hall, hup, hla0, hla1, hq, hown, hr, hg⟩ := hrel
    have UP := Lib.hid hup; clear hup
    have AL := Lib.hid hall; clear hall
    have HO := Lib.hid hown; clear hown
    have HR3 := Lib.hid hr
    have HG3 := Lib.hid hg
    have hs := hg.size
    clear hr hg
    by_cases hp0 : 0 < m
    · go_wp2_with fail
      refine (one_new g q 5 [0, 0, 1, 5, 200] (fun x => 0 ≤ x ∧ x ≤ 200) HR3.out rfl rfl (by omega) (by omega) (by omega) (fun x hx => by simp at hx; omega) (fun x hx => by simp at hx; omega)).mono ?_
      rintro e w4 ⟨x, rfl, ⟨hx0, hx1⟩, hr4, hg4⟩
      have HR4 := Lib.hid hr4; clear hr4
      have HO4 := Lib.hid (own_only HO.out hg4 hlt)
      have HG4 := Lib.hid (grownBy_trans HG3.out hg4)
      have hs4 := HG4.out.size
      clear hg4
      go_wp2_with (at_builtin; refine wpList_append_own _ rfl _ _ 28 rfl w.heap.size 3 i0 (.int .i64 0) 1 8 Try.underlying28 hi hz0 hz1 hz2 rfl (by decide) _ _ _ rfl (HO4.out.alloc _) ⟨w4.heap.size, 0, none⟩ 1 1 [.int .i64 (y + 1 + x)] rfl rfl ?c1 ?c2 ?c3 ?c4 ?c5 ?_)
      case c1 => exact cells_new1 w4 _ _
      case c2 => intro u hu; simp at hu; subst hu; rfl
      case c3 => unfold maxLen; omega
      case c4 => omega
      case c5 => simp; omega
      · intro v' w5 hown' hgrow _
        obtain ⟨a2, c2, hv⟩ := own_form hown'
        rw [hv] at hown'
        have HO5 := Lib.hid hown'
        have hrow : ∀ k, (Value.slice a' ys.length c').ownBlock = some k → g < k := fun k hk => by have := (own_block HO4.out k hk).1; omega
        have HR5 := Lib.hid ((HR4.out.alloc _).kept hgrow hrow)
        have HG5 := Lib.hid (only_row (only_alloc HG4.out _) hgrow (fun k hk => (own_block HO4.out k hk).1))
        have UPN := Lib.hid (show upAsc (ys ++ [y + 1 + x]).length (ys ++ [y + 1 + x]) = true by rw [List.length_append]; exact upAsc_app UP.out (by omega) hla0 (by omega))
        have LN := Lib.hid (show lastI (ys ++ [y + 1 + x]) (ys ++ [y + 1 + x]).length = y + 1 + x by rw [List.length_append]; exact lastI_app _ _)
        clear hgrow hown' hrow
        rw [hv]
        clear hv
        go_wp2_with fail
        go_roundw
        case rel => exact ⟨m - 1, y + 1 + x, a2, c2, ys ++ [y + 1 + x], q + 1, by go_num, rfl, by simp, by simp; omega, by omega, by simp; omega, (fun z hz => by
          rw [List.mem_append] at hz
          rcases hz with hz | hz
          · exact AL.out z hz
          · simp at hz; subst hz; omega), UPN.out, by rw [LN.out]; omega, by rw [LN.out]; omega, by omega, by have := HO5.out; simpa using this, HR5.out, HG5.out⟩
        case measure => simp [intOf]; omega
    · have hm0 : (m : Int) ≤ 0 := by omega
      go_wp2_with fail
      go_ret
      exact ⟨_, _, _, ys, q, rfl, by omega, AL.out, UP.out, ⟨rfl, fun j => fitM AL.out j, by have := HO.out; rw [tab_ints] at this; exact this⟩, HR3.out, by omega, HG3.out⟩
theorem own_ints {w : World} {B : Nat} {a : Option Addr} {n cap : Nat} {xs : List Int} (hl : xs.length = n) (h : w.ownsRow B 3 1 (.slice a n cap) n (tab n fun j => .int .i64 (nthI xs j))) (hf : ∀ x ∈ xs, -1 ≤ x ∧ x ≤ 1000000000) : OwnInts w B a n cap xs := by
  refine ⟨hl, fun j => ?_, h⟩
  have : -1 ≤ nthI xs j ∧ nthI xs j ≤ 1000000000 := by
    unfold nthI
    cases hj : xs[j]? with
    | none => simp
    | some x => exact hf x (List.mem_of_getElem? hj)
  exact WalkArith.wf_i64 (by omega)
theorem tab_snocI {n : Nat} {xs : List Int} {x : Int} (hl : xs.length = n) : (tab n fun j => Value.int .i64 (nthI xs j)) ++ [.int .i64 x] = tab (n + 1) fun j => .int .i64 (nthI (xs ++ [x]) j) := by
  subst hl
  rw [← tab_ints, show xs.length + 1 = (xs ++ [x]).length by simp, ← tab_ints]; simp
theorem own_snocI {w : World} {B : Nat} {v : Value} {n : Nat} {xs : List Int} {x : Int} (hl : xs.length = n) (h : w.ownsRow B 3 1 v (n + 1) ((tab n fun j => Value.int .i64 (nthI xs j)) ++ [.int .i64 x])) : w.ownsRow B 3 1 v (n + 1) (tab (n + 1) fun j => .int .i64 (nthI (xs ++ [x]) j)) := by
  rw [tab_snocI hl] at h; exact h
set_option maxRecDepth 20000 in
set_option maxHeartbeats 1000000 in
theorem l30AnyUp_any (g p : Nat) {w : World} (hr : Rdr w g p) (hp : p ≤ 10000) :
    Calls Try.prog 49 #[.pointer (some ⟨g, 0, none⟩)] w fun e w' => ∃ (a : Option Addr) (n c : Nat) (xs : List Int) (q : Nat), e = .returned (.slice a n c) ∧ n ≤ 100 ∧ (∀ x ∈ xs, -1 ≤ x ∧ x ≤ 1000000000) ∧ OwnInts w' w.heap.size a n c xs ∧ Rdr w' g q ∧ q ≤ p + 100 ∧ w.grownBy w' (some g) := by
  have HR := Lib.hid hr
  have hlt := hr.lt
  clear hr
  obtain ⟨i0, hi, hz0, hz1, hz2⟩ := info_parts info_int
  go_enter Try.func49, Try.ntmps49
  go_wp2_with fail
  refine (l30Up_any g p 8 HR.out (by omega) (by omega)).mono ?_
  rintro e w1 ⟨a, n, c, xs, q, rfl, hn, hxs, hup, ho, hr1, hq, hg1⟩
  clear hup
  have AL := Lib.hid hxs; clear hxs
  have HR1 := Lib.hid hr1; clear hr1
  have HO1 := Lib.hid ho; clear ho
  have HG1 := Lib.hid hg1
  have hs1 := hg1.size
  clear hg1
  go_wp2_with fail
  refine (pick_any g q 12 HR1.out (by omega) (by omega)).mono ?_
  rintro e w2 ⟨k, rfl, hk, hr2, hg2⟩
  have HR2 := Lib.hid hr2; clear hr2
  have HO2 := Lib.hid (own_only HO1.out.own hg2 hlt)
  have HG2 := Lib.hid (grownBy_trans HG1.out hg2)
  have hs2 := HG2.out.size
  clear hg2
  by_cases k0 : k = 0
  · have b0 : ((k : Int) == 0) = true := beq_t (by omega)
    clear k0
    go_wp2_with fail
    refine (one_new g (q + 1) 3 [-1, 0, 1000000000] (fun x => -1 ≤ x ∧ x ≤ 1000000000) HR2.out rfl rfl (by omega) (by omega) (by omega) (fun x hx => by simp at hx; omega) (fun x hx => by simp at hx; omega)).mono ?_
    rintro e w3 ⟨x, rfl, ⟨hx0, hx1⟩, hr3, hg3⟩
    have HR3 := Lib.hid hr3; clear hr3
    have HO3 := Lib.hid (own_only HO2.out hg3 hlt)
    have HG3 := Lib.hid (grownBy_trans HG2.out hg3)
    have hs3 := HG3.out.size
    clear hg3
    go_wp2_with (at_builtin; refine wpList_append_own _ rfl _ _ 28 rfl w.heap.size 3 i0 (.int .i64 0) 1 8 Try.underlying28 hi hz0 hz1 hz2 rfl (by decide) _ _ _ rfl (HO3.out.alloc _) ⟨w3.heap.size, 0, none⟩ 1 1 [.int .i64 x] rfl rfl ?c1 ?c2 ?c3 ?c4 ?c5 ?_)
    case c1 => exact cells_new1 w3 _ _
    case c2 => intro u hu; simp at hu; subst hu; rfl
    case c3 => unfold maxLen; omega
    case c4 => omega
    case c5 => simp; omega
    · intro v' w5 hown' hgrow _
      obtain ⟨a2, c2, hv⟩ := own_form hown'
      rw [hv] at hown'
      have hrow : ∀ k, (Value.slice a n c).ownBlock = some k → g < k := fun k hk => by have := (own_block HO3.out k hk).1; omega
      have HR5 := Lib.hid ((HR3.out.alloc _).kept hgrow hrow)
      have HG5 := Lib.hid (only_row (only_alloc HG3.out _) hgrow (fun k hk => (own_block HO3.out k hk).1))
      have HO5 := Lib.hid (own_snocI (by exact HO1.out.len) hown')
      clear hgrow hown' hrow
      rw [hv]
      clear hv
      go_wp2_with fail
      go_ret
      have hall : ∀ z ∈ xs ++ [x], -1 ≤ z ∧ z ≤ 1000000000 := fun z hz => by
        rw [List.mem_append] at hz
        rcases hz with hz | hz
        · have := AL.out z hz; omega
        · simp at hz; subst hz; omega
      exact ⟨_, _, _, xs ++ [x], q + 1 + 1, rfl, by omega, hall, own_ints (by rw [List.length_append, HO1.out.len]; rfl) HO5.out hall, HR5.out, by omega, HG5.out⟩
  have b0 : ((k : Int) == 0) = false := beq_f (by omega)
  by_cases k1 : k = 1
  · have b1 : ((k : Int) == 1) = true := beq_t (by omega)
    clear k0 k1
    have hO := HO2.out
    have RA := Lib.hid (HR2.out.alloc (.cells #[.int .i64 (-1)] 3))
    rcases hO.2 with ⟨hv0, hn0⟩ | ⟨g1, cap', cur, hv0, hB1, hh1, _⟩
    · injection hv0 with ha hn1 hc
      subst ha
      subst hn0
      subst hc
      have ON := Lib.hid (own_new w2 w.heap.size 3 1 1 #[.int .i64 (-1)] hs2 rfl (by decide))
      have hxn : xs = [] := List.length_eq_zero_iff.1 HO1.out.len
      have HXN := Lib.hid hxn
      clear hO hn1 hxn
      have HG3 := Lib.hid (only_alloc HG2.out (.cells #[.int .i64 (-1)] 3))
      go_wp2_with fail
      go_ret
      exact ⟨_, _, _, [-1], q + 1, rfl, by omega, by simp, own_ints rfl ON.out (by simp), RA.out, by omega, HG3.out⟩
    · injection hv0 with ha hn1 hc
      subst ha
      have ON := Lib.hid (own_new w2 w.heap.size 3 1 1 #[.int .i64 (-1)] hs2 rfl (by decide))
      have HS := Lib.hid (HO2.out.alloc (.cells #[.int .i64 (-1)] 3))
      have HG3 := Lib.hid (only_alloc HG2.out (.cells #[.int .i64 (-1)] 3))
      have SC := Lib.hid (HS.out.cells (g := g1) rfl)
      have hs3 : w.heap.size ≤ w2.heap.size + 1 := by omega
      clear hO hc hh1
      go_wp2_with (at_builtin; refine wpList_append_own _ rfl _ _ 28 rfl w.heap.size 3 i0 (.int .i64 0) 1 8 Try.underlying28 hi hz0 hz1 hz2 rfl (by decide) _ _ _ rfl ON.out ⟨g1, 0, none⟩ n c (tab n fun j => .int .i64 (nthI xs j)) rfl ?c1 ?c2 ?c3 ?c4 ?c5 ?c6 ?_)
      case c1 => rw [tab_length]; omega
      case c2 => exact SC.out
      case c3 =>
        intro u hu
        simp only [tab, List.mem_map] at hu
        obtain ⟨j, _, rfl⟩ := hu
        rfl
      case c4 => unfold maxLen; omega
      case c5 => omega
      case c6 => simp; omega
      · intro v' w5 hown' hgrow _
        obtain ⟨a2, c2, hv⟩ := own_form hown'
        rw [hv] at hown'
        have hrow : ∀ k, (Value.slice (some ⟨w2.heap.size, 0, none⟩) 1 1).ownBlock = some k → g < k := fun k hk => by have := (own_block ON.out k hk).1; omega
        have HR5 := Lib.hid (RA.out.kept hgrow hrow)
        have HG5 := Lib.hid (only_row HG3.out hgrow (fun k hk => (own_block ON.out k hk).1))
        have hz : (1 + n) = (([-1] : List Int) ++ xs).length := by rw [List.length_append, HO1.out.len]; rfl
        have HO5 := Lib.hid (show w5.ownsRow w.heap.size 3 1 (.slice a2 (1 + n) c2) (1 + n) (tab (1 + n) fun j => .int .i64 (nthI ([-1] ++ xs) j)) by
          rw [hz, ← tab_ints, ← hz]
          have h5 := hown'
          rw [← HO1.out.len, ← tab_ints, HO1.out.len] at h5
          exact h5)
        clear hgrow hown' hrow hz
        rw [hv]
        clear hv
        go_wp2_with fail
        go_ret
        have hall : ∀ z ∈ [-1] ++ xs, -1 ≤ z ∧ z ≤ 1000000000 := fun z hz => by
          rw [List.mem_append] at hz
          rcases hz with hz | hz
          · simp at hz; subst hz; omega
          · have := AL.out z hz; omega
        exact ⟨_, _, _, [-1] ++ xs, q + 1, rfl, by omega, hall, own_ints (by rw [List.length_append, HO1.out.len]; rfl) HO5.out hall, HR5.out, by omega, HG5.out⟩
  have b1 : ((k : Int) == 1) = false := beq_f (by omega)
  by_cases k2 : k = 2
  · have b2 : ((k : Int) == 2) = true := beq_t (by omega)
    clear k0 k1 k2
    go_wp2_with fail
    refine (l30Up_any g (q + 1) 61 HR2.out (by omega) (by omega)).mono ?_
    rintro e w3 ⟨a3, n3, c3, xs3, q3, rfl, hn3, hxs3, hup3, ho3, hr3, hq3, hg3⟩
    clear hup3
    have AL3 := Lib.hid hxs3; clear hxs3
    have HR3 := Lib.hid hr3; clear hr3
    have HO3 := Lib.hid (ho3.base HG2.out.size); clear ho3
    have HG3 := Lib.hid (grownBy_trans HG2.out hg3); clear hg3
    go_wp2_with fail
    go_ret
    exact ⟨_, _, _, xs3, q3, rfl, by omega, fun z hz => by have := AL3.out z hz; omega, HO3.out, HR3.out, by omega, HG3.out⟩
  · have b2 : ((k : Int) == 2) = false := beq_f (by omega)
    clear k0 k1 k2
    have HO3 := Lib.hid (show OwnInts w2 w.heap.size a n c xs from ⟨HO1.out.len, HO1.out.fit, HO2.out⟩)
    go_wp2_with fail
    go_ret
    exact ⟨_, _, _, xs, q + 1, rfl, by omega, fun z hz => by have := AL.out z hz; omega, HO3.out, HR2.out, by omega, HG2.out⟩
/-- Numbers that a draw gives, in slices of the call's own. -/
def DrawnI (w : World) (e : Ending) (w' : World) : Prop := ∃ (a : Option Addr) (n c : Nat) (xs : List Int), e = .returned (.slice a n c) ∧ n ≤ 100 ∧ (∀ x ∈ xs, -1 ≤ x ∧ x ≤ 1000000000) ∧ OwnInts w' w.heap.size a n c xs ∧ Below w.heap.size w w'
theorem DrawGapPut_any (a : Option Addr) (n cap : Nat) (xs : List Int) {w : World} (hx : Byts w a n cap xs) (hn : n ≤ 1048576) :
    Calls Try.prog 17 #[.slice a n cap] w (DrawnI w) := by
  have HX := Lib.hid hx; clear hx
  go_enter Try.func17, Try.ntmps17
  go_wp2_with fail
  refine (open_any _ _ _ _ HX.out hn).mono ?_
  rintro e w1 ⟨rfl, hr, hb, hs⟩
  have HR := Lib.hid hr; clear hr
  have HB := Lib.hid hb; clear hb
  have HS := Lib.hid hs; clear hs
  go_wp2_with fail
  refine (l30AnyUp_any _ 0 HR.out (by omega)).mono ?_
  rintro e w2 ⟨a2, n2, c2, xs2, q, rfl, hn2, hxs, ho, hr2, hq, hg⟩
  have AL := Lib.hid hxs; clear hxs
  have HO := Lib.hid (ho.base HB.out.size); clear ho
  have HB2 := Lib.hid (below_only HB.out hg (Nat.le_refl _) HB.out.size); clear hg
  go_wp2_with fail
  go_ret
  exact ⟨_, _, _, xs2, rfl, hn2, AL.out, HO.out, HB2.out⟩
end Go.Proofs.Ytoljjhhomklcbaa
