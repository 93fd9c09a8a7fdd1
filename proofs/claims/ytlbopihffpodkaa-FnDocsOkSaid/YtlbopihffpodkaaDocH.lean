/- Slices of documents that are drawn. Conditions: bounds on how often the reader is read. -/
import Derived.Test.YtlbopihffpodkaaDocG
import Derived.Test.YtlbopihffpodkaaDocT
namespace Go.Proofs.Ytlbopihffpodkaa
open Go.ChangeShapes Go.WideShapes Go.RowKit
structure OwnDocs (w : World) (B : Nat) (a : Option Addr) (n c : Nat) (xs : List DocA) : Prop where
  len : xs.length = n
  own : w.ownsRow B 26 3 (.slice a n c) n (tab (n * 3) (dcC xs))
  each : ∀ j, j < n → DocOwn w B (nthX xs j)
theorem OwnDocs.docs {w : World} {B : Nat} {a : Option Addr} {n c : Nat} {xs : List DocA} (h : OwnDocs w B a n c xs) : Docs w a n xs := ⟨h.len, fun j hj => (h.each j hj).in, Rd.of_own h.own⟩
theorem OwnDocs.below {w w' : World} {B : Nat} {a : Option Addr} {n c : Nat} {xs : List DocA} (h : OwnDocs w B a n c xs) (hb : Below w.heap.size w w') : OwnDocs w' B a n c xs := ⟨h.len, own_below h.own hb (Nat.le_refl _), fun j hj => (h.each j hj).below hb⟩
theorem OwnDocs.only {w w' : World} {B g : Nat} {a : Option Addr} {n c : Nat} {xs : List DocA} (h : OwnDocs w B a n c xs) (hg : w.grownBy w' (some g)) (hB : g < B) : OwnDocs w' B a n c xs := ⟨h.len, own_only h.own hg hB, fun j hj => (h.each j hj).only hg hB⟩
theorem OwnDocs.base {w : World} {B B' : Nat} {a : Option Addr} {n c : Nat} {xs : List DocA} (h : OwnDocs w B a n c xs) (hB : B' ≤ B) : OwnDocs w B' a n c xs := ⟨h.len, own_base h.own hB, fun j hj => (h.each j hj).base hB⟩
theorem dc_snoc {n : Nat} {xs : List DocA} {x : DocA} (hl : xs.length = n) : tab (n * 3) (dcC xs) ++ [.int .i64 x.id, .slice x.a x.n x.c, .slice x.b x.m x.d] = tab ((n + 1) * 3) (dcC (xs ++ [x])) := by
  subst hl
  refine tab_ext (by simp [tab_length]; omega) fun j hj => ?_
  by_cases h : j < xs.length * 3
  · rw [List.getElem?_append_left (by rw [tab_length]; exact h), tab_get _ _ _ h]
    unfold dcC
    rw [nthX_app_l (by omega)]
  · rw [List.getElem?_append_right (by rw [tab_length]; omega), tab_length]
    unfold dcC
    rw [show j / 3 = xs.length by omega, nthX_app_r]
    rcases (show j = xs.length * 3 ∨ j = xs.length * 3 + 1 ∨ j = xs.length * 3 + 2 by omega) with h1 | h1 | h1
    · rw [h1, if_pos (by omega), Nat.sub_self]; rfl
    · rw [h1, if_neg (by omega), if_pos (by omega), show xs.length * 3 + 1 - xs.length * 3 = 1 by omega]; rfl
    · rw [h1, if_neg (by omega), if_neg (by omega), show xs.length * 3 + 2 - xs.length * 3 = 2 by omega]; rfl
/-- A document was put behind all. -/
theorem OwnDocs.app {w w' : World} {B : Nat} {a a' : Option Addr} {n c c' : Nat} {xs : List DocA} {x : DocA} (h : OwnDocs w B a n c xs) (hx : DocOwn w B x) (ho : w'.ownsRow B 26 3 (.slice a' (n + 1) c') (n + 1) (tab (n * 3) (dcC xs) ++ [.int .i64 x.id, .slice x.a x.n x.c, .slice x.b x.m x.d])) (hg : w.grownBy w' (Value.slice a n c).ownBlock) : OwnDocs w' B a' (n + 1) c' (xs ++ [x]) := by
  have ap : ∀ y, DocOwn w B y → DocOwn w' B y := fun y hy => hy.apart hg (fun k hk => by obtain ⟨cur, hc⟩ := own_kind h.own hk; exact ⟨cur, _, by decide, by decide, hc⟩)
  refine ⟨by rw [List.length_append, h.len]; rfl, by rw [dc_snoc h.len] at ho; exact ho, fun j hj => ?_⟩
  by_cases hjn : j < n
  · rw [nthX_app_l (by rw [h.len]; exact hjn)]; exact ap _ (h.each j hjn)
  · obtain rfl : j = n := by omega
    rw [show j = xs.length from h.len.symm, nthX_app_r]; exact ap _ hx
theorem dc_cells {w : World} (u v t : Value) (e : TypeId) : ∀ j x, [u, v, t][j]? = some x → (w.alloc (.cells #[u, v, t] e)).cell? ((⟨w.heap.size, 0, none⟩ : Addr).add j) = some x := by
  intro j x hj
  match j, hj with
  | 0, hj => simp at hj; subst hj; simp [Addr.add]
  | 1, hj => simp at hj; subst hj; simp [Addr.add]
  | 2, hj => simp at hj; subst hj; simp [Addr.add]
theorem docs_made (w : World) : OwnDocs (w.alloc (.cells #[] 26)) w.heap.size (some ⟨w.heap.size, 0, none⟩) 0 0 [] := ⟨rfl, World.ownsRow_made w #[] 0 (Nat.le_refl _) (Nat.zero_le _) rfl, fun j hj => by omega⟩
/-- What is behind a draw of documents. -/
def DocsPost (g p most k : Nat) (w : World) (e : Ending) (w' : World) : Prop := ∃ (g' n c : Nat) (xs : List DocA) (q : Nat), e = .returned (.slice (some ⟨g', 0, none⟩) n c) ∧ n ≤ most ∧ OwnDocs w' w.heap.size (some ⟨g', 0, none⟩) n c xs ∧ Rdr w' g q ∧ q ≤ p + k ∧ w.grownBy w' (some g)
set_option maxRecDepth 20000 in
set_option maxHeartbeats 1000000 in
theorem l30Docs_any (g p : Nat) {w : World} (hr : Rdr w g p) (hp : p ≤ 3000) :
    Calls Try.prog 52 #[.pointer (some ⟨g, 0, none⟩)] w (DocsPost g p 5 300 w) := by
  have HR := Lib.hid hr
  have hlt := hr.lt
  clear hr
  obtain ⟨i0, hi, hz0, hz1, hz2⟩ := info_parts info_Dc
  have RA := Lib.hid (HR.out.alloc (.cells #[] 26))
  have GA := Lib.hid (only_alloc (World.grownBy.refl w (some g)) (.cells #[] 26))
  have ON := Lib.hid (docs_made w)
  go_enter Try.func52, Try.ntmps52
  go_wp2_with fail
  refine (pick_any g p 6 RA.out (by omega) (by omega)).mono ?_
  rintro e w1 ⟨k1, rfl, hk1, hr1, hg1⟩
  have HR1 := Lib.hid hr1; clear hr1
  have ON1 := Lib.hid (ON.out.only hg1 hlt)
  have HG1 := Lib.hid (grownBy_trans GA.out hg1); clear hg1
  go_wp2_with fail
  go_loopw [3, 4, 5] (fun o d i wr => ∃ (m id g' n' c' : Nat) (ys : List DocA) (q : Nat), i = .int .i64 m ∧ d = .int .i64 id ∧ o = .slice (some ⟨g', 0, none⟩) n' c' ∧ n' + m ≤ 5 ∧ id + 3 * m ≤ 15 ∧ q + 50 * m ≤ p + 1 + 250 ∧ OwnDocs wr w.heap.size (some ⟨g', 0, none⟩) n' c' ys ∧ Rdr wr g q ∧ w.grownBy wr (some g)) (fun _ _ i _ => (intOf i).toNat)
  case atStart => exact ⟨k1, 0, _, _, _, [], p + 1, rfl, rfl, rfl, by omega, by omega, by omega, ON1.out, HR1.out, HG1.out⟩
  case round =>
    obtain ⟨m, id, g', n', c', ys, q, rfl, rfl, rfl, hlen, hid, hq, hown, hr, hg⟩ := hrel
    have HO := Lib.hid hown; clear hown
    have HR3 := Lib.hid hr
    have HG3 := Lib.hid hg
    have hs := hg.size
    clear hr hg
    by_cases hp0 : 0 < m
    · go_wp2_with fail
      refine (pick_any g q 3 HR3.out (by omega) (by omega)).mono ?_
      rintro e w4 ⟨k4, rfl, hk4, hr4, hg4⟩
      have HR4 := Lib.hid hr4; clear hr4
      have HO4 := Lib.hid (HO.out.only hg4 hlt)
      have HG4 := Lib.hid (grownBy_trans HG3.out hg4)
      have hs4 := HG4.out.size
      clear hg4
      go_wp2_with fail
      refine (l30Doc_any g (q + 1) ((id : Int) + 1 + (k4 : Int)) HR4.out (by omega)).mono ?_
      rintro e w5 ⟨x, q5, rfl, hxid, hxn, hxm, ho5, hr5, hq5, hg5⟩
      have HR5 := Lib.hid hr5; clear hr5
      have HO5 := Lib.hid (HO4.out.only hg5 hlt)
      have HG5 := Lib.hid (grownBy_trans HG4.out hg5)
      have hs5 := HG5.out.size
      have HX5 := Lib.hid (ho5.base hs4)
      clear hg5 ho5 hxid hxn hxm
      unfold DocA.v docV
      go_wp2_with (at_builtin; refine wpList_append_own _ rfl _ _ 37 rfl w.heap.size 26 i0 (.agg #[.int .i64 0, .slice none 0 0, .slice none 0 0]) 3 56 Try.underlying37 hi hz0 hz1 hz2 rfl (by decide) _ _ _ rfl (HO5.out.own.alloc _) ⟨w5.heap.size, 0, none⟩ 1 1 [.int .i64 x.id, .slice x.a x.n x.c, .slice x.b x.m x.d] rfl rfl ?c1 ?c2 ?c3 ?c4 ?c5 ?_)
      case c1 => exact dc_cells _ _ _ _
      case c2 => intro u hu; simp at hu; rcases hu with rfl | rfl | rfl <;> rfl
      case c3 => unfold maxLen; omega
      case c4 => omega
      case c5 => simp; omega
      intro v' w6 hown' hgrow hnn
      obtain ⟨a2, c2, hv⟩ := own_form hown'
      rw [hv] at hown'
      obtain ⟨g2, rfl, -, -⟩ := own_pos hown' (by omega)
      have hrow : ∀ k, (Value.slice (some ⟨g', 0, none⟩) n' c').ownBlock = some k → w.heap.size ≤ k := fun k hk => (own_block HO5.out.own k hk).1
      have B5 := Lib.hid ((Below.refl w5.heap.size w5).alloc (Nat.le_refl _) (.cells #[.int .i64 x.id, .slice x.a x.n x.c, .slice x.b x.m x.d] 26))
      have HO6 := Lib.hid ((HO5.out.below B5.out).app (HX5.out.below B5.out) hown' hgrow)
      have HR6 := Lib.hid ((HR5.out.below B5.out).kept hgrow (fun k hk => by have := hrow k hk; omega))
      have HG6 := Lib.hid (row_only (only_below HG5.out B5.out) hgrow hrow)
      clear hgrow hown' hrow hnn
      rw [hv]
      clear hv
      go_wp2_with fail
      go_roundw
      case rel => exact ⟨m - 1, id + 1 + k4, g2, n' + 1, c2, ys ++ [x], q5, by go_num, by go_num, rfl, by omega, by omega, by omega, HO6.out, HR6.out, HG6.out⟩
      case measure => simp [intOf]; omega
    · have hm0 : (m : Int) ≤ 0 := by omega
      go_wp2_with fail
      go_ret
      exact ⟨g', n', c', ys, q, rfl, by omega, HO.out, HR3.out, by omega, HG3.out⟩
set_option maxHeartbeats 1000000 in
theorem l30AnyDocs_any (g p : Nat) {w : World} (hr : Rdr w g p) (hp : p ≤ 3000) :
    Calls Try.prog 36 #[.pointer (some ⟨g, 0, none⟩)] w (DocsPost g p 6 500 w) := by
  have HR := Lib.hid hr
  have hlt := hr.lt
  clear hr
  obtain ⟨i0, hi, hz0, hz1, hz2⟩ := info_parts info_Dc
  go_enter Try.func36, Try.ntmps36
  go_wp2_with fail
  refine (l30Docs_any g p HR.out hp).mono ?_
  rintro e w1 ⟨g', n', c', ys, q, rfl, hn, ho, hr1, hq, hg1⟩
  have HR1 := Lib.hid hr1; clear hr1
  have HO1 := Lib.hid ho; clear ho
  have HG1 := Lib.hid hg1; clear hg1
  go_wp2_with fail
  refine (pick_any g q 10 HR1.out (by omega) (by omega)).mono ?_
  rintro e w2 ⟨k, rfl, hk, hr2, hg2⟩
  have HR2 := Lib.hid hr2; clear hr2
  have HO2 := Lib.hid (HO1.out.only hg2 hlt)
  have HG2 := Lib.hid (grownBy_trans HG1.out hg2); clear hg2
  have hs2 := HG2.out.size
  by_cases k0 : k = 0
  · have b0 : ((k : Int) == 0) = true := beq_t (by omega)
    clear k0
    go_wp2_with fail
    refine (l30AnyDoc_any g (q + 1) HR2.out (by omega)).mono ?_
    rintro e w5 ⟨x, q5, rfl, ho5, hr5, hq5, hg5⟩
    have HR5 := Lib.hid hr5; clear hr5
    have HO5 := Lib.hid (HO2.out.only hg5 hlt)
    have HG5 := Lib.hid (grownBy_trans HG2.out hg5)
    have hs5 := HG5.out.size
    have HX5 := Lib.hid (ho5.base hs2)
    clear hg5 ho5
    unfold DocA.v docV
    go_wp2_with (at_builtin; refine wpList_append_own _ rfl _ _ 37 rfl w.heap.size 26 i0 (.agg #[.int .i64 0, .slice none 0 0, .slice none 0 0]) 3 56 Try.underlying37 hi hz0 hz1 hz2 rfl (by decide) _ _ _ rfl (HO5.out.own.alloc _) ⟨w5.heap.size, 0, none⟩ 1 1 [.int .i64 x.id, .slice x.a x.n x.c, .slice x.b x.m x.d] rfl rfl ?c1 ?c2 ?c3 ?c4 ?c5 ?_)
    case c1 => exact dc_cells _ _ _ _
    case c2 => intro u hu; simp at hu; rcases hu with rfl | rfl | rfl <;> rfl
    case c3 => unfold maxLen; omega
    case c4 => omega
    case c5 => simp; omega
    intro v' w6 hown' hgrow hnn
    obtain ⟨a2, c2, hv⟩ := own_form hown'
    rw [hv] at hown'
    obtain ⟨g2, rfl, -, -⟩ := own_pos hown' (by omega)
    have hrow : ∀ k, (Value.slice (some ⟨g', 0, none⟩) n' c').ownBlock = some k → w.heap.size ≤ k := fun k hk => (own_block HO5.out.own k hk).1
    have B5 := Lib.hid ((Below.refl w5.heap.size w5).alloc (Nat.le_refl _) (.cells #[.int .i64 x.id, .slice x.a x.n x.c, .slice x.b x.m x.d] 26))
    have HO6 := Lib.hid ((HO5.out.below B5.out).app (HX5.out.below B5.out) hown' hgrow)
    have HR6 := Lib.hid ((HR5.out.below B5.out).kept hgrow (fun k hk => by have := hrow k hk; omega))
    have HG6 := Lib.hid (row_only (only_below HG5.out B5.out) hgrow hrow)
    clear hgrow hown' hrow hnn
    rw [hv]
    clear hv
    go_wp2_with fail
    go_ret
    exact ⟨g2, n' + 1, c2, ys ++ [x], q5, rfl, by omega, HO6.out, HR6.out, by omega, HG6.out⟩
  · have b0 : ((k : Int) == 0) = false := beq_f (by omega)
    clear k0
    go_wp2_with fail
    go_ret
    exact ⟨g', n', c', ys, q + 1, rfl, by omega, HO2.out, HR2.out, by omega, HG2.out⟩
/-- Documents that are drawn for a law. -/
def DrawnDL (w : World) (e : Ending) (w' : World) : Prop := ∃ (g n c : Nat) (xs : List DocA), e = .returned (.slice (some ⟨g, 0, none⟩) n c) ∧ n ≤ 6 ∧ n ≤ c ∧ Docs w' (some ⟨g, 0, none⟩) n xs ∧ Below w.heap.size w w'
theorem DrawDocsOk_any (a : Option Addr) (n cap : Nat) (xs : List Int) {w : World} (hx : Byts w a n cap xs) (hn : n ≤ 1048576) :
    Calls Try.prog 17 #[.slice a n cap] w (DrawnDL w) := by
  have HX := Lib.hid hx; clear hx
  go_enter Try.func17, Try.ntmps17
  go_wp2_with fail
  refine (open_any _ _ _ _ HX.out hn).mono ?_
  rintro e w1 ⟨rfl, hr, hb, hs⟩
  have HR := Lib.hid hr; clear hr
  have HB := Lib.hid hb; clear hb hs
  go_wp2_with fail
  refine (l30AnyDocs_any _ 0 HR.out (by omega)).mono ?_
  rintro e w2 ⟨g', n', c', ys, q, rfl, hn', ho, hr2, hq, hg2⟩
  have HO := Lib.hid ho; clear ho hr2
  have HB2 := Lib.hid (below_only HB.out hg2 (Nat.le_refl _) HB.out.size); clear hg2
  have CP := Lib.hid (show n' ≤ c' by
    rcases HO.out.own.2 with ⟨_, h⟩ | ⟨_, cap, _, hv, _, _, h, _⟩
    · omega
    · injection hv with _ _ h3; omega)
  go_wp2_with fail
  go_ret
  exact ⟨g', n', c', ys, rfl, hn', CP.out, HO.out.docs, HB2.out⟩
end Go.Proofs.Ytlbopihffpodkaa
