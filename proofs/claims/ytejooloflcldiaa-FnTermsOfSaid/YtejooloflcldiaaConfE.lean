/- How words are drawn to be read, those too that are not so; with a text, and with a word. Conditions: bounds on how often the reader is read. -/
import Derived.Test.YtejooloflcldiaaConfD
namespace Go.Proofs.Ytejooloflcldiaa
open Go.ChangeShapes Go.WideShapes Go.RowKit
theorem conf_any_start {w w1 : World} {g p q : Nat} {x : ConfA} (hr : Rdr w g p) (hg : (w.alloc (.cells #[.slice none 0 0, .slice none 0 0] 30)).grownBy w1 (some g)) (ho : ConfOwn w1 (w.alloc (.cells #[.slice none 0 0, .slice none 0 0] 30)).heap.size x) (hm : x.m ≤ 3) (hr1 : Rdr w1 g q) (hq : q ≤ p + 3) :
    CSt w g w.heap.size w1.heap.size (p + 3) 3 (w1.alloc (.cells #[.slice x.a x.n x.c, .slice x.b x.m x.d] 30)) x q := by
  have s1 := hg.size
  have hlt := hr.lt
  simp only [World.size_alloc] at s1
  have hG := grownBy_trans (only_alloc (World.grownBy.refl w (some g)) _) hg
  have res : w1.heap[w.heap.size]? = some (.cells #[.slice none 0 0, .slice none 0 0] 30 (0, 0)) := obj_kept (heap_alloc_new w _) hg (fun e => by injection e with e; omega)
  refine ⟨hm, heap_alloc_new w1 _, (ho.base (by simp)).below ((Below.refl _ _).alloc (Nat.le_refl _) _), hr1.alloc _, hq, only_alloc hG _, hlt, Nat.le_refl _, by omega, ?_⟩
  rw [Below.heap_alloc _ _ _ (by omega)]; exact res
theorem sy_snoc {n : Nat} {ys : List SynA} {y : SynA} (hl : ys.length = n) : tab (n * 2) (syC ys) ++ [.slice y.a y.n y.c, .string y.to] = tab ((n + 1) * 2) (syC (ys ++ [y])) := by
  subst hl
  refine tab_ext (by simp [tab_length]; omega) fun j hj => ?_
  by_cases h : j < ys.length * 2
  · rw [List.getElem?_append_left (by rw [tab_length]; exact h), tab_get _ _ _ h]
    unfold syC
    rw [nthY_app_l (by omega)]
  · rw [List.getElem?_append_right (by rw [tab_length]; omega), tab_length]
    unfold syC
    rw [show j / 2 = ys.length by omega, nthY_app_r]
    rcases (show j = ys.length * 2 ∨ j = ys.length * 2 + 1 by omega) with h1 | h1
    · rw [h1, if_pos (by omega), Nat.sub_self]; rfl
    · rw [h1, if_neg (by omega), show ys.length * 2 + 1 - ys.length * 2 = 1 by omega]; rfl
theorem CSt.rowD {w0 w : World} {g R D most ms : Nat} {x : ConfA} {q : Nat} (h : CSt w0 g R D most ms w x q) : (Value.slice x.b x.m x.d).ownBlock ≠ some D ∧ (Value.slice x.b x.m x.d).ownBlock ≠ some R := by
  refine ⟨fun e => ?_, fun e => ?_⟩
  · obtain ⟨cur, hc⟩ := own_kind h.own.row e
    have := h.obj
    rw [ConfObj, hc] at this
    injection this with this
    injection this with _ h2
    exact absurd h2 (by decide)
  · obtain ⟨cur, hc⟩ := own_kind h.own.row e
    have := h.res
    rw [hc] at this
    injection this with this
    injection this with _ h2
    exact absurd h2 (by decide)
/-- .. once one more stands for others. -/
theorem CSt.app {w0 w w' : World} {g R D most ms : Nat} {x : ConfA} {q : Nat} (h : CSt w0 g R D most ms w x q) {y : SynA} (hy : SynOwn w w0.heap.size y) (hm : x.m + 1 ≤ 4) {b' : Option Addr} {d' : Nat}
    (ho : w'.ownsRow w0.heap.size 53 2 (.slice b' (x.m + 1) d') (x.m + 1) (tab (x.m * 2) (syC x.ys) ++ [.slice y.a y.n y.c, .string y.to])) (hg : w.grownBy w' (Value.slice x.b x.m x.d).ownBlock) :
    CSt w0 g R D most (ms + 1) (w'.setCell ⟨D, 1, none⟩ (.slice b' (x.m + 1) d')) { x with b := b', m := x.m + 1, d := d', ys := x.ys ++ [y] } q := by
  have hgD : g < D := by have := h.lt; have := h.le; have := h.rd; omega
  have rowB : ∀ k, (Value.slice x.b x.m x.d).ownBlock = some k → w0.heap.size ≤ k := fun k hk => (own_block h.own.row k hk).1
  have kind : ∀ k, (Value.slice x.b x.m x.d).ownBlock = some k → ∃ cur e', e' ≠ 9 ∧ w.heap[k]? = some (.cells cur e' (0, 0)) := fun k hk => by
    obtain ⟨cur, hc⟩ := own_kind h.own.row hk
    exact ⟨cur, _, by decide, hc⟩
  have o1 : ConfObj w' D x := h.obj.kept hg h.rowD.1
  have hs : OwnStrs w' w0.heap.size x.a x.n x.c x.ss := ⟨h.own.s.len, h.own.s.fit, own_other h.own.s.own hg kind⟩
  have he : ∀ z ∈ x.ys ++ [y], SynOwn w' w0.heap.size z := fun z hz => by
    rw [List.mem_append, List.mem_singleton] at hz
    rcases hz with hz | hz
    · exact (h.own.each z hz).kept hg (fun k hk => .inr (kind k hk))
    · rw [hz]; exact hy.kept hg (fun k hk => .inr (kind k hk))
  rw [sy_snoc h.own.len] at ho
  have h1 : CSt w0 g R D most (ms + 1) w' { x with b := b', m := x.m + 1, d := d', ys := x.ys ++ [y] } q → True := fun _ => trivial
  have so := put_only (w := w') ⟨D, 1, none⟩ (.slice b' (x.m + 1) d')
  have hrd := h.rd
  have hle := h.le
  have hlt := h.lt
  have cn : ConfOwn w' w0.heap.size { x with b := b', m := x.m + 1, d := d', ys := x.ys ++ [y] } := ⟨hs, ho, by show (x.ys ++ [y]).length = _; rw [List.length_append, h.own.len]; rfl, he, h.own.hn, hm⟩
  refine ⟨by have := h.m; show x.m + 1 ≤ _; omega, ?_, cn.kept so (fun k hk => ?_), (h.rdr.kept hg (fun k hk => by have := rowB k hk; omega)).kept so (fun k hk => by injection hk with hk; have e : D = k := hk; omega), h.q, grow_only (grow_only h.only hg rowB) so (fun k hk => by injection hk with hk; have e : D = k := hk; omega), h.lt, h.le, h.rd, obj_kept (obj_kept h.res hg h.rowD.2) so (fun e => by injection e with e; have e : D = R := e; omega)⟩
  · have := o1
    unfold ConfObj at this ⊢
    simp [World.setCell, Array.getElem?_modify, this]
  · injection hk with hk
    have e : D = k := hk
    rw [← e]
    exact .inr ⟨_, _, by decide, by decide, o1⟩
theorem syn_none {w : World} {B : Nat} (tw : ByteArray) (h : tw.size ≤ 12) : SynOwn w B ⟨none, 0, 0, [], tw⟩ := ⟨⟨rfl, fun j => by simp [nthS], World.ownsRow_nil _ _ _ _⟩, Nat.zero_le _, h⟩
set_option maxRecDepth 100000 in
set_option maxHeartbeats 4000000 in
theorem l30AnyConf_any (g p : Nat) {w : World} (hr : Rdr w g p) (hp : p ≤ 4000) :
    Calls Try.prog 43 #[.pointer (some ⟨g, 0, none⟩)] w (ConfDrawn w g p 4 4) := by
  have HR := Lib.hid hr; clear hr
  obtain ⟨i0, hi, hz0, hz1, hz2⟩ := info_parts info_Sy
  go_enter Try.func43, Try.ntmps43
  go_wp2_with fail
  refine (l30Conf_any g p (HR.out.alloc _) (by omega)).mono ?_
  rintro e w1 ⟨x, q, rfl, hm, ho, hr1, hq, hg1⟩
  have ST := Lib.hid (conf_any_start HR.out hg1 ho hm hr1 hq)
  clear ho hr1 hg1 hm hq
  unfold ConfA.v
  go_wp2_with fail
  generalize w1.alloc (.cells #[.slice x.a x.n x.c, .slice x.b x.m x.d] 30) = W1 at *
  generalize hD : w1.heap.size = D at *
  clear hD
  generalize hRR : w.heap.size = R at *
  have HRR := Lib.hid hRR; clear hRR
  have RD := Lib.hid ST.out.rdr
  have hq := ST.out.q
  refine (pick_any g q 14 RD.out (by omega) (by omega)).mono ?_
  rintro e w1' ⟨k, rfl, hk, hr1, hg1⟩
  have ST1 := Lib.hid (ST.out.read (most' := p + 4) hr1 (by omega) hg1)
  clear hr1 hg1 RD ST hq
  go_upto_block 0 with fail
  go_cut [3] (fun s3 wx => s3 = .pointer (some ⟨D, 0, none⟩) ∧ ConfSt w g R D (p + 4) 4 wx)
  case first =>
    obtain ⟨d0, d1, f0, f1⟩ := ST1.out.obj.cells; obtain ⟨g1, g2, g3, g4, g5, g6, g7⟩ := lt_facts ST1.out.obj.lt
    have hxm := ST1.out.m
    by_cases hK0 : k = 0
    · have b0 : ((k : Int) == 0) = true := beq_t (by omega)
      clear hK0 hk
      go_wp2_with fail
      go_meet
      have hst := ST1.out.stops [⟨#[116, 104, 101]⟩, ⟨#[97]⟩] 2 rfl (by omega) (by intro s hs; simp at hs; rcases hs with rfl | rfl <;> decide) rfl
      rw [put_alloc _ g1] at hst
      exact ⟨rfl, _, _, hst.more (Nat.le_refl _) (by omega)⟩
    by_cases hK1 : k = 1
    · have b0 : ((k : Int) == 0) = false := beq_f (by omega)
      have b1 : ((k : Int) == 1) = true := beq_t (by omega)
      clear hK0 hK1 hk
      have al : ∀ (w : World) o, Below w.heap.size w (w.alloc o) := fun w o => (Below.refl _ _).alloc (Nat.le_refl _) _
      have SA := Lib.hid ((ST1.out.below (al w1' (.cells #[.string ⟨#[99, 97, 116, 115]⟩] 9))).below (al (w1'.alloc (.cells #[.string ⟨#[99, 97, 116, 115]⟩] 9)) (.cells #[.slice (some ⟨w1'.heap.size, 0, none⟩) 1 1, .string ⟨#[99, 97, 116]⟩] 53)))
      have YO := Lib.hid (show SynOwn ((w1'.alloc (.cells #[.string ⟨#[99, 97, 116, 115]⟩] 9)).alloc (.cells #[.slice (some ⟨w1'.heap.size, 0, none⟩) 1 1, .string ⟨#[99, 97, 116]⟩] 53)) w.heap.size ⟨some ⟨w1'.heap.size, 0, none⟩, 1, 1, [⟨#[99, 97, 116, 115]⟩], ⟨#[99, 97, 116]⟩⟩ from ⟨(strs_made ST1.out.only.size [⟨#[99, 97, 116, 115]⟩] 1 rfl (by omega) (by intro s hs; simp at hs; subst hs; decide) rfl).below (al _ _), (by show 1 ≤ 3; omega), (by show (⟨#[99, 97, 116]⟩ : ByteArray).size ≤ 12; decide)⟩)
      go_wp2_with (at_builtin; refine wpList_append_own _ rfl _ _ 28 rfl w.heap.size 53 i0 (.agg #[.slice none 0 0, .string ByteArray.empty]) 2 40 Try.underlying28 hi hz0 hz1 hz2 rfl (by decide) _ _ _ rfl SA.out.own.row ⟨w1'.heap.size + 1, 0, none⟩ 1 1 [.slice (some ⟨w1'.heap.size, 0, none⟩) 1 1, .string ⟨#[99, 97, 116]⟩] rfl rfl ?c1 ?c2 ?c3 ?c4 ?c5 ?_)
      case c1 => exact cell_two_at (by simp) _ _ _
      case c2 => intro u hu; simp at hu; rcases hu with rfl | rfl <;> rfl
      case c3 => unfold maxLen; omega
      case c4 => omega
      case c5 => exact SA.out.only.size
      intro v3 w3 hown3 hgrow3 _
      obtain ⟨b3, d3, hv3⟩ := own_form hown3
      rw [hv3] at hown3
      have S3 := Lib.hid (SA.out.app YO.out (by omega) hown3 hgrow3)
      obtain ⟨e0, e1, h0, h1⟩ := (SA.out.obj.kept hgrow3 SA.out.rowD.1).cells
      clear hown3 hgrow3
      rw [hv3]
      clear hv3
      go_wp2_with fail
      go_meet
      exact ⟨rfl, _, _, S3.out⟩
    by_cases hK2 : k = 2
    · have b0 : ((k : Int) == 0) = false := beq_f (by omega)
      have b1 : ((k : Int) == 1) = false := beq_f (by omega)
      have b2 : ((k : Int) == 2) = true := beq_t (by omega)
      clear hK0 hK1 hK2 hk
      have al : ∀ (w : World) o, Below w.heap.size w (w.alloc o) := fun w o => (Below.refl _ _).alloc (Nat.le_refl _) _
      have SA := Lib.hid (ST1.out.below (al w1' (.cells #[.slice none 0 0, .string ⟨#[99, 97, 116]⟩] 53)))
      go_wp2_with (at_builtin; refine wpList_append_own _ rfl _ _ 28 rfl w.heap.size 53 i0 (.agg #[.slice none 0 0, .string ByteArray.empty]) 2 40 Try.underlying28 hi hz0 hz1 hz2 rfl (by decide) _ _ _ rfl SA.out.own.row ⟨w1'.heap.size, 0, none⟩ 1 1 [.slice none 0 0, .string ⟨#[99, 97, 116]⟩] rfl rfl ?c1 ?c2 ?c3 ?c4 ?c5 ?_)
      case c1 => exact cell_two_at rfl _ _ _
      case c2 => intro u hu; simp at hu; rcases hu with rfl | rfl <;> rfl
      case c3 => unfold maxLen; omega
      case c4 => omega
      case c5 => exact SA.out.only.size
      intro v3 w3 hown3 hgrow3 _
      obtain ⟨b3, d3, hv3⟩ := own_form hown3
      rw [hv3] at hown3
      have S3 := Lib.hid (SA.out.app (syn_none ⟨#[99, 97, 116]⟩ (by decide)) (by omega) hown3 hgrow3)
      obtain ⟨e0, e1, h0, h1⟩ := (SA.out.obj.kept hgrow3 SA.out.rowD.1).cells
      clear hown3 hgrow3
      rw [hv3]
      clear hv3
      go_wp2_with fail
      go_meet
      exact ⟨rfl, _, _, S3.out⟩
    by_cases hK3 : k = 3
    · have b0 : ((k : Int) == 0) = false := beq_f (by omega)
      have b1 : ((k : Int) == 1) = false := beq_f (by omega)
      have b2 : ((k : Int) == 2) = false := beq_f (by omega)
      have b3 : ((k : Int) == 3) = true := beq_t (by omega)
      clear hK0 hK1 hK2 hK3 hk
      have al : ∀ (w : World) o, Below w.heap.size w (w.alloc o) := fun w o => (Below.refl _ _).alloc (Nat.le_refl _) _
      have SA := Lib.hid ((ST1.out.below (al w1' (.cells #[.string ⟨#[116, 104, 101]⟩, .string ⟨#[99, 97, 116]⟩] 9))).below (al (w1'.alloc (.cells #[.string ⟨#[116, 104, 101]⟩, .string ⟨#[99, 97, 116]⟩] 9)) (.cells #[.slice (some ⟨w1'.heap.size, 0, none⟩) 2 2, .string ⟨#[99, 97, 116]⟩] 53)))
      have YO := Lib.hid (show SynOwn ((w1'.alloc (.cells #[.string ⟨#[116, 104, 101]⟩, .string ⟨#[99, 97, 116]⟩] 9)).alloc (.cells #[.slice (some ⟨w1'.heap.size, 0, none⟩) 2 2, .string ⟨#[99, 97, 116]⟩] 53)) w.heap.size ⟨some ⟨w1'.heap.size, 0, none⟩, 2, 2, [⟨#[116, 104, 101]⟩, ⟨#[99, 97, 116]⟩], ⟨#[99, 97, 116]⟩⟩ from ⟨(strs_made ST1.out.only.size [⟨#[116, 104, 101]⟩, ⟨#[99, 97, 116]⟩] 2 rfl (by omega) (by intro s hs; simp at hs; rcases hs with rfl | rfl <;> decide) rfl).below (al _ _), (by show 2 ≤ 3; omega), (by show (⟨#[99, 97, 116]⟩ : ByteArray).size ≤ 12; decide)⟩)
      go_wp2_with (at_builtin; refine wpList_append_own _ rfl _ _ 28 rfl w.heap.size 53 i0 (.agg #[.slice none 0 0, .string ByteArray.empty]) 2 40 Try.underlying28 hi hz0 hz1 hz2 rfl (by decide) _ _ _ rfl SA.out.own.row ⟨w1'.heap.size + 1, 0, none⟩ 1 1 [.slice (some ⟨w1'.heap.size, 0, none⟩) 2 2, .string ⟨#[99, 97, 116]⟩] rfl rfl ?c1 ?c2 ?c3 ?c4 ?c5 ?_)
      case c1 => exact cell_two_at (by simp) _ _ _
      case c2 => intro u hu; simp at hu; rcases hu with rfl | rfl <;> rfl
      case c3 => unfold maxLen; omega
      case c4 => omega
      case c5 => exact SA.out.only.size
      intro v3 w3 hown3 hgrow3 _
      obtain ⟨b3', d3, hv3⟩ := own_form hown3
      rw [hv3] at hown3
      have S3 := Lib.hid (SA.out.app YO.out (by omega) hown3 hgrow3)
      obtain ⟨e0, e1, h0, h1⟩ := (SA.out.obj.kept hgrow3 SA.out.rowD.1).cells
      clear hown3 hgrow3
      rw [hv3]
      clear hv3
      go_wp2_with fail
      go_meet
      exact ⟨rfl, _, _, S3.out⟩
    have b0 : ((k : Int) == 0) = false := beq_f (by omega)
    have b1 : ((k : Int) == 1) = false := beq_f (by omega)
    have b2 : ((k : Int) == 2) = false := beq_f (by omega)
    have b3 : ((k : Int) == 3) = false := beq_f (by omega)
    clear hK0 hK1 hK2 hK3 hk
    go_wp2_with fail
    go_meet
    exact ⟨rfl, _, _, ST1.out.more (Nat.le_refl _) (by omega)⟩
  case rest =>
    obtain ⟨rfl, x, q, st⟩ := hcut
    have ST := Lib.hid st; clear st
    obtain ⟨r0, r1, rf0, rf1⟩ := obj_cells2 ST.out.res
    obtain ⟨e0, e1, f0, f1⟩ := ST.out.obj.cells
    clear f0 f1
    go_wp2_with fail
    have FN := Lib.hid (conf_end ST.out (v0 := .slice x.a x.n x.c) (v1 := .slice x.b x.m x.d))
    exact bodyPost_ret (v := .agg #[.slice x.a x.n x.c, .slice x.b x.m x.d]) (by simp [results, Try.results43, go_sem, r0, r1]) rfl ⟨x, q, rfl, ST.out.m, FN.out.1, FN.out.2.1, ST.out.q, FN.out.2.2⟩
end Go.Proofs.Ytejooloflcldiaa
