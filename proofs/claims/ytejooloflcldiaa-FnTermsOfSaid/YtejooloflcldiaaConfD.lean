/- How words are drawn to be read: the walks. Conditions: bounds on how often the reader is read. -/
import Derived.Test.YtejooloflcldiaaConfB
import Derived.Deep.DeepCutAuto
import Derived.Deep.CutBlock
namespace Go.Proofs.Ytejooloflcldiaa
open Go.ChangeShapes Go.WideShapes Go.RowKit
theorem strs_made {w : World} {B : Nat} (hB : B ≤ w.heap.size) (ss : List ByteArray) (n : Nat) (hl : ss.length = n) (hn : n ≤ 1000) (hf : ∀ s ∈ ss, s.size ≤ 100) {cs : Array Value} (hcs : cs = (ss.map Value.string).toArray) : OwnStrs (w.alloc (.cells cs 9)) B (some ⟨w.heap.size, 0, none⟩) n n ss := by
  refine ⟨hl, fun j => ?_, ?_⟩
  · unfold nthS
    cases hj : ss[j]? with
    | none => simp
    | some s => have := hf s (List.mem_of_getElem? hj); simp; unfold maxLen; omega
  · have := World.ownsRow_lit (base := B) (e := 9) (size := 1) w cs n hB (by unfold maxLen; omega) (by rw [hcs]; simp [hl])
    rw [hcs] at this ⊢
    rw [← tab_set0 ss n hl]
    simpa using this
/-- The result is stored. -/
theorem conf_end {w0 w : World} {g R D most ms : Nat} {x : ConfA} {q : Nat} (h : CSt w0 g R D most ms w x q) {v0 v1 : Value} :
    ConfOwn ((w.setCell ⟨R, 0, none⟩ v0).setCell ⟨R, 1, none⟩ v1) w0.heap.size x ∧ Rdr ((w.setCell ⟨R, 0, none⟩ v0).setCell ⟨R, 1, none⟩ v1) g q ∧ w0.grownBy ((w.setCell ⟨R, 0, none⟩ v0).setCell ⟨R, 1, none⟩ v1) (some g) := by
  have hrd := h.rd
  have hle := h.le
  have hlt := h.lt
  have d : ∀ (w' : World) (j : Nat) (v : Value), (ConfOwn w' w0.heap.size x ∧ ∃ cs, w'.heap[R]? = some (.cells cs 30 (0, 0))) → ConfOwn (w'.setCell ⟨R, j, none⟩ v) w0.heap.size x ∧ ∃ cs, (w'.setCell ⟨R, j, none⟩ v).heap[R]? = some (.cells cs 30 (0, 0)) := fun w' j v ⟨h1, cs, h2⟩ => ⟨h1.kept (put_only ⟨R, j, none⟩ v) (fun k hk => by injection hk with hk; have e : R = k := hk; rw [← e]; exact .inr ⟨_, _, by decide, by decide, h2⟩), by simp [World.setCell, Array.getElem?_modify, h2]⟩
  have k : ∀ (w' : World) (j : Nat) (v : Value), Rdr w' g q → Rdr (w'.setCell ⟨R, j, none⟩ v) g q := fun w' j v hr => hr.kept (put_only _ _) (fun k hk => by injection hk with hk; have : R = k := hk; omega)
  have o : ∀ (w' : World) (j : Nat) (v : Value), w0.grownBy w' (some g) → w0.grownBy (w'.setCell ⟨R, j, none⟩ v) (some g) := fun w' j v hr => grow_only hr (put_only _ _) (fun k hk => by injection hk with hk; have : R = k := hk; omega)
  exact ⟨(d _ _ _ (d _ _ _ ⟨h.own, _, h.res⟩)).1, k _ _ _ (k _ _ _ h.rdr), o _ _ _ (o _ _ _ h.only)⟩
def noneC : ConfA := ⟨none, 0, 0, [], none, 0, 0, []⟩
theorem conf_start {w : World} {g p : Nat} (hr : Rdr w g p) : CSt w g w.heap.size (w.heap.size + 1) p 0 ((w.alloc (.cells #[.slice none 0 0, .slice none 0 0] 30)).alloc (.cells #[.slice none 0 0, .slice none 0 0] 30)) noneC p := by
  refine ⟨Nat.le_refl _, ?_, ⟨⟨rfl, fun j => by simp [nthS, noneC], World.ownsRow_nil _ _ _ _⟩, World.ownsRow_nil _ _ _ _, rfl, by simp [noneC], by simp [noneC], by simp [noneC]⟩, (hr.alloc _).alloc _, Nat.le_refl _, only_alloc (only_alloc (World.grownBy.refl _ _) _) _, hr.lt, Nat.le_refl _, Nat.lt_succ_self _, ?_⟩
  · have h1 := heap_alloc_new (w.alloc (.cells #[.slice none 0 0, .slice none 0 0] 30)) (.cells #[.slice none 0 0, .slice none 0 0] 30)
    simpa [ConfObj, noneC] using h1
  · rw [Below.heap_alloc _ _ _ (by simp)]; exact heap_alloc_new _ _
theorem CSt.syns1 {w0 w : World} {g R D most ms : Nat} {x : ConfA} {q : Nat} (h : CSt w0 g R D most ms w x q) (ss : List ByteArray) (n : Nat) (tw : ByteArray) (hl : ss.length = n) (hn : n ≤ 3) (ht : tw.size ≤ 12) (hf : ∀ s ∈ ss, s.size ≤ 100) (hm : 1 ≤ ms) {cs : Array Value} (hcs : cs = (ss.map Value.string).toArray) :
    CSt w0 g R D most ms (((w.alloc (.cells cs 9)).alloc (.cells #[.slice (some ⟨w.heap.size, 0, none⟩) n n, .string tw] 53)).setCell ⟨D, 1, none⟩ (.slice (some ⟨w.heap.size + 1, 0, none⟩) 1 1)) { x with b := some ⟨w.heap.size + 1, 0, none⟩, m := 1, d := 1, ys := [⟨some ⟨w.heap.size, 0, none⟩, n, n, ss, tw⟩] } q := by
  have hsz := h.only.size
  have hb1 : Below w.heap.size w (w.alloc (.cells cs 9)) := (Below.refl _ _).alloc (Nat.le_refl _) _
  have hb2 : Below (w.alloc (.cells cs 9)).heap.size (w.alloc (.cells cs 9)) ((w.alloc (.cells cs 9)).alloc (.cells #[.slice (some ⟨w.heap.size, 0, none⟩) n n, .string tw] 53)) := (Below.refl _ _).alloc (Nat.le_refl _) _
  have o1 := (strs_made hsz ss n hl (by omega) hf hcs).below hb2
  have o2 := World.ownsRow_lit (base := w0.heap.size) (e := 53) (size := 2) (w.alloc (.cells cs 9)) #[.slice (some ⟨w.heap.size, 0, none⟩) n n, .string tw] 1 (by simp; omega) (by decide) rfl
  rw [World.size_alloc] at o2
  refine ((h.below hb1).below hb2).syns (some ⟨w.heap.size + 1, 0, none⟩) 1 1 [⟨some ⟨w.heap.size, 0, none⟩, n, n, ss, tw⟩] rfl (by omega) hm ?_ ?_
  · exact o2
  · intro y hy
    rw [List.mem_singleton] at hy
    subst hy
    exact ⟨o1, hn, ht⟩
theorem CSt.syns3 {w0 w : World} {g R D most ms : Nat} {x : ConfA} {q : Nat} (h : CSt w0 g R D most ms w x q) (s1 s2 s3 : List ByteArray) (n1 n2 n3 : Nat) (t1 t2 t3 : ByteArray) (l1 : s1.length = n1) (l2 : s2.length = n2) (l3 : s3.length = n3) (m1 : n1 ≤ 3) (m2 : n2 ≤ 3) (m3 : n3 ≤ 3) (z1 : t1.size ≤ 12) (z2 : t2.size ≤ 12) (z3 : t3.size ≤ 12) (f1 : ∀ s ∈ s1, s.size ≤ 100) (f2 : ∀ s ∈ s2, s.size ≤ 100) (f3 : ∀ s ∈ s3, s.size ≤ 100) (hm : 3 ≤ ms) {c1 c2 c3 : Array Value} (hc1 : c1 = (s1.map Value.string).toArray) (hc2 : c2 = (s2.map Value.string).toArray) (hc3 : c3 = (s3.map Value.string).toArray) :
    CSt w0 g R D most ms (((((w.alloc (.cells c1 9)).alloc (.cells c2 9)).alloc (.cells c3 9)).alloc (.cells #[.slice (some ⟨w.heap.size, 0, none⟩) n1 n1, .string t1, .slice (some ⟨w.heap.size + 1, 0, none⟩) n2 n2, .string t2, .slice (some ⟨w.heap.size + 1 + 1, 0, none⟩) n3 n3, .string t3] 53)).setCell ⟨D, 1, none⟩ (.slice (some ⟨w.heap.size + 1 + 1 + 1, 0, none⟩) 3 3)) { x with b := some ⟨w.heap.size + 1 + 1 + 1, 0, none⟩, m := 3, d := 3, ys := [⟨some ⟨w.heap.size, 0, none⟩, n1, n1, s1, t1⟩, ⟨some ⟨w.heap.size + 1, 0, none⟩, n2, n2, s2, t2⟩, ⟨some ⟨w.heap.size + 1 + 1, 0, none⟩, n3, n3, s3, t3⟩] } q := by
  have hsz := h.only.size
  have al : ∀ (w : World) o, Below w.heap.size w (w.alloc o) := fun w o => (Below.refl _ _).alloc (Nat.le_refl _) _
  have hb1 := al w (.cells c1 9)
  have o1 := strs_made (w := w) hsz s1 n1 l1 (by omega) f1 hc1
  obtain ⟨w1, e1⟩ : ∃ w1, w1 = w.alloc (.cells c1 9) := ⟨_, rfl⟩
  have q1 : w1.heap.size = w.heap.size + 1 := by rw [e1]; simp
  rw [← e1] at hb1 o1 ⊢
  have hb2 := al w1 (.cells c2 9)
  have o2 := strs_made (w := w1) (B := w0.heap.size) (by omega) s2 n2 l2 (by omega) f2 hc2
  obtain ⟨w2, e2⟩ : ∃ w2, w2 = w1.alloc (.cells c2 9) := ⟨_, rfl⟩
  have q2 : w2.heap.size = w.heap.size + 1 + 1 := by rw [e2]; simp [q1]
  rw [← e2] at hb2 o2 ⊢
  have hb3 := al w2 (.cells c3 9)
  have o3 := strs_made (w := w2) (B := w0.heap.size) (by omega) s3 n3 l3 (by omega) f3 hc3
  obtain ⟨w3, e3⟩ : ∃ w3, w3 = w2.alloc (.cells c3 9) := ⟨_, rfl⟩
  have q3 : w3.heap.size = w.heap.size + 1 + 1 + 1 := by rw [e3]; simp [q2]
  rw [← e3] at hb3 o3 ⊢
  rw [q1] at o2
  rw [q2] at o3
  have o4 := World.ownsRow_lit (base := w0.heap.size) (e := 53) (size := 2) w3 #[.slice (some ⟨w.heap.size, 0, none⟩) n1 n1, .string t1, .slice (some ⟨w.heap.size + 1, 0, none⟩) n2 n2, .string t2, .slice (some ⟨w.heap.size + 1 + 1, 0, none⟩) n3 n3, .string t3] 3 (by omega) (by decide) rfl
  have hb4 := al w3 (.cells #[.slice (some ⟨w.heap.size, 0, none⟩) n1 n1, .string t1, .slice (some ⟨w.heap.size + 1, 0, none⟩) n2 n2, .string t2, .slice (some ⟨w.heap.size + 1 + 1, 0, none⟩) n3 n3, .string t3] 53)
  rw [q3] at o4
  refine ((((h.below hb1).below hb2).below hb3).below hb4).syns (some ⟨w.heap.size + 1 + 1 + 1, 0, none⟩) 3 3 _ rfl (by omega) hm ?_ ?_
  · exact o4
  · intro y hy
    simp only [List.mem_cons, List.not_mem_nil, or_false] at hy
    rcases hy with rfl | rfl | rfl
    · exact ⟨((o1.below hb2).below hb3).below hb4, m1, z1⟩
    · exact ⟨(o2.below hb3).below hb4, m2, z2⟩
    · exact ⟨o3.below hb4, m3, z3⟩
theorem put_alloc {w : World} {D j : Nat} {v : Value} (o : Obj) (h : D < w.heap.size) : (w.alloc o).setCell ⟨D, j, none⟩ v = (w.setCell ⟨D, j, none⟩ v).alloc o := World.setCell_alloc_past o D j v h
theorem lt_facts {a b : Nat} (h : a < b) : a < b ∧ a ≠ b ∧ a ≠ b + 1 ∧ a ≠ b + 1 + 1 ∧ a ≠ b + 1 + 1 + 1 ∧ a < b + 1 ∧ a < b + 1 + 1 := by omega
/-- How words are read, as drawn. -/
def ConfDrawn (w : World) (g p k ms : Nat) (e : Ending) (w' : World) : Prop := ∃ (x : ConfA) (q : Nat), e = .returned x.v ∧ x.m ≤ ms ∧ ConfOwn w' w.heap.size x ∧ Rdr w' g q ∧ q ≤ p + k ∧ w.grownBy w' (some g)
set_option maxRecDepth 100000 in
set_option maxHeartbeats 4000000 in
theorem l30Conf_any (g p : Nat) {w : World} (hr : Rdr w g p) (hp : p ≤ 5000) :
    Calls Try.prog 64 #[.pointer (some ⟨g, 0, none⟩)] w (ConfDrawn w g p 3 3) := by
  have ST0 := conf_start hr
  obtain ⟨x, hx⟩ : ∃ x : ConfA, x = noneC := ⟨_, rfl⟩
  rw [← hx] at ST0
  have ST := Lib.hid (ST0.more (Nat.le_refl p) (show 0 ≤ 3 by omega))
  clear hr ST0 hx
  obtain ⟨D, hD⟩ : ∃ D, D = w.heap.size + 1 := ⟨_, rfl⟩
  rw [← hD] at ST
  go_enter Try.func64, Try.ntmps64
  have RD := Lib.hid ST.out.rdr
  go_wp2_with fail
  rw [← hD]
  have HD := Lib.hid hD; clear hD
  refine (pick_any g _ 3 RD.out (by omega) (by omega)).mono ?_
  rintro e w1 ⟨k, rfl, hk, hr1, hg1⟩
  have ST1 := Lib.hid (ST.out.read (most' := p + 1) hr1 (by omega) hg1)
  clear hr1 hg1 RD ST
  go_upto_if 7 with fail
  go_cut [3] (fun s3 wx => s3 = .pointer (some ⟨D, 0, none⟩) ∧ ConfSt w g w.heap.size D (p + 1) 3 wx)
  case first =>
    by_cases hc : 0 < k
    · have hc' : (0 : Int) < (k : Int) := by omega
      clear hc hk
      obtain ⟨d0, d1, f0, f1⟩ := ST1.out.obj.cells; obtain ⟨g1, g2, g3, g4, g5, g6, g7⟩ := lt_facts ST1.out.obj.lt
      go_wp2_with fail
      go_meet
      have hst := ST1.out.stops [⟨#[116, 104, 101]⟩] 1 rfl (by omega) (by intro s hs; simp at hs; subst hs; decide) rfl
      rw [put_alloc _ g1] at hst
      exact ⟨rfl, _, _, hst⟩
    · have hc' : (k : Int) ≤ 0 := by omega
      go_wp2_with fail
      go_meet
      exact ⟨rfl, _, _, ST1.out⟩
  case rest =>
    obtain ⟨rfl, x, q, st⟩ := hcut
    have ST := Lib.hid st; clear st
    have RD := Lib.hid ST.out.rdr
    have hq := ST.out.q
    go_wp2_with fail
    refine (pick_any g _ 4 RD.out (by omega) (by omega)).mono ?_
    rintro e w1 ⟨k, rfl, hk, hr1, hg1⟩
    have ST1 := Lib.hid (ST.out.read (most' := p + 2) hr1 (by omega) hg1)
    clear hr1 hg1 RD ST hq
    go_upto_if 12 with fail
    go_cut [3] (fun s3 wx => s3 = .pointer (some ⟨D, 0, none⟩) ∧ ConfSt w g w.heap.size D (p + 2) 3 wx)
    case first =>
      by_cases hc : k = 0
      · have b0 : ((k : Int) == 0) = true := beq_t (by omega)
        clear hc hk
        obtain ⟨d0, d1, f0, f1⟩ := ST1.out.obj.cells; obtain ⟨g1, g2, g3, g4, g5, g6, g7⟩ := lt_facts ST1.out.obj.lt
        go_wp2_with fail
        go_meet
        have hst := ST1.out.stops [⟨#[100, 111, 103]⟩, ⟨#[116, 104, 101]⟩] 2 rfl (by omega) (by intro s hs; simp at hs; rcases hs with rfl | rfl <;> decide) rfl
        rw [put_alloc _ g1] at hst
        exact ⟨rfl, _, _, hst⟩
      · have b0 : ((k : Int) == 0) = false := beq_f (by omega)
        go_wp2_with fail
        go_meet
        exact ⟨rfl, _, _, ST1.out⟩
    case rest =>
      obtain ⟨rfl, x, q, st⟩ := hcut
      have ST := Lib.hid st; clear st
      have RD := Lib.hid ST.out.rdr
      have hq := ST.out.q
      go_wp2_with fail
      refine (pick_any g _ 4 RD.out (by omega) (by omega)).mono ?_
      rintro e w1 ⟨k, rfl, hk, hr1, hg1⟩
      have ST1 := Lib.hid (ST.out.read (most' := p + 3) hr1 (by omega) hg1)
      clear hr1 hg1 RD ST hq
      go_upto_block 0 with fail
      go_cut [3] (fun s3 wx => s3 = .pointer (some ⟨D, 0, none⟩) ∧ ConfSt w g w.heap.size D (p + 3) 3 wx)
      case first =>
        obtain ⟨d0, d1, f0, f1⟩ := ST1.out.obj.cells; obtain ⟨g1, g2, g3, g4, g5, g6, g7⟩ := lt_facts ST1.out.obj.lt
        by_cases hK0 : k = 0
        · have b0 : ((k : Int) == 0) = true := beq_t (by omega)
          clear hK0 hk
          go_wp2_with fail
          go_meet
          have hst := ST1.out.syns1 [⟨#[110, 101, 119]⟩, ⟨#[121, 111, 114, 107]⟩] 2 ⟨#[110, 121]⟩ rfl (by omega) (by decide) (by intro s hs; simp at hs; rcases hs with rfl | rfl <;> decide) (by omega) rfl
          rw [put_alloc _ (by simp; omega), put_alloc _ g1] at hst
          exact ⟨rfl, _, _, hst⟩
        by_cases hK1 : k = 1
        · have b0 : ((k : Int) == 0) = false := beq_f (by omega)
          have b1 : ((k : Int) == 1) = true := beq_t (by omega)
          clear hK0 hK1 hk
          go_wp2_with fail
          go_meet
          have hst := ST1.out.syns3 [⟨#[98, 105, 103]⟩] [⟨#[98, 105, 103]⟩, ⟨#[114, 101, 100]⟩, ⟨#[102, 111, 120]⟩] [⟨#[110, 101, 119]⟩, ⟨#[121, 111, 114, 107]⟩] 1 3 2 ⟨#[108, 97, 114, 103]⟩ ⟨#[102, 111, 120]⟩ ⟨#[110, 121]⟩ rfl rfl rfl (by omega) (by omega) (by omega) (by decide) (by decide) (by decide) (by intro s hs; simp at hs; subst hs; decide) (by intro s hs; simp at hs; rcases hs with rfl | rfl | rfl <;> decide) (by intro s hs; simp at hs; rcases hs with rfl | rfl <;> decide) (by omega) rfl rfl rfl
          rw [put_alloc _ (by simp; omega), put_alloc _ (by simp; omega), put_alloc _ (by simp; omega), put_alloc _ g1] at hst
          exact ⟨rfl, _, _, hst⟩
        have b0 : ((k : Int) == 0) = false := beq_f (by omega)
        have b1 : ((k : Int) == 1) = false := beq_f (by omega)
        clear hK0 hK1 hk
        go_wp2_with fail
        go_meet
        exact ⟨rfl, _, _, ST1.out⟩
      case rest =>
        obtain ⟨rfl, x, q, st⟩ := hcut
        have ST := Lib.hid st; clear st
        obtain ⟨r0, r1, rf0, rf1⟩ := obj_cells2 ST.out.res
        obtain ⟨e0, e1, f0, f1⟩ := ST.out.obj.cells
        clear f0 f1
        go_wp2_with fail
        have FN := Lib.hid (conf_end ST.out (v0 := .slice x.a x.n x.c) (v1 := .slice x.b x.m x.d))
        exact bodyPost_ret (v := .agg #[.slice x.a x.n x.c, .slice x.b x.m x.d]) (by simp [results, Try.results64, go_sem, r0, r1]) rfl ⟨x, q, rfl, ST.out.m, FN.out.1, FN.out.2.1, ST.out.q, FN.out.2.2⟩
end Go.Proofs.Ytejooloflcldiaa
