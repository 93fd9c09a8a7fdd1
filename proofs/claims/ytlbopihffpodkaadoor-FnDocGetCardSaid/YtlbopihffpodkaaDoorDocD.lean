/- Documents that are drawn: the walks. Conditions: bounds on how often the reader is read. -/
import Derived.Test.YtlbopihffpodkaaDoorDocB
namespace Go.Proofs.YtlbopihffpodkaaDoor
set_option maxRecDepth 100000
open Go.ChangeShapes Go.WideShapes Go.RowKit
theorem fd_cells {w : World} (u v : Value) (e : TypeId) : ∀ j x, [u, v][j]? = some x → (w.alloc (.cells #[u, v] e)).cell? ((⟨w.heap.size, 0, none⟩ : Addr).add j) = some x := by
  intro j x hj
  match j, hj with
  | 0, hj => simp at hj; subst hj; simp [Addr.add]
  | 1, hj => simp at hj; subst hj; simp [Addr.add]
theorem res_cells {w : World} {R : Nat} (h : w.heap[R]? = some (.cells #[.int .i64 0, .slice none 0 0, .slice none 0 0] 26 (0, 0))) : w.cell? ⟨R, 0, none⟩ = some (.int .i64 0) ∧ w.cell? ⟨R, 1, none⟩ = some (.slice none 0 0) ∧ w.cell? ⟨R, 2, none⟩ = some (.slice none 0 0) ∧ w.frozen? ⟨R, 0, none⟩ = false ∧ w.frozen? ⟨R, 1, none⟩ = false ∧ w.frozen? ⟨R, 2, none⟩ = false :=
  ⟨by simp [World.cell?, h], by simp [World.cell?, h], by simp [World.cell?, h], by simp [World.frozen?, h], by simp [World.frozen?, h], by simp [World.frozen?, h]⟩
/-- The result is stored. -/
theorem doc_end {w0 w : World} {g R D most nf nm : Nat} {id : Int} {x : DocA} {q : Nat} (h : DSt w0 g R D id most nf nm w x q) {v0 v1 v2 : Value} :
    DocOwn (((w.setCell ⟨R, 0, none⟩ v0).setCell ⟨R, 1, none⟩ v1).setCell ⟨R, 2, none⟩ v2) w0.heap.size x ∧ Rdr (((w.setCell ⟨R, 0, none⟩ v0).setCell ⟨R, 1, none⟩ v1).setCell ⟨R, 2, none⟩ v2) g q ∧ w0.grownBy (((w.setCell ⟨R, 0, none⟩ v0).setCell ⟨R, 1, none⟩ v1).setCell ⟨R, 2, none⟩ v2) (some g) := by
  have hrd := h.rd
  have hle := h.le
  have hlt := h.lt
  have d : ∀ (w' : World) (j : Nat) (v : Value), (DocOwn w' w0.heap.size x ∧ ∃ cs, w'.heap[R]? = some (.cells cs 26 (0, 0))) → DocOwn (w'.setCell ⟨R, j, none⟩ v) w0.heap.size x ∧ ∃ cs, (w'.setCell ⟨R, j, none⟩ v).heap[R]? = some (.cells cs 26 (0, 0)) := fun w' j v ⟨h1, cs, h2⟩ => ⟨h1.apart (set_only ⟨R, j, none⟩ v) (fun k hk => by injection hk with hk; have e : R = k := hk; rw [← e]; exact ⟨_, _, by decide, by decide, h2⟩), by simp [World.setCell, Array.getElem?_modify, h2]⟩
  have k : ∀ (w' : World) (j : Nat) (v : Value), Rdr w' g q → Rdr (w'.setCell ⟨R, j, none⟩ v) g q := fun w' j v hr => hr.kept (set_only _ _) (fun k hk => by injection hk with hk; have : R = k := hk; omega)
  have o : ∀ (w' : World) (j : Nat) (v : Value), w0.grownBy w' (some g) → w0.grownBy (w'.setCell ⟨R, j, none⟩ v) (some g) := fun w' j v hr => row_only hr (set_only _ _) (fun k hk => by injection hk with hk; have : R = k := hk; omega)
  exact ⟨(d _ _ _ (d _ _ _ (d _ _ _ ⟨h.own, _, h.res⟩))).1, k _ _ _ (k _ _ _ (k _ _ _ h.rdr)), o _ _ _ (o _ _ _ (o _ _ _ h.only))⟩
/-- The document's cells once the reader alone was read. -/
theorem cells_read {w0 w w' : World} {g R D most nf nm : Nat} {id : Int} {x : DocA} {q : Nat} (h : DSt w0 g R D id most nf nm w x q) (hg : w.grownBy w' (some g)) : w'.cell? ⟨D, 1, none⟩ = some (.slice x.a x.n x.c) ∧ w'.cell? ⟨D, 2, none⟩ = some (.slice x.b x.m x.d) := by
  have h1 := (h.obj.kept hg (fun e => by injection e with e; have := h.lt; have := h.le; have := h.rd; omega)).cells
  exact ⟨h1.2.1, h1.2.2.1⟩
/-- A document that is drawn. -/
def DocDrawn (w : World) (g p : Nat) (id : Int) (e : Ending) (w' : World) : Prop := ∃ (x : DocA) (q : Nat), e = .returned x.v ∧ x.id = id ∧ x.n ≤ 2 ∧ x.m ≤ 2 ∧ DocOwn w' w.heap.size x ∧ Rdr w' g q ∧ q ≤ p + 46 ∧ w.grownBy w' (some g)
theorem doc_start {w : World} {g p : Nat} {id : Int} (hr : Rdr w g p) : DSt w g w.heap.size (w.heap.size + 1) id (p + 0) 0 0 ((w.alloc (.cells #[.int .i64 0, .slice none 0 0, .slice none 0 0] 26)).alloc (.cells #[.int .i64 id, .slice none 0 0, .slice none 0 0] 26)) ⟨id, none, 0, 0, [], none, 0, 0, []⟩ p := by
  refine ⟨rfl, Nat.le_refl _, Nat.le_refl _, ?_, ⟨World.ownsRow_nil _ _ _ _, World.ownsRow_nil _ _ _ _, rfl, rfl, by simp, by simp, by simp, by simp⟩, (hr.alloc _).alloc _, Nat.le_refl _, only_alloc (only_alloc (World.grownBy.refl _ _) _) _, hr.lt, Nat.le_refl _, Nat.lt_succ_self _, ?_⟩
  · have h1 := heap_alloc_new (w.alloc (.cells #[.int .i64 0, .slice none 0 0, .slice none 0 0] 26)) (.cells #[.int .i64 id, .slice none 0 0, .slice none 0 0] 26)
    simpa [DocObj] using h1
  · rw [Below.heap_alloc _ _ _ (by simp)]; exact heap_alloc_new _ _
set_option maxRecDepth 100000 in
set_option maxHeartbeats 4000000 in
theorem l30Doc_any (g p : Nat) (id : Int) {w : World} (hr : Rdr w g p) (hp : p ≤ 5000) :
    Calls Tryd.prog 32 #[.pointer (some ⟨g, 0, none⟩), .int .i64 id] w (DocDrawn w g p id) := by
  have hlt := hr.lt
  obtain ⟨i0, hi, hz0, hz1, hz2⟩ := info_parts info_Fd
  obtain ⟨j0, hj, z0, z1, z2⟩ := info_parts info_Ad
  have ST0 : DSt w g w.heap.size (w.heap.size + 1) id (p + 0) 0 0 ((w.alloc (.cells #[.int .i64 0, .slice none 0 0, .slice none 0 0] 26)).alloc (.cells #[.int .i64 id, .slice none 0 0, .slice none 0 0] 26)) ⟨id, none, 0, 0, [], none, 0, 0, []⟩ p := doc_start hr
  obtain ⟨x, hx⟩ : ∃ x : DocA, x = ⟨id, none, 0, 0, [], none, 0, 0, []⟩ := ⟨_, rfl⟩
  rw [← hx] at ST0
  have ST := Lib.hid ST0
  clear hr ST0 hx
  go_enter Tryd.func32, Tryd.ntmps32
  have RD := Lib.hid ST.out.rdr
  have hq := ST.out.q
  go_wp2_with fail
  refine (pick_any g _ 6 RD.out (by omega) (by omega)).mono ?_
  rintro e w1 ⟨k, rfl, hk, hr1, hg1⟩
  have ST1 := Lib.hid (ST.out.read (most' := p + 1) hr1 (by omega) hg1)
  clear hr1 hg1 RD ST hq
  go_upto_if 10 with fail
  go_cut [5] (fun s5 wx => s5 = .pointer (some ⟨w.heap.size + 1, 0, none⟩) ∧ DocSt w g w.heap.size (w.heap.size + 1) id (p + 21) 1 0 wx)
  case first =>
    by_cases hc : 0 < k
    · have hc' : (0 : Int) < (k : Int) := by omega
      clear hc hk
      have hq1 := ST1.out.q
      obtain ⟨d0, d1, d2, z0', z1', z2'⟩ := ST1.out.obj.cells
      have hn1 := ST1.out.n
      have hsz1 := Nat.le_trans (Nat.succ_le_of_lt ST1.out.obj.lt) (Nat.le_refl w1.heap.size)
      clear d0 z0'
      go_wp2_with fail
      go_region_law (first
        | (refine step_append_own rfl _ _ 23 rfl w.heap.size 49 i0 (.agg #[.string ByteArray.empty, .string ByteArray.empty]) 2 32 Tryd.underlying23 hi hz0 hz1 hz2 rfl (by decide) _ _ _ rfl (ST2.out.own.f.alloc _) ⟨w2.heap.size, 0, none⟩ 1 1 [.string ⟨#[98, 111, 100, 121]⟩, .string s] rfl rfl (fd_cells _ _ _) (by intro u hu; simp at hu; rcases hu with rfl | rfl <;> rfl) (by unfold maxLen; omega) (by omega) (by have := ST2.out.only.size; simp; omega) ?_; intro v3 w3 hown3 hgrow3 _; obtain ⟨a3, c3, hv3⟩ := own_form hown3; subst hv3; have S3 := Lib.hid ((ST2.out.below ((Below.refl _ _).alloc (Nat.le_refl _) _)).field (by omega) (f := ⟨⟨#[98, 111, 100, 121]⟩, s⟩) ⟨(by decide : (⟨#[98, 111, 100, 121]⟩ : ByteArray).size ≤ 20), (by omega : s.size ≤ 400)⟩ hown3 hgrow3); have o3 := ((ST2.out.below ((Below.refl _ _).alloc (Nat.le_refl _) (.cells #[.string ⟨#[98, 111, 100, 121]⟩, .string s] 49))).obj.kept hgrow3 ((ST2.out.below ((Below.refl _ _).alloc (Nat.le_refl _) (.cells #[.string ⟨#[98, 111, 100, 121]⟩, .string s] 49))).rowf).1).cells; obtain ⟨-, e1, e2, -, f1, f2⟩ := o3; clear hown3 hgrow3)
        | (go_simp; go_at_call 58; refine (l30Text_any g _ (ST1.out.rdr.drewN 1) (by omega)).mono ?_; rintro e w2 ⟨s, q2, rfl, hs2, hq2, hr2, hg2⟩; have hgg := grownBy_trans (only_drewN (World.grownBy.refl w1 (some g)) 1) hg2; have dd := cells_read ST1.out hgg; obtain ⟨dd1, dd2⟩ := dd; have ST2 := Lib.hid (ST1.out.read (most' := p + 21) hr2 (by omega) hgg); have ll := ST2.out.obj.lt; have ln := Nat.ne_of_lt ll; clear hr2 hg2 hgg))
      all_goals
        go_wp2_with fail
        go_meet
        exact ⟨rfl, _, _, S3.out⟩
    · have hc' : (k : Int) ≤ 0 := by omega
      go_wp2_with fail
      go_meet
      exact ⟨rfl, _, _, ST1.out.more (by omega) (by omega) (by omega)⟩
  case rest =>
    obtain ⟨rfl, x, q, st⟩ := hcut
    have ST := Lib.hid st; clear st
    have RD := Lib.hid ST.out.rdr
    have hq := ST.out.q
    go_wp2_with fail
    refine (pick_any g _ 3 RD.out (by omega) (by omega)).mono ?_
    rintro e w1 ⟨k, rfl, hk, hr1, hg1⟩
    have ST1 := Lib.hid (ST.out.read (most' := p + 22) hr1 (by omega) hg1)
    clear hr1 hg1 RD ST hq
    go_upto_if 21 with fail
    go_cut [5] (fun s5 wx => s5 = .pointer (some ⟨w.heap.size + 1, 0, none⟩) ∧ DocSt w g w.heap.size (w.heap.size + 1) id (p + 42) 2 0 wx)
    case first =>
      by_cases hc : k = 0
      · have b0 : ((k : Int) == 0) = true := beq_t (by omega)
        clear hc hk
        have hq1 := ST1.out.q
        obtain ⟨d0, d1, d2, z0', z1', z2'⟩ := ST1.out.obj.cells
        have hn1 := ST1.out.n
        have hsz1 := Nat.le_trans (Nat.succ_le_of_lt ST1.out.obj.lt) (Nat.le_refl w1.heap.size)
        clear d0 z0'
        go_wp2_with fail
        go_region_law (first
          | (refine step_append_own rfl _ _ 23 rfl w.heap.size 49 i0 (.agg #[.string ByteArray.empty, .string ByteArray.empty]) 2 32 Tryd.underlying23 hi hz0 hz1 hz2 rfl (by decide) _ _ _ rfl (ST2.out.own.f.alloc _) ⟨w2.heap.size, 0, none⟩ 1 1 [.string ⟨#[116, 105, 116, 108, 101]⟩, .string s] rfl rfl (fd_cells _ _ _) (by intro u hu; simp at hu; rcases hu with rfl | rfl <;> rfl) (by unfold maxLen; omega) (by omega) (by have := ST2.out.only.size; simp; omega) ?_; intro v3 w3 hown3 hgrow3 _; obtain ⟨a3, c3, hv3⟩ := own_form hown3; subst hv3; have S3 := Lib.hid ((ST2.out.below ((Below.refl _ _).alloc (Nat.le_refl _) _)).field (by omega) (f := ⟨⟨#[116, 105, 116, 108, 101]⟩, s⟩) ⟨(by decide : (⟨#[116, 105, 116, 108, 101]⟩ : ByteArray).size ≤ 20), (by omega : s.size ≤ 400)⟩ hown3 hgrow3); have o3 := ((ST2.out.below ((Below.refl _ _).alloc (Nat.le_refl _) (.cells #[.string ⟨#[116, 105, 116, 108, 101]⟩, .string s] 49))).obj.kept hgrow3 ((ST2.out.below ((Below.refl _ _).alloc (Nat.le_refl _) (.cells #[.string ⟨#[116, 105, 116, 108, 101]⟩, .string s] 49))).rowf).1).cells; obtain ⟨-, e1, e2, -, f1, f2⟩ := o3; clear hown3 hgrow3)
          | (go_simp; go_at_call 58; refine (l30Text_any g _ (ST1.out.rdr.drewN 1) (by omega)).mono ?_; rintro e w2 ⟨s, q2, rfl, hs2, hq2, hr2, hg2⟩; have hgg := grownBy_trans (only_drewN (World.grownBy.refl w1 (some g)) 1) hg2; have dd := cells_read ST1.out hgg; obtain ⟨dd1, dd2⟩ := dd; have ST2 := Lib.hid (ST1.out.read (most' := p + 42) hr2 (by omega) hgg); have ll := ST2.out.obj.lt; have ln := Nat.ne_of_lt ll; clear hr2 hg2 hgg))
        all_goals
          go_wp2_with fail
          go_meet
          exact ⟨rfl, _, _, S3.out⟩
      · have b0 : ((k : Int) == 0) = false := beq_f (by omega)
        go_wp2_with fail
        go_meet
        exact ⟨rfl, _, _, ST1.out.more (by omega) (by omega) (by omega)⟩
    case rest =>
      obtain ⟨rfl, x, q, st⟩ := hcut
      have ST := Lib.hid st; clear st
      have RD := Lib.hid ST.out.rdr
      have hq := ST.out.q
      go_wp2_with fail
      refine (pick_any g _ 3 RD.out (by omega) (by omega)).mono ?_
      rintro e w1 ⟨k, rfl, hk, hr1, hg1⟩
      have ST1 := Lib.hid (ST.out.read (most' := p + 43) hr1 (by omega) hg1)
      clear hr1 hg1 RD ST hq
      go_upto_if 32 with fail
      go_cut [5] (fun s5 wx => s5 = .pointer (some ⟨w.heap.size + 1, 0, none⟩) ∧ DocSt w g w.heap.size (w.heap.size + 1) id (p + 44) 2 1 wx)
      case first =>
        by_cases hc : 0 < k
        · have hc' : (0 : Int) < (k : Int) := by omega
          clear hc hk
          have hq1 := ST1.out.q
          obtain ⟨d0, d1, d2, z0', z1', z2'⟩ := ST1.out.obj.cells
          have hn1 := ST1.out.m
          have hsz1 := Nat.le_trans (Nat.succ_le_of_lt ST1.out.obj.lt) (Nat.le_refl w1.heap.size)
          clear d0 z0'
          go_wp2_with fail
          go_region_law (first
            | (refine step_append_own rfl _ _ 24 rfl w.heap.size 51 j0 (.agg #[.string ByteArray.empty, .int .i64 0]) 2 24 Tryd.underlying24 hj z0 z1 z2 rfl (by decide) _ _ _ rfl (ST2.out.own.g.alloc _) ⟨w2.heap.size, 0, none⟩ 1 1 [.string ⟨#[114, 97, 116, 101]⟩, .int .i64 (k2 : Int)] rfl rfl (fd_cells _ _ _) (by intro u hu; simp at hu; rcases hu with rfl | rfl <;> rfl) (by unfold maxLen; omega) (by omega) (by have := ST2.out.only.size; simp; omega) ?_; intro v3 w3 hown3 hgrow3 _; obtain ⟨a3, c3, hv3⟩ := own_form hown3; subst hv3; have S3 := Lib.hid ((ST2.out.below ((Below.refl _ _).alloc (Nat.le_refl _) _)).attr (by omega) (f := ⟨⟨#[114, 97, 116, 101]⟩, (k2 : Int)⟩) ⟨(by decide : (⟨#[114, 97, 116, 101]⟩ : ByteArray).size ≤ 20), (by omega : -1 ≤ (k2 : Int)), (by omega : (k2 : Int) ≤ 1000000000)⟩ hown3 hgrow3); have o3 := ((ST2.out.below ((Below.refl _ _).alloc (Nat.le_refl _) (.cells #[.string ⟨#[114, 97, 116, 101]⟩, .int .i64 (k2 : Int)] 51))).obj.kept hgrow3 ((ST2.out.below ((Below.refl _ _).alloc (Nat.le_refl _) (.cells #[.string ⟨#[114, 97, 116, 101]⟩, .int .i64 (k2 : Int)] 51))).rowg).1).cells; obtain ⟨-, e1, e2, -, f1, f2⟩ := o3; clear hown3 hgrow3)
            | (go_simp; go_at_call 33; refine (pick_any g _ 4 (ST1.out.rdr.drewN 1) (by omega) (by omega)).mono ?_; rintro e w2 ⟨k2, rfl, hk2, hr2, hg2⟩; have hgg := grownBy_trans (only_drewN (World.grownBy.refl w1 (some g)) 1) hg2; have dd := cells_read ST1.out hgg; obtain ⟨dd1, dd2⟩ := dd; have ST2 := Lib.hid (ST1.out.read (most' := p + 44) hr2 (by omega) hgg); have ll := ST2.out.obj.lt; have ln := Nat.ne_of_lt ll; clear hr2 hg2 hgg))
          all_goals
            go_wp2_with fail
            go_meet
            exact ⟨rfl, _, _, S3.out⟩
        · have hc' : (k : Int) ≤ 0 := by omega
          go_wp2_with fail
          go_meet
          exact ⟨rfl, _, _, ST1.out.more (by omega) (by omega) (by omega)⟩
      case rest =>
        obtain ⟨rfl, x, q, st⟩ := hcut
        have ST := Lib.hid st; clear st
        have RD := Lib.hid ST.out.rdr
        have hq := ST.out.q
        go_wp2_with fail
        refine (pick_any g _ 3 RD.out (by omega) (by omega)).mono ?_
        rintro e w1 ⟨k, rfl, hk, hr1, hg1⟩
        have ST1 := Lib.hid (ST.out.read (most' := p + 45) hr1 (by omega) hg1)
        clear hr1 hg1 RD ST hq
        go_upto_if 43 with fail
        go_cut [5] (fun s5 wx => s5 = .pointer (some ⟨w.heap.size + 1, 0, none⟩) ∧ DocSt w g w.heap.size (w.heap.size + 1) id (p + 46) 2 2 wx)
        case first =>
          by_cases hc : k = 0
          · have b0 : ((k : Int) == 0) = true := beq_t (by omega)
            clear hc hk
            have hq1 := ST1.out.q
            obtain ⟨d0, d1, d2, z0', z1', z2'⟩ := ST1.out.obj.cells
            have hn1 := ST1.out.m
            have hsz1 := Nat.le_trans (Nat.succ_le_of_lt ST1.out.obj.lt) (Nat.le_refl w1.heap.size)
            clear d0 z0'
            go_wp2_with fail
            go_region_law (first
              | (refine step_append_own rfl _ _ 24 rfl w.heap.size 51 j0 (.agg #[.string ByteArray.empty, .int .i64 0]) 2 24 Tryd.underlying24 hj z0 z1 z2 rfl (by decide) _ _ _ rfl (ST2.out.own.g.alloc _) ⟨w2.heap.size, 0, none⟩ 1 1 [.string ⟨#[121, 101, 97, 114]⟩, .int .i64 (IntKind.i64.wrap (2000 + (k2 : Int)))] rfl rfl (fd_cells _ _ _) (by intro u hu; simp at hu; rcases hu with rfl | rfl <;> rfl) (by unfold maxLen; omega) (by omega) (by have := ST2.out.only.size; simp; omega) ?_; intro v3 w3 hown3 hgrow3 _; obtain ⟨a3, c3, hv3⟩ := own_form hown3; subst hv3; have S3 := Lib.hid ((ST2.out.below ((Below.refl _ _).alloc (Nat.le_refl _) _)).attr (by omega) (f := ⟨⟨#[121, 101, 97, 114]⟩, (IntKind.i64.wrap (2000 + (k2 : Int)))⟩) ⟨(by decide : (⟨#[121, 101, 97, 114]⟩ : ByteArray).size ≤ 20), (by rw [IntWalk.i64_in _ (by omega)]; omega : -1 ≤ (IntKind.i64.wrap (2000 + (k2 : Int)))), (by rw [IntWalk.i64_in _ (by omega)]; omega : (IntKind.i64.wrap (2000 + (k2 : Int))) ≤ 1000000000)⟩ hown3 hgrow3); have o3 := ((ST2.out.below ((Below.refl _ _).alloc (Nat.le_refl _) (.cells #[.string ⟨#[121, 101, 97, 114]⟩, .int .i64 (IntKind.i64.wrap (2000 + (k2 : Int)))] 51))).obj.kept hgrow3 ((ST2.out.below ((Below.refl _ _).alloc (Nat.le_refl _) (.cells #[.string ⟨#[121, 101, 97, 114]⟩, .int .i64 (IntKind.i64.wrap (2000 + (k2 : Int)))] 51))).rowg).1).cells; obtain ⟨-, e1, e2, -, f1, f2⟩ := o3; clear hown3 hgrow3)
              | (go_simp; go_at_call 33; refine (pick_any g _ 30 (ST1.out.rdr.drewN 1) (by omega) (by omega)).mono ?_; rintro e w2 ⟨k2, rfl, hk2, hr2, hg2⟩; have hgg := grownBy_trans (only_drewN (World.grownBy.refl w1 (some g)) 1) hg2; have dd := cells_read ST1.out hgg; obtain ⟨dd1, dd2⟩ := dd; have ST2 := Lib.hid (ST1.out.read (most' := p + 46) hr2 (by omega) hgg); have ll := ST2.out.obj.lt; have ln := Nat.ne_of_lt ll; clear hr2 hg2 hgg))
            all_goals
              go_wp2_with fail
              go_meet
              exact ⟨rfl, _, _, S3.out⟩
          · have b0 : ((k : Int) == 0) = false := beq_f (by omega)
            go_wp2_with fail
            go_meet
            exact ⟨rfl, _, _, ST1.out.more (by omega) (by omega) (by omega)⟩
        case rest =>
          obtain ⟨rfl, x, q, st⟩ := hcut
          have ST := Lib.hid st; clear st
          have RS := Lib.hid ST.out.res
          obtain ⟨r0, r1, r2, rf0, rf1, rf2⟩ := res_cells RS.out
          have ob := ST.out.obj.cells
          obtain ⟨e0, e1, e2, f0, f1, f2⟩ := ob
          clear f0 f1 f2
          go_wp2_with fail
          have FN := Lib.hid (doc_end ST.out (v0 := .int .i64 x.id) (v1 := .slice x.a x.n x.c) (v2 := .slice x.b x.m x.d))
          exact bodyPost_ret (v := .agg #[.int .i64 x.id, .slice x.a x.n x.c, .slice x.b x.m x.d]) (by simp [results, Tryd.results32, go_sem, r0, r1, r2]) rfl ⟨x, q, rfl, ST.out.id, ST.out.n, ST.out.m, FN.out.1, FN.out.2.1, ST.out.q, FN.out.2.2⟩
end Go.Proofs.YtlbopihffpodkaaDoor
