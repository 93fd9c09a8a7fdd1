/- Documents that are drawn, those too that are not so. Conditions: bounds on how often the reader is read. -/
import Derived.Test.YtlbopihffpodkaaDoorDocD
import Derived.Deep.CutBlock
namespace Go.Proofs.YtlbopihffpodkaaDoor
set_option maxRecDepth 100000
open Go.ChangeShapes Go.WideShapes Go.RowKit
/-- A document that is drawn. -/
def AnyDocDrawn (w : World) (g p : Nat) (e : Ending) (w' : World) : Prop := ∃ (x : DocA) (q : Nat), e = .returned x.v ∧ DocOwn w' w.heap.size x ∧ Rdr w' g q ∧ q ≤ p + 100 ∧ w.grownBy w' (some g)
def AnySt (w : World) (g R D most : Nat) (wx : World) : Prop := ∃ id : Int, DocSt w g R D id most 3 3 wx
theorem any_start {w w1 w2 : World} {g p q : Nat} {x : DocA} (hr : Rdr w g p) (hg1 : (w.alloc (.cells #[.int .i64 0, .slice none 0 0, .slice none 0 0] 26)).grownBy w1 (some g)) (ho : DocOwn w2 w1.heap.size x) (hn : x.n ≤ 2) (hm : x.m ≤ 2) (hr2 : Rdr w2 g q) (hg2 : w1.grownBy w2 (some g)) :
    DSt w g w.heap.size w2.heap.size x.id q 2 2 (w2.alloc (.cells #[.int .i64 x.id, .slice x.a x.n x.c, .slice x.b x.m x.d] 26)) x q := by
  have s1 := hg1.size
  have s2 := hg2.size
  have hlt := hr.lt
  simp only [World.size_alloc] at s1
  have hG := grownBy_trans (grownBy_trans (only_alloc (World.grownBy.refl w (some g)) _) hg1) hg2
  have res : w2.heap[w.heap.size]? = some (.cells #[.int .i64 0, .slice none 0 0, .slice none 0 0] 26 (0, 0)) :=
    res_kept (res_kept (heap_alloc_new w _) hg1 (fun e => by injection e with e; omega)) hg2 (fun e => by injection e with e; omega)
  refine ⟨rfl, hn, hm, heap_alloc_new w2 _, (ho.base (by omega)).below ((Below.refl _ _).alloc (Nat.le_refl _) _), hr2.alloc _, Nat.le_refl _, only_alloc hG _, hlt, Nat.le_refl _, by omega, ?_⟩
  rw [Below.heap_alloc _ _ _ (by omega)]; exact res
/-- .. once its number was set. -/
theorem DSt.num {w0 w : World} {g R D most nf nm : Nat} {id : Int} {x : DocA} {q : Nat} (h : DSt w0 g R D id most nf nm w x q) (i : Int) : DSt w0 g R D i most nf nm (w.setCell ⟨D, 0, none⟩ (.int .i64 i)) { x with id := i } q := by
  have so := set_only (w := w) ⟨D, 0, none⟩ (.int .i64 i)
  have hle := h.le
  have hrd := h.rd
  have hlt := h.lt
  have oo := h.own.apart so (fun k hk => by injection hk with hk; have e : D = k := hk; rw [← e]; exact ⟨_, _, by decide, by decide, h.obj⟩)
  exact ⟨rfl, h.n, h.m, h.obj.set0 i, ⟨oo.f, oo.g, oo.lf, oo.lg, oo.ff, oo.fg, oo.nf, oo.nm⟩, h.rdr.kept so (fun k hk => by injection hk with hk; have e : D = k := hk; omega), h.q, row_only h.only so (fun k hk => by injection hk with hk; have e : D = k := hk; omega), h.lt, h.le, h.rd, res_kept h.res so (fun e => by injection e with e; have e : D = R := e; omega)⟩
set_option maxRecDepth 100000 in
set_option maxHeartbeats 4000000 in
theorem l30AnyDoc_any (g p : Nat) {w : World} (hr : Rdr w g p) (hp : p ≤ 4000) :
    Calls Tryd.prog 21 #[.pointer (some ⟨g, 0, none⟩)] w (AnyDocDrawn w g p) := by
  have HR := Lib.hid hr; clear hr
  obtain ⟨i0, hi, hz0, hz1, hz2⟩ := info_parts info_Fd
  obtain ⟨j0, hj, z0, z1, z2⟩ := info_parts info_Ad
  go_enter Tryd.func21, Tryd.ntmps21
  go_wp2_with fail
  refine (pick_any g p 9 (HR.out.alloc _) (by omega) (by omega)).mono ?_
  rintro e w1 ⟨k0, rfl, hk0, hr1, hg1⟩
  have HR1 := Lib.hid hr1; clear hr1
  have HG1 := Lib.hid hg1; clear hg1
  go_wp2_with fail
  refine (l30Doc_any g (p + 1) (1 + (k0 : Int)) HR1.out (by omega)).mono ?_
  rintro e w2 ⟨x, q, rfl, hid, hn, hm, ho, hr2, hq, hg2⟩
  have ST := Lib.hid (any_start HR.out HG1.out ho hn hm hr2 hg2)
  clear hid ho hr2 hg2
  unfold DocA.v docV
  go_wp2_with fail
  generalize w2.alloc (.cells #[.int .i64 x.id, .slice x.a x.n x.c, .slice x.b x.m x.d] 26) = W2 at *
  generalize hD : w2.heap.size = D at *
  clear hD
  generalize hRR : w.heap.size = R at *
  have HRR := Lib.hid hRR; clear hRR
  have RD := Lib.hid ST.out.rdr
  refine (pick_any g q 14 RD.out (by omega) (by omega)).mono ?_
  rintro e w1' ⟨k, rfl, hk, hr1, hg1⟩
  have ST1 := Lib.hid (ST.out.read (most' := p + 50) hr1 (by omega) hg1)
  clear hr1 hg1 RD ST
  go_upto_block 0 with fail
  go_cut [3] (fun s3 wx => s3 = .pointer (some ⟨D, 0, none⟩) ∧ AnySt w g R D (p + 90) wx)
  case first =>
    by_cases hK0 : k = 0
    · skip
      have b0 : ((k : Int) == 0) = true := beq_t (by omega)
      clear hK0 hk
      have hq1 := ST1.out.q
      have hn1 := ST1.out.n
      have hm1 := ST1.out.m
      obtain ⟨d0, d1, d2, z0', z1', z2'⟩ := ST1.out.obj.cells
      go_wp2_with fail
      refine (one_new g _ 3 [0, 10000, 9999] (fun x => 0 ≤ x ∧ x ≤ 10000) ST1.out.rdr rfl rfl (by omega) (by omega) (by omega) (fun x hx => by simp at hx; omega) (fun x hx => by simp at hx; omega)).mono ?_
      rintro e w3 ⟨i, rfl, hi01, hr3, hg3⟩
      have ST3 := Lib.hid (ST1.out.read (most' := p + 90) hr3 (by omega) hg3)
      clear hr3 hg3 hi01 d0 d1 d2 z0' z1' z2'
      obtain ⟨d0, d1, d2, z0', z1', z2'⟩ := ST3.out.obj.cells
      go_wp2_with fail
      go_meet
      exact ⟨rfl, _, _, _, (ST3.out.num i).more (by omega) (by omega) (by omega)⟩
    by_cases hK1 : k = 1
    · skip
      have b0 : ((k : Int) == 0) = false := beq_f (by omega)
      have b1 : ((k : Int) == 1) = true := beq_t (by omega)
      clear hK1 hk
      have hq1 := ST1.out.q
      have hn1 := ST1.out.n
      have hm1 := ST1.out.m
      obtain ⟨d0, d1, d2, z0', z1', z2'⟩ := ST1.out.obj.cells
      go_wp2_with (at_builtin; refine wpList_append_own _ rfl _ _ 23 rfl w.heap.size 49 i0 (.agg #[.string ByteArray.empty, .string ByteArray.empty]) 2 32 Tryd.underlying23 hi hz0 hz1 hz2 rfl (by decide) _ _ _ rfl (ST1.out.own.f.alloc _) ⟨w1'.heap.size, 0, none⟩ 1 1 [.string ⟨#[98, 111, 100, 121]⟩, .string ⟨#[97, 103, 97, 105, 110]⟩] rfl rfl ?c1 ?c2 ?c3 ?c4 ?c5 ?_)
      case c1 => exact fd_cells _ _ _
      case c2 => intro u hu; simp at hu; rcases hu with rfl | rfl <;> rfl
      case c3 => unfold maxLen; omega
      case c4 => omega
      case c5 => have := ST1.out.only.size; simp; omega
      intro v3 w3 hown3 hgrow3 _
      obtain ⟨a3, c3, hv3⟩ := own_form hown3
      rw [hv3] at hown3
      have S3 := Lib.hid ((ST1.out.below ((Below.refl _ _).alloc (Nat.le_refl _) _)).field (by omega) (f := ⟨⟨#[98, 111, 100, 121]⟩, ⟨#[97, 103, 97, 105, 110]⟩⟩) ⟨(by decide : (⟨#[98, 111, 100, 121]⟩ : ByteArray).size ≤ 20), (by decide : (⟨#[97, 103, 97, 105, 110]⟩ : ByteArray).size ≤ 400)⟩ hown3 hgrow3)
      have o3 := ((ST1.out.below ((Below.refl _ _).alloc (Nat.le_refl _) (.cells #[.string ⟨#[98, 111, 100, 121]⟩, .string ⟨#[97, 103, 97, 105, 110]⟩] 49))).obj.kept hgrow3 ((ST1.out.below ((Below.refl _ _).alloc (Nat.le_refl _) (.cells #[.string ⟨#[98, 111, 100, 121]⟩, .string ⟨#[97, 103, 97, 105, 110]⟩] 49))).rowf).1).cells
      obtain ⟨-, e1, e2, -, f1, f2⟩ := o3
      clear hown3 hgrow3
      rw [hv3]
      clear hv3
      go_wp2_with fail
      go_meet
      exact ⟨rfl, _, _, _, S3.out.more (by omega) (by omega) (by omega)⟩
    by_cases hK2 : k = 2
    · skip
      have b0 : ((k : Int) == 0) = false := beq_f (by omega)
      have b1 : ((k : Int) == 1) = false := beq_f (by omega)
      have b2 : ((k : Int) == 2) = true := beq_t (by omega)
      clear hK2 hk
      have hq1 := ST1.out.q
      have hn1 := ST1.out.n
      have hm1 := ST1.out.m
      obtain ⟨d0, d1, d2, z0', z1', z2'⟩ := ST1.out.obj.cells
      have ll := ST1.out.obj.lt
      have ln := Nat.ne_of_lt ll
      go_wp2_with fail
      go_region_law (first
        | (refine step_append_own rfl _ _ 24 rfl w.heap.size 51 j0 (.agg #[.string ByteArray.empty, .int .i64 0]) 2 24 Tryd.underlying24 hj z0 z1 z2 rfl (by decide) _ _ _ rfl (ST2.out.own.g.alloc _) ⟨w2'.heap.size, 0, none⟩ 1 1 [.string ⟨#[122, 122]⟩, .int .i64 i] rfl rfl (fd_cells _ _ _) (by intro u hu; simp at hu; rcases hu with rfl | rfl <;> rfl) (by unfold maxLen; omega) (by omega) (by have := ST2.out.only.size; simp; omega) ?_; intro v3 w3 hown3 hgrow3 _; obtain ⟨a3, c3, hv3⟩ := own_form hown3; subst hv3; have S3 := Lib.hid ((ST2.out.below ((Below.refl _ _).alloc (Nat.le_refl _) _)).attr (by omega) (f := ⟨⟨#[122, 122]⟩, i⟩) ⟨(by decide : (⟨#[122, 122]⟩ : ByteArray).size ≤ 20), (by omega : -1 ≤ i), (by omega : i ≤ 1000000000)⟩ hown3 hgrow3); have o3 := ((ST2.out.below ((Below.refl _ _).alloc (Nat.le_refl _) (.cells #[.string ⟨#[122, 122]⟩, .int .i64 i] 51))).obj.kept hgrow3 ((ST2.out.below ((Below.refl _ _).alloc (Nat.le_refl _) (.cells #[.string ⟨#[122, 122]⟩, .int .i64 i] 51))).rowg).1).cells; obtain ⟨-, e1, e2, -, f1, f2⟩ := o3; clear hown3 hgrow3)
        | (go_simp; go_at_call 46; refine (one_new (w := w1'.drew) g _ 2 [-1, 1000000000] (fun x => -1 ≤ x ∧ x ≤ 1000000000) (ST1.out.rdr.drewN 1) rfl rfl (by omega) (by omega) (by omega) (fun x hx => by simp at hx; omega) (fun x hx => by simp at hx; omega)).mono ?_; rintro e w2' ⟨i, rfl, ⟨hi0, hi1⟩, hr2, hg2⟩; have hgg := grownBy_trans (only_drewN (World.grownBy.refl w1' (some g)) 1) hg2; have dd := cells_read ST1.out hgg; obtain ⟨dd1, dd2⟩ := dd; have ST2 := Lib.hid (ST1.out.read (most' := p + 90) hr2 (by omega) hgg); have ll := ST2.out.obj.lt; have ln := Nat.ne_of_lt ll; clear hr2 hg2 hgg))
      all_goals
        go_wp2_with fail
        go_meet
        exact ⟨rfl, _, _, _, S3.out.more (by omega) (by omega) (by omega)⟩
    by_cases hK3 : k = 3
    · skip
      have b0 : ((k : Int) == 0) = false := beq_f (by omega)
      have b1 : ((k : Int) == 1) = false := beq_f (by omega)
      have b2 : ((k : Int) == 2) = false := beq_f (by omega)
      have b3 : ((k : Int) == 3) = true := beq_t (by omega)
      clear hK3 hk
      have hq1 := ST1.out.q
      have hn1 := ST1.out.n
      have hm1 := ST1.out.m
      obtain ⟨d0, d1, d2, z0', z1', z2'⟩ := ST1.out.obj.cells
      go_wp2_with fail
      go_region_law (first
        | (refine step_append_own rfl _ _ 23 rfl w.heap.size 49 i0 (.agg #[.string ByteArray.empty, .string ByteArray.empty]) 2 32 Tryd.underlying23 hi hz0 hz1 hz2 rfl (by decide) _ _ _ rfl (ST2.out.own.f.alloc _) ⟨w2'.heap.size, 0, none⟩ 1 1 [.string ⟨#[122, 101, 100]⟩, .string s] rfl rfl (fd_cells _ _ _) (by intro u hu; simp at hu; rcases hu with rfl | rfl <;> rfl) (by unfold maxLen; omega) (by omega) (by have := ST2.out.only.size; simp; omega) ?_; intro v3 w3 hown3 hgrow3 _; obtain ⟨a3, c3, hv3⟩ := own_form hown3; subst hv3; have S3 := Lib.hid ((ST2.out.below ((Below.refl _ _).alloc (Nat.le_refl _) _)).field (by omega) (f := ⟨⟨#[122, 101, 100]⟩, s⟩) ⟨(by decide : (⟨#[122, 101, 100]⟩ : ByteArray).size ≤ 20), (by omega : s.size ≤ 400)⟩ hown3 hgrow3); have o3 := ((ST2.out.below ((Below.refl _ _).alloc (Nat.le_refl _) (.cells #[.string ⟨#[122, 101, 100]⟩, .string s] 49))).obj.kept hgrow3 ((ST2.out.below ((Below.refl _ _).alloc (Nat.le_refl _) (.cells #[.string ⟨#[122, 101, 100]⟩, .string s] 49))).rowf).1).cells; obtain ⟨-, e1, e2, -, f1, f2⟩ := o3; clear hown3 hgrow3)
        | (go_simp; go_at_call 47; refine (l30AnyText_any g _ (ST1.out.rdr.drewN 1) (by omega)).mono ?_; rintro e w2' ⟨s, q2, rfl, hs2, hq2, hr2, hg2⟩; have hgg := grownBy_trans (only_drewN (World.grownBy.refl w1' (some g)) 1) hg2; have dd := cells_read ST1.out hgg; obtain ⟨dd1, dd2⟩ := dd; have ST2 := Lib.hid (ST1.out.read (most' := p + 90) hr2 (by omega) hgg); have ll := ST2.out.obj.lt; have ln := Nat.ne_of_lt ll; clear hr2 hg2 hgg))
      all_goals
        go_wp2_with fail
        go_meet
        exact ⟨rfl, _, _, _, S3.out.more (by omega) (by omega) (by omega)⟩
    have b0 : ((k : Int) == 0) = false := beq_f (by omega)
    have b1 : ((k : Int) == 1) = false := beq_f (by omega)
    have b2 : ((k : Int) == 2) = false := beq_f (by omega)
    have b3 : ((k : Int) == 3) = false := beq_f (by omega)
    go_wp2_with fail
    go_meet
    exact ⟨rfl, _, _, _, ST1.out.more (by omega) (by omega) (by omega)⟩
  case rest =>
    obtain ⟨rfl, id, x, q, st⟩ := hcut
    have ST := Lib.hid st; clear st
    have RS := Lib.hid ST.out.res
    obtain ⟨r0, r1, r2, rf0, rf1, rf2⟩ := res_cells RS.out
    have ob := ST.out.obj.cells
    obtain ⟨e0, e1, e2, f0, f1, f2⟩ := ob
    clear f0 f1 f2
    go_wp2_with fail
    have FN := Lib.hid (doc_end ST.out (v0 := .int .i64 x.id) (v1 := .slice x.a x.n x.c) (v2 := .slice x.b x.m x.d))
    exact bodyPost_ret (v := .agg #[.int .i64 x.id, .slice x.a x.n x.c, .slice x.b x.m x.d]) (by simp [results, Tryd.results21, go_sem, r0, r1, r2]) rfl ⟨x, q, rfl, FN.out.1, FN.out.2.1, by have := ST.out.q; omega, FN.out.2.2⟩
end Go.Proofs.YtlbopihffpodkaaDoor
