/- How words are read, with a text or a word, as drawn. Conditions: what is read fits the model's sizes. -/
import Derived.Test.YtejooloflcldiaaConfE
import Derived.Deep.RegionWith
namespace Go.Proofs.Ytejooloflcldiaa
open Go.ChangeShapes Go.WideShapes Go.RowKit
theorem conf_stored {w w0 : World} {R B : Nat} {x : ConfA} (h : ConfOwn w B x) (hr : w.heap[R]? = some (.cells #[.slice none 0 0, .slice none 0 0] 30 (0, 0))) (hb : Below w0.heap.size w0 w) (hR : w0.heap.size ≤ R) {v0 v1 : Value} :
    ConfOwn ((w.setCell ⟨R, 0, none⟩ v0).setCell ⟨R, 1, none⟩ v1) B x ∧ Below w0.heap.size w0 ((w.setCell ⟨R, 0, none⟩ v0).setCell ⟨R, 1, none⟩ v1) := by
  have d : ∀ (w' : World) (j : Nat) (v : Value), (ConfOwn w' B x ∧ ∃ cs, w'.heap[R]? = some (.cells cs 30 (0, 0))) → ConfOwn (w'.setCell ⟨R, j, none⟩ v) B x ∧ ∃ cs, (w'.setCell ⟨R, j, none⟩ v).heap[R]? = some (.cells cs 30 (0, 0)) := fun w' j v ⟨h1, cs, h2⟩ => ⟨h1.kept (put_only ⟨R, j, none⟩ v) (fun k hk => by injection hk with hk; have e : R = k := hk; rw [← e]; exact .inr ⟨_, _, by decide, by decide, h2⟩), by simp [World.setCell, Array.getElem?_modify, h2]⟩
  exact ⟨(d _ _ _ (d _ _ _ ⟨h, _, hr⟩)).1, (hb.setCell (p := ⟨R, 0, none⟩) hR v0).setCell (p := ⟨R, 1, none⟩) hR v1⟩
/-- How words are read, and a text, as drawn. -/
def DrawnCT (w : World) (e : Ending) (w' : World) : Prop := ∃ (x : ConfA) (s : ByteArray), e = .returned (.tuple #[x.v, .string s]) ∧ s.size ≤ 400 ∧ ConfOwn w' w.heap.size x ∧ Below w.heap.size w w'
set_option maxHeartbeats 1000000 in
theorem DrawTermsOf_any (a : Option Addr) (n cap : Nat) (xs : List Int) {w : World} (hx : Byts w a n cap xs) (hn : n ≤ 1048576) :
    Calls Try.prog 20 #[.slice a n cap] w (DrawnCT w) := by
  have HX := Lib.hid hx; clear hx
  have BA := Lib.hid ((Below.refl w.heap.size w).alloc (Nat.le_refl _) (.cells #[.slice none 0 0, .slice none 0 0] 30))
  have RS := Lib.hid (heap_alloc_new w (.cells #[.slice none 0 0, .slice none 0 0] 30))
  have HXA : Hid (Byts (w.alloc (.cells #[.slice none 0 0, .slice none 0 0] 30)) a n cap xs) := ⟨⟨HX.out.ints.len, HX.out.ints.fit, HX.out.ints.rd.alloc _⟩, HX.out.cap⟩
  go_enter Try.func20, Try.ntmps20
  go_wp2_with fail
  generalize w.alloc (.cells #[.slice none 0 0, .slice none 0 0] 30) = W0 at *
  refine (open_any _ _ _ _ HXA.out hn).mono ?_
  rintro e w1 ⟨rfl, hr, hb, hs⟩
  have HR := Lib.hid hr; clear hr
  have hRl : w.heap.size < W0.heap.size := (Array.getElem?_eq_some_iff.1 RS.out).1
  have B1 := Lib.hid (BA.out.trans (hb.mono BA.out.size))
  have RS1 := Lib.hid ((hb.block _ hRl).trans RS.out); clear hb hs
  go_wp2_with fail
  refine (l30AnyConf_any _ 0 HR.out (by omega)).mono ?_
  rintro e w2 ⟨x, q, rfl, hm, ho, hr2, hq, hg2⟩
  have HR2 := Lib.hid hr2; clear hr2 hm
  have s1 := HR.out.lt
  have O2 := Lib.hid ho; clear ho
  have RS2 := Lib.hid (obj_kept RS1.out hg2 (fun e => by injection e with e; omega))
  have B2 := Lib.hid (below_only B1.out hg2 (by omega) B1.out.size)
  have s2 := hg2.size
  clear hg2
  unfold ConfA.v
  go_wp2_with fail
  have OBJ := Lib.hid (heap_alloc_new w2 (.cells #[.slice x.a x.n x.c, .slice x.b x.m x.d] 30))
  have HR3 := Lib.hid (HR2.out.alloc (.cells #[.slice x.a x.n x.c, .slice x.b x.m x.d] 30))
  have BB := Lib.hid ((Below.refl w2.heap.size w2).alloc (Nat.le_refl _) (.cells #[.slice x.a x.n x.c, .slice x.b x.m x.d] 30))
  generalize w2.alloc (.cells #[.slice x.a x.n x.c, .slice x.b x.m x.d] 30) = W3 at *
  have O3 := Lib.hid (O2.out.below BB.out)
  have RS3 := Lib.hid ((BB.out.block _ (by omega)).trans RS2.out)
  have B3 := Lib.hid (B2.out.trans (BB.out.mono B2.out.size))
  generalize hD : w2.heap.size = D at *
  have DO : Hid (ConfObj W3 D x) := OBJ.out
  have hRD : w.heap.size < D := by have := B1.out.size; omega
  have gD : W0.heap.size < D := by omega
  have DL := DO.out.lt
  have DN := Nat.ne_of_lt DL
  obtain ⟨d0, d1, -, -⟩ := DO.out.cells
  clear OBJ BB hD
  go_region_with (go_at_call 49; refine (l30AnyText_any _ q (HR3.out.drewN 1) (by omega)).mono ?_; rintro e w4 ⟨s, q4, rfl, hs4, hq4, hr4, hg4⟩; have hgg := grownBy_trans (only_drewN (World.grownBy.refl W3 (some W0.heap.size)) 1) hg4; have O4 := Lib.hid ((O3.out.only hgg s1).base (B' := w.heap.size) (by omega)); have RS4 := Lib.hid (obj_kept RS3.out hgg (fun e => by injection e with e; omega)); have D4 := (DO.out.kept hgg (fun e => by injection e with e; omega)).cells; obtain ⟨u0, u1, -, -⟩ := D4; obtain ⟨r0, r1, rf0, rf1⟩ := obj_cells2 RS4.out; have B4 := Lib.hid (below_only B3.out hgg (by omega) B3.out.size); clear hr4 hg4 hgg)
  all_goals
    go_wp2_with fail
    have FN := Lib.hid (conf_stored O4.out RS4.out B4.out (Nat.le_refl _) (v0 := .slice x.a x.n x.c) (v1 := .slice x.b x.m x.d))
    exact bodyPost_ret (v := .tuple #[.agg #[.slice x.a x.n x.c, .slice x.b x.m x.d], .string s]) (by simp [results, Try.results20, go_sem, r0, r1]) rfl ⟨x, s, rfl, hs4, FN.out.1, FN.out.2⟩
set_option maxHeartbeats 1000000 in
theorem DrawTermOf_any (a : Option Addr) (n cap : Nat) (xs : List Int) {w : World} (hx : Byts w a n cap xs) (hn : n ≤ 1048576) :
    Calls Try.prog 15 #[.slice a n cap] w (DrawnCT w) := by
  have HX := Lib.hid hx; clear hx
  have BA := Lib.hid ((Below.refl w.heap.size w).alloc (Nat.le_refl _) (.cells #[.slice none 0 0, .slice none 0 0] 30))
  have RS := Lib.hid (heap_alloc_new w (.cells #[.slice none 0 0, .slice none 0 0] 30))
  have HXA : Hid (Byts (w.alloc (.cells #[.slice none 0 0, .slice none 0 0] 30)) a n cap xs) := ⟨⟨HX.out.ints.len, HX.out.ints.fit, HX.out.ints.rd.alloc _⟩, HX.out.cap⟩
  go_enter Try.func15, Try.ntmps15
  go_wp2_with fail
  generalize w.alloc (.cells #[.slice none 0 0, .slice none 0 0] 30) = W0 at *
  refine (open_any _ _ _ _ HXA.out hn).mono ?_
  rintro e w1 ⟨rfl, hr, hb, hs⟩
  have HR := Lib.hid hr; clear hr
  have hRl : w.heap.size < W0.heap.size := (Array.getElem?_eq_some_iff.1 RS.out).1
  have B1 := Lib.hid (BA.out.trans (hb.mono BA.out.size))
  have RS1 := Lib.hid ((hb.block _ hRl).trans RS.out); clear hb hs
  go_wp2_with fail
  refine (l30AnyConf_any _ 0 HR.out (by omega)).mono ?_
  rintro e w2 ⟨x, q, rfl, hm, ho, hr2, hq, hg2⟩
  have HR2 := Lib.hid hr2; clear hr2 hm
  have s1 := HR.out.lt
  have O2 := Lib.hid ho; clear ho
  have RS2 := Lib.hid (obj_kept RS1.out hg2 (fun e => by injection e with e; omega))
  have B2 := Lib.hid (below_only B1.out hg2 (by omega) B1.out.size)
  have s2 := hg2.size
  clear hg2
  unfold ConfA.v
  go_wp2_with fail
  have OBJ := Lib.hid (heap_alloc_new w2 (.cells #[.slice x.a x.n x.c, .slice x.b x.m x.d] 30))
  have HR3 := Lib.hid (HR2.out.alloc (.cells #[.slice x.a x.n x.c, .slice x.b x.m x.d] 30))
  have BB := Lib.hid ((Below.refl w2.heap.size w2).alloc (Nat.le_refl _) (.cells #[.slice x.a x.n x.c, .slice x.b x.m x.d] 30))
  generalize w2.alloc (.cells #[.slice x.a x.n x.c, .slice x.b x.m x.d] 30) = W3 at *
  have O3 := Lib.hid (O2.out.below BB.out)
  have RS3 := Lib.hid ((BB.out.block _ (by omega)).trans RS2.out)
  have B3 := Lib.hid (B2.out.trans (BB.out.mono B2.out.size))
  generalize hD : w2.heap.size = D at *
  have DO : Hid (ConfObj W3 D x) := OBJ.out
  have hRD : w.heap.size < D := by have := B1.out.size; omega
  have gD : W0.heap.size < D := by omega
  have DL := DO.out.lt
  have DN := Nat.ne_of_lt DL
  obtain ⟨d0, d1, -, -⟩ := DO.out.cells
  clear OBJ BB hD
  go_region_with (go_at_call 44; refine (of_new (w := W3.drew) _ _ 8 [_, _, _, _, _, _, _, _] (fun x => x.size ≤ 20) (HR3.out.drewN 1) rfl rfl (by omega) (by omega) (by omega) (fun x hx => by simp at hx; rcases hx with rfl | rfl | rfl | rfl | rfl | rfl | rfl | rfl <;> decide) (fun x hx => by simp at hx; rcases hx with rfl | rfl | rfl | rfl | rfl | rfl | rfl | rfl <;> decide)).mono ?_; rintro e w4 ⟨s, rfl, hs4, hr4, hg4⟩; have hgg := grownBy_trans (only_drewN (World.grownBy.refl W3 (some W0.heap.size)) 1) hg4; have O4 := Lib.hid ((O3.out.only hgg s1).base (B' := w.heap.size) (by omega)); have RS4 := Lib.hid (obj_kept RS3.out hgg (fun e => by injection e with e; omega)); have D4 := (DO.out.kept hgg (fun e => by injection e with e; omega)).cells; obtain ⟨u0, u1, -, -⟩ := D4; obtain ⟨r0, r1, rf0, rf1⟩ := obj_cells2 RS4.out; have B4 := Lib.hid (below_only B3.out hgg (by omega) B3.out.size); clear hr4 hg4 hgg)
  all_goals
    go_wp2_with fail
    have FN := Lib.hid (conf_stored O4.out RS4.out B4.out (Nat.le_refl _) (v0 := .slice x.a x.n x.c) (v1 := .slice x.b x.m x.d))
    exact bodyPost_ret (v := .tuple #[.agg #[.slice x.a x.n x.c, .slice x.b x.m x.d], .string s]) (by simp [results, Try.results15, go_sem, r0, r1]) rfl ⟨x, s, rfl, by omega, FN.out.1, FN.out.2⟩
end Go.Proofs.Ytejooloflcldiaa
