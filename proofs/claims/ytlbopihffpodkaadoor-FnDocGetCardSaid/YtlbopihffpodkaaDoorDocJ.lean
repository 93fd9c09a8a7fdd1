/- Documents read out of text, by the program: the whole answer. Conditions: the text is not too long; the library's variables hold what they are laid to hold. -/
import Derived.Test.YtlbopihffpodkaaDoorDocI
namespace Go.Proofs.YtlbopihffpodkaaDoor
set_option maxRecDepth 100000
open Go.RowKit
/-- What the program's reading gives back. -/
def GotI (o : Option St) (w : World) (e : Ending) (w' : World) : Prop :=
  (match o with
  | some t => ∃ x : DocA, e = .returned (.tuple #[x.v, .bool true]) ∧ DocOwn w' w.heap.size x ∧ Same x t
  | none => e = .returned (.tuple #[docV 0 none 0 0 none 0 0, .bool false])) ∧ Below w.heap.size w w'
theorem iGet_no {s : ByteArray} (h0 : ¬ s = ⟨#[]⟩) {x : DocA} (hs : Same x (iRead s)) (h : ¬ docPut x.id x.n x.fs x.m x.ns = s) : iGet s = none := by
  obtain ⟨h1, h2, h3, h4, h5⟩ := hs
  unfold iGet
  rw [if_neg h0, if_neg]
  rintro ⟨e1, e2⟩
  refine h ?_
  have e3 : docOk x.id x.n x.fs x.m x.ns = true := by rw [h1, h2, h3, h4, h5]; exact e1
  have e4 : putA x.id x.n x.fs x.ns x.m = s := by rw [h1, h2, h3, h4, h5]; exact e2
  rw [docPut, e3]
  exact e4
theorem iGet_yes {s : ByteArray} (h0 : ¬ s = ⟨#[]⟩) {x : DocA} (hs : Same x (iRead s)) (h : docPut x.id x.n x.fs x.m x.ns = s) : iGet s = some (iRead s) ∧ OkT (iRead s) := by
  obtain ⟨h1, h2, h3, h4, h5⟩ := hs
  have e3 : docOk x.id x.n x.fs x.m x.ns = true := by
    cases hk : docOk x.id x.n x.fs x.m x.ns with
    | true => rfl
    | false => exact absurd (by rw [docPut, hk] at h; exact h.symm) h0
  have e4 : putA x.id x.n x.fs x.ns x.m = s := by rw [docPut, e3] at h; exact h
  have k1 : okSt (iRead s) = true := by have h := e3; rw [h1, h2, h3, h4, h5] at h; exact h
  have k2 : putSt (iRead s) = s := by
    have : putSt (iRead s) = putA x.id x.n x.fs x.ns x.m := by rw [h1, h2, h3, h4, h5]; rfl
    rw [this, e4]
  unfold iGet
  rw [if_neg h0, if_pos ⟨k1, k2⟩]
  exact ⟨rfl, okT k1⟩
theorem own_ok {w : World} {B : Nat} {x : DocA} {t : St} (h : RowsOwn w B x) (hs : Same x t) (ho : OkT t) : DocOwn w B x := by
  obtain ⟨h1, h2, h3, h4, h5⟩ := hs
  refine ⟨h.f, h.g, by rw [h3, h2], by rw [h5, h4], fun y hy => ?_, fun y hy => ?_, by rw [h2]; exact ho.n3, by rw [h4]; exact ho.m3⟩
  · rw [h3] at hy
    have := ho.f y hy
    simp only [wordOk, textOk, Bool.and_eq_true, decide_eq_true_eq] at this
    omega
  · rw [h5] at hy
    have := ho.g y hy
    simp only [wordOk, numOk, Bool.and_eq_true, decide_eq_true_eq] at this
    omega
theorem set3_cells {w : World} {R : Nat} {a b c : Value} {t : TypeId} (hr : w.heap[R]? = some (.cells #[a, b, c] t (0, 0))) (v0 v1 v2 : Value) (o : Obj) :
    ((((w.setCell ⟨R, 0, none⟩ v0).setCell ⟨R, 1, none⟩ v1).setCell ⟨R, 2, none⟩ v2).alloc o).cell? ⟨R, 0, none⟩ = some v0 ∧ ((((w.setCell ⟨R, 0, none⟩ v0).setCell ⟨R, 1, none⟩ v1).setCell ⟨R, 2, none⟩ v2).alloc o).cell? ⟨R, 1, none⟩ = some v1 ∧ ((((w.setCell ⟨R, 0, none⟩ v0).setCell ⟨R, 1, none⟩ v1).setCell ⟨R, 2, none⟩ v2).alloc o).cell? ⟨R, 2, none⟩ = some v2 := by
  have hl : R < w.heap.size := (Array.getElem?_eq_some_iff.1 hr).1
  have h : (((w.setCell ⟨R, 0, none⟩ v0).setCell ⟨R, 1, none⟩ v1).setCell ⟨R, 2, none⟩ v2).heap[R]? = some (.cells #[v0, v1, v2] t (0, 0)) := by simp [World.setCell, Array.getElem?_modify, hr]
  have z : (((w.setCell ⟨R, 0, none⟩ v0).setCell ⟨R, 1, none⟩ v1).setCell ⟨R, 2, none⟩ v2).heap.size = w.heap.size := by simp [World.setCell]
  exact ⟨(World.cell?_alloc_lt _ _ _ (by rw [z]; exact hl)).trans (by simp [World.cell?, h]), (World.cell?_alloc_lt _ _ _ (by rw [z]; exact hl)).trans (by simp [World.cell?, h]), (World.cell?_alloc_lt _ _ _ (by rw [z]; exact hl)).trans (by simp [World.cell?, h])⟩
set_option maxRecDepth 100000 in
set_option maxHeartbeats 4000000 in
theorem iDocGet_any (s : ByteArray) (w : World) (hs : s.size ≤ 4000000) (he : Env w) :
    Calls Tryd.prog 12 #[.string s] w (GotI (iGet s) w) := by
  have HE := Lib.hid (he.below ((Below.refl _ _).alloc (Nat.le_refl _) (.cells #[.int .i64 0, .slice none 0 0, .slice none 0 0] 26))); clear he
  have RES : Hid ((w.alloc (.cells #[.int .i64 0, .slice none 0 0, .slice none 0 0] 26)).heap[w.heap.size]? = some (.cells #[.int .i64 0, .slice none 0 0, .slice none 0 0] 26 (0, 0))) := heap_alloc_new _ _
  have B0 : Hid (Below w.heap.size w (w.alloc (.cells #[.int .i64 0, .slice none 0 0, .slice none 0 0] 26))) := (Below.refl _ _).alloc (Nat.le_refl _) _
  go_enter Tryd.func12, Tryd.ntmps12
  go_wp2_with fail
  generalize w.alloc (.cells #[.int .i64 0, .slice none 0 0, .slice none 0 0] 26) = W0 at *
  refine (Split_any s (by omega) _ HE.out).mono ?_
  rintro e w1 ⟨rfl, ho1, hb1⟩
  have hll := lines_most s
  have E1 := Lib.hid (HE.out.below hb1)
  have O1 := Lib.hid ho1.strs
  have B1 := Lib.hid (B0.out.trans (hb1.mono B0.out.size))
  have R1 : Hid (w1.heap[w.heap.size]? = some (.cells #[.int .i64 0, .slice none 0 0, .slice none 0 0] 26 (0, 0))) := (hb1.block _ (Array.getElem?_eq_some_iff.1 RES.out).1).trans RES.out
  have LZ := Lib.hid (fun j => Nat.le_trans (lines_size s j) hs)
  clear ho1 hb1 HE RES
  obtain ⟨ls, hls⟩ : ∃ l, l = lines s := ⟨_, rfl⟩
  rw [← hls] at O1 LZ hll ⊢
  have LS := Lib.hid hls; clear hls
  go_wp2_with fail
  refine (readDoc_any _ _ _ ls w1 O1.out (by omega) LZ.out E1.out).mono ?_
  rintro e w2 ⟨⟨x, rfl, hin, hrow, hsame⟩, hb2⟩
  have E2 := Lib.hid (E1.out.below hb2)
  have B2 := Lib.hid (B1.out.trans (hb2.mono B1.out.size))
  have R2 : Hid (w2.heap[w.heap.size]? = some (.cells #[.int .i64 0, .slice none 0 0, .slice none 0 0] 26 (0, 0))) := (hb2.block _ (Array.getElem?_eq_some_iff.1 R1.out).1).trans R1.out
  have SM : Hid (Same x (iRead s)) := by rw [LS.out] at hsame; exact hsame
  have IN := Lib.hid hin
  have OW := Lib.hid (hrow.base (B' := w.heap.size) B1.out.size)
  clear hin hrow hsame hb2 E1 B1 R1 O1 LZ B0
  unfold DocA.v docV
  have ll : w.heap.size < w2.heap.size := (Array.getElem?_eq_some_iff.1 R2.out).1
  have ln : w.heap.size ≠ w2.heap.size := Nat.ne_of_lt ll
  by_cases h0 : s = ⟨#[]⟩
  · subst h0
    have N : Hid (iGet ⟨#[]⟩ = none) := if_pos rfl
    obtain ⟨r0, r1, r2, rf0, rf1, rf2⟩ := res_cellsR R2.out
    obtain ⟨g0, g1, g2⟩ := set3_cells R2.out (.int .i64 0) (.slice none 0 0) (.slice none 0 0) (.cells #[.int .i64 x.id, .slice x.a x.n x.c, .slice x.b x.m x.d] 26)
    go_wp2_with fail
    exact bodyPost_ret (v := .tuple #[docV 0 none 0 0 none 0 0, .bool false]) (by simp [results, Tryd.results12, go_sem, g0, g1, g2, docV]) rfl (by rw [N.out]; exact ⟨rfl, (((B2.out.setCell (p := ⟨w.heap.size, 0, none⟩) (Nat.le_refl _) _).setCell (p := ⟨w.heap.size, 1, none⟩) (Nat.le_refl _) _).setCell (p := ⟨w.heap.size, 2, none⟩) (Nat.le_refl _) _).alloc (by simp [World.setCell]; exact B2.out.size) _⟩)
  · have hq : (s.toList == []) = false := beq_eq_false_iff_ne.2 (ne_list (l := #[]) h0)
    have BA : Below w2.heap.size w2 (w2.alloc (.cells #[.int .i64 x.id, .slice x.a x.n x.c, .slice x.b x.m x.d] 26)) := (Below.refl _ _).alloc (Nat.le_refl _) _
    have D3 : Hid (DocObj (w2.alloc (.cells #[.int .i64 x.id, .slice x.a x.n x.c, .slice x.b x.m x.d] 26)) w2.heap.size x) := heap_alloc_new _ _
    have R3 : Hid ((w2.alloc (.cells #[.int .i64 x.id, .slice x.a x.n x.c, .slice x.b x.m x.d] 26)).heap[w.heap.size]? = some (.cells #[.int .i64 0, .slice none 0 0, .slice none 0 0] 26 (0, 0))) := (BA.block _ ll).trans R2.out
    have I3f := Lib.hid (IN.out.f.below BA)
    have I3g := Lib.hid (IN.out.g.below BA)
    have E3 := Lib.hid (E2.out.below BA)
    have O3 := Lib.hid (OW.out.below BA)
    have B3 := Lib.hid (B2.out.trans (BA.mono B2.out.size))
    clear BA
    go_wp2_with (go_at_call 8; refine (DocPut_any _ _ _ _ _ _ _ _ _ _ I3f.out I3g.out IN.out.hn IN.out.hm E3.out.tab).mono ?_; rintro e w4 ⟨rfl, hb4⟩; have D4 := Lib.hid (D3.out.below hb4); have R4 : Hid (w4.heap[w.heap.size]? = some (.cells #[.int .i64 0, .slice none 0 0, .slice none 0 0] 26 (0, 0))) := (hb4.block _ (Array.getElem?_eq_some_iff.1 R3.out).1).trans R3.out; have O4 := Lib.hid (O3.out.below hb4); have B4 := Lib.hid (B3.out.trans (hb4.mono B3.out.size)); obtain ⟨d0, d1, d2, -, -, -⟩ := D4.out.cells; obtain ⟨r0, r1, r2, rf0, rf1, rf2⟩ := res_cellsR R4.out; clear hb4; generalize hP : docPut x.id x.n x.fs x.m x.ns = P at *)
    · rename_i hh
      have hne : ¬ P = s := fun e => by subst e; simp at hh
      have N := Lib.hid (iGet_no h0 SM.out (by rw [hP]; exact hne))
      exact bodyPost_ret (v := .tuple #[docV 0 none 0 0 none 0 0, .bool false]) (by simp [results, Tryd.results12, go_sem, r0, r1, r2, docV]) rfl (by rw [N.out]; exact ⟨rfl, ((B4.out.setCell (p := ⟨w.heap.size, 0, none⟩) (Nat.le_refl _) _).setCell (p := ⟨w.heap.size, 1, none⟩) (Nat.le_refl _) _).setCell (p := ⟨w.heap.size, 2, none⟩) (Nat.le_refl _) _⟩)
    · rename_i hh
      have he : P = s := Go.WideShapes.bytes_inj (by rw [← ByteArray.toList_eq, ← ByteArray.toList_eq]; simpa using hh)
      obtain ⟨N, OT⟩ := iGet_yes h0 SM.out (hP.trans he)
      have OS := Lib.hid (own_set3 O4.out.f O4.out.g R4.out (.int .i64 x.id) (.slice x.a x.n x.c) (.slice x.b x.m x.d))
      have DO := Lib.hid (own_ok ⟨OS.out.1, OS.out.2⟩ SM.out OT)
      exact bodyPost_ret (v := .tuple #[docV x.id x.a x.n x.c x.b x.m x.d, .bool true]) (by simp [results, Tryd.results12, go_sem, r0, r1, r2, docV]) rfl (by rw [N]; exact ⟨⟨x, rfl, DO.out, SM.out⟩, ((B4.out.setCell (p := ⟨w.heap.size, 0, none⟩) (Nat.le_refl _) _).setCell (p := ⟨w.heap.size, 1, none⟩) (Nat.le_refl _) _).setCell (p := ⟨w.heap.size, 2, none⟩) (Nat.le_refl _) _⟩)
end Go.Proofs.YtlbopihffpodkaaDoor
