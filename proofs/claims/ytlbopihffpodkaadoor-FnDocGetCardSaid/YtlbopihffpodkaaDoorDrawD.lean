/- Documents and texts that are drawn for the laws on reading and writing. Conditions: bounds on how often the reader is read. -/
import Derived.Test.YtlbopihffpodkaaDoorDocE
import Derived.Test.YtlbopihffpodkaaDoorDocP
import Derived.Test.YtlbopihffpodkaaDoorNum
namespace Go.Proofs.YtlbopihffpodkaaDoor
set_option maxRecDepth 100000
open Go.ChangeShapes Go.WideShapes Go.RowKit
theorem putA_small {id : Int} {n m : Nat} {fs : List Fd} {ns : List Ad} (h : OkB id n fs m ns) : (putA id n fs ns m).size ≤ 1000 := by
  have a := accB_size (h := putH id) (L := fun j => fdLine (nthD fs j)) (c := 180) n fun j hj => by
    have h1 := h.name j hj
    have h2 := h.text j hj
    simp only [fdLine, ByteArray.size_append]
    show 6 + _ + 1 + _ + 1 ≤ 180
    omega
  have b := accB_size (h := putF id fs n) (L := fun j => adLine (nthA ns j)) (c := 30) m fun j hj => by
    have h1 := h.nam2 j hj
    have h2 := h.num1 j hj
    have h3 := decS_size9 (n := (nthA ns j).num.toNat) (by omega)
    simp only [adLine, ByteArray.size_append]
    show 4 + _ + 1 + _ + 1 ≤ 30
    omega
  have c : (putH id).size ≤ 9 := by
    have h1 := h.id1
    have h3 := decS_size4 (n := id.toNat) (by omega)
    simp only [putH, ByteArray.size_append]
    show 4 + _ + 1 ≤ 9
    omega
  have h3 := h.n3
  have h4 := h.m3
  have e1 : (putF id fs n).size ≤ (putH id).size + n * 180 := a
  have e2 : (putA id n fs ns m).size ≤ (putF id fs n).size + m * 30 := b
  omega
theorem docPut_small (id : Int) (n : Nat) (fs : List Fd) (m : Nat) (ns : List Ad) : (docPut id n fs m ns).size ≤ 1000 := by
  unfold docPut
  cases h : docOk id n fs m ns with
  | true => exact putA_small (docOk_known h)
  | false => show 0 ≤ 1000; omega
theorem rows_stored {w w0 : World} {R B : Nat} {x : DocA} (h : DocOwn w B x) (hr : w.heap[R]? = some (.cells #[.int .i64 0, .slice none 0 0, .slice none 0 0] 26 (0, 0))) (hb : Below w0.heap.size w0 w) (hR : w0.heap.size ≤ R) {v0 v1 v2 : Value} :
    DocOwn (((w.setCell ⟨R, 0, none⟩ v0).setCell ⟨R, 1, none⟩ v1).setCell ⟨R, 2, none⟩ v2) B x ∧ Below w0.heap.size w0 (((w.setCell ⟨R, 0, none⟩ v0).setCell ⟨R, 1, none⟩ v1).setCell ⟨R, 2, none⟩ v2) := by
  have d : ∀ (w' : World) (j : Nat) (v : Value), (DocOwn w' B x ∧ ∃ cs, w'.heap[R]? = some (.cells cs 26 (0, 0))) → DocOwn (w'.setCell ⟨R, j, none⟩ v) B x ∧ ∃ cs, (w'.setCell ⟨R, j, none⟩ v).heap[R]? = some (.cells cs 26 (0, 0)) := fun w' j v ⟨h1, cs, h2⟩ => ⟨h1.apart (set_only ⟨R, j, none⟩ v) (fun k hk => by injection hk with hk; have e : R = k := hk; rw [← e]; exact ⟨_, _, by decide, by decide, h2⟩), by simp [World.setCell, Array.getElem?_modify, h2]⟩
  exact ⟨(d _ _ _ (d _ _ _ (d _ _ _ ⟨h, _, hr⟩))).1, ((hb.setCell (p := ⟨R, 0, none⟩) hR v0).setCell (p := ⟨R, 1, none⟩) hR v1).setCell (p := ⟨R, 2, none⟩) hR v2⟩
set_option maxHeartbeats 1000000 in
theorem l30Bent_any (g p : Nat) (s : ByteArray) {w : World} (hr : Rdr w g p) (hp : p ≤ 10000) (hs : s.size ≤ 10000) :
    Calls Tryd.prog 31 #[.pointer (some ⟨g, 0, none⟩), .string s] w fun e w' => ∃ (x : ByteArray) (q : Nat), e = .returned (.string x) ∧ x.size ≤ s.size + 100 ∧ q ≤ p + 3 ∧ Rdr w' g q ∧ w.grownBy w' (some g) := by
  have HR := Lib.hid hr; clear hr
  go_enter Tryd.func31, Tryd.ntmps31
  go_wp2_with fail
  refine (pick_any g p (s.size + 1) HR.out (by omega) (by omega)).mono ?_
  rintro e w1 ⟨k, rfl, hk, hr1, hg1⟩
  have HR1 := Lib.hid hr1; clear hr1
  have HG1 := Lib.hid hg1; clear hg1
  go_wp2_with fail
  refine (pick_any g (p + 1) 5 HR1.out (by omega) (by omega)).mono ?_
  rintro e w2 ⟨j, rfl, hj, hr2, hg2⟩
  have HR2 := Lib.hid hr2; clear hr2
  have HG2 := Lib.hid (grownBy_trans HG1.out hg2); clear hg2
  have hks : k ≤ s.size := by omega
  by_cases j0 : j = 0
  · have b0 : ((j : Int) == 0) = true := beq_t (by omega)
    clear j0
    by_cases hlt : k < s.size
    · have HRD := Lib.hid (HR2.out.drewN 1)
      have HGD := Lib.hid (only_drewN HG2.out 1)
      have z1 : ∀ x : ByteArray, x.size ≤ 10 → (s.extract 0 k).size + x.size ≤ 9223372036854775807 := fun x hx => by simp only [ByteArray.size_extract]; omega
      have z2 : ∀ x : ByteArray, x.size ≤ 10 → (s.extract 0 k ++ x).size + (s.extract (k + 1) s.size).size ≤ 9223372036854775807 := fun x hx => by simp only [ByteArray.size_extract, ByteArray.size_append]; omega
      have Z1 := Lib.hid z1; clear z1
      have Z2 := Lib.hid z2; clear z2
      have z3 : (k : Int) + 1 ≤ (s.size : Int) := by omega
      have z4 : IntKind.i64.wrap ((k : Int) + 1) = (k : Int) + 1 := IntWalk.i64_in _ (by omega)
      have z5 : ((k : Int) + 1).toNat = k + 1 := by omega
      have z6 : (0 : Int) ≤ (k : Int) + 1 := by omega
      go_wp2_with fail
      go_region_with (go_at_call 57; refine (of_new g (p + 1 + 1) 8 [⟨#[48]⟩, ⟨#[49]⟩, ⟨#[32]⟩, ⟨#[40]⟩, ⟨#[41]⟩, ⟨#[10]⟩, ⟨#[58]⟩, ⟨#[128]⟩] (fun x => x.size ≤ 10) HRD.out rfl rfl (by omega) (by omega) (by omega) (fun x hx => by simp at hx; rcases hx with rfl | rfl | rfl | rfl | rfl | rfl | rfl | rfl <;> decide) (fun x hx => by simp at hx; rcases hx with rfl | rfl | rfl | rfl | rfl | rfl | rfl | rfl <;> decide)).mono ?_; rintro e w3 ⟨x, rfl, hx, hr3, hg3⟩; have HR3 := Lib.hid hr3; clear hr3; have HG3 := Lib.hid (grownBy_trans HGD.out hg3); clear hg3; have y1 := Z1.out x hx; have y2 := Z2.out x hx)
      clear z4 z5
      all_goals
        go_wp2_with fail
        go_ret
        exact ⟨_, _, rfl, by simp only [ByteArray.size_extract, ByteArray.size_append]; omega, Nat.le_refl _, HR3.out, HG3.out⟩
    · go_wp2_with fail
      go_ret
      exact ⟨s, _, rfl, by omega, by omega, HR2.out, HG2.out⟩
  have b0 : ((j : Int) == 0) = false := beq_f (by omega)
  by_cases j1 : j = 1
  · have b1 : ((j : Int) == 1) = true := beq_t (by omega)
    clear j0 j1
    go_wp2_with fail
    go_ret
    exact ⟨_, _, rfl, by simp only [ByteArray.size_extract]; omega, by omega, HR2.out, HG2.out⟩
  have b1 : ((j : Int) == 1) = false := beq_f (by omega)
  by_cases j2 : j = 2
  · have b2 : ((j : Int) == 2) = true := beq_t (by omega)
    clear j0 j1 j2
    go_wp2_with fail
    refine (of_new g (p + 1 + 1) 4 [_, _, _, _] (fun x => x.size ≤ 10) HR2.out rfl rfl (by omega) (by omega) (by omega) (fun x hx => by simp at hx; rcases hx with rfl | rfl | rfl | rfl <;> decide) (fun x hx => by simp at hx; rcases hx with rfl | rfl | rfl | rfl <;> decide)).mono ?_
    rintro e w3 ⟨x, rfl, hx, hr3, hg3⟩
    have HR3 := Lib.hid hr3; clear hr3
    have HG3 := Lib.hid (grownBy_trans HG2.out hg3); clear hg3
    have z1 : s.size + x.size ≤ 9223372036854775807 := by omega
    go_wp2_with fail
    go_ret
    exact ⟨_, _, rfl, by simp only [ByteArray.size_append]; omega, Nat.le_refl _, HR3.out, HG3.out⟩
  · have b2 : ((j : Int) == 2) = false := beq_f (by omega)
    clear j0 j1 j2
    go_wp2_with fail
    go_ret
    exact ⟨s, _, rfl, by omega, by omega, HR2.out, HG2.out⟩
/-- A document that is drawn. -/
def DrawnDD (w : World) (e : Ending) (w' : World) : Prop := ∃ x : DocA, e = .returned x.v ∧ DocOwn w' w.heap.size x ∧ Below w.heap.size w w'
set_option maxHeartbeats 1000000 in
theorem DrawDocPut_any (a : Option Addr) (n cap : Nat) (xs : List Int) {w : World} (hx : Byts w a n cap xs) (hn : n ≤ 1048576) :
    Calls Tryd.prog 7 #[.slice a n cap] w (DrawnDD w) := by
  have HX := Lib.hid hx; clear hx
  have BA := Lib.hid ((Below.refl w.heap.size w).alloc (Nat.le_refl _) (.cells #[.int .i64 0, .slice none 0 0, .slice none 0 0] 26))
  have RS := Lib.hid (heap_alloc_new w (.cells #[.int .i64 0, .slice none 0 0, .slice none 0 0] 26))
  have HXA : Hid (Byts (w.alloc (.cells #[.int .i64 0, .slice none 0 0, .slice none 0 0] 26)) a n cap xs) := ⟨⟨HX.out.ints.len, HX.out.ints.fit, HX.out.ints.rd.alloc _⟩, HX.out.cap⟩
  go_enter Tryd.func7, Tryd.ntmps7
  go_wp2_with fail
  generalize w.alloc (.cells #[.int .i64 0, .slice none 0 0, .slice none 0 0] 26) = W0 at *
  refine (open_any _ _ _ _ HXA.out hn).mono ?_
  rintro e w1 ⟨rfl, hr, hb, hs⟩
  have HR := Lib.hid hr; clear hr
  have hRl : w.heap.size < W0.heap.size := (Array.getElem?_eq_some_iff.1 RS.out).1
  have B1 := Lib.hid (BA.out.trans (hb.mono BA.out.size))
  have RS1 := Lib.hid ((hb.block _ hRl).trans RS.out); clear hb hs
  go_wp2_with fail
  refine (l30AnyDoc_any _ 0 HR.out (by omega)).mono ?_
  rintro e w2 ⟨x, q, rfl, ho, hr2, hq, hg2⟩
  clear hr2
  have O2 := Lib.hid (ho.base (B' := w.heap.size) B1.out.size); clear ho
  have RS2 := Lib.hid (res_kept RS1.out hg2 (fun e => by injection e with e; omega))
  have B2 := Lib.hid (below_only B1.out hg2 (by omega) B1.out.size)
  have s2 := hg2.size
  clear hg2
  obtain ⟨r0, r1, r2, rf0, rf1, rf2⟩ := res_cells RS2.out
  unfold DocA.v docV
  go_wp2_with fail
  have FN := Lib.hid (rows_stored O2.out RS2.out B2.out (Nat.le_refl _) (v0 := .int .i64 x.id) (v1 := .slice x.a x.n x.c) (v2 := .slice x.b x.m x.d))
  exact bodyPost_ret (v := .agg #[.int .i64 x.id, .slice x.a x.n x.c, .slice x.b x.m x.d]) (by simp [results, Tryd.results7, go_sem, r0, r1, r2]) rfl ⟨x, rfl, FN.out.1, FN.out.2⟩
theorem DrawDocGet_any (a : Option Addr) (n cap : Nat) (xs : List Int) {w : World} (hx : Byts w a n cap xs) (hn : n ≤ 1048576) :
    Calls Tryd.prog 14 #[.slice a n cap] w fun e w' => ∃ s : ByteArray, e = .returned (.string s) ∧ s.size ≤ 2000 ∧ Below w.heap.size w w' := by
  have HX := Lib.hid hx; clear hx
  go_enter Tryd.func14, Tryd.ntmps14
  go_wp2_with fail
  refine (open_any _ _ _ _ HX.out hn).mono ?_
  rintro e w1 ⟨rfl, hr, hb, hs⟩
  have HR := Lib.hid hr; clear hr
  have B1 := Lib.hid hb; clear hb hs
  go_wp2_with fail
  refine (pick_any _ 0 20 HR.out (by omega) (by omega)).mono ?_
  rintro e w2 ⟨k, rfl, hk, hr2, hg2⟩
  have HR2 := Lib.hid hr2; clear hr2
  have B2 := Lib.hid (below_only B1.out hg2 (Nat.le_refl _) B1.out.size); clear hg2
  go_wp2_with fail
  refine (l30Doc_any _ (0 + 1) (1 + (k : Int)) HR2.out (by omega)).mono ?_
  rintro e w3 ⟨x, q, rfl, -, -, -, ho, hr3, hq, hg3⟩
  have HR3 := Lib.hid hr3; clear hr3
  have O3 := Lib.hid ho; clear ho
  have B3 := Lib.hid (below_only B2.out hg3 (Nat.le_refl _) B2.out.size); clear hg3
  have hz := docPut_small x.id x.n x.fs x.m x.ns
  have IN := Lib.hid O3.out.in
  have C := Lib.hid (fun w hf hg => sDocPut_any x.id x.a x.n x.c x.fs x.b x.m x.d x.ns w hf hg IN.out.hn IN.out.hm)
  obtain ⟨s, hs⟩ : ∃ s, s = docPut x.id x.n x.fs x.m x.ns := ⟨_, rfl⟩
  rw [← hs] at C hz
  clear hs
  unfold docV at C
  unfold DocA.v docV
  go_wp2_with fail
  refine (C.out _ IN.out.f IN.out.g).mono ?_
  rintro e w4 ⟨rfl, hb4⟩
  have HR4 := Lib.hid (HR3.out.below hb4)
  have B4 := Lib.hid (B3.out.trans (hb4.mono B3.out.size)); clear hb4
  go_wp2_with fail
  refine (l30Bent_any _ q s HR4.out (by omega) (by omega)).mono ?_
  rintro e w5 ⟨y, q5, rfl, hy, hq5, hr5, hg5⟩
  have B5 := Lib.hid (below_only B4.out hg5 (Nat.le_refl _) B4.out.size); clear hg5 hr5
  go_wp2_with fail
  go_ret
  exact ⟨_, rfl, by omega, B5.out⟩
end Go.Proofs.YtlbopihffpodkaaDoor
