/- Documents read out of text, by the program. Conditions: the text is not too long; the library's variables hold what they are laid to hold. -/
import Derived.Test.YtlbopihffpodkaaDoorLines
import Derived.Test.YtlbopihffpodkaaDoorBack
namespace Go.Proofs.YtlbopihffpodkaaDoor
set_option maxRecDepth 100000
open Go.RowKit
theorem own_empty (w : World) (e : TypeId) (size : Nat) : (w.alloc (.cells #[] e)).ownsRow w.heap.size e size (.slice (some ⟨w.heap.size, 0, none⟩) 0 0) 0 [] := by
  have h := World.ownsRow_lit (base := w.heap.size) (e := e) (size := size) w #[] 0 (Nat.le_refl _) (Nat.zero_le _) (by simp)
  simpa using h
theorem made_start (w : World) : RSt w w.heap.size (w.heap.size + 1 + 1 + 1) ((((w.alloc (.cells #[.int .i64 0, .slice none 0 0, .slice none 0 0] 26)).alloc (.cells #[] 49)).alloc (.cells #[] 51)).alloc (.cells #[.int .i64 0, .slice (some ⟨w.heap.size + 1, 0, none⟩) 0 0, .slice (some ⟨w.heap.size + 1 + 1, 0, none⟩) 0 0] 26)) ⟨0, some ⟨w.heap.size + 1, 0, none⟩, 0, 0, [], some ⟨w.heap.size + 1 + 1, 0, none⟩, 0, 0, []⟩ := by
  have z1 : (w.alloc (.cells #[.int .i64 0, .slice none 0 0, .slice none 0 0] 26)).heap.size = w.heap.size + 1 := by simp
  have z2 : ((w.alloc (.cells #[.int .i64 0, .slice none 0 0, .slice none 0 0] 26)).alloc (.cells #[] 49)).heap.size = w.heap.size + 1 + 1 := by simp
  have z3 : (((w.alloc (.cells #[.int .i64 0, .slice none 0 0, .slice none 0 0] 26)).alloc (.cells #[] 49)).alloc (.cells #[] 51)).heap.size = w.heap.size + 1 + 1 + 1 := by simp
  have o1 := own_base (own_empty (w.alloc (.cells #[.int .i64 0, .slice none 0 0, .slice none 0 0] 26)) 49 2) (B' := w.heap.size) (by omega)
  have o2 := own_base (own_empty ((w.alloc (.cells #[.int .i64 0, .slice none 0 0, .slice none 0 0] 26)).alloc (.cells #[] 49)) 51 2) (B' := w.heap.size) (by omega)
  rw [z1] at o1
  rw [z2] at o2
  refine ⟨?_, (o1.alloc _).alloc _, o2.alloc _, rfl, rfl, by simp, by simp, ((((Below.refl _ _).alloc (Nat.le_refl _) _).alloc (by omega) _).alloc (by omega) _).alloc (by omega) _, Nat.le_refl _, by omega, ?_⟩
  · have h1 := heap_alloc_new (((w.alloc (.cells #[.int .i64 0, .slice none 0 0, .slice none 0 0] 26)).alloc (.cells #[] 49)).alloc (.cells #[] 51)) (.cells #[.int .i64 0, .slice (some ⟨w.heap.size + 1, 0, none⟩) 0 0, .slice (some ⟨w.heap.size + 1 + 1, 0, none⟩) 0 0] 26)
    rw [z3] at h1
    exact h1
  · rw [Below.heap_alloc _ _ _ (by omega), Below.heap_alloc _ _ _ (by omega), Below.heap_alloc _ _ _ (by omega)]; exact heap_alloc_new _ _
/-- The rows stay when the result's cells are set. -/
theorem own_set3 {w : World} {B R : Nat} {x : DocA} (hf : w.ownsRow B 49 2 (.slice x.a x.n x.c) x.n (tab (x.n * 2) (fdC x.fs))) (hg : w.ownsRow B 51 2 (.slice x.b x.m x.d) x.m (tab (x.m * 2) (adC x.ns))) {cs : Array Value} (hr : w.heap[R]? = some (.cells cs 26 (0, 0))) (v0 v1 v2 : Value) :
    (((w.setCell ⟨R, 0, none⟩ v0).setCell ⟨R, 1, none⟩ v1).setCell ⟨R, 2, none⟩ v2).ownsRow B 49 2 (.slice x.a x.n x.c) x.n (tab (x.n * 2) (fdC x.fs)) ∧ (((w.setCell ⟨R, 0, none⟩ v0).setCell ⟨R, 1, none⟩ v1).setCell ⟨R, 2, none⟩ v2).ownsRow B 51 2 (.slice x.b x.m x.d) x.m (tab (x.m * 2) (adC x.ns)) := by
  have d : ∀ (w' : World) (j : Nat) (v : Value), (w'.ownsRow B 49 2 (.slice x.a x.n x.c) x.n (tab (x.n * 2) (fdC x.fs)) ∧ w'.ownsRow B 51 2 (.slice x.b x.m x.d) x.m (tab (x.m * 2) (adC x.ns)) ∧ ∃ cs, w'.heap[R]? = some (.cells cs 26 (0, 0))) →
      ((w'.setCell ⟨R, j, none⟩ v).ownsRow B 49 2 (.slice x.a x.n x.c) x.n (tab (x.n * 2) (fdC x.fs)) ∧ (w'.setCell ⟨R, j, none⟩ v).ownsRow B 51 2 (.slice x.b x.m x.d) x.m (tab (x.m * 2) (adC x.ns)) ∧ ∃ cs, (w'.setCell ⟨R, j, none⟩ v).heap[R]? = some (.cells cs 26 (0, 0))) :=
    fun w' j v ⟨h1, h2, cs, h3⟩ => ⟨own_other h1 (set_only ⟨R, j, none⟩ v) (fun k hk => by injection hk with hk; have e : R = k := hk; rw [← e]; exact ⟨_, _, by decide, h3⟩), own_other h2 (set_only ⟨R, j, none⟩ v) (fun k hk => by injection hk with hk; have e : R = k := hk; rw [← e]; exact ⟨_, _, by decide, h3⟩), by simp [World.setCell, Array.getElem?_modify, h3]⟩
  obtain ⟨o1, o2, _⟩ := d _ 2 v2 (d _ 1 v1 (d _ 0 v0 ⟨hf, hg, _, hr⟩))
  exact ⟨o1, o2⟩
/-- A document whose rows are the call's own. -/
structure RowsOwn (w : World) (B : Nat) (x : DocA) : Prop where
  f : w.ownsRow B 49 2 (.slice x.a x.n x.c) x.n (tab (x.n * 2) (fdC x.fs))
  g : w.ownsRow B 51 2 (.slice x.b x.m x.d) x.m (tab (x.m * 2) (adC x.ns))
theorem RowsOwn.below {w w' : World} {B : Nat} {x : DocA} (h : RowsOwn w B x) (hb : Below w.heap.size w w') : RowsOwn w' B x := ⟨own_below h.f hb (Nat.le_refl _), own_below h.g hb (Nat.le_refl _)⟩
theorem RowsOwn.base {w : World} {B B' : Nat} {x : DocA} (h : RowsOwn w B x) (hB : B' ≤ B) : RowsOwn w B' x := ⟨own_base h.f hB, own_base h.g hB⟩
set_option maxRecDepth 100000 in
set_option maxHeartbeats 4000000 in
theorem readDoc_any (a : Option Addr) (n cap : Nat) (xs : List ByteArray) (w : World) (hx : Strs w a n xs) (hn : n ≤ 4000001) (hz : ∀ j, (nthS xs j).size ≤ 4000000) (he : Env w) :
    Calls Tryd.prog 29 #[.slice a n cap] w fun e w' => (∃ x : DocA, e = .returned x.v ∧ x.In w' ∧ RowsOwn w' w.heap.size x ∧ Same x (iAt xs n)) ∧ Below w.heap.size w w' := by
  obtain ⟨i0, hi, hz0, hz1, hz2⟩ := info_parts info_Fd
  obtain ⟨j0, hj, z0, z1, z2⟩ := info_parts info_Ad
  have S0 := Lib.hid (made_start w)
  have HX := Lib.hid hx; clear hx
  have HZ := Lib.hid hz; clear hz
  have HE := Lib.hid he; clear he
  go_enter Tryd.func29, Tryd.ntmps29
  go_wp2_with fail
  obtain ⟨x1, hx1⟩ : ∃ x : DocA, x = ⟨0, some ⟨w.heap.size + 1, 0, none⟩, 0, 0, [], some ⟨w.heap.size + 1 + 1, 0, none⟩, 0, 0, []⟩ := ⟨_, rfl⟩
  rw [← hx1] at S0
  have X1 := Lib.hid hx1; clear hx1
  go_loopw [19] (fun i wr => ∃ (k : Nat) (x : DocA), k ≤ n ∧ i = .int .i64 k ∧ Same x (iAt xs k) ∧ RSt w w.heap.size (w.heap.size + 1 + 1 + 1) wr x ∧ x.n ≤ k ∧ x.m ≤ k) (fun i _ => n - (intOf i).toNat)
  case atStart => exact ⟨0, x1, Nat.zero_le _, rfl, by rw [X1.out]; exact ⟨rfl, rfl, rfl, rfl, rfl⟩, S0.out, by rw [X1.out]; exact Nat.le_refl _, by rw [X1.out]; exact Nat.le_refl _⟩
  case round =>
    obtain ⟨k, x, hk, rfl, hsame, hst, hxn, hxm⟩ := hrel
    have SM := Lib.hid hsame; clear hsame
    have ST := Lib.hid hst; clear hst
    by_cases hlt : k < n
    · obtain ⟨g, off, rfl, hcell⟩ := (HX.out.below ST.out.bel).rd.pos (k := k) hlt
      have hck := hcell k hlt
      clear hcell
      have hlz := HZ.out k
      obtain ⟨line, hline⟩ : ∃ r, r = nthS xs k := ⟨_, rfl⟩
      rw [← hline] at hck hlz
      have EN := Lib.hid (HE.out.below ST.out.bel)
      have STEP : Hid (iAt xs (k + 1) = iRow line (iAt xs k)) := by show _ = _; rw [hline]; rfl
      clear hline
      go_wp2_with fail
      refine (Cut_any line (by omega) _ EN.out).mono ?_
      rintro e w2 ⟨b1, rfl, hb2⟩
      have S2 := Lib.hid (ST.out.below hb2)
      have E2 := Lib.hid (EN.out.below hb2)
      clear hb2
      have hs1 := cut1_size line
      have hs2 := cut2_size line
      go_wp2_with fail
      refine (Cut_any (cut2 line) (by omega) _ E2.out).mono ?_
      rintro e w3 ⟨b2, rfl, hb3⟩
      have S3 := Lib.hid (S2.out.below hb3)
      have E3 := Lib.hid (E2.out.below hb3)
      clear hb3
      have hs3 := cut1_size (cut2 line)
      have hs4 := cut2_size (cut2 line)
      by_cases hd : cut1 line = ⟨#[100, 111, 99]⟩
      · go_wp2_with fail
        refine (Atoi_any (cut2 line) (by omega) _ E3.out).mono ?_
        rintro e w4 ⟨v4, rfl, hb4⟩
        have S4 := Lib.hid (S3.out.below hb4)
        clear hb4
        obtain ⟨d0, d1, d2, f0, f1, f2⟩ := S4.out.obj.cells
        have S5 := Lib.hid (S4.out.ident (atoiV (cut2 line)))
        have STP : Hid (Same { x with id := atoiV (cut2 line) } (iAt xs (k + 1))) := by
          show Same _ _
          rw [STEP.out]
          unfold iRow
          rw [if_pos hd]
          exact ⟨rfl, SM.out.2.1, SM.out.2.2.1, SM.out.2.2.2.1, SM.out.2.2.2.2⟩
        clear d1 d2 f1 f2
        go_wp2_with fail
        exact ⟨⟨k + 1, _, by omega, by go_num, STP.out, S5.out, by show x.n ≤ k + 1; omega, by show x.m ≤ k + 1; omega⟩, by simp [intOf]; omega⟩
      · have hdn : ((cut1 line).toList == [100, 111, 99]) = false := beq_eq_false_iff_ne.2 (ne_list hd)
        by_cases hf : cut1 line = ⟨#[102, 105, 101, 108, 100]⟩
        · obtain ⟨d0, d1, d2, f0, f1, f2⟩ := S3.out.obj.cells
          have ll := S3.out.obj.lt
          have ln := Nat.ne_of_lt ll
          clear d0 d2 f0 f2
          have S2d := Lib.hid (S3.out.below ((Below.refl _ _).alloc (Nat.le_refl _) (.cells #[.string (cut1 (cut2 line)), .string (cut2 (cut2 line))] 49)))
          have STP : Hid (iAt xs (k + 1) = { iAt xs k with fs := (iAt xs k).fs ++ [⟨cut1 (cut2 line), cut2 (cut2 line)⟩] }) := by
            show _ = _
            rw [STEP.out]
            unfold iRow
            rw [if_neg hd, if_pos hf]
          go_wp2_with (at_builtin; refine wpList_append_own _ rfl _ _ 23 rfl w.heap.size 49 i0 (.agg #[.string ByteArray.empty, .string ByteArray.empty]) 2 32 Tryd.underlying23 hi hz0 hz1 hz2 rfl (by decide) _ _ _ rfl S2d.out.f ⟨w3.heap.size, 0, none⟩ 1 1 [.string (cut1 (cut2 line)), .string (cut2 (cut2 line))] rfl rfl ?c1 ?c2 ?c3 ?c4 ?c5 ?_)
          case c1 => exact fd_cellsR _ _ _
          case c2 => intro u hu; simp at hu; rcases hu with rfl | rfl <;> rfl
          case c3 => unfold maxLen; omega
          case c4 => omega
          case c5 => have := S2d.out.bel.size; simp at this ⊢; omega
          · intro v5 w5 hown5 hgrow5 _
            obtain ⟨a5, c5, hv5⟩ := own_form hown5
            subst hv5
            have S5 := Lib.hid (S2d.out.field (f := ⟨cut1 (cut2 line), cut2 (cut2 line)⟩) ⟨(by unfold maxLen; omega : (cut1 (cut2 line)).size ≤ maxLen), (by unfold maxLen; omega : (cut2 (cut2 line)).size ≤ maxLen)⟩ hown5 hgrow5)
            obtain ⟨-, e1, e2, -, g1, g2⟩ := (S2d.out.obj.kept hgrow5 S2d.out.rowf.1).cells
            clear hown5 hgrow5
            go_wp2_with fail
            exact ⟨⟨k + 1, _, by omega, by go_num, by rw [STP.out]; exact SM.out.field ⟨cut1 (cut2 line), cut2 (cut2 line)⟩ a5 c5, S5.out, by show x.n + 1 ≤ k + 1; omega, by show x.m ≤ k + 1; omega⟩, by simp [intOf]; omega⟩
        · have hfn : ((cut1 line).toList == [102, 105, 101, 108, 100]) = false := beq_eq_false_iff_ne.2 (ne_list hf)
          by_cases hm : cut1 line = ⟨#[110, 117, 109]⟩
          · go_wp2_with fail
            refine (Atoi_any (cut2 (cut2 line)) (by omega) _ E3.out).mono ?_
            rintro e w4 ⟨v4, rfl, hb4⟩
            have S4 := Lib.hid (S3.out.below hb4)
            clear hb4
            obtain ⟨d0, d1, d2, f0, f1, f2⟩ := S4.out.obj.cells
            have ll := S4.out.obj.lt
            have ln := Nat.ne_of_lt ll
            clear d0 d1 f0 f1
            have hv := atoiV_in (cut2 (cut2 line))
            have S2d := Lib.hid (S4.out.below ((Below.refl _ _).alloc (Nat.le_refl _) (.cells #[.string (cut1 (cut2 line)), .int .i64 (atoiV (cut2 (cut2 line)))] 51)))
            have STP : Hid (iAt xs (k + 1) = { iAt xs k with ns := (iAt xs k).ns ++ [⟨cut1 (cut2 line), atoiV (cut2 (cut2 line))⟩] }) := by
              show _ = _
              rw [STEP.out]
              unfold iRow
              rw [if_neg hd, if_neg hf, if_pos hm]
            go_wp2_with (at_builtin; refine wpList_append_own _ rfl _ _ 24 rfl w.heap.size 51 j0 (.agg #[.string ByteArray.empty, .int .i64 0]) 2 24 Tryd.underlying24 hj z0 z1 z2 rfl (by decide) _ _ _ rfl S2d.out.g ⟨w4.heap.size, 0, none⟩ 1 1 [.string (cut1 (cut2 line)), .int .i64 (atoiV (cut2 (cut2 line)))] rfl rfl ?b1 ?b2 ?b3 ?b4 ?b5 ?_)
            case b1 => exact fd_cellsR _ _ _
            case b2 => intro u hu; simp at hu; rcases hu with rfl | rfl <;> rfl
            case b3 => unfold maxLen; omega
            case b4 => omega
            case b5 => have := S2d.out.bel.size; simp at this ⊢; omega
            · intro v5 w5 hown5 hgrow5 _
              obtain ⟨a5, c5, hv5⟩ := own_form hown5
              subst hv5
              have S5 := Lib.hid (S2d.out.attr (f := ⟨cut1 (cut2 line), atoiV (cut2 (cut2 line))⟩) ⟨(by unfold maxLen; omega : (cut1 (cut2 line)).size ≤ maxLen), hv.1, hv.2⟩ hown5 hgrow5)
              obtain ⟨-, e1, e2, -, g1, g2⟩ := (S2d.out.obj.kept hgrow5 S2d.out.rowg.1).cells
              clear hown5 hgrow5
              go_wp2_with fail
              exact ⟨⟨k + 1, _, by omega, by go_num, by rw [STP.out]; exact SM.out.attr ⟨cut1 (cut2 line), atoiV (cut2 (cut2 line))⟩ a5 c5, S5.out, by show x.n ≤ k + 1; omega, by show x.m + 1 ≤ k + 1; omega⟩, by simp [intOf]; omega⟩
          · have hmn : ((cut1 line).toList == [110, 117, 109]) = false := beq_eq_false_iff_ne.2 (ne_list hm)
            have STP : Hid (iAt xs (k + 1) = iAt xs k) := by
              show _ = _
              rw [STEP.out]
              unfold iRow
              rw [if_neg hd, if_neg hf, if_neg hm]
            go_wp2_with fail
            exact ⟨⟨k + 1, _, by omega, by go_num, by rw [STP.out]; exact SM.out, S3.out, by omega, by omega⟩, by simp [intOf]; omega⟩
    · have hkn : k = n := by omega
      subst hkn
      obtain ⟨d0, d1, d2, f0, f1, f2⟩ := ST.out.obj.cells
      obtain ⟨r0, r1, r2, rf0, rf1, rf2⟩ := res_cellsR ST.out.res
      have hxm' : Hid (x.n ≤ maxLen ∧ x.m ≤ maxLen) := ⟨by unfold maxLen; omega, by unfold maxLen; omega⟩
      have DN := Lib.hid (ST.out.done hxm'.out.1 hxm'.out.2 (.int .i64 x.id) (.slice x.a x.n x.c) (.slice x.b x.m x.d))
      have OS := Lib.hid (own_set3 ST.out.f ST.out.g ST.out.res (.int .i64 x.id) (.slice x.a x.n x.c) (.slice x.b x.m x.d))
      clear f0 f1 f2
      go_wp2_with fail
      exact bodyPost_ret (v := docV x.id x.a x.n x.c x.b x.m x.d) (by simp [results, Tryd.results29, go_sem, r0, r1, r2, docV]) rfl ⟨⟨x, rfl, DN.out.1, ⟨OS.out.1, OS.out.2⟩, SM.out⟩, DN.out.2⟩
end Go.Proofs.YtlbopihffpodkaaDoor
