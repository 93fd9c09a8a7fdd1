/- Slices of documents made anew. Conditions: what is read fits the model's sizes. -/
import Derived.Test.YtlbopihffpodkaaDocL
namespace Go.Proofs.Ytlbopihffpodkaa
open Go.RowKit
theorem nthX_app_l {ys : List DocA} {y : DocA} {j : Nat} (h : j < ys.length) : nthX (ys ++ [y]) j = nthX ys j := by
  simp [nthX, List.getElem?_append_left h]
theorem nthX_app_r {ys : List DocA} {y : DocA} : nthX (ys ++ [y]) ys.length = y := by simp [nthX]
theorem dcC_app {ys : List DocA} {y : DocA} {N : Nat} (Z : Nat → Value) : tab N (upTo (ys.length * 3) (dcC ys) Z) = tab N (upTo (ys.length * 3) (dcC (ys ++ [y])) Z) :=
  tab_congr fun j _ => by
    unfold upTo
    by_cases h : j < ys.length * 3
    · rw [if_pos h, if_pos h]; unfold dcC; rw [nthX_app_l (by omega)]
    · rw [if_neg h, if_neg h]
/-- A document that was made anew, like x, in blocks behind B. -/
structure DNew (w : World) (B : Nat) (x y : DocA) : Prop where
  id : x.id = y.id
  n : x.n = y.n
  m : x.m = y.m
  fs : x.fs = y.fs
  ns : x.ns = y.ns
  blk : ∃ g1 g2, y.a = some ⟨g1, 0, none⟩ ∧ y.b = some ⟨g2, 0, none⟩ ∧ B < g1 ∧ B < g2
  inn : y.In w
theorem DNew.below {w w' : World} {B : Nat} {x y : DocA} (h : DNew w B x y) (hb : Below w.heap.size w w') : DNew w' B x y := ⟨h.id, h.n, h.m, h.fs, h.ns, h.blk, h.inn.below hb⟩
theorem DNew.put {w : World} {B o : Nat} {x y : DocA} (h : DNew w B x y) (u : Value) : DNew (w.setCell ⟨B, o, none⟩ u) B x y := by
  obtain ⟨h1, h2, h3, h4, h5, h6, h7⟩ := h
  obtain ⟨g1, g2, e1, e2, l1, l2⟩ := h6
  obtain ⟨id, a, n, c, fs, b, m, d, ns⟩ := y
  dsimp only at e1 e2
  subst e1 e2
  exact ⟨h1, h2, h3, h4, h5, ⟨g1, g2, rfl, rfl, l1, l2⟩, h7.f.put (by show g1 ≠ B; omega) u, h7.g.put (by show g2 ≠ B; omega) u, h7.hn, h7.hm⟩
theorem info_Dc : (Try.prog.info? 26).map (fun i => (i.zero, i.size, i.bytes)) = some (some (.agg #[.int .i64 0, .slice none 0 0, .slice none 0 0]), 3, 56) := by kernel_rfl
set_option maxHeartbeats 1000000 in
theorem toDocS_any (a : Option Addr) (n cap : Nat) (xs : List DocA) (w : World) (hx : Docs w a n xs) (hn : n ≤ 1048576) (hs : ∀ j, j < n → (nthX xs j).n ≤ 1048576 ∧ (nthX xs j).m ≤ 1048576) :
    Calls Try.prog 25 #[.slice a n cap] w fun e w' => ∃ ys : List DocA, e = .returned (.slice (some ⟨w.heap.size, 0, none⟩) n n) ∧ Docs w' (some ⟨w.heap.size, 0, none⟩) n ys ∧ (∀ j, j < n → DNew w' w.heap.size (nthX xs j) (nthX ys j)) ∧ Below w.heap.size w w' := by
  have HX := Lib.hid hx; clear hx
  have HS := Lib.hid hs; clear hs
  obtain ⟨i0, hi, hz0, hz1, hz2⟩ := info_parts info_Dc
  have c2 : Try.prog.cellsOf 43 = 3 := by kernel_rfl
  have c2' : Try.prog.cellsOf 26 = 3 := by kernel_rfl
  go_enter Try.func25, Try.ntmps25
  go_wp2_with (first | (refine wpList_make_full _ rfl (.tmp 6) (.tmp 6) _ rfl w.heap.size 26 i0 _ 3 Try.underlying37 hi hz0 hz1 .i64 .i64 _ _ n rfl rfl rfl rfl (by rw [hz2]; omega) (by unfold maxLen; omega) (Nat.le_refl _) ?_; intro w1 hown hg))
  have hb1 : Below w.heap.size w w1 := (Below.refl _ _).grown hg (Nat.le_refl _) (by simp)
  have hlen := hown.1
  have hl1 : w.heap.size < w1.heap.size ∨ n = 0 := by
    rcases Nat.eq_zero_or_pos n with h0 | h0
    · exact .inr h0
    · have := hown.cellAt 0 (by omega)
      rw [tab_any (madeCells _ _).toList, hlen, tab_get _ _ _ (by omega)] at this
      exact .inl (World.block_lt_of_cell? w1 _ this)
  rw [tab_any (madeCells _ _).toList, hlen] at hown
  obtain ⟨Z, hZ⟩ : ∃ Z : Nat → Value, Z = fun j => ((madeCells (Value.agg #[.int .i64 0, .slice none 0 0, .slice none 0 0]).cells (n * 3)).toList[j]?).getD undef := ⟨_, rfl⟩
  rw [← hZ] at hown
  have HO := Lib.hid hown; clear hown hg hlen hZ
  have HB := Lib.hid hb1; clear hb1
  have HL1 := Lib.hid hl1; clear hl1
  go_loopw [4] (fun i wr => ∃ (k : Nat) (ys : List DocA), k ≤ n ∧ i = .int .i64 k ∧ ys.length = k ∧ (∀ j, j < k → DNew wr w.heap.size (nthX xs j) (nthX ys j)) ∧ wr.ownsRow w.heap.size 26 3 (.slice (some ⟨w.heap.size, 0, none⟩) n n) n (tab (n * 3) (upTo (k * 3) (dcC ys) Z)) ∧ Below w.heap.size w wr ∧ w1.heap.size ≤ wr.heap.size) (fun i _ => n - (intOf i).toNat)
  case atStart => exact ⟨0, [], Nat.zero_le _, rfl, rfl, fun j hj => by omega, by rw [Nat.zero_mul, tab_upTo_zero]; exact HO.out, HB.out, Nat.le_refl _⟩
  case round =>
    obtain ⟨k, ys, hk, rfl, hyl, hnew, hown, hb, hsz⟩ := hrel
    have NW := Lib.hid hnew; clear hnew
    have YL := Lib.hid hyl; clear hyl
    have HSZ := Lib.hid hsz; clear hsz
    by_cases hlt : k < n
    · obtain ⟨b, off, rfl, hc⟩ := (HX.out.below hb).pos hlt
      obtain ⟨x0, x1, x2⟩ := hc k hlt
      have E := (HX.out.each k hlt).below hb
      obtain ⟨s1, s2⟩ := HS.out k hlt
      obtain ⟨X, hX⟩ : ∃ X, X = nthX xs k := ⟨_, rfl⟩
      rw [← hX] at x0 x1 x2 E s1 s2
      have HXX := Lib.hid hX; clear hX
      obtain ⟨id, a1, n1, c1, fs, b1, m1, d1, ns⟩ := X
      dsimp only at x0 x1 x2 s1 s2
      have F1 := Lib.hid E.f
      have G1 := Lib.hid E.g
      have N1 := Lib.hid E.hn
      have M1 := Lib.hid E.hm
      dsimp only at F1 G1 N1 M1
      have OW := Lib.hid hown; clear hown
      have HB2 := Lib.hid hb; clear hb hc E
      go_wp2_with fail
      refine (toDoc_at _ _ _ _ _ _ _ _ _ _ F1.out G1.out s1 s2).mono ?_
      rintro e w2 ⟨g1, g2, rfl, lg1, lg2, hf2, hg2, hb2⟩
      have lw : w.heap.size < wr.heap.size := by have := HSZ.out; rcases HL1.out with h | h <;> omega
      have O2 := own_below OW.out hb2 (Nat.le_refl _)
      obtain ⟨y, hy⟩ : ∃ y : DocA, y = ⟨id, some ⟨g1, 0, none⟩, n1, n1, fs, some ⟨g2, 0, none⟩, m1, m1, ns⟩ := ⟨_, rfl⟩
      have DN : DNew w2 w.heap.size (nthX xs k) y := by
        rw [← HXX.out, hy]
        exact ⟨rfl, rfl, rfl, rfl, rfl, ⟨g1, g2, rfl, rfl, by omega, by omega⟩, hf2, hg2, N1.out, M1.out⟩
      obtain ⟨⟨v0, hc0⟩, hf0⟩ := own_cell2 O2 rfl (j := k * 3) (by omega)
      obtain ⟨⟨v1, hc1⟩, hf1⟩ := own_cell2 O2 rfl (j := k * 3 + 1) (by omega)
      obtain ⟨⟨v2, hc2⟩, hf2'⟩ := own_cell2 O2 rfl (j := k * 3 + 2) (by omega)
      have S0 := O2.stored (k * 3) (.int .i64 id)
      have S1 := S0.1.stored (k * 3 + 1) (.slice (some ⟨g1, 0, none⟩) n1 n1)
      have S2 := S1.1.stored (k * 3 + 2) (.slice (some ⟨g2, 0, none⟩) m1 m1)
      have OX := S2.1
      have ny : nthX (ys ++ [y]) k = y := by rw [← YL.out]; exact nthX_app_r
      rw [← YL.out, dcC_app (y := y), YL.out] at OX
      rw [tab_upTo_set (by omega) (by rw [dcC, if_pos (by omega), Nat.mul_div_cancel _ (by omega), ny, hy]), tab_upTo_set (by omega) (by rw [dcC, if_neg (by omega), if_pos (by omega), show (k * 3 + 1) / 3 = k by omega, ny, hy]), tab_upTo_set (by omega) (by rw [dcC, if_neg (by omega), if_neg (by omega), show (k * 3 + 1 + 1) / 3 = k by omega, ny, hy])] at OX
      have BX := Lib.hid ((((HB2.out.trans (hb2.mono HB2.out.size)).setCell (p := ⟨w.heap.size, k * 3, none⟩) (Nat.le_refl _) (.int .i64 id)).setCell (p := ⟨w.heap.size, k * 3 + 1, none⟩) (Nat.le_refl _) (.slice (some ⟨g1, 0, none⟩) n1 n1)).setCell (p := ⟨w.heap.size, k * 3 + 2, none⟩) (Nat.le_refl _) (.slice (some ⟨g2, 0, none⟩) m1 m1))
      have NW2 : Hid (∀ j, j < k + 1 → DNew (((w2.setCell ⟨w.heap.size, k * 3, none⟩ (.int .i64 id)).setCell ⟨w.heap.size, k * 3 + 1, none⟩ (.slice (some ⟨g1, 0, none⟩) n1 n1)).setCell ⟨w.heap.size, k * 3 + 2, none⟩ (.slice (some ⟨g2, 0, none⟩) m1 m1)) w.heap.size (nthX xs j) (nthX (ys ++ [y]) j)) := by
        intro j hj
        by_cases hjk : j < k
        · rw [nthX_app_l (by rw [YL.out]; exact hjk)]
          exact ((((NW.out j hjk).below hb2).put _).put _).put _
        · obtain rfl : j = k := by omega
          rw [ny]
          exact ((DN.put _).put _).put _
      have OX1 := Lib.hid OX
      have LX := Lib.hid (show (ys ++ [y]).length = k + 1 by rw [List.length_append, YL.out]; rfl)
      have SX := Lib.hid (Nat.le_trans HSZ.out hb2.size)
      clear O2 S0 S1 S2 OX hb2 hf2 hg2 DN ny hy lg1 lg2 s1 s2
      unfold docV
      go_wp2_with fail
      go_roundw
      case rel => exact ⟨k + 1, ys ++ [y], by omega, by go_num, LX.out, NW2.out, by rw [show (k + 1) * 3 = k * 3 + 1 + 1 + 1 by omega]; exact OX1.out, BX.out, by simpa using SX.out⟩
      case measure => simp [intOf]; omega
    · obtain rfl : k = n := by omega
      have OW := Lib.hid hown; clear hown
      have HB2 := Lib.hid hb; clear hb
      go_wp2_with fail
      go_ret
      exact ⟨ys, rfl, ⟨YL.out, fun j hj => (NW.out j hj).inn, Rd.of_own (by have := OW.out; rwa [tab_upTo_full] at this)⟩, NW.out, HB2.out⟩
end Go.Proofs.Ytlbopihffpodkaa
