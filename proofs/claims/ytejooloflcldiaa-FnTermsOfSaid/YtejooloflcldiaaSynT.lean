/- How words are read, made anew by the laws. Conditions: what is read fits the model's sizes. -/
import Derived.Test.YtejooloflcldiaaSyn
namespace Go.Proofs.Ytejooloflcldiaa
open Go.RowKit
theorem setCell_only {w : World} (p : Addr) (v : Value) : w.grownBy (w.setCell p v) (some p.block) :=
  ⟨rfl, rfl, rfl, by simp [World.setCell], fun i hi hne => Below.heap_setCell w _ _ i (fun e => hne (by rw [e]))⟩
theorem own_far {w w' : World} {B g : Nat} {e : TypeId} {size n cap : Nat} {a : Option Addr} {xs : List Value} (h : w.ownsRow B e size (.slice a n cap) n xs) (hg : w.grownBy w' (some g)) (hB : g < B) : w'.ownsRow B e size (.slice a n cap) n xs :=
  h.kept hg (by
    cases hv : (Value.slice a n cap).ownBlock with
    | none => exact .inl rfl
    | some k => right; intro e; injection e with e; have := (own_block h k hv).1; omega)
theorem OwnStrs.far {w w' : World} {B g : Nat} {a : Option Addr} {n cap : Nat} {xs : List ByteArray} (h : OwnStrs w B a n cap xs) (hg : w.grownBy w' (some g)) (hB : g < B) : OwnStrs w' B a n cap xs := ⟨h.len, h.fit, own_far h.own hg hB⟩
theorem obj_cells2 {w : World} {D : Nat} {u v : Value} {t : TypeId} (h : w.heap[D]? = some (.cells #[u, v] t (0, 0))) : w.cell? ⟨D, 0, none⟩ = some u ∧ w.cell? ⟨D, 1, none⟩ = some v ∧ w.frozen? ⟨D, 0, none⟩ = false ∧ w.frozen? ⟨D, 1, none⟩ = false :=
  ⟨by simp [World.cell?, h], by simp [World.cell?, h], by simp [World.frozen?, h], by simp [World.frozen?, h]⟩
set_option maxHeartbeats 1000000 in
theorem toSyn_any (x : SynA) (w : World) (hx : x.In w) (hn : x.n ≤ 1048576) :
    Calls Try.prog 61 #[x.v] w fun e w' => ∃ a' : Option Addr, e = .returned (.agg #[.slice a' x.n x.n, .string x.to]) ∧ OwnStrs w' w.heap.size a' x.n x.n x.fs ∧ Below w.heap.size w w' := by
  have HX := Lib.hid hx; clear hx
  unfold SynA.v
  have BA := Lib.hid ((((Below.refl w.heap.size w).alloc (Nat.le_refl _) (.cells #[.slice x.a x.n x.c, .string x.to] 80)).alloc (by simp) (.cells #[.slice none 0 0, .string ⟨#[]⟩] 53)).alloc (by simp; omega) (.cells #[.slice none 0 0, .string ⟨#[]⟩] 53))
  have H0 := Lib.hid (show (((w.alloc (.cells #[.slice x.a x.n x.c, .string x.to] 80)).alloc (.cells #[.slice none 0 0, .string ⟨#[]⟩] 53)).alloc (.cells #[.slice none 0 0, .string ⟨#[]⟩] 53)).heap[w.heap.size]? = some (.cells #[.slice x.a x.n x.c, .string x.to] 80 (0, 0)) by
    rw [Below.heap_alloc _ _ _ (by simp; omega), Below.heap_alloc _ _ _ (by simp)]; exact heap_alloc_new w _)
  have H1 := Lib.hid (show (((w.alloc (.cells #[.slice x.a x.n x.c, .string x.to] 80)).alloc (.cells #[.slice none 0 0, .string ⟨#[]⟩] 53)).alloc (.cells #[.slice none 0 0, .string ⟨#[]⟩] 53)).heap[w.heap.size + 1]? = some (.cells #[.slice none 0 0, .string ⟨#[]⟩] 53 (0, 0)) by
    rw [Below.heap_alloc _ _ _ (by simp)]
    have := heap_alloc_new (w.alloc (.cells #[.slice x.a x.n x.c, .string x.to] 80)) (.cells #[.slice none 0 0, .string ⟨#[]⟩] 53)
    rwa [World.size_alloc] at this)
  have H2 := Lib.hid (show (((w.alloc (.cells #[.slice x.a x.n x.c, .string x.to] 80)).alloc (.cells #[.slice none 0 0, .string ⟨#[]⟩] 53)).alloc (.cells #[.slice none 0 0, .string ⟨#[]⟩] 53)).heap[w.heap.size + 1 + 1]? = some (.cells #[.slice none 0 0, .string ⟨#[]⟩] 53 (0, 0)) by
    have := heap_alloc_new ((w.alloc (.cells #[.slice x.a x.n x.c, .string x.to] 80)).alloc (.cells #[.slice none 0 0, .string ⟨#[]⟩] 53)) (.cells #[.slice none 0 0, .string ⟨#[]⟩] 53)
    rwa [World.size_alloc, World.size_alloc] at this)
  have HS := Lib.hid (show (((w.alloc (.cells #[.slice x.a x.n x.c, .string x.to] 80)).alloc (.cells #[.slice none 0 0, .string ⟨#[]⟩] 53)).alloc (.cells #[.slice none 0 0, .string ⟨#[]⟩] 53)).heap.size = w.heap.size + 1 + 1 + 1 by simp)
  go_enter Try.func61, Try.ntmps61
  go_wp2_with fail
  generalize ((w.alloc (.cells #[.slice x.a x.n x.c, .string x.to] 80)).alloc (.cells #[.slice none 0 0, .string ⟨#[]⟩] 53)).alloc (.cells #[.slice none 0 0, .string ⟨#[]⟩] 53) = W0 at *
  refine (toStringS_any _ _ _ _ _ (HX.out.f.below BA.out) hn).mono ?_
  rintro e w1 ⟨a', rfl, ho, hb⟩
  have O1 := Lib.hid ho; clear ho
  have B1 := Lib.hid (BA.out.trans (hb.mono BA.out.size))
  have hs := HS.out
  obtain ⟨-, b1, -, -⟩ := obj_cells2 ((hb.block w.heap.size (by omega)).trans H0.out)
  obtain ⟨r0, r1, rf0, rf1⟩ := obj_cells2 ((hb.block (w.heap.size + 1) (by omega)).trans H1.out)
  obtain ⟨o0, o1, of0, of1⟩ := obj_cells2 ((hb.block (w.heap.size + 1 + 1) (by omega)).trans H2.out)
  clear hb
  go_wp2_with fail
  have BL := Lib.hid ((((B1.out.setCell (p := ⟨w.heap.size + 1 + 1, 0, none⟩) (by simp; omega) (.slice a' x.n x.n)).setCell (p := ⟨w.heap.size + 1 + 1, 1, none⟩) (by simp; omega) (.string x.to)).setCell (p := ⟨w.heap.size + 1, 0, none⟩) (by simp) (.slice a' x.n x.n)).setCell (p := ⟨w.heap.size + 1, 1, none⟩) (by simp) (.string x.to))
  have OL := Lib.hid ((((O1.out.far (setCell_only ⟨w.heap.size + 1 + 1, 0, none⟩ (.slice a' x.n x.n)) (by show w.heap.size + 1 + 1 < _; omega)).far (setCell_only ⟨w.heap.size + 1 + 1, 1, none⟩ (.string x.to)) (by show w.heap.size + 1 + 1 < _; omega)).far (setCell_only ⟨w.heap.size + 1, 0, none⟩ (.slice a' x.n x.n)) (by show w.heap.size + 1 < _; omega)).far (setCell_only ⟨w.heap.size + 1, 1, none⟩ (.string x.to)) (by show w.heap.size + 1 < _; omega))
  exact bodyPost_ret (v := .agg #[.slice a' x.n x.n, .string x.to]) (by simp [results, Try.results61, go_sem, r0, r1]) rfl ⟨a', rfl, OL.out.base (by omega), BL.out⟩
theorem tabU (xs : List Value) : xs = tab xs.length fun j => xs[j]?.getD undef :=
  tab_ext rfl fun j hj => by simp [hj]
theorem own_cellU {w : World} {B : Nat} {e : TypeId} {size n : Nat} {v : Value} {g cap : Nat} {xs : List Value} (h : w.ownsRow B e size v n xs) (hv : v = .slice (some ⟨g, 0, none⟩) n cap) {j : Nat} (hj : j < n * size) : (∃ u, w.cell? ⟨g, j, none⟩ = some u) ∧ w.frozen? ⟨g, j, none⟩ = false := by
  subst hv
  refine ⟨⟨xs[j]'(by rw [h.1]; exact hj), ?_⟩, h.frozenAt j⟩
  rw [h.cellAt j hj]
  simp [h.1, hj]
def SynA.blk (x : SynA) : Option Nat := (Value.slice x.a x.n x.c).ownBlock
/-- One that was made anew, like x, its row the call's own. -/
structure SNew (w : World) (B : Nat) (x y : SynA) : Prop where
  like : SynLike x y
  own : OwnStrs w B y.a y.n y.c y.fs
theorem SNew.below {w w' : World} {B : Nat} {x y : SynA} (h : SNew w B x y) (hb : Below w.heap.size w w') : SNew w' B x y := ⟨h.like, h.own.below hb⟩
theorem SNew.far {w w' : World} {B g : Nat} {x y : SynA} (h : SNew w B x y) (hg : w.grownBy w' (some g)) (hB : g < B) : SNew w' B x y := ⟨h.like, h.own.far hg hB⟩
theorem nthY_app_l {ys : List SynA} {y : SynA} {j : Nat} (h : j < ys.length) : nthY (ys ++ [y]) j = nthY ys j := by simp [nthY, List.getElem?_append_left h]
theorem nthY_app_r {ys : List SynA} {y : SynA} : nthY (ys ++ [y]) ys.length = y := by simp [nthY]
theorem syC_app {ys : List SynA} {y : SynA} {N : Nat} (Z : Nat → Value) : tab N (upTo (ys.length * 2) (syC ys) Z) = tab N (upTo (ys.length * 2) (syC (ys ++ [y])) Z) :=
  tab_congr fun j _ => by
    unfold upTo
    by_cases h : j < ys.length * 2
    · rw [if_pos h, if_pos h]; unfold syC; rw [nthY_app_l (by omega)]
    · rw [if_neg h, if_neg h]
/-- No two of them lie in one block. -/
def Apart (k : Nat) (ys : List SynA) : Prop := ∀ i j p q, i < j → j < k → (nthY ys i).blk = some p → (nthY ys j).blk = some q → p < q
set_option maxHeartbeats 1000000 in
theorem toSynS_any (a : Option Addr) (n cap : Nat) (xs : List SynA) (w : World) (hx : Syns w a n xs) (hn : n ≤ 1048576) (hs : ∀ j, j < n → (nthY xs j).n ≤ 1048576) :
    Calls Try.prog 36 #[.slice a n cap] w fun e w' => ∃ ys : List SynA, e = .returned (.slice (some ⟨w.heap.size, 0, none⟩) n n) ∧ ys.length = n ∧ w'.ownsRow w.heap.size 53 2 (.slice (some ⟨w.heap.size, 0, none⟩) n n) n (tab (n * 2) (syC ys)) ∧ (∀ j, j < n → SNew w' (w.heap.size + 1) (nthY xs j) (nthY ys j)) ∧ Apart n ys ∧ Below w.heap.size w w' := by
  have HX := Lib.hid hx; clear hx
  have HS := Lib.hid hs; clear hs
  obtain ⟨i0, hi, hz0, hz1, hz2⟩ := info_parts info_Sy
  have c2 : Try.prog.cellsOf 80 = 2 := by kernel_rfl
  have c2' : Try.prog.cellsOf 53 = 2 := by kernel_rfl
  go_enter Try.func36, Try.ntmps36
  go_wp2_with (first | (refine wpList_make_full _ rfl (.tmp 6) (.tmp 6) _ rfl w.heap.size 53 i0 _ 2 Try.underlying28 hi hz0 hz1 .i64 .i64 _ _ n rfl rfl rfl rfl (by rw [hz2]; omega) (by unfold maxLen; omega) (Nat.le_refl _) ?_; intro w1 hown hg))
  have hb1 : Below w.heap.size w w1 := (Below.refl _ _).grown hg (Nat.le_refl _) (by simp)
  have hlen := hown.1
  have hl1 : w.heap.size < w1.heap.size ∨ n = 0 := by
    rcases Nat.eq_zero_or_pos n with h0 | h0
    · exact .inr h0
    · have := hown.cellAt 0 (by omega)
      rw [tabU (madeCells _ _).toList, hlen, tab_get _ _ _ (by omega)] at this
      exact .inl (World.block_lt_of_cell? w1 _ this)
  rw [tabU (madeCells _ _).toList, hlen] at hown
  obtain ⟨Z, hZ⟩ : ∃ Z : Nat → Value, Z = fun j => ((madeCells (Value.agg #[.slice none 0 0, .string ByteArray.empty]).cells (n * 2)).toList[j]?).getD undef := ⟨_, rfl⟩
  rw [← hZ] at hown
  have HO := Lib.hid hown; clear hown hg hlen hZ
  have HB := Lib.hid hb1; clear hb1
  have HL1 := Lib.hid hl1; clear hl1
  go_loopw [4] (fun i wr => ∃ (k : Nat) (ys : List SynA), k ≤ n ∧ i = .int .i64 k ∧ ys.length = k ∧ (∀ j, j < k → SNew wr (w.heap.size + 1) (nthY xs j) (nthY ys j)) ∧ Apart k ys ∧ wr.ownsRow w.heap.size 53 2 (.slice (some ⟨w.heap.size, 0, none⟩) n n) n (tab (n * 2) (upTo (k * 2) (syC ys) Z)) ∧ Below w.heap.size w wr ∧ w1.heap.size ≤ wr.heap.size) (fun i _ => n - (intOf i).toNat)
  case atStart => exact ⟨0, [], Nat.zero_le _, rfl, rfl, fun j hj => by omega, fun i j p q hij hj => by omega, by rw [Nat.zero_mul, tab_upTo_zero]; exact HO.out, HB.out, Nat.le_refl _⟩
  case round =>
    obtain ⟨k, ys, hk, rfl, hyl, hnew, hap, hown, hb, hsz⟩ := hrel
    have NW := Lib.hid hnew; clear hnew
    have YL := Lib.hid hyl; clear hyl
    have AP := Lib.hid hap; clear hap
    have HSZ := Lib.hid hsz; clear hsz
    by_cases hlt : k < n
    · obtain ⟨b, off, rfl, hc⟩ := (HX.out.below hb).pos hlt
      obtain ⟨x0, x1⟩ := hc k hlt
      have E := Lib.hid ((HX.out.each k hlt).below hb)
      have s1 := HS.out k hlt
      have CC := Lib.hid (toSyn_any (nthY xs k) wr E.out s1)
      unfold SynA.v at CC
      have OW := Lib.hid hown; clear hown
      have HB2 := Lib.hid hb; clear hb hc
      go_wp2_with fail
      refine CC.out.mono ?_
      rintro e w2 ⟨a2, rfl, ho2, hb2⟩
      have lw : w.heap.size < wr.heap.size := by have := HSZ.out; rcases HL1.out with h | h <;> omega
      have O2 := own_below OW.out hb2 (Nat.le_refl _)
      obtain ⟨X, hX⟩ : ∃ X, X = nthY xs k := ⟨_, rfl⟩
      rw [← hX] at ho2 ⊢
      have HXX := Lib.hid hX; clear hX
      obtain ⟨y, hy⟩ : ∃ y : SynA, y = ⟨a2, X.n, X.n, X.fs, X.to⟩ := ⟨_, rfl⟩
      have DN : SNew w2 wr.heap.size (nthY xs k) y := by
        rw [← HXX.out, hy]
        exact ⟨⟨rfl, rfl, rfl⟩, ho2⟩
      obtain ⟨⟨v0, hc0⟩, hf0⟩ := own_cellU O2 rfl (j := k * 2) (by omega)
      obtain ⟨⟨v1, hc1⟩, hf1⟩ := own_cellU O2 rfl (j := k * 2 + 1) (by omega)
      have S0 := O2.stored (k * 2) (.slice a2 X.n X.n)
      have S1 := S0.1.stored (k * 2 + 1) (.string X.to)
      have OX := S1.1
      have ny : nthY (ys ++ [y]) k = y := by rw [← YL.out]; exact nthY_app_r
      rw [← YL.out, syC_app (y := y), YL.out] at OX
      rw [tab_upTo_set (by omega) (by rw [syC, if_pos (by omega), Nat.mul_div_cancel _ (by omega), ny, hy]), tab_upTo_set (by omega) (by rw [syC, if_neg (by omega), show (k * 2 + 1) / 2 = k by omega, ny, hy])] at OX
      have BX := Lib.hid (((HB2.out.trans (hb2.mono HB2.out.size)).setCell (p := ⟨w.heap.size, k * 2, none⟩) (Nat.le_refl _) (.slice a2 X.n X.n)).setCell (p := ⟨w.heap.size, k * 2 + 1, none⟩) (Nat.le_refl _) (.string X.to))
      have NW2 : Hid (∀ j, j < k + 1 → SNew ((w2.setCell ⟨w.heap.size, k * 2, none⟩ (.slice a2 X.n X.n)).setCell ⟨w.heap.size, k * 2 + 1, none⟩ (.string X.to)) (w.heap.size + 1) (nthY xs j) (nthY (ys ++ [y]) j)) := by
        intro j hj
        by_cases hjk : j < k
        · rw [nthY_app_l (by rw [YL.out]; exact hjk)]
          exact (((NW.out j hjk).below hb2).far (setCell_only _ _) (Nat.lt_succ_self _)).far (setCell_only _ _) (Nat.lt_succ_self _)
        · obtain rfl : j = k := by omega
          rw [ny]
          have := (DN.far (setCell_only ⟨w.heap.size, j * 2, none⟩ (.slice a2 X.n X.n)) lw).far (setCell_only ⟨w.heap.size, j * 2 + 1, none⟩ (.string X.to)) lw
          exact ⟨this.like, this.own.base (by omega)⟩
      have AP2 : Hid (Apart (k + 1) (ys ++ [y])) := by
        intro i j p q hij hj hp hq
        rw [nthY_app_l (by rw [YL.out]; omega)] at hp
        by_cases hjk : j < k
        · rw [nthY_app_l (by rw [YL.out]; exact hjk)] at hq
          exact AP.out i j p q hij hjk hp hq
        · obtain rfl : j = k := by omega
          rw [ny] at hq
          have h1 := (own_block (NW.out i hij).own.own p hp).2
          have h2 := (own_block DN.own.own q hq).1
          omega
      have OX1 := Lib.hid OX
      have LX := Lib.hid (show (ys ++ [y]).length = k + 1 by rw [List.length_append, YL.out]; rfl)
      have SX := Lib.hid (Nat.le_trans HSZ.out hb2.size)
      clear O2 S0 S1 OX hb2 ho2 DN ny hy s1
      go_wp2_with fail
      go_roundw
      case rel => exact ⟨k + 1, ys ++ [y], by omega, by go_num, LX.out, NW2.out, AP2.out, by rw [show (k + 1) * 2 = k * 2 + 1 + 1 by omega]; exact OX1.out, BX.out, by simpa using SX.out⟩
      case measure => simp [intOf]; omega
    · obtain rfl : k = n := by omega
      have OW := Lib.hid hown; clear hown
      have HB2 := Lib.hid hb; clear hb
      go_wp2_with fail
      go_ret
      exact ⟨ys, rfl, YL.out, by have := OW.out; rwa [tab_upTo_full] at this, NW.out, AP.out, HB2.out⟩
/-- What toConf makes. -/
structure CNew (w : World) (B : Nat) (x : ConfA) (y : ConfA) : Prop where
  n : x.n = y.n
  ss : x.ss = y.ss
  m : x.m = y.m
  own : OwnStrs w B y.a y.n y.c y.ss
  row : w.ownsRow B 53 2 (.slice y.b y.m y.d) y.m (tab (y.m * 2) (syC y.ys))
  len : y.ys.length = y.m
  each : ∀ j, j < y.m → SNew w B (nthY x.ys j) (nthY y.ys j)
  apart : Apart y.m y.ys
  first : ∀ j p q, j < y.m → (Value.slice y.a y.n y.c).ownBlock = some p → (nthY y.ys j).blk = some q → p < q
theorem CNew.in {w : World} {B : Nat} {x y : ConfA} (h : CNew w B x y) (hx : ∀ j, j < x.m → (nthY x.ys j).n ≤ maxLen ∧ (nthY x.ys j).to.size ≤ maxLen) (hn : x.n ≤ maxLen) (hm : x.m ≤ maxLen) : y.In w := by
  refine ⟨h.own.strs, ⟨h.len, fun j hj => ?_, Rd.of_own h.row⟩, by rw [← h.n]; exact hn, by rw [← h.m]; exact hm⟩
  have s := h.each j hj
  have hh := hx j (by rw [h.m]; exact hj)
  exact ⟨s.own.strs, by rw [← s.like.n]; exact hh.1, by rw [← s.like.to]; exact hh.2⟩
theorem CNew.below {w w' : World} {B : Nat} {x y : ConfA} (h : CNew w B x y) (hb : Below w.heap.size w w') : CNew w' B x y := ⟨h.n, h.ss, h.m, h.own.below hb, own_below h.row hb (Nat.le_refl _), h.len, fun j hj => (h.each j hj).below hb, h.apart, h.first⟩
theorem ConfA.In.fits {w : World} {x : ConfA} (h : x.In w) : ∀ j, j < x.m → (nthY x.ys j).n ≤ maxLen ∧ (nthY x.ys j).to.size ≤ maxLen := fun j hj => ⟨(h.y.each j hj).hn, (h.y.each j hj).ht⟩
theorem CNew.likes {w w' : World} {B B' : Nat} {x y z : ConfA} (h : CNew w B x y) (k : CNew w' B' x z) : y.n = z.n ∧ y.ss = z.ss ∧ y.m = z.m ∧ ∀ j, j < y.m → SynLike (nthY y.ys j) (nthY z.ys j) := by
  refine ⟨h.n.symm.trans k.n, h.ss.symm.trans k.ss, h.m.symm.trans k.m, fun j hj => ?_⟩
  have a := (h.each j hj).like
  have b := (k.each j (by rw [← k.m, h.m]; exact hj)).like
  exact ⟨a.n.symm.trans b.n, a.fs.symm.trans b.fs, a.to.symm.trans b.to⟩
set_option maxHeartbeats 1000000 in
theorem toConf_any (x : ConfA) (w : World) (hx : x.In w) (hn : x.n ≤ 1048576) (hm : x.m ≤ 1048576) (hs : ∀ j, j < x.m → (nthY x.ys j).n ≤ 1048576) :
    Calls Try.prog 12 #[x.v] w fun e w' => ∃ y : ConfA, e = .returned y.v ∧ CNew w' w.heap.size x y ∧ Below w.heap.size w w' := by
  have HX := Lib.hid hx; clear hx
  have HSS := Lib.hid hs; clear hs
  unfold ConfA.v
  have BA := Lib.hid ((((Below.refl w.heap.size w).alloc (Nat.le_refl _) (.cells #[.slice x.a x.n x.c, .slice x.b x.m x.d] 25)).alloc (by simp) (.cells #[.slice none 0 0, .slice none 0 0] 30)).alloc (by simp; omega) (.cells #[.slice none 0 0, .slice none 0 0] 30))
  have H0 := Lib.hid (show (((w.alloc (.cells #[.slice x.a x.n x.c, .slice x.b x.m x.d] 25)).alloc (.cells #[.slice none 0 0, .slice none 0 0] 30)).alloc (.cells #[.slice none 0 0, .slice none 0 0] 30)).heap[w.heap.size]? = some (.cells #[.slice x.a x.n x.c, .slice x.b x.m x.d] 25 (0, 0)) by
    rw [Below.heap_alloc _ _ _ (by simp; omega), Below.heap_alloc _ _ _ (by simp)]; exact heap_alloc_new w _)
  have H1 := Lib.hid (show (((w.alloc (.cells #[.slice x.a x.n x.c, .slice x.b x.m x.d] 25)).alloc (.cells #[.slice none 0 0, .slice none 0 0] 30)).alloc (.cells #[.slice none 0 0, .slice none 0 0] 30)).heap[w.heap.size + 1]? = some (.cells #[.slice none 0 0, .slice none 0 0] 30 (0, 0)) by
    rw [Below.heap_alloc _ _ _ (by simp)]
    have := heap_alloc_new (w.alloc (.cells #[.slice x.a x.n x.c, .slice x.b x.m x.d] 25)) (.cells #[.slice none 0 0, .slice none 0 0] 30)
    rwa [World.size_alloc] at this)
  have H2 := Lib.hid (show (((w.alloc (.cells #[.slice x.a x.n x.c, .slice x.b x.m x.d] 25)).alloc (.cells #[.slice none 0 0, .slice none 0 0] 30)).alloc (.cells #[.slice none 0 0, .slice none 0 0] 30)).heap[w.heap.size + 1 + 1]? = some (.cells #[.slice none 0 0, .slice none 0 0] 30 (0, 0)) by
    have := heap_alloc_new ((w.alloc (.cells #[.slice x.a x.n x.c, .slice x.b x.m x.d] 25)).alloc (.cells #[.slice none 0 0, .slice none 0 0] 30)) (.cells #[.slice none 0 0, .slice none 0 0] 30)
    rwa [World.size_alloc, World.size_alloc] at this)
  have HS := Lib.hid (show (((w.alloc (.cells #[.slice x.a x.n x.c, .slice x.b x.m x.d] 25)).alloc (.cells #[.slice none 0 0, .slice none 0 0] 30)).alloc (.cells #[.slice none 0 0, .slice none 0 0] 30)).heap.size = w.heap.size + 1 + 1 + 1 by simp)
  go_enter Try.func12, Try.ntmps12
  go_wp2_with fail
  generalize ((w.alloc (.cells #[.slice x.a x.n x.c, .slice x.b x.m x.d] 25)).alloc (.cells #[.slice none 0 0, .slice none 0 0] 30)).alloc (.cells #[.slice none 0 0, .slice none 0 0] 30) = W0 at *
  refine (toStringS_any _ _ _ _ _ (HX.out.s.below BA.out) hn).mono ?_
  rintro e w1 ⟨a', rfl, ho, hb⟩
  have O1 := Lib.hid ho; clear ho
  have B1 := Lib.hid (BA.out.trans (hb.mono BA.out.size))
  have hs := HS.out
  have hsz1 := hb.size
  have K0 := Lib.hid ((hb.block w.heap.size (by omega)).trans H0.out)
  have K1 := Lib.hid ((hb.block (w.heap.size + 1) (by omega)).trans H1.out)
  have K2 := Lib.hid ((hb.block (w.heap.size + 1 + 1) (by omega)).trans H2.out)
  obtain ⟨-, b1, -, -⟩ := obj_cells2 K0.out
  obtain ⟨o0, o1, of0, of1⟩ := obj_cells2 K2.out
  clear hb
  go_wp2_with fail
  obtain ⟨w2, hw2⟩ : ∃ w2, w2 = w1.setCell ⟨w.heap.size + 1 + 1, 0, none⟩ (.slice a' x.n x.n) := ⟨_, rfl⟩
  have G2 := Lib.hid (show w1.grownBy w2 (some (w.heap.size + 1 + 1)) by rw [hw2]; exact setCell_only _ _)
  have B2 := Lib.hid (show Below w.heap.size w w2 by rw [hw2]; exact B1.out.setCell (p := ⟨w.heap.size + 1 + 1, 0, none⟩) (by simp; omega) _)
  have O2 := Lib.hid (O1.out.far G2.out (by omega))
  have L1 := Lib.hid ((G2.out.block (w.heap.size + 1) (by omega) (by simp)).trans K1.out)
  have L2 := Lib.hid (show w2.heap[w.heap.size + 1 + 1]? = some (.cells #[.slice a' x.n x.n, .slice none 0 0] 30 (0, 0)) by
    have := K2.out
    rw [hw2]; simp [World.setCell, Array.getElem?_modify, this])
  have hs2 : w2.heap.size = w1.heap.size := by rw [hw2]; simp [World.setCell]
  rw [← hw2]
  clear hw2 o0 o1 of0 of1 b1
  refine (toSynS_any _ _ _ _ _ (HX.out.y.below B2.out) hm HSS.out).mono ?_
  rintro e w3 ⟨ys, rfl, hyl, hrow, hnew, hap, hb⟩
  rw [hs2] at hrow hnew
  have YL := Lib.hid hyl; clear hyl
  have ROW := Lib.hid hrow; clear hrow
  have NEW := Lib.hid hnew; clear hnew
  have AP := Lib.hid hap; clear hap
  have B3 := Lib.hid (B2.out.trans (hb.mono B2.out.size))
  have O3 := Lib.hid (O2.out.below hb)
  obtain ⟨r0, r1, rf0, rf1⟩ := obj_cells2 ((hb.block (w.heap.size + 1) (by omega)).trans L1.out)
  obtain ⟨o0, o1, of0, of1⟩ := obj_cells2 ((hb.block (w.heap.size + 1 + 1) (by omega)).trans L2.out)
  clear hb
  go_wp2_with fail
  have BL := Lib.hid (((B3.out.setCell (p := ⟨w.heap.size + 1 + 1, 1, none⟩) (by simp; omega) (.slice (some ⟨w1.heap.size, 0, none⟩) x.m x.m)).setCell (p := ⟨w.heap.size + 1, 0, none⟩) (by simp) (.slice a' x.n x.n)).setCell (p := ⟨w.heap.size + 1, 1, none⟩) (by simp) (.slice (some ⟨w1.heap.size, 0, none⟩) x.m x.m))
  have S1 := Lib.hid (setCell_only (w := w3) ⟨w.heap.size + 1 + 1, 1, none⟩ (.slice (some ⟨w1.heap.size, 0, none⟩) x.m x.m))
  have S2 := Lib.hid (setCell_only (w := w3.setCell ⟨w.heap.size + 1 + 1, 1, none⟩ (.slice (some ⟨w1.heap.size, 0, none⟩) x.m x.m)) ⟨w.heap.size + 1, 0, none⟩ (.slice a' x.n x.n))
  have S3 := Lib.hid (setCell_only (w := (w3.setCell ⟨w.heap.size + 1 + 1, 1, none⟩ (.slice (some ⟨w1.heap.size, 0, none⟩) x.m x.m)).setCell ⟨w.heap.size + 1, 0, none⟩ (.slice a' x.n x.n)) ⟨w.heap.size + 1, 1, none⟩ (.slice (some ⟨w1.heap.size, 0, none⟩) x.m x.m))
  have FIN : Hid (CNew (((w3.setCell ⟨w.heap.size + 1 + 1, 1, none⟩ (.slice (some ⟨w1.heap.size, 0, none⟩) x.m x.m)).setCell ⟨w.heap.size + 1, 0, none⟩ (.slice a' x.n x.n)).setCell ⟨w.heap.size + 1, 1, none⟩ (.slice (some ⟨w1.heap.size, 0, none⟩) x.m x.m)) w.heap.size x ⟨a', x.n, x.n, x.ss, some ⟨w1.heap.size, 0, none⟩, x.m, x.m, ys⟩) := by
    refine ⟨rfl, rfl, rfl, ?_, ?_, YL.out, fun j hj => ?_, AP.out, fun j p q hj hp hq => ?_⟩
    · exact (((O3.out.far S1.out (by show w.heap.size + 1 + 1 < _; omega)).far S2.out (by show w.heap.size + 1 < _; omega)).far S3.out (by show w.heap.size + 1 < _; omega)).base (by omega)
    · exact own_base (own_far (own_far (own_far ROW.out S1.out (by show w.heap.size + 1 + 1 < _; omega)) S2.out (by show w.heap.size + 1 < _; omega)) S3.out (by show w.heap.size + 1 < _; omega)) (by omega)
    · have h := (((NEW.out j hj).far S1.out (by show w.heap.size + 1 + 1 < _; omega)).far S2.out (by show w.heap.size + 1 < _; omega)).far S3.out (by show w.heap.size + 1 < _; omega)
      exact ⟨h.like, h.own.base (by omega)⟩
    · have h1 := (own_block O1.out.own p hp).2
      have h2 := (own_block (NEW.out j hj).own.own q hq).1
      omega
  exact bodyPost_ret (v := .agg #[.slice a' x.n x.n, .slice (some ⟨w1.heap.size, 0, none⟩) x.m x.m]) (by simp [results, Try.results12, go_sem, r0, r1]) rfl ⟨⟨a', x.n, x.n, x.ss, some ⟨w1.heap.size, 0, none⟩, x.m, x.m, ys⟩, rfl, FIN.out, BL.out⟩
end Go.Proofs.Ytejooloflcldiaa
