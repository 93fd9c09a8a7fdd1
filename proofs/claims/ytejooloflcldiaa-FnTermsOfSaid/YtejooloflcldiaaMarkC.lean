/- The walk of what marks how words are read. Conditions: what is read fits the model's sizes. -/
import Derived.Test.YtejooloflcldiaaTermH
namespace Go.Proofs.Ytejooloflcldiaa
open Go.RowKit
/-- Nothing below B has turned, and nothing from C on that was there. -/
structure Within (B C : Nat) (w w' : World) : Prop where
  lo : Below B w w'
  hi : ∀ i, C ≤ i → i < w.heap.size → w'.heap[i]? = w.heap[i]?
theorem Within.refl (B C : Nat) (w : World) : Within B C w w := ⟨Below.refl _ _, fun _ _ _ => rfl⟩
theorem Within.trans {B C : Nat} {a b c : World} (h : Within B C a b) (k : Within B C b c) : Within B C a c :=
  ⟨h.lo.trans k.lo, fun i hi hl => (k.hi i hi (Nat.lt_of_lt_of_le hl h.lo.size)).trans (h.hi i hi hl)⟩
theorem Within.of_below {B C : Nat} {w w' : World} (h : Below w.heap.size w w') (hB : B ≤ w.heap.size) : Within B C w w' := ⟨h.mono hB, fun i _ hl => h.block i hl⟩
theorem Within.of_grown {B C : Nat} {w w' : World} {row : Option Nat} (h : w.grownBy w' row) (hB : B ≤ w.heap.size) (hr : ∀ k, row = some k → B ≤ k ∧ k < C) : Within B C w w' :=
  ⟨(Below.refl B w).grown h hB (fun k hk => (hr k hk).1), fun i hi hl => h.block i hl (fun e => by have := (hr i e.symm).2; omega)⟩
theorem own_within {w w' : World} {B B' C : Nat} {e : TypeId} {size n : Nat} {v : Value} {xs : List Value} (h : w.ownsRow B' e size v n xs) (hw : Within B C w w') (hC : C ≤ B') : w'.ownsRow B' e size v n xs := by
  refine ⟨h.1, ?_⟩
  rcases h.2 with hn | ⟨g, cap, cur, hv, hg, hh, r⟩
  · exact .inl hn
  · exact .inr ⟨g, cap, cur, hv, hg, by rw [hw.hi g (by omega) (Array.getElem?_eq_some_iff.1 hh).1]; exact hh, r⟩
/-- What is marked: rows of words that stand for others. -/
structure SynsMk (w : World) (B C : Nat) (a : Option Addr) (n cap : Nat) (ys : List SynA) (F : Nat → Value) : Prop where
  row : w.ownsRow B 53 2 (.slice a n cap) n (tab (n * 2) F)
  ptr : ∀ j, j < n → F (j * 2) = .slice (nthY ys j).a (nthY ys j).n (nthY ys j).c
  each : ∀ j, j < n → ∃ G, w.ownsRow B 9 1 (.slice (nthY ys j).a (nthY ys j).n (nthY ys j).c) (nthY ys j).n (tab (nthY ys j).n G)
  lt : ∀ q, (Value.slice a n cap).ownBlock = some q → q < C
  each_lt : ∀ j q, j < n → (nthY ys j).blk = some q → q < C
  apart : Apart n ys
theorem SynsMk.below {w w' : World} {B C : Nat} {a : Option Addr} {n cap : Nat} {ys : List SynA} {F : Nat → Value} (h : SynsMk w B C a n cap ys F) (hb : Below w.heap.size w w') : SynsMk w' B C a n cap ys F :=
  ⟨own_below h.row hb (Nat.le_refl _), h.ptr, fun j hj => by obtain ⟨G, hG⟩ := h.each j hj; exact ⟨G, own_below hG hb (Nat.le_refl _)⟩, h.lt, h.each_lt, h.apart⟩
/-- .. once the words of one were marked. -/
theorem SynsMk.one {w w' : World} {B C k : Nat} {a : Option Addr} {n cap : Nat} {ys : List SynA} {F G : Nat → Value} (h : SynsMk w B C a n cap ys F) (hk : k < n) (hg : w.grownBy w' (nthY ys k).blk) (ho : w'.ownsRow B 9 1 (.slice (nthY ys k).a (nthY ys k).n (nthY ys k).c) (nthY ys k).n (tab (nthY ys k).n G)) : SynsMk w' B C a n cap ys F := by
  refine ⟨own_other h.row hg (fun q hq => ?_), h.ptr, fun j hj => ?_, h.lt, h.each_lt, h.apart⟩
  · obtain ⟨G0, h0⟩ := h.each k hk
    obtain ⟨cur, hc⟩ := own_kind h0 hq
    exact ⟨cur, _, by decide, hc⟩
  · rcases Nat.lt_trichotomy j k with hjk | hjk | hjk
    · obtain ⟨Gj, hj1⟩ := h.each j hj
      refine ⟨Gj, hj1.kept hg ?_⟩
      cases hb : (Value.slice (nthY ys j).a (nthY ys j).n (nthY ys j).c).ownBlock with
      | none => exact .inl rfl
      | some p =>
        right
        intro e
        have := h.apart j k p p hjk hk hb e.symm
        omega
    · subst hjk; exact ⟨G, ho⟩
    · obtain ⟨Gj, hj1⟩ := h.each j hj
      refine ⟨Gj, hj1.kept hg ?_⟩
      cases hb : (Value.slice (nthY ys j).a (nthY ys j).n (nthY ys j).c).ownBlock with
      | none => exact .inl rfl
      | some p =>
        right
        intro e
        have := h.apart k j p p hjk hj e.symm hb
        omega
/-- .. once what one stands for was marked. -/
theorem SynsMk.put {w w' : World} {B C k : Nat} {a : Option Addr} {n cap : Nat} {ys : List SynA} {F : Nat → Value} {u : Value} (h : SynsMk w B C a n cap ys F) (hk : k < n) (hg : w.grownBy w' (Value.slice a n cap).ownBlock) (ho : w'.ownsRow B 53 2 (.slice a n cap) n ((tab (n * 2) F).set (k * 2 + 1) u)) : SynsMk w' B C a n cap ys (fun j => if j = k * 2 + 1 then u else F j) := by
  refine ⟨?_, fun j hj => ?_, fun j hj => ?_, h.lt, h.each_lt, h.apart⟩
  · rw [show tab (n * 2) (fun j => if j = k * 2 + 1 then u else F j) = (tab (n * 2) F).set (k * 2 + 1) u from (tab_ext (by simp [tab_length]) fun j hj => by
      rw [List.getElem?_set]
      by_cases e : k * 2 + 1 = j
      · rw [if_pos e, if_pos (by rw [tab_length]; omega), if_pos e.symm]
      · rw [if_neg e, if_neg (fun h => e h.symm), tab_get _ _ _ hj]).symm]
    exact ho
  · rw [if_neg (by omega)]; exact h.ptr j hj
  · obtain ⟨G, hG⟩ := h.each j hj
    refine ⟨G, own_other hG hg (fun q hq => ?_)⟩
    obtain ⟨cur, hc⟩ := own_kind h.row hq
    exact ⟨cur, _, by decide, hc⟩
set_option maxHeartbeats 1000000 in
theorem markSynS_any (a : Option Addr) (n cap k B C : Nat) (ys : List SynA) (F0 : Nat → Value) (w : World) (hx : SynsMk w B C a n cap ys F0) (hB : B ≤ w.heap.size) (hn : ∀ j, j < n → (nthY ys j).n ≤ 1048576) (hm : n ≤ 1048576) (h0 : 0 < k) (h1 : k ≤ 1048577) :
    Calls Try.prog 55 #[.slice a n cap, .int .i64 k] w fun e w' => ∃ r : Nat, e = .returned (.int .i64 r) ∧ Within B C w w' := by
  have HX := Lib.hid hx; clear hx
  have HN := Lib.hid hn; clear hn
  have c2 : Try.prog.cellsOf 53 = 2 := by kernel_rfl
  go_enter Try.func55, Try.ntmps55
  go_wp2_with fail
  go_loopw [1, 5] (fun v i wr => ∃ (m q : Nat) (F : Nat → Value), m ≤ n ∧ i = .int .i64 m ∧ v = .int .i64 (q : Int) ∧ 0 < q ∧ q ≤ 1048577 + m * 1048577 ∧ SynsMk wr B C a n cap ys F ∧ Within B C w wr) (fun _ i _ => n - (intOf i).toNat)
  case atStart => exact ⟨0, k, F0, Nat.zero_le _, rfl, rfl, h0, by omega, HX.out, Within.refl _ _ _⟩
  case round =>
    obtain ⟨m, q, F, hm2, rfl, rfl, hq0, hq1, hmk, hwi⟩ := hrel
    by_cases hlt : m < n
    · obtain ⟨g, rfl, hgB, hgs⟩ := own_pos hmk.row (by omega)
      have MK := Lib.hid hmk
      have WI := Lib.hid hwi
      have hp := hmk.ptr m hlt
      have e0 := hmk.row.cellAt (m * 2) (by omega)
      rw [tab_get _ _ _ (by omega), hp] at e0
      have yn := HN.out m hlt
      obtain ⟨G, hG⟩ := hmk.each m hlt
      have CM := Lib.hid (markStringS_any _ _ _ q B G wr hG hq0 (by omega))
      have hB2 := Nat.le_trans hB hwi.lo.size
      clear hmk hwi hp hG
      obtain ⟨y, hy⟩ : ∃ y, y = nthY ys m := ⟨_, rfl⟩
      rw [← hy] at e0 yn CM
      have HY := Lib.hid hy; clear hy
      go_wp2_with fail
      refine CM.out.mono ?_
      clear CM
      rintro e w1 ⟨rfl, ho, hg⟩
      have M1 := Lib.hid (MK.out.one hlt (by rw [← HY.out]; exact hg) (by rw [← HY.out]; exact ho))
      have W1 := Lib.hid (WI.out.trans (Within.of_grown hg hB2 (fun p hp => ⟨(own_block ho p hp).1, MK.out.each_lt m p hlt (by rw [← HY.out]; exact hp)⟩)))
      have hB3 := Nat.le_trans hB2 hg.size
      clear ho hg e0
      have vq : ((q : Int) + (y.n : Int)) = ((q + y.n : Nat) : Int) := by omega
      rw [vq]
      clear vq
      have hr0 : 0 < q + y.n := by omega
      have hr1 : q + y.n ≤ 1048577 + m * 1048577 + 1048576 := by omega
      generalize q + y.n = q1 at *
      clear hq0 hq1
      go_wp2_with fail
      refine (markText_any q1 hr0 (by omega) _).mono ?_
      rintro e w2 ⟨rfl, hb⟩
      have M2 := Lib.hid (M1.out.below hb)
      have W2 := Lib.hid (W1.out.trans (Within.of_below hb hB3))
      have hB4 := Nat.le_trans hB3 hb.size
      clear hb
      obtain ⟨⟨v1, hc1⟩, hf1⟩ := own_cellT M2.out.row rfl (j := m * 2 + 1) (by omega)
      have S1 := M2.out.row.stored (m * 2 + 1) (.string (markS q1))
      have M3 := Lib.hid (M2.out.put hlt S1.2 S1.1)
      have W3 := Lib.hid (W2.out.trans (Within.of_grown S1.2 hB4 (fun p hp => ⟨(own_block M2.out.row p hp).1, M2.out.lt p hp⟩)))
      clear S1
      go_wp2_with fail
      go_roundw
      case rel => exact ⟨m + 1, q1 + 1, _, by omega, by go_num, by go_num, by omega, by omega, M3.out, W3.out⟩
      case measure => simp [intOf]; omega
    · have WI := Lib.hid hwi
      clear hmk hwi
      go_wp2_with fail
      go_ret
      exact ⟨q, rfl, WI.out⟩
theorem CNew.marks {w : World} {B : Nat} {x y : ConfA} (h : CNew w B x y) : SynsMk w B w.heap.size y.b y.m y.d y.ys (syC y.ys) :=
  ⟨h.row, fun j hj => by rw [syC, if_pos (by omega), Nat.mul_div_cancel _ (by omega)], fun j hj => ⟨_, (h.each j hj).own.own⟩, fun q hq => (own_block h.row q hq).2, fun j q hj hq => (own_block (h.each j hj).own.own q hq).2, h.apart⟩
set_option maxHeartbeats 1000000 in
/-- Marks turn nothing but what was made. C: how much there was when it was made. -/
theorem markConf_any (x y : ConfA) (B : Nat) (w0 w : World) (hx : CNew w0 B x y) (hy : CNew w B x y) (hl : w0.heap.size ≤ w.heap.size) (hB : B ≤ w0.heap.size) (hn : x.n ≤ 1048576) (hm : x.m ≤ 1048576) (hs : ∀ j, j < x.m → (nthY x.ys j).n ≤ 1048576) :
    Calls Try.prog 29 #[y.v, .int .i64 1] w fun e w' => ∃ r : Nat, e = .returned (.int .i64 r) ∧ Within B w0.heap.size w w' := by
  have hn' : y.n ≤ 1048576 := by rw [← hx.n]; exact hn
  have hm' : y.m ≤ 1048576 := by rw [← hx.m]; exact hm
  have HS : Hid (∀ j, j < y.m → (nthY y.ys j).n ≤ 1048576) := fun j hj => by rw [← (hx.each j hj).like.n]; exact hs j (by rw [hx.m]; exact hj)
  have HX := Lib.hid hx; have HY := Lib.hid hy
  clear hx hy hn hm hs
  have BA := Lib.hid ((Below.refl w.heap.size w).alloc (Nat.le_refl _) (.cells #[.slice y.a y.n y.c, .slice y.b y.m y.d] 30))
  have b0 := Lib.hid (show (w.alloc (.cells #[.slice y.a y.n y.c, .slice y.b y.m y.d] 30)).heap[w.heap.size]? = some (.cells #[.slice y.a y.n y.c, .slice y.b y.m y.d] 30 (0, 0)) from heap_alloc_new w _)
  have hB2 : B ≤ (w.alloc (.cells #[.slice y.a y.n y.c, .slice y.b y.m y.d] 30)).heap.size := by have := BA.out.size; omega
  have hlz : w.heap.size < (w.alloc (.cells #[.slice y.a y.n y.c, .slice y.b y.m y.d] 30)).heap.size := by simp
  unfold ConfA.v
  go_enter Try.func29, Try.ntmps29
  go_wp2_with fail
  generalize w.alloc (.cells #[.slice y.a y.n y.c, .slice y.b y.m y.d] 30) = W at *
  have Y1 := Lib.hid (HY.out.below BA.out)
  have CM := Lib.hid (markStringS_any _ _ _ 1 B _ W Y1.out.own.own (by omega) (by omega))
  refine CM.out.mono ?_
  clear CM
  rintro e w1 ⟨rfl, ho, hg⟩
  have fr : ∀ p, (Value.slice y.a y.n y.c).ownBlock = some p → B ≤ p ∧ p < w0.heap.size := fun p hp => ⟨(own_block ho p hp).1, (own_block HX.out.own.own p hp).2⟩
  have W1 := Lib.hid ((Within.of_below (C := w0.heap.size) BA.out (Nat.le_trans hB hl)).trans (Within.of_grown hg hB2 fr))
  have hne : (Value.slice y.a y.n y.c).ownBlock ≠ some w.heap.size := fun e => by have := (fr _ e).2; omega
  have b1 := (hg.block w.heap.size hlz (fun e => hne e.symm)).trans b0.out
  obtain ⟨c0, c1, -, -⟩ := obj_cells2 b1
  have M1 : Hid (SynsMk w1 B w0.heap.size y.b y.m y.d y.ys (syC y.ys)) := by
    have m0 := HX.out.marks
    have m1 := Y1.out.marks
    refine ⟨own_other m1.row hg (fun q hq => ?_), m1.ptr, fun j hj => ?_, m0.lt, m0.each_lt, m1.apart⟩
    · obtain ⟨cur, hc⟩ := own_kind Y1.out.own.own hq
      exact ⟨cur, _, by decide, hc⟩
    · obtain ⟨G, hG⟩ := m1.each j hj
      refine ⟨G, hG.kept hg ?_⟩
      cases hb : (Value.slice (nthY y.ys j).a (nthY y.ys j).n (nthY y.ys j).c).ownBlock with
      | none => exact .inl rfl
      | some p =>
        right
        intro e
        have := HX.out.first j p p hj e.symm hb
        omega
  have hB3 := Nat.le_trans hB2 hg.size
  clear ho hg fr hne b1
  have vq : ((1 : Nat) : Int) + (y.n : Int) = ((1 + y.n : Nat) : Int) := by omega
  rw [vq]
  clear vq
  go_wp2_with fail
  refine (markSynS_any _ _ _ (1 + y.n) B w0.heap.size y.ys _ w1 M1.out hB3 HS.out hm' (by omega) (by omega)).mono ?_
  rintro e w2 ⟨r, rfl, hw2⟩
  have W2 := Lib.hid (W1.out.trans hw2); clear hw2
  go_wp2_with fail
  go_ret
  exact ⟨r, rfl, W2.out⟩
end Go.Proofs.Ytejooloflcldiaa
