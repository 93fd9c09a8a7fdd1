/- How words are read, as it lies in memory, and the laws' helpers on it. Conditions: what is read fits the model's sizes. -/
import Derived.Test.YtejooloflcldiaaStrs
import Derived.Test.YtejooloflcldiaaQuiet
namespace Go.Proofs.Ytejooloflcldiaa
open Go.RowKit
/-- Words that stand for others, with where they lie. -/
structure SynA where
  a : Option Addr
  n : Nat
  c : Nat
  fs : List ByteArray
  to : ByteArray
def SynA.none : SynA := ⟨Option.none, 0, 0, [], ByteArray.empty⟩
def SynA.v (x : SynA) : Value := .agg #[.slice x.a x.n x.c, .string x.to]
structure SynA.In (x : SynA) (w : World) : Prop where
  f : Strs w x.a x.n x.fs
  hn : x.n ≤ maxLen
  ht : x.to.size ≤ maxLen
theorem SynA.In.below {w w' : World} {x : SynA} (h : x.In w) (hb : Below w.heap.size w w') : x.In w' := ⟨h.f.below hb, h.hn, h.ht⟩
def nthY (ys : List SynA) (i : Nat) : SynA := ys[i]?.getD SynA.none
def syC (ys : List SynA) (j : Nat) : Value := if j % 2 = 0 then .slice (nthY ys (j / 2)).a (nthY ys (j / 2)).n (nthY ys (j / 2)).c else .string (nthY ys (j / 2)).to
/-- A slice that reads as such. -/
structure Syns (w : World) (a : Option Addr) (n : Nat) (ys : List SynA) : Prop where
  len : ys.length = n
  each : ∀ j, j < n → (nthY ys j).In w
  rd : Rd w a (n * 2) (syC ys)
theorem Syns.below {w w' : World} {a : Option Addr} {n : Nat} {ys : List SynA} (h : Syns w a n ys) (hb : Below w.heap.size w w') : Syns w' a n ys := ⟨h.len, fun j hj => (h.each j hj).below hb, h.rd.below hb⟩
theorem Syns.pos {w : World} {a : Option Addr} {n i : Nat} {ys : List SynA} (h : Syns w a n ys) (hi : i < n) : ∃ b off, a = some ⟨b, off, none⟩ ∧ ∀ i, i < n →
    w.cell? ⟨b, off + i * 2, none⟩ = some (.slice (nthY ys i).a (nthY ys i).n (nthY ys i).c) ∧ w.cell? ⟨b, off + i * 2 + 1, none⟩ = some (.string (nthY ys i).to) := by
  obtain ⟨b, off, rfl, hc⟩ := h.rd.pos (k := i * 2) (by omega)
  refine ⟨b, off, rfl, fun i hi => ⟨?_, ?_⟩⟩
  · rw [hc (i * 2) (by omega), syC, if_pos (by omega), Nat.mul_div_cancel _ (by omega)]
  · rw [Nat.add_assoc, hc (i * 2 + 1) (by omega), syC, if_neg (by omega), show (i * 2 + 1) / 2 = i by omega]
/-- How words are read. -/
structure ConfA where
  a : Option Addr
  n : Nat
  c : Nat
  ss : List ByteArray
  b : Option Addr
  m : Nat
  d : Nat
  ys : List SynA
def ConfA.v (x : ConfA) : Value := .agg #[.slice x.a x.n x.c, .slice x.b x.m x.d]
structure ConfA.In (x : ConfA) (w : World) : Prop where
  s : Strs w x.a x.n x.ss
  y : Syns w x.b x.m x.ys
  hn : x.n ≤ maxLen
  hm : x.m ≤ maxLen
theorem ConfA.In.below {w w' : World} {x : ConfA} (h : x.In w) (hb : Below w.heap.size w w') : x.In w' := ⟨h.s.below hb, h.y.below hb, h.hn, h.hm⟩
theorem info_Sy : (Try.prog.info? 53).map (fun i => (i.zero, i.size, i.bytes)) = some (some (.agg #[.slice none 0 0, .string ByteArray.empty]), 2, 40) := by kernel_rfl
theorem szSyn_any (x : SynA) (left : Int) (w : World) (hx : x.In w) (h0 : 0 ≤ left) (h1 : left ≤ 1048576) :
    Calls Try.prog 57 #[x.v, .int .i64 left] w fun e w' => ∃ r : Int, e = .returned (.int .i64 r) ∧ -1 ≤ r ∧ r ≤ left ∧ (0 ≤ r → (x.n : Int) ≤ left ∧ (x.to.size : Int) ≤ left) ∧ Below w.heap.size w w' := by
  have HX := Lib.hid hx
  have ht := hx.ht
  unfold maxLen at ht
  clear hx
  unfold SynA.v
  go_enter Try.func57, Try.ntmps57
  go_wp2_with fail
  refine (szStringS_any _ _ _ _ _ _ (HX.out.f.below ((Below.refl _ _).alloc (Nat.le_refl _) _)) HX.out.hn h0 h1).mono ?_
  rintro e w' ⟨rfl, rfl⟩
  have B1 := Lib.hid ((Below.refl w.heap.size w).alloc (Nat.le_refl _) (.cells #[.slice x.a x.n x.c, .string x.to] 80))
  have bd := szStrs_le (xs := x.fs) (n := x.n) h0
  have pb := Lib.hid (fun h => szStrs_bound (xs := x.fs) (n := x.n) (left := left) h)
  generalize szStrs x.fs x.n left = r1 at *
  by_cases hneg : r1 < 0
  · go_wp2_with fail
    go_ret
    exact ⟨_, rfl, by omega, by omega, fun h => by omega, B1.out⟩
  · obtain ⟨p1, p2, p3⟩ := pb.out (by omega)
    by_cases hneg2 : r1 - (x.to.size : Int) < 0
    · go_wp2_with fail
      go_ret
      exact ⟨_, rfl, by omega, by omega, fun h => by omega, B1.out⟩
    · go_wp2_with fail
      go_ret
      exact ⟨_, rfl, by omega, by omega, fun h => ⟨by omega, by omega⟩, B1.out⟩
theorem szSynS_any (a : Option Addr) (n cap : Nat) (ys : List SynA) (left : Int) (w : World) (hx : Syns w a n ys) (hn : n ≤ maxLen) (h0 : 0 ≤ left) (h1 : left ≤ 1048576) :
    Calls Try.prog 33 #[.slice a n cap, .int .i64 left] w fun e w' => ∃ r : Int, e = .returned (.int .i64 r) ∧ -1 ≤ r ∧ r ≤ left ∧ (0 ≤ r → (n : Int) ≤ left ∧ ∀ j, j < n → (nthY ys j).n ≤ 1048576) ∧ Below w.heap.size w w' := by
  have HX := Lib.hid hx; clear hx
  have c2 : Try.prog.cellsOf 80 = 2 := by kernel_rfl
  unfold maxLen at hn
  by_cases hneg : left - (n : Int) < 0
  · go_enter Try.func33, Try.ntmps33
    go_wp2_with fail
    go_ret
    exact ⟨_, rfl, by omega, by omega, fun h => by omega, Below.refl _ _⟩
  · go_enter Try.func33, Try.ntmps33
    go_wp2_with fail
    go_loopw [1, 5] (fun t i wr => ∃ (k : Nat) (r : Int), k ≤ n ∧ i = .int .i64 k ∧ t = .int .i64 r ∧ 0 ≤ r ∧ r ≤ left ∧ (∀ j, j < k → (nthY ys j).n ≤ 1048576) ∧ Below w.heap.size w wr) (fun _ i _ => n - (intOf i).toNat)
    case atStart => exact ⟨0, _, Nat.zero_le _, rfl, rfl, by omega, by omega, fun j hj => by omega, Below.refl _ _⟩
    case round =>
      obtain ⟨k, r, hk, rfl, rfl, hr0, hr1, hall, hb⟩ := hrel
      have HA := Lib.hid hall; clear hall
      by_cases hlt : k < n
      · obtain ⟨b, off, rfl, hc⟩ := (HX.out.below hb).pos hlt
        obtain ⟨x0, x1⟩ := hc k hlt
        have E := Lib.hid ((HX.out.each k hlt).below hb)
        have HB := Lib.hid hb; clear hb hc
        have SZ := Lib.hid (szSyn_any (nthY ys k) r wr E.out hr0 (by omega))
        unfold SynA.v at SZ
        go_wp2_with fail
        refine SZ.out.mono ?_
        rintro e w1 ⟨r2, rfl, hr2, hr3, hr4, hb1⟩
        have HB1 := Lib.hid (HB.out.trans (hb1.mono HB.out.size)); clear hb1
        have R4 := Lib.hid hr4; clear hr4
        by_cases hneg2 : r2 < 0
        · go_wp2_with fail
          go_ret
          exact ⟨_, rfl, by omega, by omega, fun h => by omega, HB1.out⟩
        · have NX : Hid (∀ j, j < k + 1 → (nthY ys j).n ≤ 1048576) := by
            intro j hj
            by_cases hjk : j < k
            · exact HA.out j hjk
            · obtain rfl : j = k := by omega
              have := (R4.out (by omega)).1
              omega
          go_wp2_with fail
          go_roundw
          case rel => exact ⟨k + 1, r2, by omega, by go_num, rfl, by omega, by omega, NX.out, HB1.out⟩
          case measure => simp [intOf]; omega
      · obtain rfl : k = n := by omega
        have HB := Lib.hid hb; clear hb
        go_wp2_with fail
        go_ret
        exact ⟨r, rfl, by omega, hr1, fun _ => ⟨by omega, HA.out⟩, HB.out⟩
theorem szConf_any (x : ConfA) (left : Int) (w : World) (hx : x.In w) (h0 : 0 ≤ left) (h1 : left ≤ 1048576) :
    Calls Try.prog 10 #[x.v, .int .i64 left] w fun e w' => ∃ r : Int, e = .returned (.int .i64 r) ∧ -1 ≤ r ∧ r ≤ left ∧ (0 ≤ r → (x.n : Int) ≤ left ∧ (x.m : Int) ≤ left ∧ ∀ j, j < x.m → (nthY x.ys j).n ≤ 1048576) ∧ Below w.heap.size w w' := by
  have HX := Lib.hid hx; clear hx
  unfold ConfA.v
  go_enter Try.func10, Try.ntmps10
  go_wp2_with fail
  have B1 := Lib.hid ((Below.refl w.heap.size w).alloc (Nat.le_refl _) (.cells #[.slice x.a x.n x.c, .slice x.b x.m x.d] 25))
  refine (szStringS_any _ _ _ _ _ _ (HX.out.s.below B1.out) HX.out.hn h0 h1).mono ?_
  rintro e w' ⟨rfl, rfl⟩
  have bd := szStrs_le (xs := x.ss) (n := x.n) h0
  have pb := Lib.hid (fun h => szStrs_bound (xs := x.ss) (n := x.n) (left := left) h)
  generalize szStrs x.ss x.n left = r1 at *
  by_cases hneg : r1 < 0
  · go_wp2_with fail
    go_ret
    exact ⟨_, rfl, by omega, by omega, fun h => by omega, B1.out⟩
  · obtain ⟨p1, p2, p3⟩ := pb.out (by omega)
    go_wp2_with fail
    refine (szSynS_any _ _ _ _ r1 _ (HX.out.y.below B1.out) HX.out.hm (by omega) (by omega)).mono ?_
    rintro e w2 ⟨r2, rfl, hr2, hr3, hr4, hb1⟩
    have B2 := Lib.hid (B1.out.trans (hb1.mono B1.out.size)); clear hb1
    have R4 := Lib.hid hr4; clear hr4
    by_cases hneg2 : r2 < 0
    · go_wp2_with fail
      go_ret
      exact ⟨_, rfl, by omega, by omega, fun h => by omega, B2.out⟩
    · go_wp2_with fail
      go_ret
      exact ⟨_, rfl, by omega, by omega, fun h => ⟨by omega, by have := (R4.out (by omega)).1; omega, (R4.out (by omega)).2⟩, B2.out⟩
/-- Two that read alike. -/
structure SynLike (x y : SynA) : Prop where
  n : x.n = y.n
  fs : x.fs = y.fs
  to : x.to = y.to
theorem eqSyn_same (x y : SynA) (w : World) (hx : x.In w) (hy : y.In w) (hl : SynLike x y) :
    Calls Try.prog 63 #[x.v, y.v] w fun e w' => e = .returned (.bool true) ∧ Below w.heap.size w w' := by
  obtain ⟨a, n, c, fs, to⟩ := x
  obtain ⟨b, m, d, gs, uo⟩ := y
  obtain ⟨h1, h2, h3⟩ := hl
  dsimp only at h1 h2 h3
  subst h1 h2 h3
  have HX := Lib.hid hx; clear hx
  have HY := Lib.hid hy; clear hy
  unfold SynA.v
  go_enter Try.func63, Try.ntmps63
  go_wp2_with fail
  have BB := Lib.hid (((Below.refl w.heap.size w).alloc (Nat.le_refl _) (.cells #[.slice a n c, .string to] 53)).alloc (by simp) (.cells #[.slice b n d, .string to] 53))
  refine (eqStringS_any _ _ _ _ _ _ _ _ _ (HX.out.f.below BB.out) (HY.out.f.below BB.out) HX.out.hn HX.out.hn).mono ?_
  rintro e w1 ⟨rfl, q, rfl⟩
  rw [eqStrs_refl]
  go_wp2_with fail
  go_ret
  exact ⟨rfl, below_drewN BB.out q⟩
theorem eqSynS_same (a : Option Addr) (n c : Nat) (xs : List SynA) (b : Option Addr) (d : Nat) (ys : List SynA) (w : World) (hx : Syns w a n xs) (hy : Syns w b n ys) (hl : ∀ j, j < n → SynLike (nthY xs j) (nthY ys j)) (hn : n ≤ maxLen) :
    Calls Try.prog 41 #[.slice a n c, .slice b n d] w fun e w' => e = .returned (.bool true) ∧ Below w.heap.size w w' := by
  have HX := Lib.hid hx; clear hx
  have HY := Lib.hid hy; clear hy
  have HL := Lib.hid hl; clear hl
  unfold maxLen at hn
  have c2 : Try.prog.cellsOf 53 = 2 := by kernel_rfl
  go_enter Try.func41, Try.ntmps41
  go_wp2_with fail
  go_loopw [5] (fun i wr => ∃ k : Nat, k ≤ n ∧ i = .int .i64 k ∧ Below w.heap.size w wr) (fun i _ => n - (intOf i).toNat)
  case atStart => exact ⟨0, Nat.zero_le _, rfl, Below.refl _ _⟩
  case round =>
    obtain ⟨k, hk, rfl, hb⟩ := hrel
    by_cases hlt : k < n
    · obtain ⟨b1, o1, rfl, hc1⟩ := (HX.out.below hb).pos hlt
      obtain ⟨x0, x1⟩ := hc1 k hlt
      obtain ⟨b2, o2, rfl, hc2⟩ := (HY.out.below hb).pos hlt
      obtain ⟨y0, y1⟩ := hc2 k hlt
      have EX := Lib.hid ((HX.out.each k hlt).below hb)
      have EY := Lib.hid ((HY.out.each k hlt).below hb)
      have HB := Lib.hid hb
      clear hc1 hc2 hb
      have v1 : (0 : Int) ≤ (k : Int) := by omega
      have v2 : (k : Int) < (n : Int) := by omega
      have CC := Lib.hid (fun w1 hb => eqSyn_same (nthY xs k) (nthY ys k) w1 (EX.out.below hb) (EY.out.below hb) (HL.out k hlt))
      unfold SynA.v at CC
      have q0 := cell_regrown x0
      have q1 := cell_regrown x1
      have q2 := cell_regrown y0
      have q3 := cell_regrown y1
      go_wp2_with fail
      refine wp_region_quiet_below (by kernel_rfl) (by kernel_rfl) ?_
      repeat (go_big_quiet_step ((go_at_call 63; exact quiet_b fun w1 hb => CC.out w1 hb)))
      refine wpQuiet_nil ?_
      intro wq hqq
      have BQ := Lib.hid (quiet_out hqq)
      clear hqq
      clear q0 q1 q2 q3
      have BE := Lib.hid (HB.out.trans (BQ.out.mono HB.out.size))
      go_wp2_with fail
      go_roundw
      case rel => exact ⟨k + 1, by omega, by go_num, BE.out⟩
      case measure => simp [intOf]; omega
    · have HB := Lib.hid hb; clear hb
      go_wp2_with fail
      go_ret
      exact ⟨rfl, HB.out⟩
theorem eqConf_same (x y : ConfA) (w : World) (hx : x.In w) (hy : y.In w) (hn : x.n = y.n) (hs : x.ss = y.ss) (hm : x.m = y.m) (hl : ∀ j, j < x.m → SynLike (nthY x.ys j) (nthY y.ys j)) :
    Calls Try.prog 14 #[x.v, y.v] w fun e w' => e = .returned (.bool true) ∧ Below w.heap.size w w' := by
  obtain ⟨a, n, c, ss, b, m, d, xs⟩ := x
  obtain ⟨a', n', c', ss', b', m', d', ys⟩ := y
  dsimp only at hn hs hm hl
  subst hn hs hm
  have HX := Lib.hid hx; clear hx
  have HY := Lib.hid hy; clear hy
  have HL := Lib.hid hl; clear hl
  unfold ConfA.v
  go_enter Try.func14, Try.ntmps14
  go_wp2_with fail
  have BB := Lib.hid (((Below.refl w.heap.size w).alloc (Nat.le_refl _) (.cells #[.slice a n c, .slice b m d] 30)).alloc (by simp) (.cells #[.slice a' n c', .slice b' m d'] 30))
  refine (eqStringS_any _ _ _ _ _ _ _ _ _ (HX.out.s.below BB.out) (HY.out.s.below BB.out) HX.out.hn HX.out.hn).mono ?_
  rintro e w1 ⟨rfl, q, rfl⟩
  rw [eqStrs_refl]
  have B1 := Lib.hid (below_drewN BB.out q)
  go_wp2_with fail
  refine (eqSynS_same _ _ _ _ _ _ _ _ (HX.out.y.below B1.out) (HY.out.y.below B1.out) HL.out HX.out.hm).mono ?_
  rintro e w2 ⟨rfl, hb⟩
  have B2 := Lib.hid (B1.out.trans (hb.mono B1.out.size)); clear hb
  go_wp2_with fail
  go_ret
  exact ⟨rfl, B2.out⟩
end Go.Proofs.Ytejooloflcldiaa
