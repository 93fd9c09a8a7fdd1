/- Slices of documents as they lie in memory. Conditions: what is read fits the model's sizes. -/
import Derived.Test.YtlbopihffpodkaaOpenD
import Derived.Test.YtlbopihffpodkaaDocOk
namespace Go.Proofs.Ytlbopihffpodkaa
open Go.RowKit
def DocA.none : DocA := ⟨0, Option.none, 0, 0, [], Option.none, 0, 0, []⟩
def nthX (xs : List DocA) (i : Nat) : DocA := xs[i]?.getD DocA.none
def dcC (xs : List DocA) (j : Nat) : Value := if j % 3 = 0 then .int .i64 (nthX xs (j / 3)).id else if j % 3 = 1 then .slice (nthX xs (j / 3)).a (nthX xs (j / 3)).n (nthX xs (j / 3)).c else .slice (nthX xs (j / 3)).b (nthX xs (j / 3)).m (nthX xs (j / 3)).d
/-- A slice that reads as documents. -/
structure Docs (w : World) (a : Option Addr) (n : Nat) (xs : List DocA) : Prop where
  len : xs.length = n
  each : ∀ j, j < n → (nthX xs j).In w
  rd : Rd w a (n * 3) (dcC xs)
theorem DocA.In.below {w w' : World} {x : DocA} (h : x.In w) (hb : Below w.heap.size w w') : x.In w' := ⟨h.f.below hb, h.g.below hb, h.hn, h.hm⟩
theorem Docs.below {w w' : World} {a : Option Addr} {n : Nat} {xs : List DocA} (h : Docs w a n xs) (hb : Below w.heap.size w w') : Docs w' a n xs := ⟨h.len, fun j hj => (h.each j hj).below hb, h.rd.below hb⟩
theorem Docs.pos {w : World} {a : Option Addr} {n i : Nat} {xs : List DocA} (h : Docs w a n xs) (hi : i < n) : ∃ b off, a = some ⟨b, off, none⟩ ∧ ∀ i, i < n →
    w.cell? ⟨b, off + i * 3, none⟩ = some (.int .i64 (nthX xs i).id) ∧ w.cell? ⟨b, off + i * 3 + 1, none⟩ = some (.slice (nthX xs i).a (nthX xs i).n (nthX xs i).c) ∧ w.cell? ⟨b, off + i * 3 + 2, none⟩ = some (.slice (nthX xs i).b (nthX xs i).m (nthX xs i).d) := by
  obtain ⟨b, off, rfl, hc⟩ := h.rd.pos (k := i * 3) (by omega)
  refine ⟨b, off, rfl, fun i hi => ⟨?_, ?_, ?_⟩⟩
  · rw [hc (i * 3) (by omega), dcC, if_pos (by omega), Nat.mul_div_cancel _ (by omega)]
  · rw [Nat.add_assoc, hc (i * 3 + 1) (by omega), dcC, if_neg (by omega), if_pos (by omega), show (i * 3 + 1) / 3 = i by omega]
  · rw [Nat.add_assoc, hc (i * 3 + 2) (by omega), dcC, if_neg (by omega), if_neg (by omega), show (i * 3 + 2) / 3 = i by omega]
theorem szDocS_any (a : Option Addr) (n cap : Nat) (xs : List DocA) (left : Int) (w : World) (hx : Docs w a n xs) (hn : n ≤ maxLen) (h0 : 0 ≤ left) (h1 : left ≤ 1048576) :
    Calls Try.prog 24 #[.slice a n cap, .int .i64 left] w fun e w' => ∃ r : Int, e = .returned (.int .i64 r) ∧ -1 ≤ r ∧ r ≤ left ∧ (0 ≤ r → (n : Int) ≤ left ∧ ∀ j, j < n → (nthX xs j).n ≤ 1048576 ∧ (nthX xs j).m ≤ 1048576) ∧ Below w.heap.size w w' := by
  have HX := Lib.hid hx; clear hx
  have c2 : Try.prog.cellsOf 43 = 3 := by kernel_rfl
  unfold maxLen at hn
  by_cases hneg : left - (n : Int) < 0
  · go_enter Try.func24, Try.ntmps24
    go_wp2_with fail
    go_ret
    exact ⟨_, rfl, by omega, by omega, fun h => by omega, Below.refl _ _⟩
  · go_enter Try.func24, Try.ntmps24
    go_wp2_with fail
    go_loopw [1, 5] (fun t i wr => ∃ (k : Nat) (r : Int), k ≤ n ∧ i = .int .i64 k ∧ t = .int .i64 r ∧ 0 ≤ r ∧ r ≤ left ∧ (∀ j, j < k → (nthX xs j).n ≤ 1048576 ∧ (nthX xs j).m ≤ 1048576) ∧ Below w.heap.size w wr) (fun _ i _ => n - (intOf i).toNat)
    case atStart => exact ⟨0, _, Nat.zero_le _, rfl, rfl, by omega, by omega, fun j hj => by omega, Below.refl _ _⟩
    case round =>
      obtain ⟨k, r, hk, rfl, rfl, hr0, hr1, hall, hb⟩ := hrel
      have HA := Lib.hid hall; clear hall
      by_cases hlt : k < n
      · obtain ⟨b, off, rfl, hc⟩ := (HX.out.below hb).pos hlt
        obtain ⟨x0, x1, x2⟩ := hc k hlt
        have E := Lib.hid ((HX.out.each k hlt).below hb)
        have HB := Lib.hid hb; clear hb hc
        go_wp2_with fail
        refine (szDoc_any _ _ _ _ _ _ _ _ _ r _ E.out.f E.out.g E.out.hn E.out.hm hr0 (by omega)).mono ?_
        rintro e w1 ⟨r2, rfl, hr2, hr3, hr4, hb1⟩
        have HB1 := Lib.hid (HB.out.trans (hb1.mono HB.out.size)); clear hb1
        have R4 := Lib.hid hr4; clear hr4
        by_cases hneg2 : r2 < 0
        · go_wp2_with fail
          go_ret
          exact ⟨_, rfl, by omega, by omega, fun h => by omega, HB1.out⟩
        · have NX : Hid (∀ j, j < k + 1 → (nthX xs j).n ≤ 1048576 ∧ (nthX xs j).m ≤ 1048576) := by
            intro j hj
            by_cases hjk : j < k
            · exact HA.out j hjk
            · obtain rfl : j = k := by omega
              have := R4.out (by omega)
              omega
          go_wp2_with fail
          go_roundw
          case rel => exact ⟨k + 1, r2, by omega, by go_num, rfl, by omega, by omega, NX.out, HB1.out⟩
          case measure => simp [intOf]; omega
      · obtain rfl : k = n := by omega
        have HB := Lib.hid hb; clear hb
        go_wp2_with fail
        go_ret
        exact ⟨r, rfl, by omega, hr1, fun _ => ⟨by omega, HA.out⟩, HB.out⟩
/-- Two slices of documents that read alike. -/
def Alike (xs ys : List DocA) (n : Nat) : Prop := ∀ j, j < n → (nthX xs j).id = (nthX ys j).id ∧ (nthX xs j).n = (nthX ys j).n ∧ (nthX xs j).m = (nthX ys j).m ∧ (nthX xs j).fs = (nthX ys j).fs ∧ (nthX xs j).ns = (nthX ys j).ns
theorem eqDocS_same (a : Option Addr) (n c : Nat) (xs : List DocA) (b : Option Addr) (d : Nat) (ys : List DocA) (w : World) (hx : Docs w a n xs) (hy : Docs w b n ys) (hal : Alike xs ys n) (hn : n ≤ maxLen) :
    Calls Try.prog 26 #[.slice a n c, .slice b n d] w fun e w' => e = .returned (.bool true) ∧ Below w.heap.size w w' := by
  have HX := Lib.hid hx; clear hx
  have HY := Lib.hid hy; clear hy
  have HL := Lib.hid hal; clear hal
  unfold maxLen at hn
  have c2 : Try.prog.cellsOf 26 = 3 := by kernel_rfl
  go_enter Try.func26, Try.ntmps26
  go_wp2_with fail
  go_loopw [5] (fun i wr => ∃ k : Nat, k ≤ n ∧ i = .int .i64 k ∧ Below w.heap.size w wr) (fun i _ => n - (intOf i).toNat)
  case atStart => exact ⟨0, Nat.zero_le _, rfl, Below.refl _ _⟩
  case round =>
    obtain ⟨k, hk, rfl, hb⟩ := hrel
    by_cases hlt : k < n
    · obtain ⟨b1, o1, rfl, hc1⟩ := (HX.out.below hb).pos hlt
      obtain ⟨x0, x1, x2⟩ := hc1 k hlt
      obtain ⟨b2, o2, rfl, hc2⟩ := (HY.out.below hb).pos hlt
      obtain ⟨y0, y1, y2⟩ := hc2 k hlt
      have EX := (HX.out.each k hlt).below hb
      have EY := (HY.out.each k hlt).below hb
      obtain ⟨l0, l1, l2, l3, l4⟩ := HL.out k hlt
      clear hc1 hc2
      generalize nthX xs k = X at *
      generalize nthX ys k = Y at *
      obtain ⟨id, a1, n1, c1, fs, d1, m1, e1, ns⟩ := X
      obtain ⟨id', a1', n1', c1', fs', d1', m1', e1', ns'⟩ := Y
      dsimp only at l0 l1 l2 l3 l4 x0 x1 x2 y0 y1 y2
      subst l0 l1 l2 l3 l4
      have F1 := Lib.hid EX.f
      have G1 := Lib.hid EX.g
      have F2 := Lib.hid EY.f
      have G2 := Lib.hid EY.g
      have N1 := Lib.hid EX.hn
      have M1 := Lib.hid EX.hm
      have HB := Lib.hid hb
      clear hb EX EY
      go_wp2_with fail
      go_region_with (go_at_call 23; refine (eqDoc_same _ _ _ _ _ _ _ _ _ _ _ _ _ _ (F1.out.below (Below.refl _ _).drew) (G1.out.below (Below.refl _ _).drew) (F2.out.below (Below.refl _ _).drew) (G2.out.below (Below.refl _ _).drew) N1.out M1.out).mono ?_; rintro e w1 ⟨rfl, hb1⟩; have BB := Lib.hid (Below.trans (Below.drew HB.out) (hb1.mono (show w.heap.size ≤ wr.heap.size from HB.out.size))); clear hb1)
      all_goals
        go_wp2_with fail
        go_roundw
        case rel => exact ⟨k + 1, by omega, by go_num, BB.out⟩
        case measure => simp [intOf]; omega
    · have HB := Lib.hid hb; clear hb
      go_wp2_with fail
      go_ret
      exact ⟨rfl, HB.out⟩
end Go.Proofs.Ytlbopihffpodkaa
