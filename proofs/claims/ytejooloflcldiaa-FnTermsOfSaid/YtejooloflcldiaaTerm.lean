/- Terms, and which of what stands for others is used. Conditions: what is read fits the model's sizes. -/
import Derived.Test.YtejooloflcldiaaConfOk
namespace Go.Proofs.Ytejooloflcldiaa
open Go.RowKit Go.Sort
structure Tm where
  text : ByteArray
  at_ : Nat
def nthT (ts : List Tm) (i : Nat) : Tm := ts[i]?.getD ⟨ByteArray.empty, 0⟩
def tmC (ts : List Tm) (j : Nat) : Value := if j % 2 = 0 then .string (nthT ts (j / 2)).text else .int .i64 (nthT ts (j / 2)).at_
/-- A slice that reads as terms. -/
structure Tms (w : World) (a : Option Addr) (n : Nat) (ts : List Tm) : Prop where
  len : ts.length = n
  fit : ∀ j, (nthT ts j).text.size ≤ maxLen ∧ (nthT ts j).at_ ≤ 1000000
  rd : Rd w a (n * 2) (tmC ts)
theorem Tms.below {w w' : World} {a : Option Addr} {n : Nat} {ts : List Tm} (h : Tms w a n ts) (hb : Below w.heap.size w w') : Tms w' a n ts := ⟨h.len, h.fit, h.rd.below hb⟩
theorem Tms.pos {w : World} {a : Option Addr} {n i : Nat} {ts : List Tm} (h : Tms w a n ts) (hi : i < n) : ∃ b off, a = some ⟨b, off, none⟩ ∧ ∀ i, i < n →
    w.cell? ⟨b, off + i * 2, none⟩ = some (.string (nthT ts i).text) ∧ w.cell? ⟨b, off + i * 2 + 1, none⟩ = some (.int .i64 (nthT ts i).at_) := by
  obtain ⟨b, off, rfl, hc⟩ := h.rd.pos (k := i * 2) (by omega)
  refine ⟨b, off, rfl, fun i hi => ⟨?_, ?_⟩⟩
  · rw [hc (i * 2) (by omega), tmC, if_pos (by omega), Nat.mul_div_cancel _ (by omega)]
  · rw [Nat.add_assoc, hc (i * 2 + 1) (by omega), tmC, if_neg (by omega), show (i * 2 + 1) / 2 = i by omega]
def beginsAt (ts : List Tm) (fs : List ByteArray) (j : Nat) : Bool := decide (j < ts.length) && ((nthT ts j).text.toList == (nthS fs j).toList) && decide ((nthT ts j).at_ = (nthT ts 0).at_ + j)
/-- The terms begin with these words, one place behind the other. -/
def begins (ts : List Tm) (n : Nat) (fs : List ByteArray) : Bool := allN n (beginsAt ts fs)
/-- Which of the first k is used for terms: the one of most words, of those the first. -/
def synTo (ts : List Tm) (ys : List SynA) : Nat → Option Nat
  | 0 => none
  | k + 1 => if begins ts (nthY ys k).n (nthY ys k).fs && (match synTo ts ys k with | none => true | some b => decide ((nthY ys b).n < (nthY ys k).n)) then some k else synTo ts ys k
def optI : Option Nat → Int
  | none => -1
  | some k => k
theorem synTo_lt (ts : List Tm) (ys : List SynA) : ∀ k b, synTo ts ys k = some b → b < k := by
  intro k
  induction k with
  | zero => intro b h; cases h
  | succ k ih =>
    intro b h
    rw [synTo] at h
    by_cases hc : (begins ts (nthY ys k).n (nthY ys k).fs && (match synTo ts ys k with | none => true | some b => decide ((nthY ys b).n < (nthY ys k).n))) = true
    · rw [if_pos hc] at h; injection h with h; omega
    · rw [if_neg hc] at h; have := ih b h; omega
theorem synTo_yes {ts : List Tm} {ys : List SynA} {k : Nat} (h : begins ts (nthY ys k).n (nthY ys k).fs = true) (h0 : synTo ts ys k = none) : synTo ts ys (k + 1) = some k := by rw [synTo, h, h0]; rfl
theorem synTo_no {ts : List Tm} {ys : List SynA} {k : Nat} (h : begins ts (nthY ys k).n (nthY ys k).fs = false) : synTo ts ys (k + 1) = synTo ts ys k := by rw [synTo, h]; rfl
theorem synTo_more {ts : List Tm} {ys : List SynA} {k b : Nat} (h : begins ts (nthY ys k).n (nthY ys k).fs = true) (h0 : synTo ts ys k = some b) (h1 : (nthY ys b).n < (nthY ys k).n) : synTo ts ys (k + 1) = some k := by
  rw [synTo, h, h0]; simp [h1]
theorem synTo_less {ts : List Tm} {ys : List SynA} {k b : Nat} (h0 : synTo ts ys k = some b) (h1 : ¬ (nthY ys b).n < (nthY ys k).n) : synTo ts ys (k + 1) = some b := by
  rw [synTo, h0]; simp [h1]
theorem nebI_t {a b : Int} (h : a ≠ b) : (a != b) = true := by simpa using h
theorem nebI_f {a b : Int} (h : a = b) : (a != b) = false := by simp [h]
set_option maxHeartbeats 2000000 in
theorem l2Begins_any (a : Option Addr) (n c : Nat) (ts : List Tm) (b : Option Addr) (m d : Nat) (fs : List ByteArray) (w : World) (hx : Tms w a n ts) (hy : Strs w b m fs) (hn : n ≤ 1000000) (hm : m ≤ maxLen) :
    Calls Try.prog 73 #[.slice a n c, .slice b m d] w fun e w' => e = .returned (.bool (begins ts m fs)) ∧ Below w.heap.size w w' := by
  have HX := Lib.hid hx; clear hx
  have HY := Lib.hid hy; clear hy
  unfold maxLen at hm
  go_enter Try.func73, Try.ntmps73
  go_wp2_with fail
  go_loopw [5] (fun i wr => ∃ k : Nat, k ≤ m ∧ i = .int .i64 k ∧ allN k (beginsAt ts fs) = true ∧ Below w.heap.size w wr) (fun i _ => m - (intOf i).toNat)
  case atStart => exact ⟨0, Nat.zero_le _, rfl, rfl, Below.refl _ _⟩
  case round =>
    obtain ⟨k, hk, rfl, hall, hb⟩ := hrel
    have HA := Lib.hid hall; clear hall
    by_cases hlt : k < m
    · have NX := Lib.hid (fun h => allN_step (p := beginsAt ts fs) (k := k) HA.out h)
      have ST := Lib.hid (fun h : beginsAt ts fs k = false => show begins ts m fs = false from allN_fail hlt h)
      obtain ⟨g, off, rfl, hc⟩ := (HY.out.below hb).rd.pos hlt
      have hck := hc k hlt; clear hc
      have q0 := cell_regrown hck
      have v1 : (0 : Int) ≤ (k : Int) := by omega
      have v2 : (k : Int) < (m : Int) := by omega
      by_cases hkn : k < n
      · obtain ⟨g2, off2, rfl, hc2⟩ := (HX.out.below hb).pos hkn
        obtain ⟨x0, x1⟩ := hc2 k hkn
        obtain ⟨-, z1⟩ := hc2 0 (by omega)
        rw [Nat.zero_mul, Nat.add_zero] at z1
        have f1 := (HX.out.fit k).2
        have f0 := (HX.out.fit 0).2
        have DL := Lib.hid (show decide (k < ts.length) = true from decide_eq_true (by rw [HX.out.len]; exact hkn))
        have DE := Lib.hid (show beginsAt ts fs k = (true && ((nthT ts k).text.toList == (nthS fs k).toList) && decide ((nthT ts k).at_ = (nthT ts 0).at_ + k)) by rw [beginsAt, DL.out])
        obtain ⟨A, hA⟩ : ∃ A, A = (nthT ts k).at_ := ⟨_, rfl⟩
        obtain ⟨Z, hZ⟩ : ∃ Z, Z = (nthT ts 0).at_ := ⟨_, rfl⟩
        obtain ⟨T, hT⟩ : ∃ T, T = (nthT ts k).text := ⟨_, rfl⟩
        obtain ⟨F, hF⟩ : ∃ F, F = nthS fs k := ⟨_, rfl⟩
        rw [← hA] at x1 f1 DE
        rw [← hZ] at z1 f0 DE
        rw [← hT] at x0 DE
        rw [← hF] at hck q0 DE
        clear hA hZ hT hF hc2
        have q1 := cell_regrown x0
        have q2 := cell_regrown x1
        have q3 := cell_regrown z1
        have HB := Lib.hid hb; clear hb
        have v3 : (k : Int) < (n : Int) := by omega
        have v4 : (0 : Int) < (n : Int) := by omega
        have vw : IntKind.i64.wrap ((Z : Int) + (k : Int)) = (Z : Int) + (k : Int) := IntWalk.i64_in _ (by omega)
        have g0 : decide (n ≤ k) = false := decide_eq_false (by omega)
        cases he : (T.toList == F.toList)
        · have N := Lib.hid (ST.out (by rw [DE.out, he]; rfl))
          have hne : (T.toList != F.toList) = true := stem_bne he
          go_wp2_with fail
          refine wp_region_quiet_below (by kernel_rfl) (by kernel_rfl) ?_
          repeat (go_big_quiet_step (fail))
          refine wpQuiet_nil ?_
          intro wq hqq
          have BQ := Lib.hid (quiet_out hqq)
          clear hqq
          have BE := Lib.hid (HB.out.trans (BQ.out.mono HB.out.size))
          go_wp2_with fail
          go_ret
          exact ⟨ret_bool N.out.symm, BE.out⟩
        · have hne : (T.toList != F.toList) = false := stem_bne he
          by_cases hat : A = Z + k
          · have N := Lib.hid (NX.out (by rw [DE.out, he, decide_eq_true hat]; rfl))
            have hna : ((A : Int) != (Z : Int) + (k : Int)) = false := nebI_f (by omega)
            go_wp2_with fail
            refine wp_region_quiet_below (by kernel_rfl) (by kernel_rfl) ?_
            repeat (go_big_quiet_step (fail))
            refine wpQuiet_nil ?_
            intro wq hqq
            have BQ := Lib.hid (quiet_out hqq)
            clear hqq
            have BE := Lib.hid (HB.out.trans (BQ.out.mono HB.out.size))
            go_wp2_with fail
            go_roundw
            case rel => exact ⟨k + 1, by omega, by go_num, N.out, BE.out⟩
            case measure => simp [intOf]; omega
          · have N := Lib.hid (ST.out (by rw [DE.out, he, decide_eq_false hat]; rfl))
            have hna : ((A : Int) != (Z : Int) + (k : Int)) = true := nebI_t (by omega)
            go_wp2_with fail
            refine wp_region_quiet_below (by kernel_rfl) (by kernel_rfl) ?_
            repeat (go_big_quiet_step (fail))
            refine wpQuiet_nil ?_
            intro wq hqq
            have BQ := Lib.hid (quiet_out hqq)
            clear hqq
            have BE := Lib.hid (HB.out.trans (BQ.out.mono HB.out.size))
            go_wp2_with fail
            go_ret
            exact ⟨ret_bool N.out.symm, BE.out⟩
      · have N := Lib.hid (ST.out (by rw [beginsAt, decide_eq_false (by rw [HX.out.len]; exact hkn)]; rfl))
        have HB := Lib.hid hb; clear hb
        have g0 : decide (n ≤ k) = true := decide_eq_true (by omega)
        go_wp2_with fail
        refine wp_region_quiet_below (by kernel_rfl) (by kernel_rfl) ?_
        repeat (go_big_quiet_step (fail))
        refine wpQuiet_nil ?_
        intro wq hqq
        have BQ := Lib.hid (quiet_out hqq)
        clear hqq
        have BE := Lib.hid (HB.out.trans (BQ.out.mono HB.out.size))
        go_wp2_with fail
        go_ret
        exact ⟨ret_bool N.out.symm, BE.out⟩
    · obtain rfl : k = m := by omega
      have HB := Lib.hid hb; clear hb
      have N := Lib.hid (show begins ts k fs = true from HA.out)
      go_wp2_with fail
      go_ret
      exact ⟨ret_bool N.out.symm, HB.out⟩
end Go.Proofs.Ytejooloflcldiaa
