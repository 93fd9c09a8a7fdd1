/- The walks of the place where a number is sought. Conditions: what is read fits the model's sizes. -/
import Derived.Test.YtkjlbellcbodcaaUp
namespace Go.Proofs.Ytkjlbellcbodcaa
open Go.RowKit

def cntLt (xs : List Int) (v : Int) : Nat → Nat
  | 0 => 0
  | k + 1 => cntLt xs v k + (if nthI xs k < v then 1 else 0)
theorem cntLt_yes {xs : List Int} {v : Int} {k : Nat} (h : nthI xs k < v) : cntLt xs v (k + 1) = cntLt xs v k + 1 := by rw [cntLt, if_pos h]
theorem cntLt_no {xs : List Int} {v : Int} {k : Nat} (h : ¬ nthI xs k < v) : cntLt xs v (k + 1) = cntLt xs v k := by rw [cntLt, if_neg h]; omega
theorem cntLt_le (xs : List Int) (v : Int) : ∀ k, cntLt xs v k ≤ k := by
  intro k; induction k with
  | zero => exact Nat.le_refl _
  | succ k ih => rw [cntLt]; split <;> omega
theorem up_lt {n : Nat} {xs : List Int} (h : upAsc n xs = true) : ∀ {i j : Nat}, i < j → j < n → nthI xs i < nthI xs j := by
  intro i j hij hj
  rw [upAsc, allN_iff] at h
  induction j with
  | zero => omega
  | succ j ih =>
    have h1 := h (j + 1) hj
    simp only [upAt, Bool.and_eq_true, Bool.or_eq_true, decide_eq_true_eq] at h1
    rcases h1.2 with h2 | h2
    · omega
    · rw [Nat.add_sub_cancel] at h2
      rcases Nat.lt_or_ge i j with h3 | h3
      · have := ih h3 (by omega); omega
      · obtain rfl : i = j := by omega
        exact h2
theorem up_num {n : Nat} {xs : List Int} (h : upAsc n xs = true) {j : Nat} (hj : j < n) : 0 ≤ nthI xs j ∧ nthI xs j ≤ 999999999 := by
  rw [upAsc, allN_iff] at h
  have h1 := h j hj
  simp only [upAt, numOk, Bool.and_eq_true, decide_eq_true_eq] at h1
  exact h1.1
theorem cnt_stop {n : Nat} {xs : List Int} {v : Int} (h : upAsc n xs = true) {k : Nat} (hv : ¬ nthI xs k < v) : ∀ m, k ≤ m → m ≤ n → cntLt xs v m = cntLt xs v k := by
  intro m
  induction m with
  | zero => intro hk _; obtain rfl : k = 0 := by omega
            rfl
  | succ m ih =>
    intro hk hm
    rcases Nat.lt_or_ge m k with h1 | h1
    · obtain rfl : k = m + 1 := by omega
      rfl
    · rw [cntLt_no, ih h1 (by omega)]
      rcases Nat.lt_or_ge k m with h2 | h2
      · have := up_lt h h2 (by omega); omega
      · obtain rfl : k = m := by omega
        exact hv
def setSeek (n : Nat) (xs : List Int) (v : Int) : Int := if upOk n xs then (cntLt xs v n : Int) else -1
theorem SetSeek_any {w : World} (a : Option Addr) (n cap : Nat) (xs : List Int) (v : Int) (hx : Ints w .i64 a n xs) (hn : n ≤ maxLen) :
    Calls Try.prog 26 #[.slice a n cap, .int .i64 v] w fun e w' => e = .returned (.int .i64 (setSeek n xs v)) ∧ w = w' := by
  have HX := Lib.hid hx; clear hx
  have HN := Lib.hid hn
  unfold maxLen at hn
  cases h1 : upOk n xs
  · go_enter Try.func26, Try.ntmps26
    go_wp2_with fail
    refine (UpOk_any _ _ _ _ HX.out HN.out).mono ?_
    rintro e w' ⟨rfl, rfl⟩
    go_wp2_with fail
    go_ret
    exact ⟨ret_int (by simp [setSeek, h1]), rfl⟩
  · have HR := Lib.hid (show setSeek n xs v = cntLt xs v n by simp [setSeek, h1])
    go_enter Try.func26, Try.ntmps26
    go_wp2_with fail
    refine (UpOk_any _ _ _ _ HX.out HN.out).mono ?_
    rintro e w' ⟨rfl, rfl⟩
    go_wp2_with fail
    go_loop [5, 13] (fun m i => ∃ k : Nat, k ≤ n ∧ i = .int .i64 k ∧ m = .int .i64 (cntLt xs v k : Int)) (fun _ i => n - (intOf i).toNat)
    case atStart => exact ⟨0, Nat.zero_le _, rfl, rfl⟩
    case round =>
      obtain ⟨k, hk, rfl, rfl⟩ := hrel
      have hcl := cntLt_le xs v k
      by_cases hlt : k < n
      · obtain ⟨b, off, rfl, hc⟩ := HX.out.rd.pos hlt
        have hck := hc k hlt
        clear hc
        by_cases hv : nthI xs k < v
        · have E := Lib.hid (cntLt_yes hv)
          go_wp2_with fail
          go_round
          case rel => exact ⟨k + 1, by omega, by go_num, vint (by rw [E.out]; omega)⟩
          case measure => simp [intOf]; omega
        · have E := Lib.hid (cntLt_no hv)
          go_wp2_with fail
          go_round
          case rel => exact ⟨k + 1, by omega, by go_num, vint (by rw [E.out])⟩
          case measure => simp [intOf]; omega
      · obtain rfl : k = n := by omega
        go_wp2_with fail
        go_ret
        exact ⟨ret_int HR.out.symm, rfl⟩
theorem sSetSeek_any {w : World} (a : Option Addr) (n cap : Nat) (xs : List Int) (v : Int) (hx : Ints w .i64 a n xs) (hn : n ≤ maxLen) :
    Calls Try.prog 25 #[.slice a n cap, .int .i64 v] w fun e w' => e = .returned (.int .i64 (setSeek n xs v)) ∧ Drw w w' := by
  have HX := Lib.hid hx; clear hx
  have HN := Lib.hid hn
  unfold maxLen at hn
  cases h1 : upOk n xs
  · go_enter Try.func25, Try.ntmps25
    go_wp2_with fail
    refine (l3Up_any _ _ _ _ HX.out HN.out).mono ?_
    rintro e w' ⟨rfl, q, rfl⟩
    go_wp2_with fail
    go_ret
    exact ⟨ret_int (by simp [setSeek, h1]), (by first | exact Drw.refl _ | exact Drw.mk _ _ | exact (Drw.mk _ _).trans (Drw.mk _ _) | exact ((Drw.mk _ _).trans (Drw.mk _ _)).trans (Drw.mk _ _))⟩
  · have HR := Lib.hid (show setSeek n xs v = cntLt xs v n by simp [setSeek, h1])
    have HU := Lib.hid (show upAsc n xs = true by simp only [upOk, Bool.and_eq_true] at h1; exact h1.1)
    go_enter Try.func25, Try.ntmps25
    go_wp2_with fail
    refine (l3Up_any _ _ _ _ HX.out HN.out).mono ?_
    rintro e w' ⟨rfl, q, rfl⟩
    go_wp2_with fail
    go_loop [5] (fun i => ∃ k : Nat, k ≤ n ∧ i = .int .i64 k ∧ cntLt xs v k = k) (fun i => n - (intOf i).toNat)
    case atStart => exact ⟨0, Nat.zero_le _, rfl, rfl⟩
    case round =>
      obtain ⟨k, hk, rfl, hcn⟩ := hrel
      have HC := Lib.hid hcn; clear hcn
      by_cases hlt : k < n
      · obtain ⟨b, off, rfl, hc⟩ := HX.out.rd.pos hlt
        have hck := hc k hlt
        clear hc
        by_cases hv : nthI xs k < v
        · have E := Lib.hid (cntLt_yes hv)
          go_wp2_with fail
          go_round
          case rel => exact ⟨k + 1, by omega, by go_num, by rw [E.out, HC.out]⟩
          case measure => simp [intOf]; omega
        · have E := Lib.hid (cnt_stop HU.out hv n (by omega) (Nat.le_refl _))
          go_wp2_with fail
          go_ret
          exact ⟨ret_int (by rw [HR.out, E.out, HC.out]), (by first | exact Drw.refl _ | exact Drw.mk _ _ | exact (Drw.mk _ _).trans (Drw.mk _ _) | exact ((Drw.mk _ _).trans (Drw.mk _ _)).trans (Drw.mk _ _))⟩
      · obtain rfl : k = n := by omega
        go_wp2_with fail
        go_ret
        exact ⟨ret_int (by rw [HR.out, HC.out]), (by first | exact Drw.refl _ | exact Drw.mk _ _ | exact (Drw.mk _ _).trans (Drw.mk _ _) | exact ((Drw.mk _ _).trans (Drw.mk _ _)).trans (Drw.mk _ _))⟩
theorem xSetSeek_any (a : Option Addr) (n cap : Nat) (xs : List Int) {w : World} (hx : Ints w .i64 a n xs) (hn : n ≤ maxLen) (v : Int) (_hv : (Lit.int .i64 v).wf = true) :
    Calls Try.prog 7 #[.slice a n cap, .int .i64 v] w fun e w' => e = .returned (.bool true) ∧ Below w.heap.size w w' := by
  have HX := Lib.hid hx; clear hx
  unfold maxLen at hn
  by_cases hlt : (1048576 : Int) < (n : Int)
  · go_enter Try.func7, Try.ntmps7
    go_wp2_with fail
    go_ret
    exact ⟨rfl, Below.refl _ _⟩
  · have hn2 : n ≤ 1048576 := by omega
    have hn3 : n ≤ maxLen := by unfold maxLen; omega
    have T := Lib.hid (fun (v : World) (h : Ints v .i64 a n xs) => toIntS_any a n cap xs v h hn2)
    have E3 : eqInts n n xs xs = true := eqInts_refl _ _
    go_enter Try.func7, Try.ntmps7
    go_wp2_with fail
    refine (T.out _ HX.out).mono ?_
    rintro e w1 ⟨a1, rfl, ho1, hb1⟩
    have O1 := Lib.hid ho1; clear ho1
    have B1 := Lib.hid hb1; clear hb1
    go_wp2_with fail
    refine (sSetSeek_any _ _ _ _ _ O1.out.ints hn3).mono ?_
    rintro e w2 ⟨rfl, q, rfl⟩
    go_wp2_with fail
    refine (T.out _ (HX.out.below (below_drewN B1.out q))).mono ?_
    rintro e w2 ⟨a2, rfl, ho2, hb2⟩
    have O2 := Lib.hid ho2; clear ho2
    have B2 := Lib.hid ((below_drewN B1.out q).trans (hb2.mono (below_drewN B1.out q).size)); clear hb2
    go_wp2_with fail
    refine (SetSeek_any _ _ _ _ _ O2.out.ints hn3).mono ?_
    rintro e w' ⟨rfl, rfl⟩
    go_wp2_with fail
    refine (T.out _ (HX.out.below B2.out)).mono ?_
    rintro e w3 ⟨a3, rfl, ho3, hb3⟩
    have O3 := Lib.hid ho3; clear ho3
    have S2 := Lib.hid (O2.out.ints.below hb3)
    have B3 := Lib.hid (B2.out.trans (hb3.mono B2.out.size)); clear hb3
    go_wp2_with fail
    refine (eqIntS_any _ _ _ _ _ _ _ _ _ S2.out O3.out.ints hn3 hn3).mono ?_
    rintro e w4 ⟨rfl, q2, rfl⟩
    go_wp2_with fail
    go_ret
    exact ⟨rfl, below_drewN B3.out _⟩
end Go.Proofs.Ytkjlbellcbodcaa
