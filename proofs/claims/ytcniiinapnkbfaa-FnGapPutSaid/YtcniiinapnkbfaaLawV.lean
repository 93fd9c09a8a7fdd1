/- The laws on numbers, gaps and bits read back. Conditions: what is read fits the model's sizes. -/
import Derived.Test.YtcniiinapnkbfaaDrawV
import Derived.Test.YtcniiinapnkbfaaPackLaw
namespace Go.Proofs.Ytcniiinapnkbfaa
open Go.RowKit

theorem str_none {s : ByteArray} (h : 0 < s.size) : s.toList.isEmpty = false ∧ ¬ s.toList = [] := by
  have h1 : s.toList ≠ [] := by
    rw [ByteArray.toList_eq]
    intro e
    have h2 : s.size = 0 := by have := congrArg List.length e; simpa using this
    omega
  exact ⟨by simp [h1], h1⟩
theorem varPut_no {x : Int} (h : ¬ numOk x = true) : varPut x = ⟨#[]⟩ := by rw [varPut, if_neg h]
theorem numOk_nat {x : Int} (h : numOk x = true) : ∃ m : Nat, x = m ∧ m ≤ 999999999 := by
  have := numOk_bd h
  exact ⟨x.toNat, by omega, by omega⟩
theorem foInts_same (a : Option Addr) (n c : Nat) (xs : List Int) (b : Option Addr) (d : Nat) (w : World) (hx : Ints w .i64 a n xs) (hy : Ints w .i64 b n xs) (hn : n ≤ maxLen) :
    Calls Try.prog 22 #[.slice a n c, .slice b n d] w fun e w' => e = .returned (.bool true) ∧ Drw w w' := by
  have HX := Lib.hid hx; clear hx
  have HY := Lib.hid hy; clear hy
  unfold maxLen at hn
  go_enter Try.func22, Try.ntmps22
  go_wp2_with fail
  go_loopw [5] (fun i wr => ∃ k : Nat, k ≤ n ∧ i = .int .i64 k ∧ Drw w wr) (fun i _ => n - (intOf i).toNat)
  case atStart => exact ⟨0, Nat.zero_le _, rfl, Drw.refl _⟩
  case round =>
    obtain ⟨k, hk, rfl, q, rfl⟩ := hrel
    by_cases hlt : k < n
    · obtain ⟨b1, off1, rfl, hc1⟩ := HX.out.rd.pos hlt
      have hck1 := hc1 k hlt
      obtain ⟨b2, off2, rfl, hc2⟩ := HY.out.rd.pos hlt
      have hck2 := hc2 k hlt
      clear hc1 hc2
      go_wp2_with fail
      go_quiet (fail)
      go_wp2_with fail
      go_roundw
      case rel => exact ⟨k + 1, by omega, by go_num, (by first | exact Drw.refl _ | exact Drw.mk _ _ | exact (Drw.mk _ _).trans (Drw.mk _ _) | exact ((Drw.mk _ _).trans (Drw.mk _ _)).trans (Drw.mk _ _))⟩
      case measure => simp [intOf]; omega
    · go_wp2_with fail
      go_ret
      exact ⟨rfl, (by first | exact Drw.refl _ | exact Drw.mk _ _ | exact (Drw.mk _ _).trans (Drw.mk _ _) | exact ((Drw.mk _ _).trans (Drw.mk _ _)).trans (Drw.mk _ _))⟩
set_option maxHeartbeats 1000000 in
theorem FnVarPut_any {w : World} (a : Option Addr) (n cap : Nat) (xs : List Int) (hx : Byts w a n cap xs) (hn : n ≤ maxLen) (b : Option Addr) (m capb : Nat) (ys : List Int) (hy : Byts w b m capb ys) (hm : m ≤ maxLen) :
    Calls Try.prog 3 #[.slice a n cap, .slice b m capb] w fun e w' => e = .returned (.bool true) ∧ Below w.heap.size w w' := by
  have HX := Lib.hid hx; clear hx
  have HY := Lib.hid hy; clear hy
  unfold maxLen at hn hm
  by_cases hlt : (1048576 : Int) < (n : Int)
  · go_enter Try.func3, Try.ntmps3
    go_wp2_with fail
    go_ret
    exact ⟨rfl, Below.refl _ _⟩
  by_cases hlt2 : (1048576 : Int) < (m : Int)
  · go_enter Try.func3, Try.ntmps3
    go_wp2_with fail
    go_ret
    exact ⟨rfl, Below.refl _ _⟩
  go_enter Try.func3, Try.ntmps3
  go_wp2_with fail
  refine (DrawVarPut_any _ _ _ _ HX.out (by omega)).mono ?_
  rintro e w1 ⟨x, rfl, hx0, hx1, hb⟩
  have B1 := Lib.hid hb; clear hb
  by_cases hok : numOk x = true
  · obtain ⟨v, rfl, hv⟩ := numOk_nat hok
    have VP := Lib.hid (varPut_nat hv)
    have hs5 : (varS v).size ≤ 5 := varS_le (by omega)
    have hs0 : 0 < (varS v).size := by rw [varS_size]; exact varI_pos v
    obtain ⟨e1, e2⟩ := str_none hs0
    have VG := Lib.hid (fun u => varGet_var hv u)
    clear hok
    go_wp2_with fail
    refine (VarPut_any _ _).mono ?_
    rintro e w2 ⟨rfl, hb⟩
    have B2 := Lib.hid (B1.out.trans (hb.mono B1.out.size)); clear hb
    rw [VP.out]
    go_wp2_with fail
    refine (sVarPut_any _ _).mono ?_
    rintro e w3 ⟨rfl, hb⟩
    have B3 := Lib.hid (B2.out.trans (hb.mono B2.out.size)); clear hb
    rw [VP.out]
    go_wp2_with fail
    refine (DrawVarGet_any b m capb ys ⟨HY.out.ints.below B3.out, HY.out.cap⟩ (by omega)).mono ?_
    rintro e w4 ⟨u, rfl, hu, hb⟩
    have B4 := Lib.hid (B3.out.trans (hb.mono B3.out.size)); clear hb
    have hz : (varS v).size + u.size ≤ 9223372036854775807 := by omega
    have C := Lib.hid (fun w => by have := VarGet_any (varS v ++ u) (by rw [ByteArray.size_append]; unfold maxLen; omega) w; rwa [VG.out u] at this)
    go_wp2_with fail
    refine (C.out _).mono ?_
    rintro e w5 ⟨rfl, hb⟩
    have B5 := Lib.hid (B4.out.trans (hb.mono B4.out.size)); clear hb
    go_wp2_with fail
    go_ret
    exact ⟨ret_bool (decide_eq_true (by omega)), B5.out⟩
  · have VP := Lib.hid (varPut_no hok)
    clear hok
    go_wp2_with fail
    refine (VarPut_any _ _).mono ?_
    rintro e w2 ⟨rfl, hb⟩
    have B2 := Lib.hid (B1.out.trans (hb.mono B1.out.size)); clear hb
    rw [VP.out]
    go_wp2_with fail
    refine (sVarPut_any _ _).mono ?_
    rintro e w3 ⟨rfl, hb⟩
    have B3 := Lib.hid (B2.out.trans (hb.mono B2.out.size)); clear hb
    rw [VP.out]
    go_wp2_with fail
    refine (sVarPut_any _ _).mono ?_
    rintro e w4 ⟨rfl, hb⟩
    have B4 := Lib.hid (B3.out.trans (hb.mono B3.out.size)); clear hb
    rw [VP.out]
    go_wp2_with fail
    go_ret
    exact ⟨rfl, B4.out⟩
set_option maxHeartbeats 1000000 in
theorem FnVarGet_any {w : World} (a : Option Addr) (n cap : Nat) (xs : List Int) (hx : Byts w a n cap xs) (hn : n ≤ maxLen) :
    Calls Try.prog 4 #[.slice a n cap] w fun e w' => e = .returned (.bool true) ∧ Below w.heap.size w w' := by
  have HX := Lib.hid hx; clear hx
  unfold maxLen at hn
  by_cases hlt : (1048576 : Int) < (n : Int)
  · go_enter Try.func4, Try.ntmps4
    go_wp2_with fail
    go_ret
    exact ⟨rfl, Below.refl _ _⟩
  go_enter Try.func4, Try.ntmps4
  go_wp2_with fail
  refine (DrawVarGet_any _ _ _ _ HX.out (by omega)).mono ?_
  rintro e w1 ⟨t, rfl, ht, hb⟩
  have B1 := Lib.hid hb; clear hb
  have HT := Lib.hid (show t.size ≤ maxLen by unfold maxLen; omega)
  obtain ⟨v, hv⟩ : ∃ v, v = (varGet t).1 := ⟨_, rfl⟩
  obtain ⟨k, hk⟩ : ∃ k, k = (varGet t).2 := ⟨_, rfl⟩
  have C := Lib.hid (fun w => by have := VarGet_any t HT.out w; rwa [← hv, ← hk] at this)
  have S := Lib.hid (fun w => by have := sVarGet_any t HT.out w; rwa [← hv, ← hk] at this)
  have hv9 : v ≤ 999999999 := by rw [hv]; exact varGet_num t
  have hkt : k ≤ t.size := by rw [hk]; exact varGet_le t
  have hput : k ≠ 0 → varPut (v : Int) = t.extract 0 k := fun h => by
    rw [varPut_nat hv9, hv, hk]; exact varGet_put (by rw [← hk]; exact h)
  have HP := Lib.hid hput; clear hput hv hk
  by_cases h0 : k = 0
  · have b0 : ((k : Int) == 0) = true := beq_t (by omega)
    clear h0
    go_wp2_with fail
    refine (C.out _).mono ?_
    rintro e w2 ⟨rfl, hb⟩
    have B2 := Lib.hid (B1.out.trans (hb.mono B1.out.size)); clear hb
    go_wp2_with fail
    refine (S.out _).mono ?_
    rintro e w' ⟨rfl, rfl⟩
    go_wp2_with fail
    go_ret
    exact ⟨rfl, B2.out⟩
  · have b0 : ((k : Int) == 0) = false := beq_f (by omega)
    have E := Lib.hid (HP.out h0)
    clear h0
    go_wp2_with fail
    refine (C.out _).mono ?_
    rintro e w2 ⟨rfl, hb⟩
    have B2 := Lib.hid (B1.out.trans (hb.mono B1.out.size)); clear hb
    go_wp2_with fail
    refine (S.out _).mono ?_
    rintro e w' ⟨rfl, rfl⟩
    have E1 := E.out
    go_wp2_with fail
    go_region_with (go_at_call 11; refine (VarPut_any _ _).mono ?_; rintro e w3 ⟨rfl, hb⟩; have B3 := Lib.hid ((below_drewN B2.out 1).trans (hb.mono B2.out.size)); clear hb)
    all_goals
      go_wp2_with fail
      go_ret
      exact ⟨rfl, B3.out⟩
set_option maxHeartbeats 1000000 in
theorem FnPackGet_any {w : World} (a : Option Addr) (n cap : Nat) (xs : List Int) (hx : Byts w a n cap xs) (hn : n ≤ maxLen) :
    Calls Try.prog 9 #[.slice a n cap] w fun e w' => e = .returned (.bool true) ∧ Below w.heap.size w w' := by
  have HX := Lib.hid hx; clear hx
  unfold maxLen at hn
  by_cases hlt : (1048576 : Int) < (n : Int)
  · go_enter Try.func9, Try.ntmps9
    go_wp2_with fail
    go_ret
    exact ⟨rfl, Below.refl _ _⟩
  go_enter Try.func9, Try.ntmps9
  go_wp2_with fail
  refine (DrawPackGet_any _ _ _ _ HX.out (by omega)).mono ?_
  rintro e w1 ⟨t, rfl, ht, hb⟩
  have B1 := Lib.hid hb; clear hb
  have HT := Lib.hid (show t.size ≤ maxLen by unfold maxLen; omega)
  have hL := packGet_len t
  have L3 : (packGet t).1.length ≤ maxLen := by unfold maxLen; omega
  have IS := Lib.hid (fun h => packGet_is (t := t) h)
  have HL3 := Lib.hid L3; clear L3
  go_wp2_with fail
  refine (PackGet_any _ HT.out _).mono ?_
  rintro e w2 ⟨a2, c2, rfl, ho2, hb⟩
  have O2 := Lib.hid ho2; clear ho2
  have B2 := Lib.hid (B1.out.trans (hb.mono B1.out.size)); clear hb
  go_wp2_with fail
  refine (sPackGet_any _ HT.out _).mono ?_
  rintro e w3 ⟨a3, c3, rfl, ho3, hb⟩
  have O3 := Lib.hid ho3; clear ho3
  have O23 := Lib.hid (O2.out.below hb)
  have B3 := Lib.hid (B2.out.trans (hb.mono B2.out.size)); clear hb
  cases hok : (packGet t).2
  · clear IS
    go_wp2_with fail
    refine (foInts_same _ _ _ _ _ _ _ O23.out.ints O3.out.ints HL3.out).mono ?_
    rintro e w4 ⟨rfl, q, rfl⟩
    go_wp2_with fail
    refine (foInts_same _ _ _ _ _ _ _ (O23.out.ints.drewN _) (O3.out.ints.drewN _) HL3.out).mono ?_
    rintro e w5 ⟨rfl, q2, rfl⟩
    go_wp2_with fail
    go_ret
    exact ⟨rfl, below_drewN B3.out _⟩
  · have E := Lib.hid (IS.out hok)
    clear IS hok
    go_wp2_with fail
    refine (foInts_same _ _ _ _ _ _ _ O23.out.ints O3.out.ints HL3.out).mono ?_
    rintro e w4 ⟨rfl, q, rfl⟩
    go_wp2_with fail
    refine (PackPut_any _ _ _ _ _ (O23.out.ints.drewN _) HL3.out).mono ?_
    rintro e w5 ⟨rfl, hb⟩
    have B5 := Lib.hid ((below_drewN B3.out q).trans (hb.mono B3.out.size)); clear hb
    rw [E.out]
    go_wp2_with fail
    go_ret
    exact ⟨rfl, B5.out⟩
set_option maxHeartbeats 1000000 in
theorem FnGapGet_any {w : World} (a : Option Addr) (n cap : Nat) (xs : List Int) (hx : Byts w a n cap xs) (hn : n ≤ maxLen) :
    Calls Try.prog 8 #[.slice a n cap] w fun e w' => e = .returned (.bool true) ∧ Below w.heap.size w w' := by
  have HX := Lib.hid hx; clear hx
  unfold maxLen at hn
  by_cases hlt : (1048576 : Int) < (n : Int)
  · go_enter Try.func8, Try.ntmps8
    go_wp2_with fail
    go_ret
    exact ⟨rfl, Below.refl _ _⟩
  go_enter Try.func8, Try.ntmps8
  go_wp2_with fail
  refine (DrawGapGet_any _ _ _ _ HX.out (by omega)).mono ?_
  rintro e w1 ⟨t, rfl, ht, hb⟩
  have B1 := Lib.hid hb; clear hb
  have HT := Lib.hid (show t.size ≤ maxLen by unfold maxLen; omega)
  obtain ⟨zs, hzs⟩ : ∃ zs, zs = (gapGet t).1 := ⟨_, rfl⟩
  obtain ⟨k, hk⟩ : ∃ k, k = (gapGet t).2 := ⟨_, rfl⟩
  have C := Lib.hid (fun w => by have := GapGet_any t HT.out w; rwa [← hzs, ← hk] at this)
  have S := Lib.hid (fun w => by have := sGapGet_any t HT.out w; rwa [← hzs, ← hk] at this)
  have hL : zs.length ≤ 60 := by rw [hzs]; exact gapGet_len t
  have L3 : zs.length ≤ maxLen := by unfold maxLen; omega
  have hput : k ≠ 0 → upOk zs.length zs = true ∧ gapPut zs.length zs = t.extract 0 k := fun h => by rw [hzs, hk]; exact gapPut_get (by rw [← hk]; exact h)
  have hkt : k ≤ t.size := gapGet_le t k hk
  have HP := Lib.hid hput
  have HL3 := Lib.hid L3
  clear hput hzs hk L3
  go_wp2_with fail
  refine (C.out _).mono ?_
  rintro e w2 ⟨a2, c2, rfl, ho2, hb⟩
  have O2 := Lib.hid ho2; clear ho2
  have B2 := Lib.hid (B1.out.trans (hb.mono B1.out.size)); clear hb
  go_wp2_with fail
  refine (S.out _).mono ?_
  rintro e w3 ⟨a3, c3, rfl, ho3, hb⟩
  have O3 := Lib.hid ho3; clear ho3
  have O23 := Lib.hid (O2.out.below hb)
  have B3 := Lib.hid (B2.out.trans (hb.mono B2.out.size)); clear hb
  by_cases h0 : k = 0
  · have b0 : ((k : Int) == 0) = true := beq_t (by omega)
    clear h0
    go_wp2_with fail
    refine (foInts_same _ _ _ _ _ _ _ O23.out.ints O3.out.ints HL3.out).mono ?_
    rintro e w4 ⟨rfl, q, rfl⟩
    go_wp2_with fail
    refine (foInts_same _ _ _ _ _ _ _ (O23.out.ints.drewN _) (O3.out.ints.drewN _) HL3.out).mono ?_
    rintro e w5 ⟨rfl, q2, rfl⟩
    go_wp2_with fail
    go_ret
    exact ⟨rfl, below_drewN B3.out _⟩
  · have b0 : ((k : Int) == 0) = false := beq_f (by omega)
    have E := Lib.hid (HP.out h0)
    have E1 := E.out.1
    clear h0 HP
    go_wp2_with fail
    refine (foInts_same _ _ _ _ _ _ _ O23.out.ints O3.out.ints HL3.out).mono ?_
    rintro e w4 ⟨rfl, q, rfl⟩
    have E2 := E.out.2
    have OI := Lib.hid ((O23.out.ints.drewN q).drewN 1)
    have BI := Lib.hid (below_drewN (below_drewN B3.out q) 1)
    go_wp2_with fail
    go_region_with (first | (go_at_call 19; refine (UpOk_any _ _ _ _ OI.out HL3.out).mono ?_; rintro e w' ⟨rfl, rfl⟩) | (go_at_call 17; refine (GapPut_any _ _ _ _ _ OI.out HL3.out).mono ?_; rintro e w5 ⟨rfl, hb⟩; have B5 := Lib.hid (BI.out.trans (hb.mono BI.out.size)); clear hb))
    all_goals
      go_wp2_with fail
      go_ret
      exact ⟨rfl, B5.out⟩
end Go.Proofs.Ytcniiinapnkbfaa
