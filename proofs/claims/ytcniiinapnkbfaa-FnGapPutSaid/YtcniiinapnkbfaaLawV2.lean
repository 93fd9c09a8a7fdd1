/- The laws on lists that are read back from gaps and bits, and on one gap more. Conditions: what is read fits the model's sizes. -/
import Derived.Test.YtcniiinapnkbfaaLawV
namespace Go.Proofs.Ytcniiinapnkbfaa
open Go.RowKit

set_option maxHeartbeats 1000000 in
theorem FnPackPut_any {w : World} (a : Option Addr) (n cap : Nat) (xs : List Int) (hx : Byts w a n cap xs) (hn : n ≤ maxLen) :
    Calls Try.prog 7 #[.slice a n cap] w fun e w' => e = .returned (.bool true) ∧ Below w.heap.size w w' := by
  have HX := Lib.hid hx; clear hx
  unfold maxLen at hn
  by_cases hlt : (1048576 : Int) < (n : Int)
  · go_enter Try.func7, Try.ntmps7
    go_wp2_with fail
    go_ret
    exact ⟨rfl, Below.refl _ _⟩
  go_enter Try.func7, Try.ntmps7
  go_wp2_with fail
  refine (DrawPackPut_any _ _ _ _ HX.out (by omega)).mono ?_
  rintro e w1 ⟨a1, n1, c1, zs, rfl, hn1, hall, ho, hb⟩
  have O1 := Lib.hid ho; clear ho hall
  have B1 := Lib.hid hb; clear hb
  have L3 : n1 ≤ maxLen := by unfold maxLen; omega
  have HL3 := Lib.hid L3; clear L3
  obtain ⟨W, hW⟩ : ∃ W, W = packWidth n1 zs := ⟨_, rfl⟩
  have SW := Lib.hid (fun w h => by have := sPackWidth_any (w := w) a1 n1 c1 zs h HL3.out; rwa [← hW] at this)
  have PW := Lib.hid (fun w h => by have := PackWidth_any (w := w) a1 n1 c1 zs h HL3.out; rwa [← hW] at this)
  have HW := Lib.hid hW; clear hW
  go_wp2_with fail
  refine (PackPut_any _ _ _ _ _ O1.out.ints HL3.out).mono ?_
  rintro e w2 ⟨rfl, hb⟩
  have O2 := Lib.hid (O1.out.below hb)
  have B2 := Lib.hid (B1.out.trans (hb.mono B1.out.size)); clear hb
  go_wp2_with fail
  refine (PW.out _ O2.out.ints).mono ?_
  rintro e w' ⟨rfl, rfl⟩
  go_wp2_with fail
  refine (sPackPut_any _ _ _ _ _ O2.out.ints HL3.out).mono ?_
  rintro e w3 ⟨rfl, hb⟩
  have O3 := Lib.hid (O2.out.below hb)
  have B3 := Lib.hid (B2.out.trans (hb.mono B2.out.size)); clear hb
  go_wp2_with fail
  refine (SW.out _ O3.out.ints).mono ?_
  rintro e w' ⟨rfl, rfl⟩
  by_cases hneg : W < 0
  · go_wp2_with fail
    refine (sPackPut_any _ _ _ _ _ O3.out.ints HL3.out).mono ?_
    rintro e w4 ⟨rfl, hb⟩
    have O4 := Lib.hid (O3.out.below hb)
    have B4 := Lib.hid (B3.out.trans (hb.mono B3.out.size)); clear hb
    go_wp2_with fail
    refine (SW.out _ O4.out.ints).mono ?_
    rintro e w' ⟨rfl, rfl⟩
    go_wp2_with fail
    go_ret
    exact ⟨rfl, B4.out⟩
  · have hnn : ¬ packWidth n1 zs < 0 := by rw [← HW.out]; exact hneg
    have PG := Lib.hid (packGet_put O1.out.len hnn)
    have hlen := packPut_len hnn
    rw [← HW.out] at hlen
    obtain ⟨V, rfl⟩ : ∃ V : Nat, W = V := ⟨W.toNat, by omega⟩
    obtain ⟨W', hW', h60, hnum, h30, -, -⟩ := packPut_parts hnn
    have hVe : V = W' := by have := HW.out; omega
    have hV30 : V ≤ 30 := by omega
    have hmul : n1 * V ≤ 60 * 30 := Nat.mul_le_mul h60 hV30
    have hnv : (n1 : Int) * (V : Int) = ((n1 * V : Nat) : Int) := by rw [Int.natCast_mul]
    have p0 : (0 : Int) ≤ (n1 : Int) * (V : Int) := by rw [hnv]; omega
    have p1 : (n1 : Int) * (V : Int) ≤ 1800 := by rw [hnv]; omega
    have hfit : (packPut n1 zs).size ≤ maxLen := Nat.le_trans (packPut_small n1 zs) (by decide)
    have C := Lib.hid (fun w => by have := PackGet_any (packPut n1 zs) hfit w; rw [PG.out] at this; exact this)
    have bl : (((packPut n1 zs).size : Int) == 2 + ((n1 : Int) * (V : Int) + 7) / 8) = true := beq_t hlen
    have LE := Lib.hid O1.out.len
    clear hlen hnv hnn hVe hnum hW'
    go_wp2_with fail
    refine (C.out _).mono ?_
    rintro e w4 ⟨a4, c4, rfl, ho4, hb⟩
    have O4 := Lib.hid ho4; clear ho4
    have O34 := Lib.hid (O3.out.below hb)
    have B4 := Lib.hid (B3.out.trans (hb.mono B3.out.size)); clear hb
    have I4 := Lib.hid (show Ints w4 .i64 a4 n1 zs by have h := O4.out.ints; rw [LE.out] at h; exact h)
    rw [LE.out]
    go_wp2_with fail
    refine (foInts_same _ _ _ _ _ _ _ I4.out O34.out.ints HL3.out).mono ?_
    rintro e w5 ⟨rfl, q, rfl⟩
    go_wp2_with fail
    go_ret
    exact ⟨rfl, below_drewN B4.out _⟩
set_option maxHeartbeats 1000000 in
theorem FnGapPut_any {w : World} (a : Option Addr) (n cap : Nat) (xs : List Int) (hx : Byts w a n cap xs) (hn : n ≤ maxLen) (b : Option Addr) (m capb : Nat) (ys : List Int) (hy : Byts w b m capb ys) (hm : m ≤ maxLen) :
    Calls Try.prog 6 #[.slice a n cap, .slice b m capb] w fun e w' => e = .returned (.bool true) ∧ Below w.heap.size w w' := by
  have HX := Lib.hid hx; clear hx
  have HY := Lib.hid hy; clear hy
  unfold maxLen at hn hm
  by_cases hlt : (1048576 : Int) < (n : Int)
  · go_enter Try.func6, Try.ntmps6
    go_wp2_with fail
    go_ret
    exact ⟨rfl, Below.refl _ _⟩
  by_cases hlt2 : (1048576 : Int) < (m : Int)
  · go_enter Try.func6, Try.ntmps6
    go_wp2_with fail
    go_ret
    exact ⟨rfl, Below.refl _ _⟩
  go_enter Try.func6, Try.ntmps6
  go_wp2_with fail
  refine (DrawGapPut_any _ _ _ _ HX.out (by omega)).mono ?_
  rintro e w1 ⟨a1, n1, c1, zs, rfl, hn1, hall, ho, hb⟩
  have O1 := Lib.hid ho; clear ho hall
  have B1 := Lib.hid hb; clear hb
  have L3 : n1 ≤ maxLen := by unfold maxLen; omega
  have HL3 := Lib.hid L3; clear L3
  go_wp2_with fail
  refine (GapPut_any _ _ _ _ _ O1.out.ints HL3.out).mono ?_
  rintro e w2 ⟨rfl, hb⟩
  have O2 := Lib.hid (O1.out.below hb)
  have B2 := Lib.hid (B1.out.trans (hb.mono B1.out.size)); clear hb
  go_wp2_with fail
  refine (sGapPut_any _ _ _ _ _ O2.out.ints HL3.out).mono ?_
  rintro e w3 ⟨rfl, hb⟩
  have O3 := Lib.hid (O2.out.below hb)
  have B3 := Lib.hid (B2.out.trans (hb.mono B2.out.size)); clear hb
  go_wp2_with fail
  refine (UpOk_any _ _ _ _ O3.out.ints HL3.out).mono ?_
  rintro e w' ⟨rfl, rfl⟩
  go_wp2_with fail
  refine (sUpOk_any _ _ _ _ O3.out.ints HL3.out).mono ?_
  rintro e w' ⟨rfl, q, rfl⟩
  cases hup : upOk n1 zs
  · have GP := Lib.hid (show gapPut n1 zs = ⟨#[]⟩ by rw [gapPut, hup]; rfl)
    rw [GP.out]
    go_wp2_with fail
    refine (sGapPut_any _ _ _ _ _ (O3.out.ints.drewN _) HL3.out).mono ?_
    rintro e w4 ⟨rfl, hb⟩
    have hb' : Below w3.heap.size w3 w4 := (below_drewN (Below.refl _ _) q).trans hb
    have O4 := Lib.hid (O3.out.below hb')
    have B4 := Lib.hid (B3.out.trans (hb'.mono B3.out.size)); clear hb hb'
    rw [GP.out]
    go_wp2_with fail
    refine (UpOk_any _ _ _ _ O4.out.ints HL3.out).mono ?_
    rintro e w' ⟨rfl, rfl⟩
    go_wp2_with fail
    refine (sUpOk_any _ _ _ _ O4.out.ints HL3.out).mono ?_
    rintro e w' ⟨rfl, q2, rfl⟩
    go_wp2_with fail
    refine (UpOk_any _ _ _ _ (O4.out.ints.drewN _) HL3.out).mono ?_
    rintro e w' ⟨rfl, rfl⟩
    go_wp2_with fail
    go_ret
    exact ⟨rfl, below_drewN B4.out _⟩
  · obtain ⟨ge, hu, h60⟩ := gapPut_ok hup
    have hgs := gapTo_size hu h60 n1 (Nat.le_refl _)
    have hg0 : 0 < (gapPut n1 zs).size := by
      rw [ge, gapTo_gaps, ByteArray.size_append, varS_size]
      have := varI_pos n1; omega
    obtain ⟨e1, e2⟩ := str_none hg0
    have hgz : (gapPut n1 zs).size ≤ 1000 := by rw [ge]; omega
    have GG := Lib.hid (fun u => gapGet_put O1.out.len hup u)
    have LE := Lib.hid O1.out.len
    have CL := Lib.hid (fun (h : n1 = 0 ∨ nthI zs (n1 - 1) < 128) => by have := gapTo_one hu h60 h n1 (Nat.le_refl _); rwa [← ge] at this)
    clear hu hgs ge hg0
    go_wp2_with fail
    refine (DrawVarGet_any b m capb ys ⟨(HY.out.ints.below B3.out).drewN _, HY.out.cap⟩ (by omega)).mono ?_
    rintro e w4 ⟨u, rfl, hsu, hb⟩
    have hb' : Below w3.heap.size w3 w4 := (below_drewN (Below.refl _ _) q).trans hb
    have O4 := Lib.hid (O3.out.below hb')
    have B4 := Lib.hid (B3.out.trans (hb'.mono B3.out.size)); clear hb hb'
    have hz : (gapPut n1 zs).size + u.size ≤ 9223372036854775807 := by omega
    have C := Lib.hid (fun w => by have := GapGet_any (gapPut n1 zs ++ u) (by rw [ByteArray.size_append]; unfold maxLen; omega) w; rw [GG.out u] at this; exact this)
    go_wp2_with fail
    refine (C.out _).mono ?_
    rintro e w5 ⟨a5, c5, rfl, ho5, hb⟩
    have O5 := Lib.hid ho5; clear ho5
    have O45 := Lib.hid (O4.out.below hb)
    have B5 := Lib.hid (B4.out.trans (hb.mono B4.out.size)); clear hb
    have I5 := Lib.hid (show Ints w5 .i64 a5 n1 zs by have h := O5.out.ints; rw [LE.out] at h; exact h)
    rw [LE.out]
    clear hup
    by_cases hn0 : n1 = 0
    · have b0 : ((n1 : Int) == 0) = true := beq_t (by omega)
      have hzz := CL.out (.inl hn0)
      have bz : (((gapPut n1 zs).size : Int) == (n1 : Int) + 1) = true := beq_t (by omega)
      clear hn0 hzz
      go_wp2_with fail
      refine (foInts_same _ _ _ _ _ _ _ I5.out O45.out.ints HL3.out).mono ?_
      rintro e w6 ⟨rfl, q2, rfl⟩
      go_wp2_with fail
      go_ret
      exact ⟨rfl, below_drewN B5.out _⟩
    · have b0 : ((n1 : Int) == 0) = false := beq_f (by omega)
      obtain ⟨g1, hof, ha, hcc⟩ := O45.out.ints.rd.pos (show n1 - 1 < n1 by omega)
      have hck := hcc (n1 - 1) (by omega)
      have v1 : IntKind.i64.wrap ((n1 : Int) - 1) = (n1 : Int) - 1 := IntWalk.i64_in _ (by omega)
      have v2 : ((n1 : Int) - 1).toNat = n1 - 1 := by omega
      have v3 : (0 : Int) ≤ (n1 : Int) - 1 := by omega
      subst ha
      by_cases hc : nthI zs (n1 - 1) < 128
      · have hzz := CL.out (.inr hc)
        have bz : (((gapPut n1 zs).size : Int) == (n1 : Int) + 1) = true := beq_t (by omega)
        clear hn0 hzz hcc
        go_wp2_with fail
        refine (foInts_same _ _ _ _ _ _ _ I5.out O45.out.ints HL3.out).mono ?_
        rintro e w6 ⟨rfl, q2, rfl⟩
        go_wp2_with fail
        go_ret
        exact ⟨rfl, below_drewN B5.out _⟩
      · clear hn0 hcc
        go_wp2_with fail
        refine (foInts_same _ _ _ _ _ _ _ I5.out O45.out.ints HL3.out).mono ?_
        rintro e w6 ⟨rfl, q2, rfl⟩
        go_wp2_with fail
        go_ret
        exact ⟨rfl, below_drewN B5.out _⟩
end Go.Proofs.Ytcniiinapnkbfaa
