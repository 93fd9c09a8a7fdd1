/- What PackPut writes, the program. Conditions: what is read fits the model's sizes. -/
import Derived.Test.YtcniiinapnkbfaaPack
namespace Go.Proofs.Ytcniiinapnkbfaa
open Go.RowKit
set_option maxRecDepth 20000 in
set_option maxHeartbeats 1000000 in
theorem PackPut_any (a : Option Addr) (n cap : Nat) (xs : List Int) (w : World) (hx : Ints w .i64 a n xs) (hn : n ≤ maxLen) :
    Calls Try.prog 24 #[.slice a n cap] w fun e w' => e = .returned (.string (packPut n xs)) ∧ Below w.heap.size w w' := by
  have HX := Lib.hid hx; clear hx
  by_cases hneg : packWidth n xs < 0
  · have R := Lib.hid (show packPut n xs = ⟨#[]⟩ by rw [packPut, if_pos hneg])
    go_enter Try.func24, Try.ntmps24
    go_wp2_with fail
    refine (PackWidth_any _ _ _ _ HX.out hn).mono ?_
    rintro e w' ⟨rfl, rfl⟩
    go_wp2_with fail
    go_ret
    exact ⟨ret_str R.out.symm, Below.refl _ _⟩
  · obtain ⟨hn60, hnum, W, hW, hW30⟩ := packWidth_yes hneg
    have R := Lib.hid (show packPut n xs = varS n ++ varS W ++ strOfNums (packB W xs (n * W)) by rw [packPut, if_neg hneg, hW]; rfl)
    have HN := Lib.hid hnum; clear hnum
    clear hneg
    go_enter Try.func24, Try.ntmps24
    go_wp2_with fail
    refine (PackWidth_any _ _ _ _ HX.out hn).mono ?_
    rintro e w' ⟨rfl, rfl⟩
    rw [hW]
    clear hW
    obtain ⟨i0, hi, hz0, hz1, hz2⟩ := info_parts info_u8
    have hmul2 : n * W ≤ 60 * 30 := Nat.mul_le_mul hn60 hW30
    have hwn : (W : Int) * (n : Int) = ((n * W : Nat) : Int) := by rw [Int.natCast_mul, Int.mul_comm]
    have p0 : (0 : Int) ≤ (W : Int) * (n : Int) := by rw [hwn]; omega
    have p1 : (W : Int) * (n : Int) ≤ 1800 := by rw [hwn]; omega
    obtain ⟨sz, hsz⟩ : ∃ z, z = (n * W + 7) / 8 := ⟨_, rfl⟩
    have p2 : ((W : Int) * (n : Int) + 7) / 8 = (sz : Int) := by rw [hwn]; omega
    have p3 : sz ≤ 226 := by omega
    have SZ := Lib.hid hsz; clear hsz hwn
    go_wp2_with (refine wpList_make_full _ rfl (.tmp 18) (.tmp 18) _ rfl w.heap.size 5 i0 _ 1 Try.underlying22 hi hz0 hz1 .i64 .i64 _ _ sz rfl rfl p2 p2 (by rw [hz2]; omega) (by unfold maxLen; omega) (Nat.le_refl _) ?_; intro w1 hown hg)
    rw [Nat.mul_one, show (Value.int .u8 0).cells = #[.int .u8 0] from rfl, made_zero] at hown
    have hb1 : Below w.heap.size w w1 := (Below.refl _ _).grown hg (Nat.le_refl _) (by simp)
    have HO0 := Lib.hid hown; clear hown hg
    have HB1 := Lib.hid hb1; clear hb1
    go_loopw [22] (fun i wr => ∃ k : Nat, k ≤ n ∧ i = .int .i64 k ∧ wr.ownsRow w.heap.size 5 1 (.slice (some ⟨w.heap.size, 0, none⟩) sz sz) sz (tab sz (byteV W xs (k * W))) ∧ Below w.heap.size w wr) (fun i _ => n - (intOf i).toNat)
    case atStart => exact ⟨0, Nat.zero_le _, rfl, by rw [Nat.zero_mul]; exact HO0.out, HB1.out⟩
    case round =>
      obtain ⟨k, hk, rfl, hown, hb⟩ := hrel
      have HO := Lib.hid hown; clear hown
      have HB := Lib.hid hb; clear hb
      by_cases hlt : k < n
      · obtain ⟨x, hxk, hx9⟩ := nums_nat HN.out hlt
        have hmul : k * W + W ≤ n * W := by rw [← Nat.succ_mul]; exact Nat.mul_le_mul_right _ hlt
        have hsucc : (k + 1) * W = k * W + W := Nat.succ_mul _ _
        have NB := Lib.hid (fun b (hb : b < W) => nthBit_at (k := k) xs hb)
        obtain ⟨T, hT⟩ : ∃ T, T = k * W := ⟨_, rfl⟩
        have hT' : (k : Int) * (W : Int) = (T : Int) := by rw [hT, Int.natCast_mul]
        rw [← hT] at NB HO hmul hsucc
        have HT := Lib.hid hT; clear hT
        have hT0 : (0 : Int) ≤ (k : Int) * (W : Int) := by rw [hT']; omega
        have hT1 : (k : Int) * (W : Int) ≤ 1800 := by rw [hT']; omega
        obtain ⟨g1, off, rfl, hc⟩ := HX.out.rd.pos hlt
        have hck := Rd.at (HX.out.below HB.out).rd hlt
        rw [hxk] at hck
        clear hc
        go_wp2_with fail
        clear hck
        obtain ⟨wo, hwo⟩ : ∃ wo : World, wo = wr := ⟨_, rfl⟩
        go_loopw [28] (fun i wq => ∃ b : Nat, b ≤ W ∧ i = .int .i64 b ∧ wq.ownsRow w.heap.size 5 1 (.slice (some ⟨w.heap.size, 0, none⟩) sz sz) sz (tab sz (byteV W xs (T + b))) ∧ Below w.heap.size w wq) (fun i _ => W - (intOf i).toNat)
        case atStart => exact ⟨0, Nat.zero_le _, rfl, HO.out, HB.out⟩
        case round =>
          obtain ⟨b, hbW, rfl, hown, hb⟩ := hrel
          obtain ⟨t, ht⟩ : ∃ t, t = T + b := ⟨_, rfl⟩
          rw [← ht] at hown
          have htT : T + b ≤ 1800 := by omega
          have ht0 : t ≤ 1800 := by omega
          have ht1 : (k : Int) * (W : Int) + (b : Int) = (t : Int) := by rw [hT']; omega
          have ht2 : (T : Int) + (b : Int) = (t : Int) := by omega
          have htW : b < W → t < n * W := by omega
          have HTT := Lib.hid ht; clear ht
          have HB2 := Lib.hid hb; clear hb
          by_cases hbl : b < W
          · have HNB := Lib.hid (NB.out b hbl)
            have htz := htW hbl
            clear htW
            obtain ⟨j, hj0⟩ : ∃ j, j = t / 8 := ⟨_, rfl⟩
            have hj' : (t : Int) / 8 = (j : Int) := by omega
            have hj3 : j < sz := by have := SZ.out; omega
            have HJ := Lib.hid hj0; clear hj0
            have hf := hown.frozenAt j
            have hco := hown.cellAt j (by omega)
            rw [tab_get _ _ _ hj3] at hco
            simp only [byteV] at hco
            have ST := Lib.hid (hown.stored j (.int .u8 ((byteAt W xs t j ||| bitI (x : Int) b * 2 ^ (t % 8) : Nat) : Int)))
            clear hown
            have V := Lib.hid (orv (byteAt W xs t j) x b t (byteAt_lt _ _ _ _) hx9)
            go_wp2_with fail
            go_region
            rw [V.out]
            have SO := ST.out.1
            have SG := ST.out.2
            have hbit : bitI (x : Int) b = nthBit W xs t := by rw [← hxk, HTT.out, HNB.out]
            rw [hbit] at SO SG
            rw [hbit]
            clear hbit ST V
            rw [HJ.out, byteV_step] at SO
            rw [HJ.out] at SG
            rw [HJ.out]
            have B3 := Lib.hid (HB2.out.grown SG HB2.out.size (fun k hk => by cases hk; exact Nat.le_refl _))
            generalize World.setCell _ _ _ = w2 at SO SG B3 ⊢
            clear SG
            have HO3 := Lib.hid SO; clear SO
            have E1 := Lib.hid (show t + 1 = T + (b + 1) by have := HTT.out; omega)
            rw [E1.out] at HO3
            go_wp2_with fail
            go_roundw
            case rel => exact ⟨b + 1, by omega, by go_num, HO3.out, Below.drew B3.out⟩
            case measure => simp [intOf]; omega
          · obtain rfl : b = W := by omega
            have E := Lib.hid (show t = (k + 1) * b by rw [hsucc, HTT.out])
            have HO3 := Lib.hid hown; clear hown
            go_wp2_with fail
            go_roundw
            case rel => exact ⟨k + 1, by omega, by go_num, by rw [← E.out]; exact HO3.out, HB2.out⟩
            case measure => simp [intOf]; omega
      · obtain rfl : k = n := by omega
        have hO := HO.out
        rw [SZ.out, ← packB_tab] at hO
        rw [← SZ.out] at hO
        have hl0 : (packB W xs (k * W)).length = sz := by rw [packB_len, SZ.out]
        have hcv : (convert 22 9 (.slice (some ⟨w.heap.size, 0, none⟩) sz sz)).run Try.prog wr.drew = .ok (.string (strOfNums (packB W xs (k * W)))) wr.drew := cv_any (own_drewN hO 1) hl0
        have CV := Lib.hid (fun (v : World) (hv : Below wr.heap.size wr v) => cv_any (own_below hO hv (Nat.le_refl _)) hl0)
        clear hO
        have BW := Lib.hid (Below.refl wr.heap.size wr)
        have z1 : (varS k).size ≤ 10 := varS_le10 k (by omega)
        have z2 : (varS W).size ≤ 10 := varS_le10 W (by omega)
        have z3 : (strOfNums (packB W xs (k * W))).size = sz := by rw [strOfNums_size, hl0]
        have z4 : (varS k).size + (varS W).size ≤ 9223372036854775807 := by omega
        have z5 : (varS k ++ varS W).size + (strOfNums (packB W xs (k * W))).size ≤ 9223372036854775807 := by rw [ByteArray.size_append]; omega
        have z6 : (varS k).size + (varS W).size + (strOfNums (packB W xs (k * W))).size ≤ 9223372036854775807 := by omega
        clear hl0
        go_wp2_with fail
        go_region_with (go_at_call 11; refine (VarPut_yes _ (by omega) _).mono ?_; rintro e w1 ⟨rfl, hb1⟩; have BW := Lib.hid (BW.out.trans (by first | exact hb1.mono BW.out.size | exact below_undrew hb1 BW.out.size)); clear hb1; have hcv := CV.out _ BW.out)
        all_goals
          go_wp2_with fail
          go_ret
          exact ⟨ret_str R.out.symm, HB.out.trans (BW.out.mono HB.out.size)⟩
end Go.Proofs.Ytcniiinapnkbfaa
