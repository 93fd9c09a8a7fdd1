/- The walks of what PackPut writes. Conditions: what is read fits the model's sizes. -/
import Derived.Test.YtcniiinapnkbfaaWidth
import Derived.Test.YtcniiinapnkbfaaVarGet
import Derived.BigRegion
import Derived.Deep.RegionWith
namespace Go.Proofs.Ytcniiinapnkbfaa
open Go.RowKit

/-- One bit of a number. -/
def bitI (x : Int) (b : Nat) : Nat := x.toNat / 2 ^ b % 2
/-- The t-th bit of numbers of W bits each. -/
def nthBit (W : Nat) (xs : List Int) (t : Nat) : Nat := bitI (nthI xs (t / W)) (t % W)
/-- Byte j after t bits. -/
def byteAt (W : Nat) (xs : List Int) : Nat → Nat → Nat
  | 0, _ => 0
  | t + 1, j => if j = t / 8 then byteAt W xs t j ||| nthBit W xs t * 2 ^ (t % 8) else byteAt W xs t j
theorem bitI_lt (x : Int) (b : Nat) : bitI x b < 2 := Nat.mod_lt _ (by decide)
theorem shl_lt {v t : Nat} (h : v < 2) : v * 2 ^ (t % 8) < 256 := by
  have h1 : 2 ^ (t % 8) ≤ 2 ^ 7 := Nat.pow_le_pow_right (by decide) (by omega)
  have h2 : v * 2 ^ (t % 8) ≤ 1 * 2 ^ 7 := Nat.mul_le_mul (by omega) h1
  omega
theorem byteAt_lt (W : Nat) (xs : List Int) (t : Nat) : ∀ j, byteAt W xs t j < 256 := by
  induction t with
  | zero => intro j; show 0 < 256; decide
  | succ t ih =>
    intro j
    rw [byteAt]; split
    · exact Nat.or_lt_two_pow (n := 8) (ih j) (shl_lt (bitI_lt _ _))
    · exact ih j
theorem byteAt_zero (W : Nat) (xs : List Int) (t : Nat) : ∀ j, t ≤ 8 * j → byteAt W xs t j = 0 := by
  induction t with
  | zero => intro j _; rfl
  | succ t ih =>
    intro j h
    rw [byteAt, if_neg (by omega)]
    exact ih j (by omega)
def byteV (W : Nat) (xs : List Int) (t j : Nat) : Value := .int .u8 (byteAt W xs t j : Nat)
theorem byteV_step (W : Nat) (xs : List Int) (t N : Nat) : (tab N (byteV W xs t)).set (t / 8) (.int .u8 ((byteAt W xs t (t / 8) ||| nthBit W xs t * 2 ^ (t % 8) : Nat) : Int)) = tab N (byteV W xs (t + 1)) := by
  refine tab_ext (by simp [tab_length]) fun j hj => ?_
  rw [List.getElem?_set]
  by_cases h : t / 8 = j
  · subst h; rw [if_pos rfl, if_pos (by simpa [tab_length] using hj), byteV, byteAt, if_pos rfl]
  · rw [if_neg h, tab_get _ _ _ hj, byteV, byteV, byteAt, if_neg (by omega)]
theorem byteV_grow (W : Nat) (xs : List Int) (t N : Nat) (h : t ≤ 8 * N) : tab N (byteV W xs t) ++ [.int .u8 0] = tab (N + 1) (byteV W xs t) := by
  rw [← tab_snoc, byteV, byteAt_zero _ _ _ _ h]; rfl
theorem and1 (x b : Nat) (hx : x ≤ 999999999) : bits .and .i64 ((x : Int) / 2 ^ b) 1 = ((x / 2 ^ b % 2 : Nat) : Int) := by
  have h1 : (x : Int) / 2 ^ b = ((x / 2 ^ b : Nat) : Int) := by rw [Int.natCast_ediv, Int.natCast_pow]; rfl
  have h2 : x / 2 ^ b ≤ x := Nat.div_le_self _ _
  rw [h1, show (1 : Int) = ((1 : Nat) : Int) from rfl]
  show IntKind.i64.wrap ((BitVec.ofInt 64 ((x / 2 ^ b : Nat) : Int) &&& BitVec.ofInt 64 ((1 : Nat) : Int)).toNat : Int) = _
  rw [BitVec.toNat_and, ofInt_nat64 _ (by omega), ofInt_nat64 1 (by omega), Nat.and_one_is_mod, IntKind.wrap_i64]
  omega
theorem orv (p x b t : Nat) (hp : p < 256) (hx : x ≤ 999999999) : bits .or .u8 (p : Int) (bits .and .i64 ((x : Int) / 2 ^ b) 1 % 256 * 2 ^ (t % 8) % 256) = ((p ||| bitI (x : Int) b * 2 ^ (t % 8) : Nat) : Int) := by
  have h2 : bitI (x : Int) b < 2 := bitI_lt _ _
  have h3 : bitI (x : Int) b * 2 ^ (t % 8) < 256 := shl_lt h2
  have h5 : bits .and .i64 ((x : Int) / 2 ^ b) 1 % 256 = ((bitI (x : Int) b : Nat) : Int) := by
    rw [and1 x b hx]; show ((bitI (x : Int) b : Nat) : Int) % 256 = _; omega
  have h6 : ((bitI (x : Int) b : Nat) : Int) * 2 ^ (t % 8) % 256 = ((bitI (x : Int) b * 2 ^ (t % 8) : Nat) : Int) := by
    rw [show ((bitI (x : Int) b : Nat) : Int) * 2 ^ (t % 8) = ((bitI (x : Int) b * 2 ^ (t % 8) : Nat) : Int) by rw [Int.natCast_mul, Int.natCast_pow]; rfl]
    omega
  rw [h5, h6, u8_or_nat _ _ hp h3]
theorem orv0 (p x b t : Nat) (hp : p < 256) (hx : x ≤ 999999999) (h8 : (t : Int) % 8 = 0) : bits .or .u8 (p : Int) (bits .and .i64 ((x : Int) / 2 ^ b) 1 % 256) = ((p ||| bitI (x : Int) b * 2 ^ (t % 8) : Nat) : Int) := by
  have h := orv p x b t hp hx
  have h9 : t % 8 = 0 := by omega
  rw [h9] at h ⊢
  rw [← h]
  congr 1
  omega
theorem cv_any {w : World} {B n cap : Nat} {a : Option Addr} {L : List Int} (h : w.ownsRow B 5 1 (.slice a n cap) n (L.map (Value.int .u8))) (hl : L.length = n) :
    (convert 22 9 (.slice a n cap)).run Try.prog w = .ok (.string (strOfNums L)) w := by
  rcases Nat.eq_zero_or_pos n with rfl | h0
  · obtain rfl : L = [] := List.length_eq_zero_iff.1 hl
    rw [run_convert_bytes_string w 22 9 5 a 0 cap Try.underlying22 Try.underlying5 Try.underlying9]
    cases a <;> simp [Conv.bytesToString, loadCells]
    all_goals rfl
  · exact cv_own h hl h0
theorem below_undrew {B : Nat} {a b : World} (h : Below a.drew.heap.size a.drew b) (hB : B ≤ a.heap.size) : Below B a b :=
  ⟨h.os, h.tape, h.output, h.size, fun k hk => h.block k (Nat.lt_of_lt_of_le hk hB)⟩
theorem varS_le10 (n : Nat) (h : n ≤ 999999999) : (varS n).size ≤ 10 := by
  rw [varS_size]
  exact Nat.le_trans (varI_le 5 n (by omega) (by omega)) (by omega)
theorem Rd.at {w : World} {b off N k : Nat} {F : Nat → Value} (h : Rd w (some ⟨b, off, none⟩) N F) (hk : k < N) : w.cell? ⟨b, off + k, none⟩ = some (F k) := by
  obtain ⟨b2, off2, he, hc⟩ := h.pos hk
  injection he with he
  injection he with h1 h2
  subst h1; subst h2
  exact hc k hk
theorem nthBit_at {W k b : Nat} (xs : List Int) (hb : b < W) : nthBit W xs (k * W + b) = bitI (nthI xs k) b := by
  have h1 : (k * W + b) / W = k := by rw [Nat.add_comm, Nat.add_mul_div_right _ _ (by omega), Nat.div_eq_of_lt hb, Nat.zero_add]
  have h2 : (k * W + b) % W = b := by rw [Nat.add_comm, Nat.add_mul_mod_self_right, Nat.mod_eq_of_lt hb]
  rw [nthBit, h1, h2]
def packB (W : Nat) (xs : List Int) (t : Nat) : List Int := (List.range ((t + 7) / 8)).map fun j => ((byteAt W xs t j : Nat) : Int)
theorem packB_len (W : Nat) (xs : List Int) (t : Nat) : (packB W xs t).length = (t + 7) / 8 := by simp [packB]
theorem packB_tab (W : Nat) (xs : List Int) (t : Nat) : (packB W xs t).map (Value.int .u8) = tab ((t + 7) / 8) (byteV W xs t) := by
  rw [packB, List.map_map]; rfl
def packPut (n : Nat) (xs : List Int) : ByteArray :=
  if packWidth n xs < 0 then ⟨#[]⟩ else varS n ++ varS (packWidth n xs).toNat ++ strOfNums (packB (packWidth n xs).toNat xs (n * (packWidth n xs).toNat))
theorem packWidth_yes {n : Nat} {xs : List Int} (h : ¬ packWidth n xs < 0) : n ≤ 60 ∧ numsOk n xs = true ∧ ∃ W : Nat, packWidth n xs = W ∧ W ≤ 30 := by
  unfold packWidth at h ⊢
  split at h
  · rename_i hc
    rw [if_pos hc]
    simp only [Bool.and_eq_true, decide_eq_true_eq] at hc
    exact ⟨hc.2, hc.1, _, rfl, (blen_le _ _).2 (by have := maxTo_le xs n hc.1; omega)⟩
  · omega
theorem nums_nat {n k : Nat} {xs : List Int} (h : numsOk n xs = true) (hk : k < n) : ∃ x : Nat, nthI xs k = (x : Int) ∧ x ≤ 999999999 := by
  have h1 := numOk_bd (allN_iff.1 h k hk)
  exact ⟨(nthI xs k).toNat, by omega, by omega⟩
set_option maxRecDepth 20000 in
set_option maxHeartbeats 1000000 in
theorem sPackPut_any (a : Option Addr) (n cap : Nat) (xs : List Int) (w : World) (hx : Ints w .i64 a n xs) (hn : n ≤ maxLen) :
    Calls Try.prog 26 #[.slice a n cap] w fun e w' => e = .returned (.string (packPut n xs)) ∧ Below w.heap.size w w' := by
  have HX := Lib.hid hx; clear hx
  by_cases hneg : packWidth n xs < 0
  · have R := Lib.hid (show packPut n xs = ⟨#[]⟩ by rw [packPut, if_pos hneg])
    go_enter Try.func26, Try.ntmps26
    go_wp2_with fail
    refine (sPackWidth_any _ _ _ _ HX.out hn).mono ?_
    rintro e w' ⟨rfl, rfl⟩
    go_wp2_with fail
    go_ret
    exact ⟨ret_str R.out.symm, Below.refl _ _⟩
  · obtain ⟨hn60, hnum, W, hW, hW30⟩ := packWidth_yes hneg
    have R := Lib.hid (show packPut n xs = varS n ++ varS W ++ strOfNums (packB W xs (n * W)) by rw [packPut, if_neg hneg, hW]; rfl)
    have HN := Lib.hid hnum; clear hnum
    clear hneg
    go_enter Try.func26, Try.ntmps26
    go_wp2_with fail
    refine (sPackWidth_any _ _ _ _ HX.out hn).mono ?_
    rintro e w' ⟨rfl, rfl⟩
    rw [hW]
    clear hW
    have HA := Lib.hid ((Below.refl w.heap.size w).alloc (Nat.le_refl _) (.cells #[] 5))
    have ON := Lib.hid (bytes_nil_made w)
    obtain ⟨i0, hi, hz0, hz1, hz2⟩ := info_parts info_u8
    go_wp2_with fail
    go_loopw [4, 5, 6] (fun v c i wr => ∃ (k : Nat) (a' : Option Addr) (c' : Nat), k ≤ n ∧ i = .int .i64 k ∧ c = .int .i64 ((k * W : Nat) : Int) ∧ v = .slice a' ((k * W + 7) / 8) c' ∧ wr.ownsRow w.heap.size 5 1 (.slice a' ((k * W + 7) / 8) c') ((k * W + 7) / 8) (tab ((k * W + 7) / 8) (byteV W xs (k * W))) ∧ Below w.heap.size w wr) (fun _ _ i _ => n - (intOf i).toNat)
    case atStart => exact ⟨0, _, _, Nat.zero_le _, rfl, by rw [Nat.zero_mul]; rfl, by rw [Nat.zero_mul], by rw [Nat.zero_mul]; exact ON.out, HA.out⟩
    case round =>
      obtain ⟨k, a', c', hk, rfl, rfl, rfl, hown, hb⟩ := hrel
      have HO := Lib.hid hown; clear hown
      have HB := Lib.hid hb; clear hb
      by_cases hlt : k < n
      · obtain ⟨x, hxk, hx9⟩ := nums_nat HN.out hlt
        have hmul : k * W + W ≤ n * W := by rw [← Nat.succ_mul]; exact Nat.mul_le_mul_right _ hlt
        have hmul2 : n * W ≤ 60 * 30 := Nat.mul_le_mul hn60 hW30
        have hsucc : (k + 1) * W = k * W + W := Nat.succ_mul _ _
        have NB := Lib.hid (fun b (hb : b < W) => nthBit_at (k := k) xs hb)
        obtain ⟨T, hT⟩ : ∃ T, T = k * W := ⟨_, rfl⟩
        rw [← hT] at NB HO hmul hsucc
        rw [← hT]
        have HT := Lib.hid hT; clear hT
        go_wp2_with fail
        obtain ⟨wo, hwo⟩ : ∃ wo : World, wo = wr := ⟨_, rfl⟩
        go_loopw [4, 5, 7] (fun v c i wq => ∃ (b : Nat) (a' : Option Addr) (c' : Nat), b ≤ W ∧ i = .int .i64 b ∧ c = .int .i64 ((T + b : Nat) : Int) ∧ v = .slice a' ((T + b + 7) / 8) c' ∧ wq.ownsRow w.heap.size 5 1 (.slice a' ((T + b + 7) / 8) c') ((T + b + 7) / 8) (tab ((T + b + 7) / 8) (byteV W xs (T + b))) ∧ Below w.heap.size w wq) (fun _ _ i _ => W - (intOf i).toNat)
        case atStart => exact ⟨0, _, _, Nat.zero_le _, rfl, rfl, rfl, HO.out, HB.out⟩
        case round =>
          obtain ⟨b, a', c', hbW, rfl, rfl, rfl, hown, hb⟩ := hrel
          obtain ⟨t, ht⟩ : ∃ t, t = T + b := ⟨_, rfl⟩
          rw [← ht] at hown
          simp only [← ht]
          have htT : T + b ≤ 1800 := by omega
          have ht0 : t ≤ 1800 := by omega
          have HTT := Lib.hid ht; clear ht
          have HO := Lib.hid hown; clear hown
          have HB := Lib.hid hb; clear hb
          by_cases hbl : b < W
          · have HNB := Lib.hid (NB.out b hbl)
            obtain ⟨g1, off, rfl, hc⟩ := HX.out.rd.pos hlt
            have hck := Rd.at (HX.out.below HB.out).rd hlt
            rw [hxk] at hck
            clear hc
            obtain ⟨j, hj0⟩ : ∃ j, j = t / 8 := ⟨_, rfl⟩
            have hj' : (t : Int) / 8 = (j : Int) := by omega
            have hj1 : 8 * j ≤ t := by omega
            have hj2 : t < 8 * j + 8 := by omega
            have HJ := Lib.hid hj0; clear hj0
            by_cases h8 : (t : Int) % 8 = 0
            · go_wp2_with (at_builtin; refine wpList_append_own _ rfl _ _ 22 rfl w.heap.size 5 i0 (.int .u8 0) 1 1 Try.underlying22 hi hz0 hz1 hz2 rfl (by decide) _ _ _ rfl (HO.out.alloc _) ⟨wr.heap.size, 0, none⟩ 1 1 [.int .u8 0] rfl rfl ?c1 ?c2 ?c3 ?c4 ?c5 ?_)
              case c1 => exact cells_new1 wr _ _
              case c2 => intro u hu; simp at hu; subst hu; rfl
              case c3 => unfold maxLen; omega
              case c4 => omega
              case c5 => have := HB.out.size; simp; omega
              · intro v' w1 hown' hgrow _
                obtain ⟨a2, c2, hv⟩ := own_form hown'
                rw [hv] at hown'
                have hsz : (t + 7) / 8 + 1 = (t + 1 + 7) / 8 := by omega
                rw [byteV_grow _ _ _ _ (by omega), hsz] at hown'
                have HB2 := Lib.hid ((HB.out.alloc HB.out.size _).grown hgrow (by have := HB.out.size; simp; omega) (fun k hk => (own_block HO.out k hk).1))
                have HL2 := Lib.hid (show wr.heap.size ≤ w1.heap.size from Nat.le_trans (by simp) hgrow.size)
                rw [hv]
                clear hgrow hv
                obtain ⟨g, rfl, hgB, hgs⟩ := own_pos hown' (by omega)
                have hf := hown'.frozenAt j
                have hco := hown'.cellAt j (by omega)
                rw [tab_get _ _ _ (by omega)] at hco
                simp only [byteV] at hco
                clear hck
                have hck := Rd.at (HX.out.below HB2.out).rd hlt
                rw [hxk] at hck
                have ST := Lib.hid (hown'.stored j (.int .u8 ((byteAt W xs t j ||| bitI (x : Int) b * 2 ^ (t % 8) : Nat) : Int)))
                have HOL := Lib.hid hown'; clear hown'
                have V := Lib.hid (orv0 (byteAt W xs t j) x b t (byteAt_lt _ _ _ _) hx9 h8)
                go_wp2_with fail
                go_region
                rw [V.out]
                have SO := ST.out.1
                have SG := ST.out.2
                have hbit : bitI (x : Int) b = nthBit W xs t := by rw [← hxk, HTT.out, HNB.out]
                rw [hbit] at SO SG
                rw [hbit]
                clear hbit ST V
                rw [HJ.out, byteV_step] at SO
                rw [HJ.out] at SG
                rw [HJ.out]
                have B3 := Lib.hid (HB2.out.grown SG HB2.out.size (fun k hk => by cases hk; exact hgB))
                generalize World.setCell _ _ _ = w2 at SO SG B3 ⊢
                clear SG
                have HO3 := Lib.hid SO; clear SO
                have E1 := Lib.hid (show t + 1 = T + (b + 1) by have := HTT.out; omega)
                have E2 := Lib.hid (show (T + (b + 1) + 7) / 8 = (t + 7) / 8 + 1 by have := HTT.out; omega)
                rw [E1.out] at HO3
                go_wp2_with fail
                go_roundw
                case rel => exact ⟨b + 1, _, c2, by omega, by go_num, by have := E1.out; exact vint (by omega), by rw [E2.out], HO3.out, Below.drew B3.out⟩
                case measure => simp [intOf]; omega
            · obtain ⟨g, rfl, hgB, hgs⟩ := own_pos HO.out (by omega)
              have hown' := HO.out
              have hf := hown'.frozenAt j
              have hco := hown'.cellAt j (by omega)
              rw [tab_get _ _ _ (by omega)] at hco
              simp only [byteV] at hco
              have ST := Lib.hid (hown'.stored j (.int .u8 ((byteAt W xs t j ||| bitI (x : Int) b * 2 ^ (t % 8) : Nat) : Int)))
              clear hown'
              have V := Lib.hid (orv (byteAt W xs t j) x b t (byteAt_lt _ _ _ _) hx9)
              go_wp2_with fail
              go_region
              rw [V.out]
              have SO := ST.out.1
              have SG := ST.out.2
              have hbit : bitI (x : Int) b = nthBit W xs t := by rw [← hxk, HTT.out, HNB.out]
              rw [hbit] at SO SG
              rw [hbit]
              clear hbit ST V
              rw [HJ.out, byteV_step] at SO
              rw [HJ.out] at SG
              rw [HJ.out]
              have hsz : (t + 7) / 8 = (t + 1 + 7) / 8 := by omega
              rw [hsz] at SO
              have B3 := Lib.hid (HB.out.grown SG HB.out.size (fun k hk => by cases hk; exact hgB))
              generalize World.setCell _ _ _ = w2 at SO SG B3 ⊢
              clear SG
              have HO3 := Lib.hid SO; clear SO
              have E1 := Lib.hid (show t + 1 = T + (b + 1) by have := HTT.out; omega)
              have E2 := Lib.hid (show (T + (b + 1) + 7) / 8 = (t + 7) / 8 by have := HTT.out; omega)
              rw [E1.out] at HO3
              go_wp2_with fail
              go_roundw
              case rel => exact ⟨b + 1, _, c', by omega, by go_num, by have := E1.out; exact vint (by omega), by rw [E2.out], HO3.out, Below.drew B3.out⟩
              case measure => simp [intOf]; omega
          · obtain rfl : b = W := by omega
            have E := Lib.hid (show t = (k + 1) * b by rw [hsucc, HTT.out])
            go_wp2_with fail
            go_roundw
            case rel => exact ⟨k + 1, _, _, by omega, by go_num, by rw [← E.out], by rw [← E.out], by rw [← E.out]; exact HO.out, HB.out⟩
            case measure => simp [intOf]; omega
      · obtain rfl : k = n := by omega
        have hO := HO.out
        rw [← packB_tab] at hO
        have hcv : (convert 22 9 (.slice a' ((k * W + 7) / 8) c')).run Try.prog wr.drew = .ok (.string (strOfNums (packB W xs (k * W)))) wr.drew := cv_any (own_drewN hO 1) (packB_len _ _ _)
        have CV := Lib.hid (fun (v : World) (hv : Below wr.heap.size wr v) => cv_any (own_below hO hv (Nat.le_refl _)) (packB_len _ _ _))
        clear hO
        have BW := Lib.hid (Below.refl wr.heap.size wr)
        have z0 : k * W ≤ 60 * 30 := Nat.mul_le_mul hn60 hW30
        have z1 : (varS k).size ≤ 10 := varS_le10 k (by omega)
        have z2 : (varS W).size ≤ 10 := varS_le10 W (by omega)
        have z3 : (strOfNums (packB W xs (k * W))).size = (k * W + 7) / 8 := by rw [strOfNums_size, packB_len]
        have z4 : (varS k).size + (varS W).size ≤ 9223372036854775807 := by omega
        have z5 : (varS k ++ varS W).size + (strOfNums (packB W xs (k * W))).size ≤ 9223372036854775807 := by rw [ByteArray.size_append]; omega
        have z6 : (varS k).size + (varS W).size + (strOfNums (packB W xs (k * W))).size ≤ 9223372036854775807 := by omega
        go_wp2_with fail
        go_region_with (go_at_call 39; refine (l3Var_any _ (by omega) _).mono ?_; rintro e w1 ⟨rfl, hb1⟩; have BW := Lib.hid (BW.out.trans (by first | exact hb1.mono BW.out.size | exact below_undrew hb1 BW.out.size)); clear hb1; have hcv := CV.out _ BW.out)
        all_goals
          go_wp2_with fail
          go_ret
          exact ⟨ret_str R.out.symm, HB.out.trans (BW.out.mono HB.out.size)⟩
end Go.Proofs.Ytcniiinapnkbfaa
