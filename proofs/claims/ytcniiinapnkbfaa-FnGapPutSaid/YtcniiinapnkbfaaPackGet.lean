/- The walks of what PackGet reads. Conditions: the strings fit the model's sizes. -/
import Derived.Test.YtcniiinapnkbfaaPackPut
import Derived.Test.YtcniiinapnkbfaaVarLaw
namespace Go.Proofs.Ytcniiinapnkbfaa
open Go.RowKit

/-- The i-th bit of the bytes of u from o on. -/
def bitS (u : ByteArray) (o i : Nat) : Nat := byN u (o + i / 8) / 2 ^ (i % 8) % 2
/-- The number that j bits from bit B on are. -/
def numB (u : ByteArray) (o B : Nat) : Nat → Nat
  | 0 => 0
  | j + 1 => numB u o B j ||| bitS u o (B + j) * 2 ^ j
theorem bitS_lt (u : ByteArray) (o i : Nat) : bitS u o i < 2 := Nat.mod_lt _ (by decide)
theorem numB_lt (u : ByteArray) (o B : Nat) : ∀ j, numB u o B j < 2 ^ j := by
  intro j
  induction j with
  | zero => show 0 < 2 ^ 0; decide
  | succ j ih =>
    rw [numB]
    have h2 := bitS_lt u o (B + j)
    have h3 : bitS u o (B + j) * 2 ^ j ≤ 1 * 2 ^ j := Nat.mul_le_mul_right _ (by omega)
    refine Nat.or_lt_two_pow ?_ ?_
    · rw [Nat.pow_succ]; omega
    · rw [Nat.pow_succ]; omega
theorem byN_ext (t : ByteArray) (p i : Nat) (hp : p ≤ t.size) : byN (t.extract p t.size) i = byN t (p + i) := by
  unfold byN
  by_cases h : i < (t.extract p t.size).size
  · have h2 : p + i < t.size := by simp only [ByteArray.size_extract] at h; omega
    rw [dif_pos h, dif_pos h2, ByteArray.getElem_extract]
  · have h2 : ¬ p + i < t.size := by simp only [ByteArray.size_extract] at h; omega
    rw [dif_neg h, dif_neg h2]
theorem bitS_ext (t : ByteArray) (p i : Nat) (hp : p ≤ t.size) : bitS (t.extract p t.size) 0 i = bitS t p i := by
  rw [bitS, bitS, byN_ext t p _ hp, Nat.zero_add]
theorem numB_ext (t : ByteArray) (p B : Nat) (hp : p ≤ t.size) : ∀ j, numB (t.extract p t.size) 0 B j = numB t p B j := by
  intro j
  induction j with
  | zero => rfl
  | succ j ih => rw [numB, numB, ih, bitS_ext t p _ hp]
def unpack (u : ByteArray) (o W m : Nat) : List Int := (List.range m).map fun k => ((numB u o (k * W) W : Nat) : Int)
theorem unpack_len (u : ByteArray) (o W m : Nat) : (unpack u o W m).length = m := by simp [unpack]
theorem unpack_succ (u : ByteArray) (o W m : Nat) : unpack u o W (m + 1) = unpack u o W m ++ [((numB u o (m * W) W : Nat) : Int)] := by
  simp [unpack, List.range_succ]
theorem unpack_ext (t : ByteArray) (p W m : Nat) (hp : p ≤ t.size) : unpack (t.extract p t.size) 0 W m = unpack t p W m := by
  unfold unpack; congr 1; funext k; rw [numB_ext t p _ hp]
theorem unpack_fit (u : ByteArray) (o W m : Nat) (hW : W ≤ 30) : ∀ x ∈ unpack u o W m, 0 ≤ x ∧ x ≤ 1000000000000 := by
  intro x hx
  simp only [unpack, List.mem_map] at hx
  obtain ⟨k, _, rfl⟩ := hx
  have h1 := numB_lt u o (k * W) W
  have h2 : 2 ^ W ≤ 2 ^ 30 := Nat.pow_le_pow_right (by decide) hW
  omega
/-- What PackGet answers. -/
def packGet (t : ByteArray) : List Int × Bool :=
  if (varGet t).2 = 0 ∨ 60 < (varGet t).1 then ([], false)
  else if (vgAt t (varGet t).2).2 = 0 ∨ 30 < (vgAt t (varGet t).2).1 ∨ t.size ≠ (varGet t).2 + (vgAt t (varGet t).2).2 + ((varGet t).1 * (vgAt t (varGet t).2).1 + 7) / 8 then ([], false)
  else if packPut (varGet t).1 (unpack t ((varGet t).2 + (vgAt t (varGet t).2).2) (vgAt t (varGet t).2).1 (varGet t).1) = t
    then (unpack t ((varGet t).2 + (vgAt t (varGet t).2).2) (vgAt t (varGet t).2).1 (varGet t).1, true) else ([], false)
theorem packGet_len (t : ByteArray) : (packGet t).1.length ≤ 60 := by
  unfold packGet
  split
  · simp
  · split
    · simp
    · split
      · rw [unpack_len]; omega
      · simp
theorem OwnInts.of_mapB {w : World} {B : Nat} {a : Option Addr} {cap : Nat} {ys : List Int} (h : w.ownsRow B 3 1 (.slice a ys.length cap) ys.length (ys.map (Value.int .i64))) (hf : ∀ x ∈ ys, 0 ≤ x ∧ x ≤ 1000000000000) : OwnInts w B a ys.length cap ys :=
  ⟨rfl, fitB hf, by rw [tab_ints] at h; exact h⟩
theorem orU {p c s j : Nat} (hp : p < 2 ^ j) (hc : c < 256) (hj : j < 30) : bits .or .i64 (p : Int) (wrap64 (wrap64 (bits .and .u8 ((c : Int) / 2 ^ s) 1) * 2 ^ j)) = ((p ||| c / 2 ^ s % 2 * 2 ^ j : Nat) : Int) := by
  have h1 : (c : Int) / 2 ^ s = ((c / 2 ^ s : Nat) : Int) := by rw [Int.natCast_ediv, Int.natCast_pow]; rfl
  have h2 : c / 2 ^ s ≤ c := Nat.div_le_self _ _
  have hu : 2 ^ j ≤ 536870912 := Nat.le_trans (Nat.pow_le_pow_right (by omega) (show j ≤ 29 by omega)) (by decide)
  have hv : c / 2 ^ s % 2 < 2 := Nat.mod_lt _ (by decide)
  have hm : c / 2 ^ s % 2 * 2 ^ j ≤ 1 * 536870912 := Nat.mul_le_mul (by omega) hu
  rw [h1, show (1 : Int) = ((1 : Nat) : Int) from rfl, u8_and_nat _ 1 (by omega) (by omega), Nat.and_one_is_mod, wrap64_nat (by omega)]
  have e2 : ((c / 2 ^ s % 2 : Nat) : Int) * 2 ^ j = ((c / 2 ^ s % 2 * 2 ^ j : Nat) : Int) := by rw [Int.natCast_mul, Int.natCast_pow]; rfl
  rw [e2, wrap64_nat (by omega), or64 _ _ (by omega) (by omega)]
theorem str_ne {a b : ByteArray} (h : a ≠ b) : (!(a.toList == b.toList)) = true := by
  simp only [Bool.not_eq_true', beq_eq_false_iff_ne, ne_eq, ByteArray.toList_eq]
  intro e
  exact h (ByteArray.ext (Array.ext' e))
theorem str_eq {a b : ByteArray} (h : a = b) : (!(a.toList == b.toList)) = false := by rw [h]; simp
theorem packGet_yes {t : ByteArray} {p W many : Nat} {ys : List Int} (GE : packGet t = if packPut many (unpack t p W many) = t then (unpack t p W many, true) else ([], false)) (hy : ys = unpack t p W many) (hq : packPut ys.length ys = t) : packGet t = (ys, true) := by
  have hl : ys.length = many := by rw [hy, unpack_len]
  rw [hl, hy] at hq
  rw [GE, if_pos hq, hy]
theorem packGet_no {t : ByteArray} {p W many : Nat} {ys : List Int} (GE : packGet t = if packPut many (unpack t p W many) = t then (unpack t p W many, true) else ([], false)) (hy : ys = unpack t p W many) (hq : ¬ packPut ys.length ys = t) : packGet t = ([], false) := by
  have hl : ys.length = many := by rw [hy, unpack_len]
  rw [hl, hy] at hq
  rw [GE, if_neg hq]
set_option maxRecDepth 20000 in
set_option maxHeartbeats 2000000 in
theorem sPackGet_any (t : ByteArray) (ht : t.size ≤ maxLen) (w : World) :
    Calls Try.prog 32 #[.string t] w fun e w' => ∃ a' c', e = .returned (.tuple #[.slice a' (packGet t).1.length c', .bool (packGet t).2]) ∧ OwnInts w' w.heap.size a' (packGet t).1.length c' (packGet t).1 ∧ Below w.heap.size w w' := by
  have HT := Lib.hid ht
  have HV := Lib.hid (varGet_le t)
  have HVN := Lib.hid (varGet_num t)
  unfold maxLen at ht
  obtain ⟨i0, hi, hz0, hz1, hz2⟩ := info_parts info_int
  obtain ⟨many, hmany⟩ : ∃ many, many = (varGet t).1 := ⟨_, rfl⟩
  obtain ⟨a0, ha0⟩ : ∃ a0, a0 = (varGet t).2 := ⟨_, rfl⟩
  obtain ⟨W, hW⟩ : ∃ W, W = (vgAt t a0).1 := ⟨_, rfl⟩
  obtain ⟨b0, hb0⟩ : ∃ b0, b0 = (vgAt t a0).2 := ⟨_, rfl⟩
  have ha1 : a0 ≤ t.size := by rw [ha0]; exact HV.out
  have hb1 : a0 + b0 ≤ t.size := by rw [hb0]; exact vgAt_le t a0 ha1
  have ha5 : a0 ≤ 5 := by rw [ha0]; exact vg_le5 t
  have hb5 : b0 ≤ 5 := by rw [hb0]; exact vg_le5 _
  have hm1 : many ≤ 999999999 := by rw [hmany]; exact HVN.out
  have hW1 : W ≤ 999999999 := by rw [hW]; exact varGet_num _
  have C := Lib.hid (fun w => by have := l3VarGet_any t HT.out w; rwa [← hmany, ← ha0] at this)
  have C2 := Lib.hid (fun w => by have := l3VarGet_any (t.extract a0 t.size) (ext_fit t a0 HT.out) w; rwa [show varGet (t.extract a0 t.size) = vgAt t a0 from rfl, ← hW, ← hb0] at this)
  have GE := Lib.hid (show packGet t = if a0 = 0 ∨ 60 < many then ([], false) else if b0 = 0 ∨ 30 < W ∨ t.size ≠ a0 + b0 + (many * W + 7) / 8 then ([], false) else if packPut many (unpack t (a0 + b0) W many) = t then (unpack t (a0 + b0) W many, true) else ([], false) by rw [packGet, ← hmany, ← ha0, ← hW, ← hb0])
  clear hmany ha0 hW hb0
  by_cases hz : a0 = 0 ∨ 60 < many
  · have R := Lib.hid (show packGet t = ([], false) by rw [GE.out, if_pos hz])
    rw [R.out]
    by_cases h0 : a0 = 0
    · have b1 : ((a0 : Int) == 0) = true := beq_t (by omega)
      clear h0 hz
      go_enter Try.func32, Try.ntmps32
      go_wp2_with fail
      refine (C.out _).mono ?_
      rintro e w' ⟨rfl, rfl⟩
      go_wp2_with fail
      go_ret2
      exact ⟨_, _, rfl, ownI_none _ _, Below.refl _ _⟩
    · have b1 : ((a0 : Int) == 0) = false := beq_f (by omega)
      have b2 : (60 : Int) < (many : Int) := by omega
      clear h0 hz
      go_enter Try.func32, Try.ntmps32
      go_wp2_with fail
      refine (C.out _).mono ?_
      rintro e w' ⟨rfl, rfl⟩
      go_wp2_with fail
      go_ret2
      exact ⟨_, _, rfl, ownI_none _ _, Below.refl _ _⟩
  have GE2 := Lib.hid (show packGet t = if b0 = 0 ∨ 30 < W ∨ t.size ≠ a0 + b0 + (many * W + 7) / 8 then ([], false) else if packPut many (unpack t (a0 + b0) W many) = t then (unpack t (a0 + b0) W many, true) else ([], false) by rw [GE.out, if_neg hz])
  clear GE
  have b1 : ((a0 : Int) == 0) = false := beq_f (by omega)
  have b2 : (many : Int) ≤ 60 := by omega
  have h60 : many ≤ 60 := by omega
  clear hz
  by_cases hz : b0 = 0 ∨ 30 < W ∨ t.size ≠ a0 + b0 + (many * W + 7) / 8
  · have R := Lib.hid (show packGet t = ([], false) by rw [GE2.out, if_pos hz])
    rw [R.out]
    by_cases h0 : b0 = 0
    · have b3 : ((b0 : Int) == 0) = true := beq_t (by omega)
      clear h0 hz
      go_enter Try.func32, Try.ntmps32
      go_wp2_with fail
      refine (C.out _).mono ?_
      rintro e w' ⟨rfl, rfl⟩
      go_wp2_with fail
      refine (C2.out _).mono ?_
      rintro e w' ⟨rfl, rfl⟩
      go_wp2_with fail
      go_ret2
      exact ⟨_, _, rfl, ownI_none _ _, Below.refl _ _⟩
    have b3 : ((b0 : Int) == 0) = false := beq_f (by omega)
    by_cases h3 : 30 < W
    · have b4 : (30 : Int) < (W : Int) := by omega
      clear h0 hz
      go_enter Try.func32, Try.ntmps32
      go_wp2_with fail
      refine (C.out _).mono ?_
      rintro e w' ⟨rfl, rfl⟩
      go_wp2_with fail
      refine (C2.out _).mono ?_
      rintro e w' ⟨rfl, rfl⟩
      go_wp2_with fail
      go_ret2
      exact ⟨_, _, rfl, ownI_none _ _, Below.refl _ _⟩
    · have b4 : (W : Int) ≤ 30 := by omega
      have hmul2 : many * W ≤ 60 * 30 := Nat.mul_le_mul h60 (by omega)
      have hwn : (many : Int) * (W : Int) = ((many * W : Nat) : Int) := by rw [Int.natCast_mul]
      have p0 : (0 : Int) ≤ (many : Int) * (W : Int) := by rw [hwn]; omega
      have p1 : (many : Int) * (W : Int) ≤ 1800 := by rw [hwn]; omega
      have b5 : ((t.size : Int) != (a0 : Int) + (b0 : Int) + ((many : Int) * (W : Int) + 7) / 8) = true := bne_t (by rw [hwn]; omega)
      clear h0 hz hwn h3
      go_enter Try.func32, Try.ntmps32
      go_wp2_with fail
      refine (C.out _).mono ?_
      rintro e w' ⟨rfl, rfl⟩
      go_wp2_with fail
      refine (C2.out _).mono ?_
      rintro e w' ⟨rfl, rfl⟩
      go_wp2_with fail
      go_ret2
      exact ⟨_, _, rfl, ownI_none _ _, Below.refl _ _⟩
  have GE3 := Lib.hid (show packGet t = if packPut many (unpack t (a0 + b0) W many) = t then (unpack t (a0 + b0) W many, true) else ([], false) by rw [GE2.out, if_neg hz])
  clear GE2
  have b3 : ((b0 : Int) == 0) = false := beq_f (by omega)
  have b4 : (W : Int) ≤ 30 := by omega
  have h30 : W ≤ 30 := by omega
  have hmul2 : many * W ≤ 60 * 30 := Nat.mul_le_mul h60 h30
  have hwn : (many : Int) * (W : Int) = ((many * W : Nat) : Int) := by rw [Int.natCast_mul]
  have p0 : (0 : Int) ≤ (many : Int) * (W : Int) := by rw [hwn]; omega
  have p1 : (many : Int) * (W : Int) ≤ 1800 := by rw [hwn]; omega
  have hsz : t.size = a0 + b0 + (many * W + 7) / 8 := by omega
  have b5 : ((t.size : Int) != (a0 : Int) + (b0 : Int) + ((many : Int) * (W : Int) + 7) / 8) = false := bne_f (by rw [hwn]; omega)
  obtain ⟨u, hu⟩ : ∃ u, u = t.extract (a0 + b0) t.size := ⟨_, rfl⟩
  have hus : (many * W + 7) / 8 ≤ u.size := by rw [hu]; simp only [ByteArray.size_extract]; omega
  have HU := Lib.hid hu
  have UN := Lib.hid (fun k => show unpack u 0 W k = unpack t (a0 + b0) W k by rw [HU.out]; exact unpack_ext t _ W k hb1)
  have HA := Lib.hid ((Below.refl w.heap.size w).alloc (Nat.le_refl _) (.cells #[] 3))
  have ON := Lib.hid (ints_nil_made w)
  clear hz hwn hsz
  go_enter Try.func32, Try.ntmps32
  go_wp2_with fail
  refine (C.out _).mono ?_
  rintro e w' ⟨rfl, rfl⟩
  go_wp2_with fail
  refine (C2.out _).mono ?_
  rintro e w' ⟨rfl, rfl⟩
  go_wp2_with fail
  rw [← hu]
  clear hu b1 b3 b5
  go_loopw [9, 10] (fun o i wr => ∃ (k : Nat) (a' : Option Addr) (c' : Nat) (ys : List Int), k ≤ many ∧ i = .int .i64 k ∧ o = .slice a' ys.length c' ∧ ys = unpack u 0 W k ∧ wr.ownsRow w.heap.size 3 1 (.slice a' ys.length c') ys.length (ys.map (Value.int .i64)) ∧ Below w.heap.size w wr) (fun _ i _ => many - (intOf i).toNat)
  case atStart => exact ⟨0, _, _, [], Nat.zero_le _, rfl, rfl, rfl, ON.out, HA.out⟩
  case round =>
    obtain ⟨k, a', c', ys, hk, rfl, rfl, hys, hown, hb⟩ := hrel
    have hyl : ys.length ≤ k := by rw [hys, unpack_len]; exact Nat.le_refl _
    have HY := Lib.hid hys; clear hys
    have HO := Lib.hid hown; clear hown
    have HB := Lib.hid hb; clear hb
    by_cases hlt : k < many
    · have hmul : k * W + W ≤ many * W := by rw [← Nat.succ_mul]; exact Nat.mul_le_mul_right _ hlt
      obtain ⟨T, hT⟩ : ∃ T, T = k * W := ⟨_, rfl⟩
      have hT' : (k : Int) * (W : Int) = (T : Int) := by rw [hT, Int.natCast_mul]
      rw [← hT] at hmul
      have HT := Lib.hid hT; clear hT
      have hT0 : (0 : Int) ≤ (k : Int) * (W : Int) := by rw [hT']; omega
      have hT1 : (k : Int) * (W : Int) ≤ 1800 := by rw [hT']; omega
      have HT' := Lib.hid hT'; clear hT'
      go_wp2_with fail
      obtain ⟨wo, hwo⟩ : ∃ wo : World, wo = wr := ⟨_, rfl⟩
      go_loop [11, 12] (fun v i => ∃ j : Nat, j ≤ W ∧ i = .int .i64 j ∧ v = .int .i64 (numB u 0 T j : Int)) (fun _ i => W - (intOf i).toNat)
      case atStart => exact ⟨0, Nat.zero_le _, rfl, rfl⟩
      case round =>
        obtain ⟨j, hj, rfl, rfl⟩ := hrel
        obtain ⟨p, hp⟩ : ∃ p, p = numB u 0 T j := ⟨_, rfl⟩
        have hpl : p < 2 ^ j := by rw [hp]; exact numB_lt u 0 T j
        have hpb : p ≤ 1073741824 := by
          have h2 : 2 ^ j ≤ 2 ^ 30 := Nat.pow_le_pow_right (by decide) (by omega)
          omega
        rw [← hp]
        by_cases hjW : j < W
        · obtain ⟨B, hB⟩ : ∃ B, B = T + j := ⟨_, rfl⟩
          have hB1 : (k : Int) * (W : Int) + (j : Int) = (B : Int) := by rw [HT'.out]; omega
          have hB2 : B ≤ 1800 := by omega
          have hB3 : B < many * W := by omega
          obtain ⟨j8, hj8⟩ : ∃ j8, j8 = B / 8 := ⟨_, rfl⟩
          have hj' : (B : Int) / 8 = (j8 : Int) := by omega
          have hlt8 : j8 < u.size := by omega
          obtain ⟨c, hc⟩ : ∃ c, c = byN u j8 := ⟨_, rfl⟩
          obtain ⟨q, hq⟩ : ∃ q, q = numB u 0 T (j + 1) := ⟨_, rfl⟩
          have hcb : c < 256 := by rw [hc]; exact byN_lt u j8
          have hg : ((u[j8]'hlt8).toNat : Int) = (c : Int) := by rw [byN_get hlt8, hc]
          have hob : bits .or .i64 (p : Int) (wrap64 (wrap64 (bits .and .u8 ((c : Int) / 2 ^ (B % 8)) 1) * 2 ^ j)) = (q : Int) := by
            rw [orU hpl hcb (by omega), hq, numB, bitS, Nat.zero_add, ← hB, ← hj8, ← hc, ← hp]
          have hqb : q ≤ 1073741824 := by
            have h1 : q < 2 ^ (j + 1) := by rw [hq]; exact numB_lt u 0 T _
            have h2 : 2 ^ (j + 1) ≤ 2 ^ 30 := Nat.pow_le_pow_right (by decide) (by omega)
            omega
          have HB1 := Lib.hid hB; clear hB
          have HJ8 := Lib.hid hj8; clear hj8
          have HC := Lib.hid hc; clear hc
          have HQ := Lib.hid hq; clear hq
          have HP := Lib.hid hp; clear hp
          have HPL := Lib.hid hpl; clear hpl
          go_wp2_with fail
          go_round
          case rel => exact ⟨j + 1, by omega, by go_num, vint (by rw [HQ.out])⟩
          case measure => simp [intOf]; omega
        · obtain rfl : j = W := by omega
          have HPL := Lib.hid hpl; clear hpl
          have HP := Lib.hid hp; clear hp
          have US := Lib.hid (unpack_succ u 0 j k)
          go_wp2_with (at_builtin; refine wpList_append_own _ rfl _ _ 30 rfl w.heap.size 3 i0 (.int .i64 0) 1 8 Try.underlying30 hi hz0 hz1 hz2 rfl (by decide) _ _ _ rfl (HO.out.alloc _) ⟨wr.heap.size, 0, none⟩ 1 1 [.int .i64 (p : Int)] rfl rfl ?c1 ?c2 ?c3 ?c4 ?c5 ?_)
          try (case c1 => exact cells_new1 wr _ _)
          case c2 => first | (intro u hu; simp at hu; subst hu; rfl) | rfl
          case c3 => unfold maxLen; omega
          case c4 => omega
          case c5 => have := HB.out.size; simp; omega
          · intro v' w1 hown' hgrow _
            obtain ⟨a2, c2, hv⟩ := own_form hown'
            rw [hv] at hown'
            have HO2 := Lib.hid hown'
            have HC := Lib.hid (((HB.out.alloc HB.out.size _).grown hgrow (by have := HB.out.size; simp; omega) (fun k hk => (own_block HO.out k hk).1)))
            clear hgrow hown'
            rw [hv]
            clear hv
            go_wp2_with fail
            go_roundw
            case rel => exact ⟨k + 1, a2, c2, ys ++ [(p : Int)], by omega, by go_num, by simp, by rw [US.out, HY.out, HP.out, HT.out], by have := HO2.out; simpa using this, HC.out⟩
            case measure => simp [intOf]; omega
    · obtain rfl : k = many := by omega
      have hy2 : ys = unpack t (a0 + b0) W k := by rw [HY.out, UN.out]
      have HY2 := Lib.hid hy2
      have OI := Lib.hid (OwnInts.of_mapB HO.out (by rw [hy2]; exact unpack_fit t _ W k h30))
      have hyn : ys.length ≤ maxLen := by unfold maxLen; omega
      clear hy2
      by_cases hq : packPut ys.length ys = t
      · have E := Lib.hid (packGet_yes GE3.out HY2.out hq)
        have bq := str_eq hq
        clear hq
        go_wp2_with fail
        refine (sPackPut_any _ _ _ _ _ OI.out.ints hyn).mono ?_
        rintro e w1 ⟨rfl, hb1⟩
        have O1 := Lib.hid (OI.out.below hb1)
        have HB1 := Lib.hid (HB.out.trans (hb1.mono HB.out.size)); clear hb1
        go_wp2_with fail
        go_ret2
        rw [E.out]
        exact ⟨_, _, rfl, O1.out, HB1.out⟩
      · have E := Lib.hid (packGet_no GE3.out HY2.out hq)
        have bq := str_ne hq
        clear hq
        go_wp2_with fail
        refine (sPackPut_any _ _ _ _ _ OI.out.ints hyn).mono ?_
        rintro e w1 ⟨rfl, hb1⟩
        have HB1 := Lib.hid (HB.out.trans (hb1.mono HB.out.size)); clear hb1
        go_wp2_with fail
        go_ret2
        rw [E.out]
        exact ⟨_, _, rfl, ownI_none _ _, HB1.out⟩
set_option maxRecDepth 20000 in
set_option maxHeartbeats 2000000 in
theorem PackGet_any (t : ByteArray) (ht : t.size ≤ maxLen) (w : World) :
    Calls Try.prog 28 #[.string t] w fun e w' => ∃ a' c', e = .returned (.tuple #[.slice a' (packGet t).1.length c', .bool (packGet t).2]) ∧ OwnInts w' w.heap.size a' (packGet t).1.length c' (packGet t).1 ∧ Below w.heap.size w w' := by
  have HT := Lib.hid ht
  have HV := Lib.hid (varGet_le t)
  have HVN := Lib.hid (varGet_num t)
  unfold maxLen at ht
  obtain ⟨i0, hi, hz0, hz1, hz2⟩ := info_parts info_int
  obtain ⟨many, hmany⟩ : ∃ many, many = (varGet t).1 := ⟨_, rfl⟩
  obtain ⟨a0, ha0⟩ : ∃ a0, a0 = (varGet t).2 := ⟨_, rfl⟩
  obtain ⟨W, hW⟩ : ∃ W, W = (vgAt t a0).1 := ⟨_, rfl⟩
  obtain ⟨b0, hb0⟩ : ∃ b0, b0 = (vgAt t a0).2 := ⟨_, rfl⟩
  have ha1 : a0 ≤ t.size := by rw [ha0]; exact HV.out
  have hb1 : a0 + b0 ≤ t.size := by rw [hb0]; exact vgAt_le t a0 ha1
  have ha5 : a0 ≤ 5 := by rw [ha0]; exact vg_le5 t
  have hb5 : b0 ≤ 5 := by rw [hb0]; exact vg_le5 _
  have hm1 : many ≤ 999999999 := by rw [hmany]; exact HVN.out
  have hW1 : W ≤ 999999999 := by rw [hW]; exact varGet_num _
  have C := Lib.hid (fun w => by have := VarGet_any t HT.out w; rwa [← hmany, ← ha0] at this)
  have C2 := Lib.hid (fun w => by have := VarGet_any (t.extract a0 t.size) (ext_fit t a0 HT.out) w; rwa [show varGet (t.extract a0 t.size) = vgAt t a0 from rfl, ← hW, ← hb0] at this)
  have GE := Lib.hid (show packGet t = if a0 = 0 ∨ 60 < many then ([], false) else if b0 = 0 ∨ 30 < W ∨ t.size ≠ a0 + b0 + (many * W + 7) / 8 then ([], false) else if packPut many (unpack t (a0 + b0) W many) = t then (unpack t (a0 + b0) W many, true) else ([], false) by rw [packGet, ← hmany, ← ha0, ← hW, ← hb0])
  clear hmany ha0 hW hb0
  by_cases hz : a0 = 0 ∨ 60 < many
  · have R := Lib.hid (show packGet t = ([], false) by rw [GE.out, if_pos hz])
    rw [R.out]
    by_cases h0 : a0 = 0
    · have b1 : ((a0 : Int) == 0) = true := beq_t (by omega)
      clear h0 hz
      go_enter Try.func28, Try.ntmps28
      go_wp2_with fail
      refine (C.out _).mono ?_
      rintro e w1 ⟨rfl, hb⟩
      have HB1 := Lib.hid hb; clear hb
      go_wp2_with fail
      go_ret2
      exact ⟨_, _, rfl, ownI_new _ _ HB1.out.size, HB1.out.alloc HB1.out.size _⟩
    · have b1 : ((a0 : Int) == 0) = false := beq_f (by omega)
      have b2 : (60 : Int) < (many : Int) := by omega
      clear h0 hz
      go_enter Try.func28, Try.ntmps28
      go_wp2_with fail
      refine (C.out _).mono ?_
      rintro e w1 ⟨rfl, hb⟩
      have HB1 := Lib.hid hb; clear hb
      go_wp2_with fail
      go_ret2
      exact ⟨_, _, rfl, ownI_new _ _ HB1.out.size, HB1.out.alloc HB1.out.size _⟩
  have GE2 := Lib.hid (show packGet t = if b0 = 0 ∨ 30 < W ∨ t.size ≠ a0 + b0 + (many * W + 7) / 8 then ([], false) else if packPut many (unpack t (a0 + b0) W many) = t then (unpack t (a0 + b0) W many, true) else ([], false) by rw [GE.out, if_neg hz])
  clear GE
  have b1 : ((a0 : Int) == 0) = false := beq_f (by omega)
  have b2 : (many : Int) ≤ 60 := by omega
  have h60 : many ≤ 60 := by omega
  clear hz
  by_cases hz : b0 = 0 ∨ 30 < W ∨ t.size ≠ a0 + b0 + (many * W + 7) / 8
  · have R := Lib.hid (show packGet t = ([], false) by rw [GE2.out, if_pos hz])
    rw [R.out]
    by_cases h0 : b0 = 0
    · have b3 : ((b0 : Int) == 0) = true := beq_t (by omega)
      clear h0 hz
      go_enter Try.func28, Try.ntmps28
      go_wp2_with fail
      refine (C.out _).mono ?_
      rintro e w1 ⟨rfl, hb⟩
      have HB1 := Lib.hid hb; clear hb
      go_wp2_with fail
      refine (C2.out _).mono ?_
      rintro e w2 ⟨rfl, hb⟩
      have HB2 := Lib.hid (HB1.out.trans (hb.mono HB1.out.size)); clear hb
      go_wp2_with fail
      go_ret2
      exact ⟨_, _, rfl, ownI_new _ _ HB2.out.size, HB2.out.alloc HB2.out.size _⟩
    have b3 : ((b0 : Int) == 0) = false := beq_f (by omega)
    by_cases h3 : 30 < W
    · have b4 : (30 : Int) < (W : Int) := by omega
      clear h0 hz
      go_enter Try.func28, Try.ntmps28
      go_wp2_with fail
      refine (C.out _).mono ?_
      rintro e w1 ⟨rfl, hb⟩
      have HB1 := Lib.hid hb; clear hb
      go_wp2_with fail
      refine (C2.out _).mono ?_
      rintro e w2 ⟨rfl, hb⟩
      have HB2 := Lib.hid (HB1.out.trans (hb.mono HB1.out.size)); clear hb
      go_wp2_with fail
      go_ret2
      exact ⟨_, _, rfl, ownI_new _ _ HB2.out.size, HB2.out.alloc HB2.out.size _⟩
    · have b4 : (W : Int) ≤ 30 := by omega
      have hmul2 : many * W ≤ 60 * 30 := Nat.mul_le_mul h60 (by omega)
      have hwn : (W : Int) * (many : Int) = ((many * W : Nat) : Int) := by rw [Int.natCast_mul, Int.mul_comm]
      have p0 : (0 : Int) ≤ (W : Int) * (many : Int) := by rw [hwn]; omega
      have p1 : (W : Int) * (many : Int) ≤ 1800 := by rw [hwn]; omega
      have b5 : ((t.size : Int) != (a0 : Int) + (b0 : Int) + ((W : Int) * (many : Int) + 7) / 8) = true := bne_t (by rw [hwn]; omega)
      clear h0 hz hwn h3
      go_enter Try.func28, Try.ntmps28
      go_wp2_with fail
      refine (C.out _).mono ?_
      rintro e w1 ⟨rfl, hb⟩
      have HB1 := Lib.hid hb; clear hb
      go_wp2_with fail
      refine (C2.out _).mono ?_
      rintro e w2 ⟨rfl, hb⟩
      have HB2 := Lib.hid (HB1.out.trans (hb.mono HB1.out.size)); clear hb
      go_wp2_with fail
      go_ret2
      exact ⟨_, _, rfl, ownI_new _ _ HB2.out.size, HB2.out.alloc HB2.out.size _⟩
  have GE3 := Lib.hid (show packGet t = if packPut many (unpack t (a0 + b0) W many) = t then (unpack t (a0 + b0) W many, true) else ([], false) by rw [GE2.out, if_neg hz])
  clear GE2
  have b3 : ((b0 : Int) == 0) = false := beq_f (by omega)
  have b4 : (W : Int) ≤ 30 := by omega
  have h30 : W ≤ 30 := by omega
  have hmul2 : many * W ≤ 60 * 30 := Nat.mul_le_mul h60 h30
  have hwn : (W : Int) * (many : Int) = ((many * W : Nat) : Int) := by rw [Int.natCast_mul, Int.mul_comm]
  have p0 : (0 : Int) ≤ (W : Int) * (many : Int) := by rw [hwn]; omega
  have p1 : (W : Int) * (many : Int) ≤ 1800 := by rw [hwn]; omega
  have hsz : a0 + b0 + (many * W + 7) / 8 ≤ t.size := by omega
  have b5 : ((t.size : Int) != (a0 : Int) + (b0 : Int) + ((W : Int) * (many : Int) + 7) / 8) = false := bne_f (by rw [hwn]; omega)
  clear hz hwn
  go_enter Try.func28, Try.ntmps28
  go_wp2_with fail
  refine (C.out _).mono ?_
  rintro e w1 ⟨rfl, hb⟩
  have HB1 := Lib.hid hb; clear hb
  go_wp2_with fail
  refine (C2.out _).mono ?_
  rintro e w2 ⟨rfl, hb⟩
  have HB2 := Lib.hid (HB1.out.trans (hb.mono HB1.out.size)); clear hb
  have HA := Lib.hid (HB2.out.alloc HB2.out.size (.cells #[] 3))
  have ON := Lib.hid (own_base (ints_nil_made w2) HB2.out.size)
  go_wp2_with fail
  clear b1 b3 b5
  go_loopw [8, 55] (fun o i wr => ∃ (k : Nat) (a' : Option Addr) (c' : Nat) (ys : List Int), k ≤ many ∧ i = .int .i64 k ∧ o = .slice a' ys.length c' ∧ ys = unpack t (a0 + b0) W k ∧ wr.ownsRow w.heap.size 3 1 (.slice a' ys.length c') ys.length (ys.map (Value.int .i64)) ∧ Below w.heap.size w wr) (fun _ i _ => many - (intOf i).toNat)
  case atStart => exact ⟨0, _, _, [], Nat.zero_le _, rfl, rfl, rfl, ON.out, HA.out⟩
  case round =>
    obtain ⟨k, a', c', ys, hk, rfl, rfl, hys, hown, hb⟩ := hrel
    have hyl : ys.length ≤ k := by rw [hys, unpack_len]; exact Nat.le_refl _
    have HY := Lib.hid hys; clear hys
    have HO := Lib.hid hown; clear hown
    have HB := Lib.hid hb; clear hb
    by_cases hlt : k < many
    · have hmul : k * W + W ≤ many * W := by rw [← Nat.succ_mul]; exact Nat.mul_le_mul_right _ hlt
      obtain ⟨T, hT⟩ : ∃ T, T = k * W := ⟨_, rfl⟩
      have hT' : (k : Int) * (W : Int) = (T : Int) := by rw [hT, Int.natCast_mul]
      rw [← hT] at hmul
      have HT := Lib.hid hT; clear hT
      have hT0 : (0 : Int) ≤ (k : Int) * (W : Int) := by rw [hT']; omega
      have hT1 : (k : Int) * (W : Int) ≤ 1800 := by rw [hT']; omega
      have HT' := Lib.hid hT'; clear hT'
      go_wp2_with fail
      obtain ⟨wo, hwo⟩ : ∃ wo : World, wo = wr := ⟨_, rfl⟩
      go_loop [10, 59] (fun v i => ∃ j : Nat, j ≤ W ∧ i = .int .i64 j ∧ v = .int .i64 (numB t (a0 + b0) T j : Int)) (fun _ i => W - (intOf i).toNat)
      case atStart => exact ⟨0, Nat.zero_le _, rfl, rfl⟩
      case round =>
        obtain ⟨j, hj, rfl, rfl⟩ := hrel
        obtain ⟨p, hp⟩ : ∃ p, p = numB t (a0 + b0) T j := ⟨_, rfl⟩
        have hpl : p < 2 ^ j := by rw [hp]; exact numB_lt t (a0 + b0) T j
        have hpb : p ≤ 1073741824 := by
          have h2 : 2 ^ j ≤ 2 ^ 30 := Nat.pow_le_pow_right (by decide) (by omega)
          omega
        rw [← hp]
        by_cases hjW : j < W
        · obtain ⟨B, hB⟩ : ∃ B, B = T + j := ⟨_, rfl⟩
          have hB1 : (k : Int) * (W : Int) + (j : Int) = (B : Int) := by rw [HT'.out]; omega
          have hB2 : B ≤ 1800 := by omega
          have hB3 : B < many * W := by omega
          obtain ⟨j8, hj8⟩ : ∃ j8, j8 = B / 8 := ⟨_, rfl⟩
          have hj' : (B : Int) / 8 = (j8 : Int) := by omega
          have hlt8 : a0 + b0 + j8 < t.size := by omega
          obtain ⟨c, hc⟩ : ∃ c, c = byN t (a0 + b0 + j8) := ⟨_, rfl⟩
          obtain ⟨q, hq⟩ : ∃ q, q = numB t (a0 + b0) T (j + 1) := ⟨_, rfl⟩
          have hcb : c < 256 := by rw [hc]; exact byN_lt t (a0 + b0 + j8)
          have hg : ((t[a0 + b0 + j8]'hlt8).toNat : Int) = (c : Int) := by rw [byN_get hlt8, hc]
          have hob : bits .or .i64 (p : Int) (wrap64 (wrap64 (bits .and .u8 ((c : Int) / 2 ^ (B % 8)) 1) * 2 ^ j)) = (q : Int) := by
            rw [orU hpl hcb (by omega), hq, numB, bitS, ← hB, ← hj8, ← hc, ← hp]
          have hqb : q ≤ 1073741824 := by
            have h1 : q < 2 ^ (j + 1) := by rw [hq]; exact numB_lt t (a0 + b0) T _
            have h2 : 2 ^ (j + 1) ≤ 2 ^ 30 := Nat.pow_le_pow_right (by decide) (by omega)
            omega
          have HB1 := Lib.hid hB; clear hB
          have HJ8 := Lib.hid hj8; clear hj8
          have HC := Lib.hid hc; clear hc
          have HQ := Lib.hid hq; clear hq
          have HP := Lib.hid hp; clear hp
          have HPL := Lib.hid hpl; clear hpl
          go_wp2_with fail
          go_round
          case rel => exact ⟨j + 1, by omega, by go_num, vint (by rw [HQ.out])⟩
          case measure => simp [intOf]; omega
        · obtain rfl : j = W := by omega
          have HPL := Lib.hid hpl; clear hpl
          have HP := Lib.hid hp; clear hp
          have US := Lib.hid (unpack_succ t (a0 + b0) j k)
          go_wp2_with (at_builtin; refine wpList_append_own _ rfl _ _ 30 rfl w.heap.size 3 i0 (.int .i64 0) 1 8 Try.underlying30 hi hz0 hz1 hz2 rfl (by decide) _ _ _ rfl (HO.out.alloc _) ⟨wr.heap.size, 0, none⟩ 1 1 [.int .i64 (p : Int)] rfl rfl ?c1 ?c2 ?c3 ?c4 ?c5 ?_)
          try (case c1 => exact cells_new1 wr _ _)
          case c2 => first | (intro u hu; simp at hu; subst hu; rfl) | rfl
          case c3 => unfold maxLen; omega
          case c4 => omega
          case c5 => have := HB.out.size; simp; omega
          · intro v' w1 hown' hgrow _
            obtain ⟨a2, c2, hv⟩ := own_form hown'
            rw [hv] at hown'
            have HO2 := Lib.hid hown'
            have HC := Lib.hid (((HB.out.alloc HB.out.size _).grown hgrow (by have := HB.out.size; simp; omega) (fun k hk => (own_block HO.out k hk).1)))
            clear hgrow hown'
            rw [hv]
            clear hv
            go_wp2_with fail
            go_roundw
            case rel => exact ⟨k + 1, a2, c2, ys ++ [(p : Int)], by omega, by go_num, by simp, by rw [US.out, HY.out, HP.out, HT.out], by have := HO2.out; simpa using this, HC.out⟩
            case measure => simp [intOf]; omega
    · obtain rfl : k = many := by omega
      have hy2 : ys = unpack t (a0 + b0) W k := HY.out
      have HY2 := Lib.hid hy2
      have OI := Lib.hid (OwnInts.of_mapB HO.out (by rw [hy2]; exact unpack_fit t _ W k h30))
      have hyn : ys.length ≤ maxLen := by unfold maxLen; omega
      clear hy2
      by_cases hq : packPut ys.length ys = t
      · have E := Lib.hid (packGet_yes GE3.out HY2.out hq)
        have bq := str_eq hq
        clear hq
        go_wp2_with fail
        refine (PackPut_any _ _ _ _ _ OI.out.ints hyn).mono ?_
        rintro e w3 ⟨rfl, hb1⟩
        have O1 := Lib.hid (OI.out.below hb1)
        have HB1 := Lib.hid (HB.out.trans (hb1.mono HB.out.size)); clear hb1
        go_wp2_with fail
        go_ret2
        rw [E.out]
        exact ⟨_, _, rfl, O1.out, HB1.out⟩
      · have E := Lib.hid (packGet_no GE3.out HY2.out hq)
        have bq := str_ne hq
        clear hq
        go_wp2_with fail
        refine (PackPut_any _ _ _ _ _ OI.out.ints hyn).mono ?_
        rintro e w3 ⟨rfl, hb1⟩
        have HB1 := Lib.hid (HB.out.trans (hb1.mono HB.out.size)); clear hb1
        go_wp2_with fail
        go_ret2
        rw [E.out]
        exact ⟨_, _, rfl, ownI_new _ _ HB1.out.size, HB1.out.alloc HB1.out.size _⟩
theorem and_bne {a b : Bool} (h : a = b) : (a != b) = false := by rw [h]; simp
end Go.Proofs.Ytcniiinapnkbfaa
