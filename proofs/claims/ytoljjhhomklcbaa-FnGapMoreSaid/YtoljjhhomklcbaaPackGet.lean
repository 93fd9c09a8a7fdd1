/- The walks of what PackGet reads. Conditions: the strings fit the model's sizes. -/
import Derived.Test.YtoljjhhomklcbaaPackPut
import Derived.Test.YtoljjhhomklcbaaVarLaw
namespace Go.Proofs.Ytoljjhhomklcbaa
open Go.RowKit

/-- The i-th bit of the bytes of u from o on. -/
def bitS (u : ByteArray) (o i : Nat) : Nat := byN u (o + i / 8) / 2 ^ (i % 8) % 2
/-- The number that j bits from bit B on are. -/
def numB (u : ByteArray) (o B : Nat) : Nat → Nat
  | 0 => 0
  | j + 1 => numB u o B j ||| bitS u o (B + j) * 2 ^ j
theorem bitS_lt (u : ByteArray) (o i : Nat) : bitS u o i < 2 := Nat.mod_lt _ (by decide)
theorem numB_lt (u : ByteArray) (o B : Nat) : ∀ j, numB u o B j < 2 ^ j := by
  intro j
  induction j with
  | zero => show 0 < 2 ^ 0; decide
  | succ j ih =>
    rw [numB]
    have h2 := bitS_lt u o (B + j)
    have h3 : bitS u o (B + j) * 2 ^ j ≤ 1 * 2 ^ j := Nat.mul_le_mul_right _ (by omega)
    refine Nat.or_lt_two_pow ?_ ?_
    · rw [Nat.pow_succ]; omega
    · rw [Nat.pow_succ]; omega
theorem byN_ext (t : ByteArray) (p i : Nat) (hp : p ≤ t.size) : byN (t.extract p t.size) i = byN t (p + i) := by
  unfold byN
  by_cases h : i < (t.extract p t.size).size
  · have h2 : p + i < t.size := by simp only [ByteArray.size_extract] at h; omega
    rw [dif_pos h, dif_pos h2, ByteArray.getElem_extract]
  · have h2 : ¬ p + i < t.size := by simp only [ByteArray.size_extract] at h; omega
    rw [dif_neg h, dif_neg h2]
theorem bitS_ext (t : ByteArray) (p i : Nat) (hp : p ≤ t.size) : bitS (t.extract p t.size) 0 i = bitS t p i := by
  rw [bitS, bitS, byN_ext t p _ hp, Nat.zero_add]
theorem numB_ext (t : ByteArray) (p B : Nat) (hp : p ≤ t.size) : ∀ j, numB (t.extract p t.size) 0 B j = numB t p B j := by
  intro j
  induction j with
  | zero => rfl
  | succ j ih => rw [numB, numB, ih, bitS_ext t p _ hp]
def unpack (u : ByteArray) (o W m : Nat) : List Int := (List.range m).map fun k => ((numB u o (k * W) W : Nat) : Int)
theorem unpack_len (u : ByteArray) (o W m : Nat) : (unpack u o W m).length = m := by simp [unpack]
theorem unpack_succ (u : ByteArray) (o W m : Nat) : unpack u o W (m + 1) = unpack u o W m ++ [((numB u o (m * W) W : Nat) : Int)] := by
  simp [unpack, List.range_succ]
theorem unpack_ext (t : ByteArray) (p W m : Nat) (hp : p ≤ t.size) : unpack (t.extract p t.size) 0 W m = unpack t p W m := by
  unfold unpack; congr 1; funext k; rw [numB_ext t p _ hp]
theorem unpack_fit (u : ByteArray) (o W m : Nat) (hW : W ≤ 30) : ∀ x ∈ unpack u o W m, 0 ≤ x ∧ x ≤ 1000000000000 := by
  intro x hx
  simp only [unpack, List.mem_map] at hx
  obtain ⟨k, _, rfl⟩ := hx
  have h1 := numB_lt u o (k * W) W
  have h2 : 2 ^ W ≤ 2 ^ 30 := Nat.pow_le_pow_right (by decide) hW
  omega
/-- What PackGet answers. -/
def packGet (t : ByteArray) : List Int × Bool :=
  if (varGet t).2 = 0 ∨ 60 < (varGet t).1 then ([], false)
  else if (vgAt t (varGet t).2).2 = 0 ∨ 30 < (vgAt t (varGet t).2).1 ∨ t.size ≠ (varGet t).2 + (vgAt t (varGet t).2).2 + ((varGet t).1 * (vgAt t (varGet t).2).1 + 7) / 8 then ([], false)
  else if packPut (varGet t).1 (unpack t ((varGet t).2 + (vgAt t (varGet t).2).2) (vgAt t (varGet t).2).1 (varGet t).1) = t
    then (unpack t ((varGet t).2 + (vgAt t (varGet t).2).2) (vgAt t (varGet t).2).1 (varGet t).1, true) else ([], false)
theorem packGet_len (t : ByteArray) : (packGet t).1.length ≤ 60 := by
  unfold packGet
  split
  · simp
  · split
    · simp
    · split
      · rw [unpack_len]; omega
      · simp
theorem OwnInts.of_mapB {w : World} {B : Nat} {a : Option Addr} {cap : Nat} {ys : List Int} (h : w.ownsRow B 3 1 (.slice a ys.length cap) ys.length (ys.map (Value.int .i64))) (hf : ∀ x ∈ ys, 0 ≤ x ∧ x ≤ 1000000000000) : OwnInts w B a ys.length cap ys :=
  ⟨rfl, fitB hf, by rw [tab_ints] at h; exact h⟩
theorem orU {p c s j : Nat} (hp : p < 2 ^ j) (hc : c < 256) (hj : j < 30) : bits .or .i64 (p : Int) (wrap64 (wrap64 (bits .and .u8 ((c : Int) / 2 ^ s) 1) * 2 ^ j)) = ((p ||| c / 2 ^ s % 2 * 2 ^ j : Nat) : Int) := by
  have h1 : (c : Int) / 2 ^ s = ((c / 2 ^ s : Nat) : Int) := by rw [Int.natCast_ediv, Int.natCast_pow]; rfl
  have h2 : c / 2 ^ s ≤ c := Nat.div_le_self _ _
  have hu : 2 ^ j ≤ 536870912 := Nat.le_trans (Nat.pow_le_pow_right (by omega) (show j ≤ 29 by omega)) (by decide)
  have hv : c / 2 ^ s % 2 < 2 := Nat.mod_lt _ (by decide)
  have hm : c / 2 ^ s % 2 * 2 ^ j ≤ 1 * 536870912 := Nat.mul_le_mul (by omega) hu
  rw [h1, show (1 : Int) = ((1 : Nat) : Int) from rfl, u8_and_nat _ 1 (by omega) (by omega), Nat.and_one_is_mod, wrap64_nat (by omega)]
  have e2 : ((c / 2 ^ s % 2 : Nat) : Int) * 2 ^ j = ((c / 2 ^ s % 2 * 2 ^ j : Nat) : Int) := by rw [Int.natCast_mul, Int.natCast_pow]; rfl
  rw [e2, wrap64_nat (by omega), or64 _ _ (by omega) (by omega)]
theorem str_ne {a b : ByteArray} (h : a ≠ b) : (!(a.toList == b.toList)) = true := by
  simp only [Bool.not_eq_true', beq_eq_false_iff_ne, ne_eq, ByteArray.toList_eq]
  intro e
  exact h (ByteArray.ext (Array.ext' e))
theorem str_eq {a b : ByteArray} (h : a = b) : (!(a.toList == b.toList)) = false := by rw [h]; simp
theorem packGet_yes {t : ByteArray} {p W many : Nat} {ys : List Int} (GE : packGet t = if packPut many (unpack t p W many) = t then (unpack t p W many, true) else ([], false)) (hy : ys = unpack t p W many) (hq : packPut ys.length ys = t) : packGet t = (ys, true) := by
  have hl : ys.length = many := by rw [hy, unpack_len]
  rw [hl, hy] at hq
  rw [GE, if_pos hq, hy]
theorem packGet_no {t : ByteArray} {p W many : Nat} {ys : List Int} (GE : packGet t = if packPut many (unpack t p W many) = t then (unpack t p W many, true) else ([], false)) (hy : ys = unpack t p W many) (hq : ¬ packPut ys.length ys = t) : packGet t = ([], false) := by
  have hl : ys.length = many := by rw [hy, unpack_len]
  rw [hl, hy] at hq
  rw [GE, if_neg hq]
theorem and_bne {a b : Bool} (h : a = b) : (a != b) = false := by rw [h]; simp
end Go.Proofs.Ytoljjhhomklcbaa
