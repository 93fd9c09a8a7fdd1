/- The walks of numbers read from bytes. Conditions: the strings fit the model's sizes. -/
import Derived.Test.YtoljjhhomklcbaaVar
import Derived.Test.YtoljjhhomklcbaaBits
namespace Go.Proofs.Ytoljjhhomklcbaa
open Go.RowKit

def byN (s : ByteArray) (k : Nat) : Nat := if h : k < s.size then (s[k]'h).toNat else 0
theorem byN_get {s : ByteArray} {k : Nat} (h : k < s.size) : (s[k]'h).toNat = byN s k := by rw [byN, dif_pos h]
theorem byN_lt (s : ByteArray) (k : Nat) : byN s k < 256 := by
  unfold byN; split
  · exact (s[k]).toNat_lt
  · omega
/-- The number that the first k bytes are, seven bits each. -/
def pv (s : ByteArray) : Nat → Nat
  | 0 => 0
  | k + 1 => pv s k + byN s k % 128 * 128 ^ k
theorem pv_succ (s : ByteArray) (k : Nat) : pv s (k + 1) = pv s k + byN s k % 128 * 128 ^ k := rfl
theorem pv_lt (s : ByteArray) : ∀ k, pv s k < 128 ^ k := by
  intro k
  induction k with
  | zero => show 0 < 128 ^ 0; omega
  | succ k ih =>
    rw [pv_succ, Nat.pow_succ]
    have h1 : byN s k % 128 ≤ 127 := by omega
    have h2 : byN s k % 128 * 128 ^ k ≤ 127 * 128 ^ k := Nat.mul_le_mul_right _ h1
    omega
def vgBad (s : ByteArray) (k : Nat) : Bool := (decide (byN s k = 0) && decide (0 < k)) || decide (999999999 < pv s (k + 1))
def vgF (s : ByteArray) : Nat → Nat → Nat × Nat
  | 0, _ => (0, 0)
  | f + 1, k => if k < s.size then (if byN s k < 128 then (if vgBad s k then (0, 0) else (pv s (k + 1), k + 1)) else vgF s f (k + 1)) else (0, 0)
/-- The number at the beginning, and how many bytes it takes. -/
def varGet (s : ByteArray) : Nat × Nat := vgF s 5 0
theorem vgF_end {s : ByteArray} {f k : Nat} (h : s.size ≤ k) : vgF s f k = (0, 0) := by
  cases f with
  | zero => rfl
  | succ f => rw [vgF, if_neg (by omega)]
theorem vgF_bad {s : ByteArray} {f k : Nat} (h : k < s.size) (h1 : byN s k < 128) (h2 : vgBad s k = true) : vgF s (f + 1) k = (0, 0) := by
  rw [vgF, if_pos h, if_pos h1, h2, if_pos rfl]
theorem vgF_good {s : ByteArray} {f k : Nat} (h : k < s.size) (h1 : byN s k < 128) (h2 : vgBad s k = false) : vgF s (f + 1) k = (pv s (k + 1), k + 1) := by
  rw [vgF, if_pos h, if_pos h1, h2]; simp
theorem vgF_more {s : ByteArray} {f k : Nat} (h : k < s.size) (h1 : ¬ byN s k < 128) : vgF s (f + 1) k = vgF s f (k + 1) := by
  rw [vgF, if_pos h, if_neg h1]
theorem pv_bound (s : ByteArray) {k : Nat} (h : k ≤ 5) : pv s k ≤ 34359738367 := by
  have h1 := pv_lt s k
  have h2 : 128 ^ k ≤ 128 ^ 5 := Nat.pow_le_pow_right (by omega) h
  have h3 : (128 : Nat) ^ 5 = 34359738368 := by decide
  omega
def pair2 (x : Nat × Nat) : Value := .tuple #[.int .i64 (x.1 : Int), .int .i64 (x.2 : Int)]
theorem varI_le : ∀ (k n : Nat), 0 < k → n < 128 ^ k → (varI n).length ≤ k := by
  intro k
  induction k with
  | zero => intro n h; omega
  | succ k ih =>
    intro n _ hn
    by_cases h : n < 128
    · rw [varI_small h]; simp
    · rw [varI_big h]
      have hk : 0 < k := by
        rcases Nat.eq_zero_or_pos k with h0 | h0
        · subst h0; simp at hn; omega
        · exact h0
      have := ih (n / 128) hk (by rw [Nat.pow_succ] at hn; omega)
      simp only [List.length_cons]; omega
theorem varI_ge : ∀ (k n : Nat), 128 ^ k ≤ n → k + 1 ≤ (varI n).length := by
  intro k
  induction k with
  | zero =>
    intro n _
    by_cases h : n < 128
    · rw [varI_small h]; simp
    · rw [varI_big h]; simp
  | succ k ih =>
    intro n hn
    have h1 : 1 ≤ 128 ^ k := Nat.one_le_pow _ _ (by omega)
    rw [Nat.pow_succ] at hn
    rw [varI_big (by omega)]
    have := ih (n / 128) (by omega)
    simp only [List.length_cons]; omega
theorem varI_eq {k n : Nat} (h1 : 128 ^ k ≤ n) (h2 : n < 128 ^ (k + 1)) : (varI n).length = k + 1 := by
  have := varI_le (k + 1) n (by omega) h2
  have := varI_ge k n h1
  omega
theorem strOfNums_size (L : List Int) : (strOfNums L).size = L.length := by simp [strOfNums, ByteArray.size]
theorem varS_size (n : Nat) : (varS n).size = (varI n).length := strOfNums_size _
/-- The number that is read is written in as many bytes just if nothing is bad. -/
theorem vg_len {s : ByteArray} {k : Nat} (h : byN s k < 128) : ((varPut (pv s (k + 1) : Int)).size = k + 1) ↔ vgBad s k = false := by
  have hp := pv_lt s k
  have hq := pv_lt s (k + 1)
  have he := pv_succ s k
  rw [Nat.mod_eq_of_lt h] at he
  by_cases hbig : 999999999 < pv s (k + 1)
  · have e1 : varPut (pv s (k + 1) : Int) = ⟨#[]⟩ := by
      have hno : numOk (pv s (k + 1) : Int) = false := by unfold numOk; rw [← Bool.decide_and]; exact decide_eq_false (by omega)
      rw [varPut, hno]; rfl
    rw [e1]
    have e2 : vgBad s k = true := by simp [vgBad, hbig]
    rw [e2]
    constructor
    · intro h; have : (0 : Nat) = k + 1 := h; omega
    · intro h; cases h
  · rw [varPut_nat (by omega), varS_size]
    by_cases h0 : byN s k = 0
    · rw [h0] at he
      rcases Nat.eq_zero_or_pos k with hk | hk
      · subst hk
        have hz : pv s (0 + 1) = 0 := by rw [he]; rfl
        rw [hz, varI_small (by omega)]
        simp [vgBad, hz]
      · have := varI_le k (pv s (k + 1)) hk (by omega)
        have e2 : vgBad s k = true := by simp [vgBad, h0, hk]
        rw [e2]
        constructor
        · intro h; omega
        · intro h; cases h
    · have h1 : 128 ^ k ≤ byN s k * 128 ^ k := Nat.le_mul_of_pos_left _ (by omega)
      rw [varI_eq (k := k) (by omega) hq]
      have e2 : vgBad s k = false := by simp [vgBad, h0]; omega
      rw [e2]; simp
theorem orBits {p c k : Nat} (hp : p < 128 ^ k) (hc : c < 256) (hk : k < 5) : bits .or .i64 (p : Int) (wrap64 (wrap64 (bits .and .u8 (c : Int) 127) * 2 ^ (7 * k))) = ((p + c % 128 * 128 ^ k : Nat) : Int) := by
  have e : (128 : Nat) ^ k = 2 ^ (7 * k) := by rw [Nat.pow_mul]
  have hu1 : 128 ^ k ≤ 268435456 := Nat.le_trans (Nat.pow_le_pow_right (by omega) (show k ≤ 4 by omega)) (by decide)
  have hm : c % 128 * 128 ^ k ≤ 127 * 268435456 := Nat.mul_le_mul (by omega) hu1
  rw [u8_and127 c hc, wrap64_nat (by omega)]
  have e2 : ((c % 128 : Nat) : Int) * 2 ^ (7 * k) = ((c % 128 * 2 ^ (7 * k) : Nat) : Int) := by rw [Int.natCast_mul, Int.natCast_pow]; rfl
  rw [e2, wrap64_nat (by rw [← e]; omega), or64 _ _ (by omega) (by rw [← e]; omega), or_above _ _ _ (by rw [← e]; exact hp), e]
end Go.Proofs.Ytoljjhhomklcbaa
