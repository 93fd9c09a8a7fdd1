/- The walks of what PackPut writes. Conditions: what is read fits the model's sizes. -/
import Derived.Test.YtoljjhhomklcbaaWidth
import Derived.Test.YtoljjhhomklcbaaVarGet
import Derived.BigRegion
import Derived.Deep.RegionWith
namespace Go.Proofs.Ytoljjhhomklcbaa
open Go.RowKit

/-- One bit of a number. -/
def bitI (x : Int) (b : Nat) : Nat := x.toNat / 2 ^ b % 2
/-- The t-th bit of numbers of W bits each. -/
def nthBit (W : Nat) (xs : List Int) (t : Nat) : Nat := bitI (nthI xs (t / W)) (t % W)
/-- Byte j after t bits. -/
def byteAt (W : Nat) (xs : List Int) : Nat → Nat → Nat
  | 0, _ => 0
  | t + 1, j => if j = t / 8 then byteAt W xs t j ||| nthBit W xs t * 2 ^ (t % 8) else byteAt W xs t j
theorem bitI_lt (x : Int) (b : Nat) : bitI x b < 2 := Nat.mod_lt _ (by decide)
theorem shl_lt {v t : Nat} (h : v < 2) : v * 2 ^ (t % 8) < 256 := by
  have h1 : 2 ^ (t % 8) ≤ 2 ^ 7 := Nat.pow_le_pow_right (by decide) (by omega)
  have h2 : v * 2 ^ (t % 8) ≤ 1 * 2 ^ 7 := Nat.mul_le_mul (by omega) h1
  omega
theorem byteAt_lt (W : Nat) (xs : List Int) (t : Nat) : ∀ j, byteAt W xs t j < 256 := by
  induction t with
  | zero => intro j; show 0 < 256; decide
  | succ t ih =>
    intro j
    rw [byteAt]; split
    · exact Nat.or_lt_two_pow (n := 8) (ih j) (shl_lt (bitI_lt _ _))
    · exact ih j
theorem byteAt_zero (W : Nat) (xs : List Int) (t : Nat) : ∀ j, t ≤ 8 * j → byteAt W xs t j = 0 := by
  induction t with
  | zero => intro j _; rfl
  | succ t ih =>
    intro j h
    rw [byteAt, if_neg (by omega)]
    exact ih j (by omega)
def byteV (W : Nat) (xs : List Int) (t j : Nat) : Value := .int .u8 (byteAt W xs t j : Nat)
theorem byteV_step (W : Nat) (xs : List Int) (t N : Nat) : (tab N (byteV W xs t)).set (t / 8) (.int .u8 ((byteAt W xs t (t / 8) ||| nthBit W xs t * 2 ^ (t % 8) : Nat) : Int)) = tab N (byteV W xs (t + 1)) := by
  refine tab_ext (by simp [tab_length]) fun j hj => ?_
  rw [List.getElem?_set]
  by_cases h : t / 8 = j
  · subst h; rw [if_pos rfl, if_pos (by simpa [tab_length] using hj), byteV, byteAt, if_pos rfl]
  · rw [if_neg h, tab_get _ _ _ hj, byteV, byteV, byteAt, if_neg (by omega)]
theorem byteV_grow (W : Nat) (xs : List Int) (t N : Nat) (h : t ≤ 8 * N) : tab N (byteV W xs t) ++ [.int .u8 0] = tab (N + 1) (byteV W xs t) := by
  rw [← tab_snoc, byteV, byteAt_zero _ _ _ _ h]; rfl
theorem and1 (x b : Nat) (hx : x ≤ 999999999) : bits .and .i64 ((x : Int) / 2 ^ b) 1 = ((x / 2 ^ b % 2 : Nat) : Int) := by
  have h1 : (x : Int) / 2 ^ b = ((x / 2 ^ b : Nat) : Int) := by rw [Int.natCast_ediv, Int.natCast_pow]; rfl
  have h2 : x / 2 ^ b ≤ x := Nat.div_le_self _ _
  rw [h1, show (1 : Int) = ((1 : Nat) : Int) from rfl]
  show IntKind.i64.wrap ((BitVec.ofInt 64 ((x / 2 ^ b : Nat) : Int) &&& BitVec.ofInt 64 ((1 : Nat) : Int)).toNat : Int) = _
  rw [BitVec.toNat_and, ofInt_nat64 _ (by omega), ofInt_nat64 1 (by omega), Nat.and_one_is_mod, IntKind.wrap_i64]
  omega
theorem orv (p x b t : Nat) (hp : p < 256) (hx : x ≤ 999999999) : bits .or .u8 (p : Int) (bits .and .i64 ((x : Int) / 2 ^ b) 1 % 256 * 2 ^ (t % 8) % 256) = ((p ||| bitI (x : Int) b * 2 ^ (t % 8) : Nat) : Int) := by
  have h2 : bitI (x : Int) b < 2 := bitI_lt _ _
  have h3 : bitI (x : Int) b * 2 ^ (t % 8) < 256 := shl_lt h2
  have h5 : bits .and .i64 ((x : Int) / 2 ^ b) 1 % 256 = ((bitI (x : Int) b : Nat) : Int) := by
    rw [and1 x b hx]; show ((bitI (x : Int) b : Nat) : Int) % 256 = _; omega
  have h6 : ((bitI (x : Int) b : Nat) : Int) * 2 ^ (t % 8) % 256 = ((bitI (x : Int) b * 2 ^ (t % 8) : Nat) : Int) := by
    rw [show ((bitI (x : Int) b : Nat) : Int) * 2 ^ (t % 8) = ((bitI (x : Int) b * 2 ^ (t % 8) : Nat) : Int) by rw [Int.natCast_mul, Int.natCast_pow]; rfl]
    omega
  rw [h5, h6, u8_or_nat _ _ hp h3]
theorem orv0 (p x b t : Nat) (hp : p < 256) (hx : x ≤ 999999999) (h8 : (t : Int) % 8 = 0) : bits .or .u8 (p : Int) (bits .and .i64 ((x : Int) / 2 ^ b) 1 % 256) = ((p ||| bitI (x : Int) b * 2 ^ (t % 8) : Nat) : Int) := by
  have h := orv p x b t hp hx
  have h9 : t % 8 = 0 := by omega
  rw [h9] at h ⊢
  rw [← h]
  congr 1
  omega
theorem cv_any {w : World} {B n cap : Nat} {a : Option Addr} {L : List Int} (h : w.ownsRow B 5 1 (.slice a n cap) n (L.map (Value.int .u8))) (hl : L.length = n) :
    (convert 22 9 (.slice a n cap)).run Try.prog w = .ok (.string (strOfNums L)) w := by
  rcases Nat.eq_zero_or_pos n with rfl | h0
  · obtain rfl : L = [] := List.length_eq_zero_iff.1 hl
    rw [run_convert_bytes_string w 22 9 5 a 0 cap Try.underlying22 Try.underlying5 Try.underlying9]
    cases a <;> simp [Conv.bytesToString, loadCells]
    all_goals rfl
  · exact cv_own h hl h0
theorem below_undrew {B : Nat} {a b : World} (h : Below a.drew.heap.size a.drew b) (hB : B ≤ a.heap.size) : Below B a b :=
  ⟨h.os, h.tape, h.output, h.size, fun k hk => h.block k (Nat.lt_of_lt_of_le hk hB)⟩
theorem varS_le10 (n : Nat) (h : n ≤ 999999999) : (varS n).size ≤ 10 := by
  rw [varS_size]
  exact Nat.le_trans (varI_le 5 n (by omega) (by omega)) (by omega)
theorem Rd.at {w : World} {b off N k : Nat} {F : Nat → Value} (h : Rd w (some ⟨b, off, none⟩) N F) (hk : k < N) : w.cell? ⟨b, off + k, none⟩ = some (F k) := by
  obtain ⟨b2, off2, he, hc⟩ := h.pos hk
  injection he with he
  injection he with h1 h2
  subst h1; subst h2
  exact hc k hk
theorem nthBit_at {W k b : Nat} (xs : List Int) (hb : b < W) : nthBit W xs (k * W + b) = bitI (nthI xs k) b := by
  have h1 : (k * W + b) / W = k := by rw [Nat.add_comm, Nat.add_mul_div_right _ _ (by omega), Nat.div_eq_of_lt hb, Nat.zero_add]
  have h2 : (k * W + b) % W = b := by rw [Nat.add_comm, Nat.add_mul_mod_self_right, Nat.mod_eq_of_lt hb]
  rw [nthBit, h1, h2]
def packB (W : Nat) (xs : List Int) (t : Nat) : List Int := (List.range ((t + 7) / 8)).map fun j => ((byteAt W xs t j : Nat) : Int)
theorem packB_len (W : Nat) (xs : List Int) (t : Nat) : (packB W xs t).length = (t + 7) / 8 := by simp [packB]
theorem packB_tab (W : Nat) (xs : List Int) (t : Nat) : (packB W xs t).map (Value.int .u8) = tab ((t + 7) / 8) (byteV W xs t) := by
  rw [packB, List.map_map]; rfl
def packPut (n : Nat) (xs : List Int) : ByteArray :=
  if packWidth n xs < 0 then ⟨#[]⟩ else varS n ++ varS (packWidth n xs).toNat ++ strOfNums (packB (packWidth n xs).toNat xs (n * (packWidth n xs).toNat))
theorem packWidth_yes {n : Nat} {xs : List Int} (h : ¬ packWidth n xs < 0) : n ≤ 60 ∧ numsOk n xs = true ∧ ∃ W : Nat, packWidth n xs = W ∧ W ≤ 30 := by
  unfold packWidth at h ⊢
  split at h
  · rename_i hc
    rw [if_pos hc]
    simp only [Bool.and_eq_true, decide_eq_true_eq] at hc
    exact ⟨hc.2, hc.1, _, rfl, (blen_le _ _).2 (by have := maxTo_le xs n hc.1; omega)⟩
  · omega
theorem nums_nat {n k : Nat} {xs : List Int} (h : numsOk n xs = true) (hk : k < n) : ∃ x : Nat, nthI xs k = (x : Int) ∧ x ≤ 999999999 := by
  have h1 := numOk_bd (allN_iff.1 h k hk)
  exact ⟨(nthI xs k).toNat, by omega, by omega⟩
end Go.Proofs.Ytoljjhhomklcbaa
