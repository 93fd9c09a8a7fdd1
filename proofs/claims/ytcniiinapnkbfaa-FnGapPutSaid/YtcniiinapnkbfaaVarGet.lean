/- The walks of numbers read from bytes. Conditions: the strings fit the model's sizes. -/
import Derived.Test.YtcniiinapnkbfaaVar
import Derived.Test.YtcniiinapnkbfaaBits
namespace Go.Proofs.Ytcniiinapnkbfaa
open Go.RowKit

def byN (s : ByteArray) (k : Nat) : Nat := if h : k < s.size then (s[k]'h).toNat else 0
theorem byN_get {s : ByteArray} {k : Nat} (h : k < s.size) : (s[k]'h).toNat = byN s k := by rw [byN, dif_pos h]
theorem byN_lt (s : ByteArray) (k : Nat) : byN s k < 256 := by
  unfold byN; split
  · exact (s[k]).toNat_lt
  · omega
/-- The number that the first k bytes are, seven bits each. -/
def pv (s : ByteArray) : Nat → Nat
  | 0 => 0
  | k + 1 => pv s k + byN s k % 128 * 128 ^ k
theorem pv_succ (s : ByteArray) (k : Nat) : pv s (k + 1) = pv s k + byN s k % 128 * 128 ^ k := rfl
theorem pv_lt (s : ByteArray) : ∀ k, pv s k < 128 ^ k := by
  intro k
  induction k with
  | zero => show 0 < 128 ^ 0; omega
  | succ k ih =>
    rw [pv_succ, Nat.pow_succ]
    have h1 : byN s k % 128 ≤ 127 := by omega
    have h2 : byN s k % 128 * 128 ^ k ≤ 127 * 128 ^ k := Nat.mul_le_mul_right _ h1
    omega
def vgBad (s : ByteArray) (k : Nat) : Bool := (decide (byN s k = 0) && decide (0 < k)) || decide (999999999 < pv s (k + 1))
def vgF (s : ByteArray) : Nat → Nat → Nat × Nat
  | 0, _ => (0, 0)
  | f + 1, k => if k < s.size then (if byN s k < 128 then (if vgBad s k then (0, 0) else (pv s (k + 1), k + 1)) else vgF s f (k + 1)) else (0, 0)
/-- The number at the beginning, and how many bytes it takes. -/
def varGet (s : ByteArray) : Nat × Nat := vgF s 5 0
theorem vgF_end {s : ByteArray} {f k : Nat} (h : s.size ≤ k) : vgF s f k = (0, 0) := by
  cases f with
  | zero => rfl
  | succ f => rw [vgF, if_neg (by omega)]
theorem vgF_bad {s : ByteArray} {f k : Nat} (h : k < s.size) (h1 : byN s k < 128) (h2 : vgBad s k = true) : vgF s (f + 1) k = (0, 0) := by
  rw [vgF, if_pos h, if_pos h1, h2, if_pos rfl]
theorem vgF_good {s : ByteArray} {f k : Nat} (h : k < s.size) (h1 : byN s k < 128) (h2 : vgBad s k = false) : vgF s (f + 1) k = (pv s (k + 1), k + 1) := by
  rw [vgF, if_pos h, if_pos h1, h2]; simp
theorem vgF_more {s : ByteArray} {f k : Nat} (h : k < s.size) (h1 : ¬ byN s k < 128) : vgF s (f + 1) k = vgF s f (k + 1) := by
  rw [vgF, if_pos h, if_neg h1]
theorem pv_bound (s : ByteArray) {k : Nat} (h : k ≤ 5) : pv s k ≤ 34359738367 := by
  have h1 := pv_lt s k
  have h2 : 128 ^ k ≤ 128 ^ 5 := Nat.pow_le_pow_right (by omega) h
  have h3 : (128 : Nat) ^ 5 = 34359738368 := by decide
  omega
def pair2 (x : Nat × Nat) : Value := .tuple #[.int .i64 (x.1 : Int), .int .i64 (x.2 : Int)]
set_option maxRecDepth 20000 in
set_option maxHeartbeats 1000000 in
theorem l3VarGet_any (s : ByteArray) (hs : s.size ≤ maxLen) (w : World) :
    Calls Try.prog 41 #[.string s] w fun e w' => e = .returned (.tuple #[.int .i64 ((varGet s).1 : Int), .int .i64 ((varGet s).2 : Int)]) ∧ w = w' := by
  unfold maxLen at hs
  go_enter Try.func41, Try.ntmps41
  go_wp2_with fail
  go_loop [4, 5, 6] (fun v u i => ∃ k : Nat, k ≤ 5 ∧ k ≤ s.size ∧ i = .int .i64 k ∧ u = .int .i64 ((128 ^ k : Nat) : Int) ∧ v = .int .i64 (pv s k : Int) ∧ vgF s (5 - k) k = varGet s) (fun _ _ i => 5 - (intOf i).toNat)
  case atStart => exact ⟨0, by omega, by omega, rfl, rfl, rfl, rfl⟩
  case round =>
    obtain ⟨k, hk5, hks, rfl, rfl, rfl, heq⟩ := hrel
    have HE := Lib.hid heq; clear heq
    by_cases hlt : k < s.size
    · by_cases h5 : k < 5
      · obtain ⟨c, hc⟩ : ∃ c, c = byN s k := ⟨_, rfl⟩
        obtain ⟨u, hu⟩ : ∃ u, u = 128 ^ k := ⟨_, rfl⟩
        obtain ⟨p, hp⟩ : ∃ p, p = pv s k := ⟨_, rfl⟩
        obtain ⟨y, hy⟩ : ∃ y, y = c % 128 * u := ⟨_, rfl⟩
        have hcb : c < 256 := by rw [hc]; exact byN_lt s k
        have hg : ((s[k]'hlt).toNat : Int) = (c : Int) := by rw [byN_get hlt, hc]
        have hu1 : u ≤ 268435456 := by
          rw [hu]; exact Nat.le_trans (Nat.pow_le_pow_right (by omega) (show k ≤ 4 by omega)) (by decide)
        have hpb : p ≤ 34359738367 := by rw [hp]; exact pv_bound s (by omega)
        have PS := pv_succ s k
        rw [← hu, ← hc, ← hp, ← hy] at PS
        have hqb := pv_bound s (k := k + 1) (by omega)
        have hyb : y ≤ 34359738367 := by omega
        have hyi : ((c : Int) % 128) * (u : Int) = (y : Int) := by rw [hy, Int.natCast_mul]; rfl
        have y0 : 0 ≤ ((c : Int) % 128) * (u : Int) := by rw [hyi]; omega
        have y1 : ((c : Int) % 128) * (u : Int) ≤ 34359738367 := by rw [hyi]; omega
        have HYI := Lib.hid hyi; clear hyi
        have PU : 128 ^ (k + 1) = u * 128 := by rw [hu, Nat.pow_succ]
        have HPU := Lib.hid PU; clear PU
        have HPS := Lib.hid PS; clear PS hqb
        have HBAD := Lib.hid (show vgBad s k = ((decide (c = 0) && decide (0 < k)) || decide (999999999 < p + y)) by rw [vgBad, HPS.out, ← hc])
        have HSTEP := Lib.hid (show 5 - k = (4 - k) + 1 by omega)
        rw [← hu, ← hp]
        have HC := Lib.hid hc; clear hc
        have HU := Lib.hid hu; clear hu
        have HP := Lib.hid hp; clear hp
        have HY := Lib.hid hy; clear hy
        by_cases hc8 : c < 128
        · have hgood : vgBad s k = false → Hid (varGet s = (pv s (k + 1), k + 1)) := fun h => by
            show varGet s = _; rw [← HE.out, HSTEP.out]; exact vgF_good hlt (by rw [← HC.out]; exact hc8) h
          have hbad : vgBad s k = true → Hid (varGet s = (0, 0)) := fun h => by
            show varGet s = _; rw [← HE.out, HSTEP.out]; exact vgF_bad hlt (by rw [← HC.out]; exact hc8) h
          by_cases hc0 : c = 0
          · have b1 : ((c : Int) == 0) = true := beq_t (by omega)
            by_cases hk0 : 0 < k
            · have R := hbad (by rw [HBAD.out]; simp [hc0, hk0])
              have b2 : (0 : Int) < (k : Int) := by omega
              clear hgood hbad hc0
              go_wp2_with fail
              go_ret2
              exact ⟨by rw [R.out]; rfl, rfl⟩
            · have hpz : p = 0 := by rw [HP.out, show k = 0 by omega]; rfl
              have hyz : y = 0 := by rw [HY.out, hc0]; simp
              have R := hgood (by rw [HBAD.out]; simp [hc0, hpz, hyz]; omega)
              have b2 : (k : Int) ≤ 0 := by omega
              have b3 : (p : Int) + ((c : Int) % 128) * (u : Int) ≤ 999999999 := by rw [HYI.out]; omega
              clear hgood hbad hc0 hpz hyz
              go_wp2_with fail
              go_ret2
              exact ⟨by rw [R.out, HPS.out]; have := HYI.out; simp; omega, rfl⟩
          · have b1 : ((c : Int) == 0) = false := beq_f (by omega)
            by_cases hbg : 999999999 < p + y
            · have R := hbad (by rw [HBAD.out]; simp [hbg])
              have b3 : 999999999 < (p : Int) + ((c : Int) % 128) * (u : Int) := by rw [HYI.out]; omega
              clear hgood hbad
              go_wp2_with fail
              go_ret2
              exact ⟨by rw [R.out]; rfl, rfl⟩
            · have R := hgood (by rw [HBAD.out]; simp [hc0]; omega)
              have b3 : (p : Int) + ((c : Int) % 128) * (u : Int) ≤ 999999999 := by rw [HYI.out]; omega
              clear hgood hbad
              go_wp2_with fail
              go_ret2
              exact ⟨by rw [R.out, HPS.out]; have := HYI.out; simp; omega, rfl⟩
        · have R := Lib.hid (show vgF s (5 - (k + 1)) (k + 1) = varGet s by rw [← HE.out, HSTEP.out, vgF_more hlt (by rw [← HC.out]; exact hc8), show 5 - (k + 1) = 4 - k by omega])
          clear HBAD
          go_wp2_with fail
          go_round
          case rel =>
            exact ⟨k + 1, by omega, by omega, by go_num, vint (by rw [HPU.out]; simp), vint (by rw [HPS.out]; have := HYI.out; omega), R.out⟩
          case measure => simp [intOf]; omega
      · obtain rfl : k = 5 := by omega
        have R := Lib.hid (show varGet s = (0, 0) by rw [← HE.out]; rfl)
        go_wp2_with fail
        go_ret2
        exact ⟨by rw [R.out]; rfl, rfl⟩
    · have R := Lib.hid (show varGet s = (0, 0) by rw [← HE.out]; exact vgF_end (by omega))
      go_wp2_with fail
      go_ret2
      exact ⟨by rw [R.out]; rfl, rfl⟩
theorem varI_le : ∀ (k n : Nat), 0 < k → n < 128 ^ k → (varI n).length ≤ k := by
  intro k
  induction k with
  | zero => intro n h; omega
  | succ k ih =>
    intro n _ hn
    by_cases h : n < 128
    · rw [varI_small h]; simp
    · rw [varI_big h]
      have hk : 0 < k := by
        rcases Nat.eq_zero_or_pos k with h0 | h0
        · subst h0; simp at hn; omega
        · exact h0
      have := ih (n / 128) hk (by rw [Nat.pow_succ] at hn; omega)
      simp only [List.length_cons]; omega
theorem varI_ge : ∀ (k n : Nat), 128 ^ k ≤ n → k + 1 ≤ (varI n).length := by
  intro k
  induction k with
  | zero =>
    intro n _
    by_cases h : n < 128
    · rw [varI_small h]; simp
    · rw [varI_big h]; simp
  | succ k ih =>
    intro n hn
    have h1 : 1 ≤ 128 ^ k := Nat.one_le_pow _ _ (by omega)
    rw [Nat.pow_succ] at hn
    rw [varI_big (by omega)]
    have := ih (n / 128) (by omega)
    simp only [List.length_cons]; omega
theorem varI_eq {k n : Nat} (h1 : 128 ^ k ≤ n) (h2 : n < 128 ^ (k + 1)) : (varI n).length = k + 1 := by
  have := varI_le (k + 1) n (by omega) h2
  have := varI_ge k n h1
  omega
theorem strOfNums_size (L : List Int) : (strOfNums L).size = L.length := by simp [strOfNums, ByteArray.size]
theorem varS_size (n : Nat) : (varS n).size = (varI n).length := strOfNums_size _
/-- The number that is read is written in as many bytes just if nothing is bad. -/
theorem vg_len {s : ByteArray} {k : Nat} (h : byN s k < 128) : ((varPut (pv s (k + 1) : Int)).size = k + 1) ↔ vgBad s k = false := by
  have hp := pv_lt s k
  have hq := pv_lt s (k + 1)
  have he := pv_succ s k
  rw [Nat.mod_eq_of_lt h] at he
  by_cases hbig : 999999999 < pv s (k + 1)
  · have e1 : varPut (pv s (k + 1) : Int) = ⟨#[]⟩ := by
      have hno : numOk (pv s (k + 1) : Int) = false := by unfold numOk; rw [← Bool.decide_and]; exact decide_eq_false (by omega)
      rw [varPut, hno]; rfl
    rw [e1]
    have e2 : vgBad s k = true := by simp [vgBad, hbig]
    rw [e2]
    constructor
    · intro h; have : (0 : Nat) = k + 1 := h; omega
    · intro h; cases h
  · rw [varPut_nat (by omega), varS_size]
    by_cases h0 : byN s k = 0
    · rw [h0] at he
      rcases Nat.eq_zero_or_pos k with hk | hk
      · subst hk
        have hz : pv s (0 + 1) = 0 := by rw [he]; rfl
        rw [hz, varI_small (by omega)]
        simp [vgBad, hz]
      · have := varI_le k (pv s (k + 1)) hk (by omega)
        have e2 : vgBad s k = true := by simp [vgBad, h0, hk]
        rw [e2]
        constructor
        · intro h; omega
        · intro h; cases h
    · have h1 : 128 ^ k ≤ byN s k * 128 ^ k := Nat.le_mul_of_pos_left _ (by omega)
      rw [varI_eq (k := k) (by omega) hq]
      have e2 : vgBad s k = false := by simp [vgBad, h0]; omega
      rw [e2]; simp
theorem orBits {p c k : Nat} (hp : p < 128 ^ k) (hc : c < 256) (hk : k < 5) : bits .or .i64 (p : Int) (wrap64 (wrap64 (bits .and .u8 (c : Int) 127) * 2 ^ (7 * k))) = ((p + c % 128 * 128 ^ k : Nat) : Int) := by
  have e : (128 : Nat) ^ k = 2 ^ (7 * k) := by rw [Nat.pow_mul]
  have hu1 : 128 ^ k ≤ 268435456 := Nat.le_trans (Nat.pow_le_pow_right (by omega) (show k ≤ 4 by omega)) (by decide)
  have hm : c % 128 * 128 ^ k ≤ 127 * 268435456 := Nat.mul_le_mul (by omega) hu1
  rw [u8_and127 c hc, wrap64_nat (by omega)]
  have e2 : ((c % 128 : Nat) : Int) * 2 ^ (7 * k) = ((c % 128 * 2 ^ (7 * k) : Nat) : Int) := by rw [Int.natCast_mul, Int.natCast_pow]; rfl
  rw [e2, wrap64_nat (by rw [← e]; omega), or64 _ _ (by omega) (by rw [← e]; omega), or_above _ _ _ (by rw [← e]; exact hp), e]
set_option maxRecDepth 20000 in
set_option maxHeartbeats 1000000 in
theorem VarGet_any (s : ByteArray) (hs : s.size ≤ maxLen) (w : World) :
    Calls Try.prog 13 #[.string s] w fun e w' => e = .returned (.tuple #[.int .i64 ((varGet s).1 : Int), .int .i64 ((varGet s).2 : Int)]) ∧ Below w.heap.size w w' := by
  unfold maxLen at hs
  go_enter Try.func13, Try.ntmps13
  go_wp2_with fail
  go_loopw [4, 5] (fun v i wr => ∃ k : Nat, k ≤ 5 ∧ k ≤ s.size ∧ i = .int .i64 k ∧ v = .int .i64 (pv s k : Int) ∧ vgF s (5 - k) k = varGet s ∧ w = wr) (fun _ i _ => 5 - (intOf i).toNat)
  case atStart => exact ⟨0, by omega, by omega, rfl, rfl, rfl, rfl⟩
  case round =>
    obtain ⟨k, hk5, hks, rfl, rfl, heq, rfl⟩ := hrel
    have HE := Lib.hid heq; clear heq
    by_cases hlt : k < s.size
    · by_cases h5 : k < 5
      · obtain ⟨c, hc⟩ : ∃ c, c = byN s k := ⟨_, rfl⟩
        obtain ⟨p, hp⟩ : ∃ p, p = pv s k := ⟨_, rfl⟩
        obtain ⟨q, hq⟩ : ∃ q, q = pv s (k + 1) := ⟨_, rfl⟩
        have hcb : c < 256 := by rw [hc]; exact byN_lt s k
        have hg : ((s[k]'hlt).toNat : Int) = (c : Int) := by rw [byN_get hlt, hc]
        have hob : bits .or .i64 (p : Int) (wrap64 (wrap64 (bits .and .u8 (c : Int) 127) * 2 ^ (7 * k))) = (q : Int) := by
          rw [orBits (by rw [hp]; exact pv_lt s k) hcb h5, hq, pv_succ, ← hc, ← hp]
        have hqb : q ≤ 34359738367 := by rw [hq]; exact pv_bound s (by omega)
        rw [← hp]
        have HC := Lib.hid hc; clear hc
        have HP := Lib.hid hp; clear hp
        have HQ := Lib.hid hq; clear hq
        have HSTEP := Lib.hid (show 5 - k = (4 - k) + 1 by omega)
        by_cases hc8 : c < 128
        · cases hbad : vgBad s k
          · have R := Lib.hid (show varGet s = (pv s (k + 1), k + 1) by rw [← HE.out, HSTEP.out]; exact vgF_good hlt (by rw [← HC.out]; exact hc8) hbad)
            have hz : ((varPut (q : Int)).size : Int) = (k : Int) + 1 := by
              have := (vg_len (s := s) (k := k) (by rw [← HC.out]; exact hc8)).2 hbad
              rw [HQ.out, this]; rfl
            have b1 := bne_f hz
            clear hz hbad
            go_wp2_with fail
            refine (VarPut_any _ _).mono ?_
            rintro e w1 ⟨rfl, hb⟩
            have HB := Lib.hid hb; clear hb
            go_wp2_with fail
            go_ret2
            exact ⟨by rw [R.out, ← HQ.out]; simp, HB.out⟩
          · have R := Lib.hid (show varGet s = (0, 0) by rw [← HE.out, HSTEP.out]; exact vgF_bad hlt (by rw [← HC.out]; exact hc8) hbad)
            have hz : ((varPut (q : Int)).size : Int) ≠ (k : Int) + 1 := by
              intro h
              have := (vg_len (s := s) (k := k) (by rw [← HC.out]; exact hc8)).1 (by rw [← HQ.out]; omega)
              rw [this] at hbad; cases hbad
            have b1 := bne_t hz
            clear hz hbad
            go_wp2_with fail
            refine (VarPut_any _ _).mono ?_
            rintro e w1 ⟨rfl, hb⟩
            have HB := Lib.hid hb; clear hb
            go_wp2_with fail
            go_ret2
            exact ⟨by rw [R.out]; rfl, HB.out⟩
        · have R := Lib.hid (show vgF s (5 - (k + 1)) (k + 1) = varGet s by rw [← HE.out, HSTEP.out, vgF_more hlt (by rw [← HC.out]; exact hc8), show 5 - (k + 1) = 4 - k by omega])
          go_wp2_with fail
          go_roundw
          case rel => exact ⟨k + 1, by omega, by omega, by go_num, vint (by rw [HQ.out]), R.out, by first | trivial | rfl⟩
          case measure => simp [intOf]; omega
      · obtain rfl : k = 5 := by omega
        have R := Lib.hid (show varGet s = (0, 0) by rw [← HE.out]; rfl)
        go_wp2_with fail
        go_ret2
        exact ⟨by rw [R.out]; rfl, Below.refl _ _⟩
    · have R := Lib.hid (show varGet s = (0, 0) by rw [← HE.out]; exact vgF_end (by omega))
      go_wp2_with fail
      go_ret2
      exact ⟨by rw [R.out]; rfl, Below.refl _ _⟩
theorem sVarGet_any (s : ByteArray) (hs : s.size ≤ maxLen) (w : World) :
    Calls Try.prog 15 #[.string s] w fun e w' => e = .returned (.tuple #[.int .i64 ((varGet s).1 : Int), .int .i64 ((varGet s).2 : Int)]) ∧ w = w' := by
  go_enter Try.func15, Try.ntmps15
  go_wp2_with fail
  refine (l3VarGet_any _ hs _).mono ?_
  rintro e w' ⟨rfl, rfl⟩
  go_wp2_with fail
  go_ret2
  exact ⟨rfl, rfl⟩
end Go.Proofs.Ytcniiinapnkbfaa
