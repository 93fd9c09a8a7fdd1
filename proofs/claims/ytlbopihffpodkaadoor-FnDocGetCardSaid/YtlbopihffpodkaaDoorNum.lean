/- Numbers out of figures, as the reference reads them. Condition: the string fits the model's sizes. -/
import Derived.Test.YtlbopihffpodkaaDoorDec
namespace Go.Proofs.YtlbopihffpodkaaDoor
set_option maxRecDepth 100000
open Go.RowKit
def digB (c : Int) : Bool := decide (48 ≤ c ∧ c ≤ 57)
def digV (l : List UInt8) : Nat := l.foldl (fun n c => n * 10 + (c.toNat - 48)) 0
theorem digV_snoc (l : List UInt8) (c : UInt8) : digV (l ++ [c]) = digV l * 10 + (c.toNat - 48) := by simp [digV]
theorem digV_lt {s : ByteArray} : ∀ k, k ≤ s.size → allB digB (s.data.toList.take k) = true → digV (s.data.toList.take k) < 10 ^ k := by
  intro k
  induction k with
  | zero => intro _ _; simp [digV]
  | succ k ih =>
    intro hk hall
    rw [take_snoc s k (by omega)] at hall ⊢
    have h2 : allB digB (s.data.toList.take k) = true ∧ digB ((s[k]'(by omega)).toNat : Int) = true := by simpa [allB] using hall
    have h3 := ih (by omega) h2.1
    have h4 := h2.2
    simp only [digB, decide_eq_true_eq] at h4
    rw [digV_snoc, Nat.pow_succ]
    omega
/-- The number that the figures tell, -1 if they tell none. -/
def numV (s : ByteArray) : Int := if allB digB s.data.toList = true ∧ s.size ≤ 9 ∧ 1 ≤ s.size ∧ ¬ (1 < s.size ∧ s.data.toList.head? = some 48) then (digV s.data.toList : Int) else -1
theorem numV_bad {s : ByteArray} (h : ¬ (allB digB s.data.toList = true ∧ s.size ≤ 9 ∧ 1 ≤ s.size ∧ ¬ (1 < s.size ∧ s.data.toList.head? = some 48))) : numV s = -1 := if_neg h
theorem pow_nine {k : Nat} (h : k ≤ 9) : 10 ^ k ≤ 1000000000 := by
  have := Nat.pow_le_pow_right (n := 10) (by omega) h
  simpa using this
theorem numV_bounds (s : ByteArray) : -1 ≤ numV s ∧ numV s ≤ 999999999 := by
  unfold numV
  split
  · rename_i h
    have h1 := digV_lt s.size (Nat.le_refl _) (by rw [List.take_of_length_le (by simp)]; exact h.1)
    rw [List.take_of_length_le (by simp)] at h1
    have := pow_nine h.2.1
    omega
  · omega
theorem head_at {s : ByteArray} (h : 0 < s.size) : s.data.toList.head? = some (s[0]'h) := by
  have e : s.data.toList[0]? = some (s[0]'h) := by simp [ByteArray.getElem_eq_getElem_data]
  rwa [← List.head?_eq_getElem?] at e
set_option maxHeartbeats 1000000 in
theorem l1Num_any (s : ByteArray) (w : World) (hs : s.size ≤ maxLen) :
    Calls Tryd.prog 35 #[.string s] w fun e w' => e = .returned (.int .i64 (numV s)) ∧ w = w' := by
  unfold maxLen at hs
  go_enter Tryd.func35, Tryd.ntmps35
  go_wp2
  go_loop [3, 4] (fun n i => ∃ k : Nat, k ≤ s.size ∧ k ≤ 9 ∧ i = .int .i64 k ∧ n = .int .i64 (digV (s.data.toList.take k) : Nat) ∧ allB digB (s.data.toList.take k) = true) (fun _ i => s.size - (intOf i).toNat)
  case atStart => exact ⟨0, Nat.zero_le _, Nat.zero_le _, rfl, rfl, rfl⟩
  case round =>
    obtain ⟨k, hk, hk9, rfl, rfl, hall⟩ := hrel
    have hv := digV_lt k hk hall
    have hv9 := pow_nine hk9
    have HA := Lib.hid hall; clear hall
    obtain ⟨v, hve⟩ : ∃ v, v = digV (s.data.toList.take k) := ⟨_, rfl⟩
    rw [← hve] at hv ⊢
    have HV := Lib.hid hve; clear hve
    have hvb : v < 1000000000 := by omega
    clear hv hv9
    by_cases hlt : k < s.size
    · have c255 : (s[k]'hlt).toNat < 256 := (s[k]'hlt).toNat_lt
      by_cases h1 : ((s[k]'hlt).toNat : Int) < 48
      · go_wp2
        go_ret
        exact ⟨ret_int (numV_bad (fun h => by have := allB_fail (p := digB) hlt (by simp [digB]; omega); rw [h.1] at this; cases this)).symm, rfl⟩
      · by_cases h2 : (57 : Int) < ((s[k]'hlt).toNat : Int)
        · go_wp2
          go_ret
          exact ⟨ret_int (numV_bad (fun h => by have := allB_fail (p := digB) hlt (by simp [digB]; omega); rw [h.1] at this; cases this)).symm, rfl⟩
        · by_cases h3 : 9 ≤ k
          · have g3 : (9 : Int) ≤ (k : Int) := by omega
            go_wp2
            go_ret
            exact ⟨ret_int (numV_bad (fun h => by omega)).symm, rfl⟩
          · have g3 : ¬ (9 : Int) ≤ (k : Int) := by omega
            have hd : IntKind.u8.wrap (((s[k]'hlt).toNat : Int) - 48) = ((s[k]'hlt).toNat : Int) - 48 := by show _ % 256 = _; omega
            have e1 : digV (s.data.toList.take (k + 1)) = v * 10 + ((s[k]'hlt).toNat - 48) := by rw [take_snoc s k hlt, digV_snoc, ← HV.out]
            have E1 : Hid (((digV (s.data.toList.take (k + 1)) : Nat) : Int) = (v : Int) * 10 + (((s[k]'hlt).toNat : Int) - 48)) := by show _ = _; rw [e1]; omega
            clear e1
            go_wp2
            exact ⟨⟨k + 1, by omega, by omega, by go_num, by rw [E1.out], allB_step hlt HA.out (by simp [digB]; omega)⟩, by simp [intOf]; omega⟩
    · obtain rfl : k = s.size := by omega
      have HF := Lib.hid (allB_full (Nat.le_refl _) HA.out)
      have HW : Hid (v = digV s.data.toList) := by have h := HV.out; rw [List.take_of_length_le (by simp)] at h; exact h
      clear HA HV
      by_cases h0 : s.size = 0
      · go_wp2
        go_ret
        exact ⟨ret_int (numV_bad (fun h => by omega)).symm, rfl⟩
      · have h0' : 0 < s.size := by omega
        have hh := Lib.hid (head_at h0')
        by_cases h1 : 1 < s.size
        · by_cases h2 : ((s[0]'h0').toNat : Int) = 48
          · have e2 : s[0]'h0' = 48 := UInt8.toNat_inj.1 (by show _ = 48; omega)
            go_wp2
            go_ret
            exact ⟨ret_int (numV_bad (fun h => h.2.2.2 ⟨h1, by rw [hh.out, e2]⟩)).symm, rfl⟩
          · have N2 := Lib.hid h2
            have q0 : ((s.size : Int) == 0) = false := beq_f (by omega)
            have q1 : (((s[0]'h0').toNat : Int) == 48) = false := beq_f h2
            go_wp2
            go_ret
            exact ⟨ret_int (by unfold numV; rw [if_pos ⟨HF.out, hk9, h0', fun h => N2.out (by have e := hh.out.symm.trans h.2; injection e with e; rw [e]; rfl)⟩, HW.out]), rfl⟩
        · go_wp2
          go_ret
          exact ⟨ret_int (by unfold numV; rw [if_pos ⟨HF.out, hk9, h0', fun h => h1 h.1⟩, HW.out]), rfl⟩
theorem dec_small {n : Nat} (h : n < 10) : Lib.decDigits n = [UInt8.ofNat (48 + n)] := by rw [Lib.decDigits, dif_pos h]
theorem dec_big {n : Nat} (h : ¬ n < 10) : Lib.decDigits n = Lib.decDigits (n / 10) ++ [UInt8.ofNat (48 + n % 10)] := by rw [Lib.decDigits, dif_neg h]
theorem dig_of {r : Nat} (h : r < 10) : (UInt8.ofNat (48 + r)).toNat = 48 + r := by rw [UInt8.toNat_ofNat']; omega
theorem dec_digs : ∀ n, allB digB (Lib.decDigits n) = true ∧ digV (Lib.decDigits n) = n ∧ 1 ≤ (Lib.decDigits n).length ∧ (1 ≤ n → (Lib.decDigits n).head? ≠ some 48) := by
  intro n
  induction n using Nat.strongRecOn with
  | ind n ih =>
    by_cases h : n < 10
    · rw [dec_small h]
      have e := dig_of h
      refine ⟨?_, ?_, by simp, fun h1 => ?_⟩
      · simp only [allB, List.all_cons, List.all_nil, Bool.and_true, digB, e]; simp; omega
      · simp only [digV, List.foldl_cons, List.foldl_nil, e]; omega
      · intro hh
        have hh : UInt8.ofNat (48 + n) = 48 := by simpa using hh
        rw [hh] at e
        have : (48 : UInt8).toNat = 48 := rfl
        omega
    · obtain ⟨i1, i2, i3, i4⟩ := ih (n / 10) (by omega)
      rw [dec_big h]
      have e := dig_of (r := n % 10) (by omega)
      refine ⟨?_, ?_, by simp, fun _ => ?_⟩
      · rw [allB, List.all_append, Bool.and_eq_true]
        refine ⟨i1, ?_⟩
        simp only [List.all_cons, List.all_nil, Bool.and_true, digB, e]; simp; omega
      · rw [digV_snoc, i2, e]; omega
      · have := i4 (by omega)
        cases hd : Lib.decDigits (n / 10) with
        | nil => rw [hd] at i3; simp at i3
        | cons c r => rw [hd] at this; simpa using this
theorem dec_len : ∀ (k n : Nat), n < 10 ^ k → 1 ≤ k → (Lib.decDigits n).length ≤ k := by
  intro k
  induction k with
  | zero => intro n _ h; omega
  | succ k ih =>
    intro n hn _
    by_cases h : n < 10
    · rw [dec_small h]; simp
    · rw [dec_big h, List.length_append]
      rw [Nat.pow_succ] at hn
      have hk : 1 ≤ k := by
        cases k with
        | zero => simp at hn; omega
        | succ k => omega
      have := ih (n / 10) (by omega) hk
      simp only [List.length_cons, List.length_nil]
      omega
theorem decS_list (n : Nat) : (decS n).size = (Lib.decDigits n).length := by show (Lib.decDigits n).toArray.size = _; simp
theorem decS_size9 {n : Nat} (h : n ≤ 999999999) : (decS n).size ≤ 9 := by
  rw [decS_list]; exact dec_len 9 n (by omega) (by omega)
theorem decS_size4 {n : Nat} (h : n ≤ 9999) : (decS n).size ≤ 4 := by
  rw [decS_list]; exact dec_len 4 n (by omega) (by omega)
theorem numV_dec {n : Nat} (h : n ≤ 999999999) : numV (decS n) = (n : Int) := by
  obtain ⟨i1, i2, i3, i4⟩ := dec_digs n
  have e : (decS n).data.toList = Lib.decDigits n := by simp [decS]
  have ez := decS_list n
  have h9 := decS_size9 h
  have hz : ¬ (1 < (decS n).size ∧ (decS n).data.toList.head? = some 48) := fun hh => by
    by_cases h1 : 1 ≤ n
    · exact i4 h1 (by rw [← e]; exact hh.2)
    · have hn : n < 10 := by omega
      rw [ez, dec_small hn] at hh
      simp at hh
  unfold numV
  rw [if_pos ⟨by rw [e]; exact i1, h9, by rw [ez]; exact i3, hz⟩, e, i2]
end Go.Proofs.YtlbopihffpodkaaDoor
