/- The walks of what tells whether words ascend. Conditions: what is read fits the model's sizes. -/
import Derived.Test.YtejooloflcldiaaStrs
import Derived.Test.YtejooloflcldiaaWord
namespace Go.Proofs.Ytejooloflcldiaa
open Go.RowKit

/-- One text is less than another. -/
def lessS (a b : ByteArray) : Bool := Op.bytesLess a.toList b.toList
theorem lessS_iff (a b : ByteArray) : lessS a b = true ↔ a.toList < b.toList := by rw [lessS, bytesLess_eq]; simp
theorem lessS_not (a b : ByteArray) : (lessS b a || b.toList == a.toList) = !(lessS a b) := by
  rw [Bool.eq_iff_iff]
  simp only [Bool.or_eq_true, beq_iff_eq, Bool.not_eq_true', Bool.eq_false_iff, ne_eq, lessS_iff]
  constructor
  · rintro (h | h) h2
    · exact absurd (List.lt_trans h h2) (List.lt_irrefl _)
    · rw [h] at h2; exact absurd h2 (List.lt_irrefl _)
  · intro h
    rcases List.le_iff_lt_or_eq.1 (List.not_lt.1 h) with h | h
    · exact .inl h
    · exact .inr h
def ascAt (xs : List ByteArray) (j : Nat) : Bool := wordOk (nthS xs j) && (decide (j = 0) || lessS (nthS xs (j - 1)) (nthS xs j))
/-- The first n texts are words that ascend. -/
def wordsAsc (n : Nat) (xs : List ByteArray) : Bool := allN n (ascAt xs)
def wordsUp (n : Nat) (xs : List ByteArray) : Bool := decide (n ≤ 40) && wordsAsc n xs

theorem wordsAscend_any {w : World} (a : Option Addr) (n cap : Nat) (xs : List ByteArray) (hx : Strs w a n xs) (hn : n ≤ maxLen) :
    Calls Try.prog 37 #[.slice a n cap] w fun e w' => e = .returned (.bool (wordsAsc n xs)) ∧ w = w' := by
  have HX := Lib.hid hx; clear hx
  unfold maxLen at hn
  go_enter Try.func37, Try.ntmps37
  go_wp2_with fail
  go_loop [7] (fun i => ∃ k : Nat, k ≤ n ∧ i = .int .i64 k ∧ allN k (ascAt xs) = true) (fun i => n - (intOf i).toNat)
  case atStart => exact ⟨0, Nat.zero_le _, rfl, rfl⟩
  case round =>
    obtain ⟨k, hk, rfl, hall⟩ := hrel
    have HA := Lib.hid hall; clear hall
    by_cases hlt : k < n
    · obtain ⟨b, off, rfl, hc⟩ := HX.out.rd.pos hlt
      have hck := hc k hlt
      have hcp : 0 < k → w.cell? ⟨b, off + (k - 1), none⟩ = some (.string (nthS xs (k - 1))) := fun _ => hc (k - 1) (by omega)
      have hz := HX.out.fit k
      have next : ascAt xs k = true → Hid (allN (k + 1) (ascAt xs) = true) := fun h => allN_step HA.out h
      have stop : ascAt xs k = false → Hid (wordsAsc n xs = false) := fun h => allN_fail hlt h
      clear hc
      cases hf : wordOk (nthS xs k)
      · have N := stop (by simp [ascAt, hf]); clear next stop hcp
        go_wp2_with (go_at_call 18; refine (WordOk_any _ hz _).mono ?_; rintro e w' ⟨rfl, rfl⟩)
        go_ret
        exact ⟨ret_bool N.out.symm, rfl⟩
      · by_cases h0 : k = 0
        · subst h0
          rw [Nat.add_zero] at hck
          have N := next (by simp [ascAt, hf]); clear next stop hcp
          go_wp2_with (go_at_call 18; refine (WordOk_any _ hz _).mono ?_; rintro e w' ⟨rfl, rfl⟩)
          go_round
          case rel => exact ⟨1, by omega, by go_num, N.out⟩
          case measure => simp [intOf]; omega
        · have h0' : 0 < k := by omega
          have hc1 := hcp h0'
          clear hcp h0
          cases hl : Op.bytesLess (nthS xs (k - 1)).toList (nthS xs k).toList
          · have N := stop (by simp [ascAt, lessS, hf, hl]; omega); clear next stop
            go_wp2_with (go_at_call 18; refine (WordOk_any _ hz _).mono ?_; rintro e w' ⟨rfl, rfl⟩)
            go_ret
            exact ⟨ret_bool N.out.symm, rfl⟩
          · have N := next (by simp [ascAt, lessS, hf, hl]); clear next stop
            go_wp2_with (go_at_call 18; refine (WordOk_any _ hz _).mono ?_; rintro e w' ⟨rfl, rfl⟩)
            go_round
            case rel => exact ⟨k + 1, by omega, by go_num, N.out⟩
            case measure => simp [intOf]; omega
    · obtain rfl : k = n := by omega
      go_wp2_with fail
      go_ret
      exact ⟨ret_bool HA.out.symm, rfl⟩
end Go.Proofs.Ytejooloflcldiaa
