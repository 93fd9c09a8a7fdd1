/- The walks of what tells whether a text is one word, and of the bytes of words. Condition: the string fits the model's sizes. -/
import Derived.Test.YtlbopihffpodkaaDoorText
namespace Go.Proofs.YtlbopihffpodkaaDoor
set_option maxRecDepth 100000
open Go.RowKit

def wordB (c : Int) : Bool := decide ((97 ≤ c ∧ c ≤ 122) ∨ (48 ≤ c ∧ c ≤ 57))
def wordOk (s : ByteArray) : Bool := allB wordB s.data.toList && decide (1 ≤ s.size ∧ s.size ≤ 12)
/-- A great letter small, else the byte. -/
def lowB (c : Int) : Int := if 65 ≤ c ∧ c ≤ 90 then c + 32 else c
/-- The byte as words have it; 0 if it is in no word. -/
def foldB (c : Int) : Int := if 65 ≤ c ∧ c ≤ 90 then c + 32 else if wordB c then c else 0

theorem wordB_true {c : Int} (h : (97 ≤ c ∧ c ≤ 122) ∨ (48 ≤ c ∧ c ≤ 57)) : wordB c = true := by simpa [wordB] using h
theorem wordB_false {c : Int} (h : ¬((97 ≤ c ∧ c ≤ 122) ∨ (48 ≤ c ∧ c ≤ 57))) : wordB c = false := by simpa [wordB] using h
theorem wordB_iff {c : Int} : wordB c = true ↔ ((97 ≤ c ∧ c ≤ 122) ∨ (48 ≤ c ∧ c ≤ 57)) := by simp [wordB]
theorem foldB_eq {c : Int} (h : wordB c = true) : foldB c = c ∧ c ≠ 0 := by
  rw [wordB_iff] at h; unfold foldB; rw [if_neg (by omega), if_pos (wordB_iff.2 h)]; omega
theorem foldB_ne {c : Int} (h : wordB c = false) : foldB c ≠ c ∨ c = 0 := by
  unfold foldB; by_cases h1 : 65 ≤ c ∧ c ≤ 90
  · rw [if_pos h1]; omega
  · rw [if_neg h1, h]; simp; omega

theorem wordByte_any (c : Int) (w : World) :
    Calls Tryd.prog 53 #[.int .u8 c] w fun e w' => e = .returned (.bool (wordB c)) ∧ w = w' := by
  go_enter Tryd.func53, Tryd.ntmps53
  go_wp2
  all_goals (go_ret; refine ⟨ret_bool ?_, rfl⟩; rw [Bool.eq_iff_iff]; simp [wordB]; try omega)
theorem l1Fold_any (c : Int) (h0 : 0 ≤ c) (h1 : c ≤ 255) (w : World) :
    Calls Tryd.prog 67 #[.int .u8 c] w fun e w' => e = .returned (.int .u8 (foldB c)) ∧ w = w' := by
  by_cases h : 65 ≤ c ∧ c ≤ 90
  · obtain ⟨ha, hb⟩ := h
    go_enter Tryd.func67, Tryd.ntmps67
    go_wp2
    all_goals (go_ret; exact ⟨ret_int (by rw [foldB, if_pos ⟨ha, hb⟩]), rfl⟩)
  · by_cases hw : (97 ≤ c ∧ c ≤ 122) ∨ (48 ≤ c ∧ c ≤ 57)
    · have hv : foldB c = c := by rw [foldB, if_neg h, if_pos (wordB_iff.2 hw)]
      have HV := Lib.hid hv; clear hv
      rcases hw with ⟨ha, hb⟩ | ⟨ha, hb⟩
      all_goals
        go_enter Tryd.func67, Tryd.ntmps67
        go_wp2
        all_goals (go_ret; exact ⟨ret_int HV.out.symm, rfl⟩)
    · have hv : foldB c = 0 := by rw [foldB, if_neg h, wordB_false hw]; rfl
      have HV := Lib.hid hv; clear hv
      go_enter Tryd.func67, Tryd.ntmps67
      go_wp2
      all_goals first | (exfalso; omega) | (go_ret; exact ⟨ret_int HV.out.symm, rfl⟩)
theorem WordOk_any (s : ByteArray) (hs : s.size ≤ maxLen) (w : World) :
    Calls Tryd.prog 27 #[.string s] w fun e w' => e = .returned (.bool (wordOk s)) ∧ w = w' := by
  unfold maxLen at hs
  go_enter Tryd.func27, Tryd.ntmps27
  go_wp2_with fail
  go_loop [6] (fun i => ∃ k : Nat, k ≤ s.size ∧ i = .int .i64 k ∧ allB wordB (s.data.toList.take k) = true) (fun i => s.size - (intOf i).toNat)
  case atStart => exact ⟨0, Nat.zero_le _, rfl, rfl⟩
  case round =>
    obtain ⟨k, hk, rfl, hall⟩ := hrel
    have HA := Lib.hid hall; clear hall
    by_cases hlt : k < s.size
    · cases hf : wordB ((s[k]'hlt).toNat : Int)
      · go_wp2_with (go_at_call 53; refine (wordByte_any _ _).mono ?_; rintro e w' ⟨rfl, rfl⟩)
        go_ret
        exact ⟨ret_bool (by rw [wordOk, allB_fail hlt hf]; rfl), rfl⟩
      · go_wp2_with (go_at_call 53; refine (wordByte_any _ _).mono ?_; rintro e w' ⟨rfl, rfl⟩)
        go_round
        case rel => exact ⟨k + 1, by omega, by go_num, allB_step hlt HA.out hf⟩
        case measure => simp [intOf]; omega
    · go_wp2_with (go_at_call 26; refine (within_any _ _ _ _).mono ?_; rintro e w' ⟨rfl, rfl⟩)
      go_ret
      exact ⟨ret_bool (by rw [wordOk, allB_full (by omega) HA.out, Bool.true_and, Bool.eq_iff_iff]; simp only [Bool.and_eq_true, decide_eq_true_eq]; omega), rfl⟩
theorem l1WordOk_any (s : ByteArray) (hs : s.size ≤ maxLen) (w : World) :
    Calls Tryd.prog 49 #[.string s] w fun e w' => e = .returned (.bool (wordOk s)) ∧ Drw w w' := by
  unfold maxLen at hs
  go_enter Tryd.func49, Tryd.ntmps49
  go_wp2_with fail
  go_loopw [3] (fun i wr => ∃ k : Nat, k ≤ s.size ∧ i = .int .i64 k ∧ allB wordB (s.data.toList.take k) = true ∧ Drw w wr) (fun i _ => s.size - (intOf i).toNat)
  case atStart => exact ⟨0, Nat.zero_le _, rfl, rfl, Drw.refl _⟩
  case round =>
    obtain ⟨k, hk, rfl, hall, hd⟩ := hrel
    have HA := Lib.hid hall; clear hall
    have HD := Lib.hid hd; clear hd
    by_cases hlt : k < s.size
    · have hc0 : (0 : Int) ≤ ((s[k]'hlt).toNat : Int) := by omega
      have hc1 : ((s[k]'hlt).toNat : Int) ≤ 255 := by have := (s[k]'hlt).toNat_lt; omega
      cases hf : wordB ((s[k]'hlt).toNat : Int)
      · have hor := foldB_ne hf
        by_cases hne : foldB ((s[k]'hlt).toNat : Int) = ((s[k]'hlt).toNat : Int)
        · have hz : ((s[k]'hlt).toNat : Int) = 0 := by rcases hor with h | h; exact absurd hne h; exact h
          have HF := Lib.hid hf; clear hf hor
          have hb1 : (foldB ((s[k]'hlt).toNat : Int) != ((s[k]'hlt).toNat : Int)) = false := by simpa using hne
          have hb2 : (((s[k]'hlt).toNat : Int) == 0) = true := by simpa using hz
          have HZ := Lib.hid hz; clear hz
          clear hne
          go_wp2_with fail
          go_quiet ((go_at_call 67; exact quiet_l (l1Fold_any _ hc0 hc1 _)))
          go_wp2_with fail
          go_ret
          exact ⟨ret_bool (by rw [wordOk, allB_fail hlt HF.out]; rfl), HD.out.trans (Drw.mk _ _)⟩
        · have HF := Lib.hid hf; clear hf hor
          have hb1 : (foldB ((s[k]'hlt).toNat : Int) != ((s[k]'hlt).toNat : Int)) = true := by simpa using hne
          clear hne
          go_wp2_with fail
          go_quiet ((go_at_call 67; exact quiet_l (l1Fold_any _ hc0 hc1 _)))
          go_wp2_with fail
          go_ret
          exact ⟨ret_bool (by rw [wordOk, allB_fail hlt HF.out]; rfl), HD.out.trans (Drw.mk _ _)⟩
      · have hfe := foldB_eq hf
        have hb1 : (foldB ((s[k]'hlt).toNat : Int) != ((s[k]'hlt).toNat : Int)) = false := by simpa using hfe.1
        have hb2 : (((s[k]'hlt).toNat : Int) == 0) = false := by simpa using hfe.2
        have HF := Lib.hid hf; clear hf hfe
        go_wp2_with fail
        go_quiet ((go_at_call 67; exact quiet_l (l1Fold_any _ hc0 hc1 _)))
        go_wp2_with fail
        go_roundw
        case rel => exact ⟨k + 1, by omega, by go_num, allB_step hlt HA.out HF.out, HD.out.trans (Drw.mk _ _)⟩
        case measure => simp [intOf]; omega
    · go_wp2_with (go_at_call 51; refine (l1In_any _ _ _ _).mono ?_; rintro e w' ⟨rfl, rfl⟩)
      go_ret
      exact ⟨ret_bool (by rw [wordOk, allB_full (by omega) HA.out, Bool.true_and, Bool.eq_iff_iff]; simp only [Bool.and_eq_true, decide_eq_true_eq]; omega), HD.out⟩
end Go.Proofs.YtlbopihffpodkaaDoor
