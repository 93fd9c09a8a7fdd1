/- The walks of the laws' marks: the letter m and figures. Conditions: numbers that are not too great. -/
import Derived.Test.YtlbopihffpodkaaDoorStrs
import Derived.Deep.RegionWith
namespace Go.Proofs.YtlbopihffpodkaaDoor
set_option maxRecDepth 100000
open Go.RowKit

/-- A number in figures, nothing for nought. -/
def digs (k : Nat) : List UInt8 := if _h : k = 0 then [] else digs (k / 10) ++ [UInt8.ofNat (48 + k % 10)]
theorem digs_zero : digs 0 = [] := by rw [digs]; rfl
theorem digs_pos {k : Nat} (h : 0 < k) : digs k = digs (k / 10) ++ [UInt8.ofNat (48 + k % 10)] := by rw [digs, dif_neg (by omega)]
theorem digs_len : ∀ k : Nat, (digs k).length ≤ k := by
  intro k
  induction k using Nat.strongRecOn with
  | ind k ih =>
    by_cases h : k = 0
    · subst h; rw [digs_zero]; exact Nat.le_refl _
    · rw [digs_pos (by omega), List.length_append]
      have := ih (k / 10) (by omega)
      simp only [List.length_cons, List.length_nil]
      omega
def markS (k : Nat) : ByteArray := ⟨(109 :: digs k).toArray⟩
def one8 (n : Nat) : ByteArray := ⟨#[UInt8.ofNat n]⟩
theorem cv_one {w : World} (x : Int) (g : Nat) (hx : w.cell? ⟨g, 0, none⟩ = some (.int .u8 x)) : (convert 22 9 (.slice (some ⟨g, 0, none⟩) 1 1)).run Tryd.prog w = .ok (.string (one8 x.toNat)) w := by
  have hc : ∀ i, i < 1 → w.cell? ⟨g, 0 + i, none⟩ = some (.int .u8 ([x].getD i 0)) := by
    intro i hi
    obtain rfl : i = 0 := by omega
    simpa using hx
  rw [run_convert_bytes_arg (P := Tryd.prog) w 22 5 Tryd.underlying22 Tryd.underlying5 g 0 1 1 [x] rfl hc 9 Tryd.underlying9]
  rfl
theorem one8_app (n : Nat) (out : List UInt8) : one8 n ++ (⟨out.toArray⟩ : ByteArray) = ⟨(UInt8.ofNat n :: out).toArray⟩ := by
  apply ByteArray.ext; simp [one8, ByteArray.data_append]
theorem m_app (out : List UInt8) : (⟨#[109]⟩ : ByteArray) ++ (⟨out.toArray⟩ : ByteArray) = ⟨(109 :: out).toArray⟩ := by
  apply ByteArray.ext; simp [ByteArray.data_append]
theorem one8_size (n : Nat) : (one8 n).size = 1 := rfl
set_option maxHeartbeats 400000 in
theorem markText_any (k : Nat) (h0 : 0 < k) (h1 : k ≤ 1152921504606846976) (w : World) :
    Calls Tryd.prog 61 #[.int .i64 k] w fun e w' => e = .returned (.string (markS k)) ∧ Below w.heap.size w w' := by
  go_enter Tryd.func61, Tryd.ntmps61
  go_wp2_with fail
  go_loopw [0, 3] (fun v o wr => ∃ (m : Nat) (out : List UInt8), v = .int .i64 m ∧ m ≤ k ∧ o = .string ⟨out.toArray⟩ ∧ digs m ++ out = digs k ∧ Below w.heap.size w wr) (fun v _ _ => (intOf v).toNat)
  case atStart => exact ⟨k, [], rfl, Nat.le_refl _, rfl, List.append_nil _, Below.refl _ _⟩
  case round =>
    obtain ⟨m, out, rfl, hm, rfl, heq, hb⟩ := hrel
    have HE := Lib.hid heq; clear heq
    have HB := Lib.hid hb; clear hb
    by_cases hp : 0 < m
    · have hc := cv_one (w := wr.alloc (.cells #[.int .u8 (48 + (m : Int) % 10)] 5)) (48 + (m : Int) % 10) wr.heap.size (World.cell?_alloc_at _ _ _ _ rfl)
      have hl : out.length ≤ k := by
        have h1 := digs_len k
        have h2 := congrArg List.length HE.out
        rw [List.length_append] at h2
        omega
      have hz : (one8 (48 + m % 10)).size + out.length ≤ 9223372036854775807 := by rw [one8_size]; omega
      have HD := Lib.hid (digs_pos hp)
      have HB2 := Lib.hid (HB.out.alloc HB.out.size (.cells #[.int .u8 (48 + (m : Int) % 10)] 5))
      go_wp2_with fail
      go_roundw
      case rel => exact ⟨m / 10, UInt8.ofNat (48 + m % 10) :: out, by go_num, by omega, vstr (one8_app _ _), by rw [← HE.out, HD.out]; simp, HB2.out⟩
      case measure => simp [intOf]; omega
    · obtain rfl : m = 0 := by omega
      have hl : out.length ≤ k := by
        have h1 := digs_len k
        have h2 := congrArg List.length HE.out
        rw [List.length_append] at h2
        omega
      have hz : (⟨#[109]⟩ : ByteArray).size + out.length ≤ 9223372036854775807 := by show 1 + _ ≤ _; omega
      go_wp2_with fail
      go_ret
      exact ⟨ret_str (by have h := HE.out; rw [digs_zero] at h; simp only [List.nil_append] at h; rw [m_app, h]; rfl), HB.out⟩
def marksS (k : Nat) (j : Nat) : Value := .string (markS (k + j))
end Go.Proofs.YtlbopihffpodkaaDoor
