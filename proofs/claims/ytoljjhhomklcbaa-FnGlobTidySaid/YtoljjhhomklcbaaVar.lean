/- The walks of numbers written as bytes, seven bits each. Conditions: the strings fit the model's sizes. -/
import Derived.Test.YtoljjhhomklcbaaMem
import Derived.Test.YtoljjhhomklcbaaText
namespace Go.Proofs.Ytoljjhhomklcbaa
open Go.RowKit

/-- A number in groups of seven bits, the lowest first; all but the last with the highest bit. -/
def varI (n : Nat) : List Int := if _h : n < 128 then [(n : Int)] else ((n % 128 + 128 : Nat) : Int) :: varI (n / 128)
theorem varI_small {n : Nat} (h : n < 128) : varI n = [(n : Int)] := by rw [varI, dif_pos h]
theorem varI_big {n : Nat} (h : ¬ n < 128) : varI n = ((n % 128 + 128 : Nat) : Int) :: varI (n / 128) := by rw [varI, dif_neg h]
theorem varI_len : ∀ n : Nat, (varI n).length ≤ n + 1 := by
  intro n
  induction n using Nat.strongRecOn with
  | ind n ih =>
    by_cases h : n < 128
    · rw [varI_small h]; simp
    · rw [varI_big h]
      have := ih (n / 128) (by omega)
      simp only [List.length_cons]; omega
def varS (n : Nat) : ByteArray := strOfNums (varI n)
def numOk (n : Int) : Bool := decide (0 ≤ n) && decide (n ≤ 999999999)
def varPut (n : Int) : ByteArray := if numOk n then varS n.toNat else ⟨#[]⟩
theorem varPut_nat {m : Nat} (h : m ≤ 999999999) : varPut (m : Int) = varS m := by
  have hno : numOk (m : Int) = true := by unfold numOk; rw [← Bool.decide_and]; exact decide_eq_true (by omega)
  rw [varPut, hno, if_pos rfl, Int.toNat_natCast]
theorem info_u8 : (Try.prog.info? 5).map (fun i => (i.zero, i.size, i.bytes)) = some (some (.int .u8 0), 1, 1) := by kernel_rfl
/-- Bytes that the call itself made are turned into a string. -/
theorem cv_own {w : World} {B n cap : Nat} {a : Option Addr} {L : List Int} (h : w.ownsRow B 5 1 (.slice a n cap) n (L.map (Value.int .u8))) (hl : L.length = n) (h0 : 0 < n) :
    (convert 22 9 (.slice a n cap)).run Try.prog w = .ok (.string (strOfNums L)) w := by
  obtain ⟨g, rfl, _, _⟩ := own_pos h h0
  refine run_convert_bytes_arg (P := Try.prog) w 22 5 Try.underlying22 Try.underlying5 g 0 n cap L hl (fun i hi => ?_) 9 Try.underlying9
  rw [Nat.zero_add, h.cellAt i (by omega)]
  simp [List.getD, show i < L.length from by omega]
theorem bytes_nil_made (w : World) : (w.alloc (.cells #[] 5)).ownsRow w.heap.size 5 1 (.slice (some ⟨w.heap.size, 0, none⟩) 0 0) 0 (([] : List Int).map (Value.int .u8)) :=
  World.ownsRow_made w #[] 0 (Nat.le_refl _) (Nat.zero_le _) rfl
theorem cells_new1 (w : World) (v : Value) (e : TypeId) : ∀ j u, [v][j]? = some u → (w.alloc (.cells #[v] e)).cell? ((⟨w.heap.size, 0, none⟩ : Addr).add j) = some u := by
  intro j u hj
  match j, hj with
  | 0, hj => simp at hj; subst hj; simp [Addr.add]
set_option maxRecDepth 20000 in
set_option maxHeartbeats 1000000 in
theorem l3Var_any (n : Nat) (hn : n ≤ 4294967296) (w : World) :
    Calls Try.prog 69 #[.int .i64 n] w fun e w' => e = .returned (.string (varS n)) ∧ Below w.heap.size w w' := by
  obtain ⟨i0, hi, hz0, hz1, hz2⟩ := info_parts info_u8
  have HA := Lib.hid ((Below.refl w.heap.size w).alloc (Nat.le_refl _) (.cells #[] 5))
  have ON := Lib.hid (bytes_nil_made w)
  go_enter Try.func69, Try.ntmps69
  go_wp2_with fail
  go_loopw [0, 3] (fun v o wr => ∃ (m : Nat) (L : List Int) (a' : Option Addr) (c' : Nat), v = .int .i64 m ∧ m ≤ n ∧ o = .slice a' L.length c' ∧ L ++ varI m = varI n ∧ wr.ownsRow w.heap.size 5 1 (.slice a' L.length c') L.length (L.map (Value.int .u8)) ∧ Below w.heap.size w wr) (fun v _ _ => (intOf v).toNat)
  case atStart => exact ⟨n, [], _, _, rfl, Nat.le_refl _, rfl, rfl, ON.out, HA.out⟩
  case round =>
    obtain ⟨m, L, a', c', rfl, hm, rfl, heq, hown, hb⟩ := hrel
    have HE := Lib.hid heq; clear heq
    have HO := Lib.hid hown; clear hown
    have HB := Lib.hid hb; clear hb
    have hll : L.length ≤ n + 1 := by
      have h1 := varI_len n
      have h2 := congrArg List.length HE.out
      rw [List.length_append] at h2; omega
    by_cases hp : m < 128
    · have V := Lib.hid (varI_small hp)
      go_wp2_with (at_builtin; refine wpList_append_own _ rfl _ _ 22 rfl w.heap.size 5 i0 (.int .u8 0) 1 1 Try.underlying22 hi hz0 hz1 hz2 rfl (by decide) _ _ _ rfl (HO.out.alloc _) ⟨wr.heap.size, 0, none⟩ 1 1 [.int .u8 (m : Int)] rfl rfl ?c1 ?c2 ?c3 ?c4 ?c5 ?_)
      case c1 => exact cells_new1 wr _ _
      case c2 => intro u hu; simp at hu; subst hu; rfl
      case c3 => unfold maxLen; omega
      case c4 => omega
      case c5 => have := HB.out.size; simp; omega
      · intro v' w1 hown' hgrow _
        obtain ⟨a2, c2, hv⟩ := own_form hown'
        rw [hv] at hown'
        have hown2 : w1.ownsRow w.heap.size 5 1 (.slice a2 (L.length + 1) c2) (L.length + 1) ((L ++ [(m : Int)]).map (Value.int .u8)) := by simpa using hown'
        have hcv := cv_own hown2 (by simp) (by omega)
        have HC := Lib.hid (((HB.out.alloc HB.out.size _).grown hgrow (by have := HB.out.size; simp; omega) (fun k hk => (own_block HO.out k hk).1)))
        clear hgrow hown' hown2
        rw [hv]
        clear hv
        go_wp2_with fail
        go_ret
        exact ⟨ret_str (by rw [varS, ← HE.out, V.out]), HC.out⟩
    · have V := Lib.hid (varI_big hp)
      go_wp2_with (at_builtin; refine wpList_append_own _ rfl _ _ 22 rfl w.heap.size 5 i0 (.int .u8 0) 1 1 Try.underlying22 hi hz0 hz1 hz2 rfl (by decide) _ _ _ rfl (HO.out.alloc _) ⟨wr.heap.size, 0, none⟩ 1 1 [.int .u8 (128 + (m : Int) % 128)] rfl rfl ?c6 ?c7 ?c8 ?c9 ?c10 ?_)
      case c6 => exact cells_new1 wr _ _
      case c7 => intro u hu; simp at hu; subst hu; rfl
      case c8 => unfold maxLen; omega
      case c9 => omega
      case c10 => have := HB.out.size; simp; omega
      · intro v' w1 hown' hgrow _
        obtain ⟨a2, c2, hv⟩ := own_form hown'
        rw [hv] at hown'
        have HO2 := Lib.hid hown'
        have HC := Lib.hid (((HB.out.alloc HB.out.size _).grown hgrow (by have := HB.out.size; simp; omega) (fun k hk => (own_block HO.out k hk).1)))
        clear hgrow hown'
        rw [hv]
        clear hv
        go_wp2_with fail
        go_roundw
        case rel => exact ⟨m / 128, L ++ [128 + (m : Int) % 128], a2, c2, by go_num, by omega, by simp, by rw [← HE.out, V.out]; simp <;> omega, by have := HO2.out; simpa using this, HC.out⟩
        case measure => simp [intOf]; omega
set_option maxRecDepth 20000 in
set_option maxHeartbeats 1000000 in
theorem VarPut_yes (n : Nat) (hn : n ≤ 999999999) (w : World) :
    Calls Try.prog 21 #[.int .i64 n] w fun e w' => e = .returned (.string (varS n)) ∧ Below w.heap.size w w' := by
  obtain ⟨i0, hi, hz0, hz1, hz2⟩ := info_parts info_u8
  have HA := Lib.hid ((Below.refl w.heap.size w).alloc (Nat.le_refl _) (.cells #[] 5))
  have ON := Lib.hid (bytes_nil_made w)
  have hm' : (n : Int) ≤ 999999999 := by omega
  go_enter Try.func21, Try.ntmps21
  go_wp2_with fail
  refine (within_any _ _ _ _).mono ?_
  rintro e w' ⟨rfl, rfl⟩
  go_wp2_with fail
  go_loopw [0, 3] (fun v o wr => ∃ (m : Nat) (L : List Int) (a' : Option Addr) (c' : Nat), v = .int .i64 m ∧ m ≤ n ∧ o = .slice a' L.length c' ∧ L ++ varI m = varI n ∧ wr.ownsRow w.heap.size 5 1 (.slice a' L.length c') L.length (L.map (Value.int .u8)) ∧ Below w.heap.size w wr) (fun v _ _ => (intOf v).toNat)
  case atStart => exact ⟨n, [], _, _, rfl, Nat.le_refl _, rfl, rfl, ON.out, HA.out⟩
  case round =>
    obtain ⟨m, L, a', c', rfl, hm, rfl, heq, hown, hb⟩ := hrel
    have HE := Lib.hid heq; clear heq
    have HO := Lib.hid hown; clear hown
    have HB := Lib.hid hb; clear hb
    have hll : L.length ≤ n + 1 := by
      have h1 := varI_len n
      have h2 := congrArg List.length HE.out
      rw [List.length_append] at h2; omega
    by_cases hp : m < 128
    · have V := Lib.hid (varI_small hp)
      go_wp2_with (at_builtin; refine wpList_append_own _ rfl _ _ 22 rfl w.heap.size 5 i0 (.int .u8 0) 1 1 Try.underlying22 hi hz0 hz1 hz2 rfl (by decide) _ _ _ rfl (HO.out.alloc _) ⟨wr.heap.size, 0, none⟩ 1 1 [.int .u8 (m : Int)] rfl rfl ?c1 ?c2 ?c3 ?c4 ?c5 ?_)
      case c1 => exact cells_new1 wr _ _
      case c2 => intro u hu; simp at hu; subst hu; rfl
      case c3 => unfold maxLen; omega
      case c4 => omega
      case c5 => have := HB.out.size; simp; omega
      · intro v' w1 hown' hgrow _
        obtain ⟨a2, c2, hv⟩ := own_form hown'
        rw [hv] at hown'
        have hown2 : w1.ownsRow w.heap.size 5 1 (.slice a2 (L.length + 1) c2) (L.length + 1) ((L ++ [(m : Int)]).map (Value.int .u8)) := by simpa using hown'
        have hcv := cv_own hown2 (by simp) (by omega)
        have HC := Lib.hid (((HB.out.alloc HB.out.size _).grown hgrow (by have := HB.out.size; simp; omega) (fun k hk => (own_block HO.out k hk).1)))
        clear hgrow hown' hown2
        rw [hv]
        clear hv
        go_wp2_with fail
        go_ret
        exact ⟨ret_str (by rw [varS, ← HE.out, V.out]), HC.out⟩
    · have V := Lib.hid (varI_big hp)
      go_wp2_with (at_builtin; refine wpList_append_own _ rfl _ _ 22 rfl w.heap.size 5 i0 (.int .u8 0) 1 1 Try.underlying22 hi hz0 hz1 hz2 rfl (by decide) _ _ _ rfl (HO.out.alloc _) ⟨wr.heap.size, 0, none⟩ 1 1 [.int .u8 ((m : Int) % 128 + 128)] rfl rfl ?c6 ?c7 ?c8 ?c9 ?c10 ?_)
      case c6 => exact cells_new1 wr _ _
      case c7 => intro u hu; simp at hu; subst hu; rfl
      case c8 => unfold maxLen; omega
      case c9 => omega
      case c10 => have := HB.out.size; simp; omega
      · intro v' w1 hown' hgrow _
        obtain ⟨a2, c2, hv⟩ := own_form hown'
        rw [hv] at hown'
        have HO2 := Lib.hid hown'
        have HC := Lib.hid (((HB.out.alloc HB.out.size _).grown hgrow (by have := HB.out.size; simp; omega) (fun k hk => (own_block HO.out k hk).1)))
        clear hgrow hown'
        rw [hv]
        clear hv
        go_wp2_with fail
        go_roundw
        case rel => exact ⟨m / 128, L ++ [(m : Int) % 128 + 128], a2, c2, by go_num, by omega, by simp, by rw [← HE.out, V.out]; simp <;> omega, by have := HO2.out; simpa using this, HC.out⟩
        case measure => simp [intOf]; omega
theorem VarPut_any (n : Int) (w : World) :
    Calls Try.prog 21 #[.int .i64 n] w fun e w' => e = .returned (.string (varPut n)) ∧ Below w.heap.size w w' := by
  by_cases h : 0 ≤ n ∧ n ≤ 999999999
  · obtain ⟨m, rfl⟩ := Int.eq_ofNat_of_zero_le h.1
    refine (VarPut_yes m (by omega) w).mono fun e w' hh => ?_
    have : varPut (m : Int) = varS m := varPut_nat (by omega)
    rw [this]; exact hh
  · have hv : numOk n = false := by unfold numOk; rw [← Bool.decide_and]; exact decide_eq_false h
    have HV := Lib.hid (show varPut n = ⟨#[]⟩ by rw [varPut, hv]; rfl)
    unfold numOk at hv
    clear h
    go_enter Try.func21, Try.ntmps21
    go_wp2_with fail
    refine (within_any _ _ _ _).mono ?_
    rintro e w' ⟨rfl, rfl⟩
    simp only [Bool.decide_and, hv]
    go_wp2_with fail
    go_ret
    exact ⟨ret_str HV.out.symm, Below.refl _ _⟩
end Go.Proofs.Ytoljjhhomklcbaa
