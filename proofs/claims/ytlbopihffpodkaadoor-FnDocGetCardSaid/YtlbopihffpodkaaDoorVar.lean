/- The walks of numbers written as bytes, seven bits each. Conditions: the strings fit the model's sizes. -/
import Derived.Test.YtlbopihffpodkaaDoorMem
import Derived.Test.YtlbopihffpodkaaDoorText
namespace Go.Proofs.YtlbopihffpodkaaDoor
set_option maxRecDepth 100000
open Go.RowKit

/-- A number in groups of seven bits, the lowest first; all but the last with the highest bit. -/
def varI (n : Nat) : List Int := if _h : n < 128 then [(n : Int)] else ((n % 128 + 128 : Nat) : Int) :: varI (n / 128)
theorem varI_small {n : Nat} (h : n < 128) : varI n = [(n : Int)] := by rw [varI, dif_pos h]
theorem varI_big {n : Nat} (h : ¬ n < 128) : varI n = ((n % 128 + 128 : Nat) : Int) :: varI (n / 128) := by rw [varI, dif_neg h]
theorem varI_len : ∀ n : Nat, (varI n).length ≤ n + 1 := by
  intro n
  induction n using Nat.strongRecOn with
  | ind n ih =>
    by_cases h : n < 128
    · rw [varI_small h]; simp
    · rw [varI_big h]
      have := ih (n / 128) (by omega)
      simp only [List.length_cons]; omega
def varS (n : Nat) : ByteArray := strOfNums (varI n)
def numOk (n : Int) : Bool := decide (0 ≤ n) && decide (n ≤ 999999999)
def varPut (n : Int) : ByteArray := if numOk n then varS n.toNat else ⟨#[]⟩
theorem varPut_nat {m : Nat} (h : m ≤ 999999999) : varPut (m : Int) = varS m := by
  have hno : numOk (m : Int) = true := by unfold numOk; rw [← Bool.decide_and]; exact decide_eq_true (by omega)
  rw [varPut, hno, if_pos rfl, Int.toNat_natCast]
theorem info_u8 : (Tryd.prog.info? 5).map (fun i => (i.zero, i.size, i.bytes)) = some (some (.int .u8 0), 1, 1) := by kernel_rfl
/-- Bytes that the call itself made are turned into a string. -/
theorem cv_own {w : World} {B n cap : Nat} {a : Option Addr} {L : List Int} (h : w.ownsRow B 5 1 (.slice a n cap) n (L.map (Value.int .u8))) (hl : L.length = n) (h0 : 0 < n) :
    (convert 22 9 (.slice a n cap)).run Tryd.prog w = .ok (.string (strOfNums L)) w := by
  obtain ⟨g, rfl, _, _⟩ := own_pos h h0
  refine run_convert_bytes_arg (P := Tryd.prog) w 22 5 Tryd.underlying22 Tryd.underlying5 g 0 n cap L hl (fun i hi => ?_) 9 Tryd.underlying9
  rw [Nat.zero_add, h.cellAt i (by omega)]
  simp [List.getD, show i < L.length from by omega]
theorem bytes_nil_made (w : World) : (w.alloc (.cells #[] 5)).ownsRow w.heap.size 5 1 (.slice (some ⟨w.heap.size, 0, none⟩) 0 0) 0 (([] : List Int).map (Value.int .u8)) :=
  World.ownsRow_made w #[] 0 (Nat.le_refl _) (Nat.zero_le _) rfl
theorem cells_new1 (w : World) (v : Value) (e : TypeId) : ∀ j u, [v][j]? = some u → (w.alloc (.cells #[v] e)).cell? ((⟨w.heap.size, 0, none⟩ : Addr).add j) = some u := by
  intro j u hj
  match j, hj with
  | 0, hj => simp at hj; subst hj; simp [Addr.add]
end Go.Proofs.YtlbopihffpodkaaDoor
