/- How the arguments of this seat's laws are opened: slices of strings and of integers, by what they read as. No condition. -/
import Derived.Test.YtlbopihffpodkaaDoorMem
import Derived.ProofKit
import Derived.OpenShut
import Derived.ShutString
import Derived.ChangeOld
import Derived.Below
import Derived.SliceStrings
namespace Go.Proofs.YtlbopihffpodkaaDoor
set_option maxRecDepth 100000
open Go.ChangeShapes Go.WideShapes Go.RowKit
open Go.ChangeMaps (open_string shut_string)

theorem own : ownKnob Tryd.prog.godebug = none := by kernel_rfl
theorem laidOut : laidOutB Tryd.prog = true := by kernel_rfl

section
variable {H : Type} {enc : TypeId × Value → H} {W : World} {base : Nat} {v : Value} {d : DataW H} {p : List MemPlace}
theorem open_S (hv : Value.okWide Tryd.prog W .any base 54 v) (h : DataW.Trod enc Tryd.prog W 0 (fun _ => true) true 54 v d p) :
    ∃ a n cap xs, v = .slice a n cap ∧ Strs W a n xs ∧ n ≤ maxLen := by
  obtain ⟨a, n, cap, rfl⟩ := okWide_slice Tryd.underlying54 hv
  obtain ⟨fuel, hf⟩ := h
  refine ⟨a, n, cap, ?_⟩
  rcases open_strings Tryd.underlying54 Tryd.underlying9 (by kernel_rfl) hf with ⟨hcs, _⟩ | ⟨x, l, c, ss, hcs, _, hl, hm, hz, _, hcell, hws⟩
  · simp [Value.cells] at hcs
    obtain ⟨rfl, rfl, rfl⟩ := hcs
    exact ⟨[], rfl, ⟨rfl, fun j => by simp [nthS], Rd.zero⟩, Nat.zero_le _⟩
  · simp [Value.cells] at hcs
    obtain ⟨rfl, rfl, rfl⟩ := hcs
    have hz' : ss.length = cap := by simpa using hz
    refine ⟨ss.take n, rfl, ⟨by simp; omega, fun j => ?_, ?_⟩, by omega⟩
    · unfold nthS
      cases hj : (ss.take n)[j]? with
      | none => simp
      | some s => exact hws s (List.mem_of_mem_take (List.mem_of_getElem? hj))
    · rcases Nat.eq_zero_or_pos n with h0 | h0
      · exact .inl (by omega)
      · obtain ⟨b, off, spot⟩ := x
        have h1 := hcell 0 (by omega)
        have hspot : spot = none := by simpa [Addr.add] using World.cell?_spot h1
        subst hspot
        refine .inr ⟨b, off, rfl, fun j hj => ?_⟩
        have h2 := hcell j (by omega)
        have e1 : (⟨b, off, none⟩ : Addr).add j = ⟨b, off + j, none⟩ := by unfold Addr.add; split <;> simp_all
        rw [e1] at h2
        rw [h2]
        simp [nthS, hj]
theorem open_I (hv : Value.okWide Tryd.prog W .any base 70 v) (h : DataW.Trod enc Tryd.prog W 0 (fun _ => true) true 70 v d p) :
    ∃ a n cap xs, v = .slice a n cap ∧ Ints W .i64 a n xs ∧ n ≤ maxLen := by
  obtain ⟨a, n, cap, rfl⟩ := okWide_slice Tryd.underlying70 hv
  obtain ⟨fuel, hf⟩ := h
  refine ⟨a, n, cap, ?_⟩
  rcases open_ints Tryd.underlying70 Tryd.underlying3 (by kernel_rfl) hf with ⟨hcs, _⟩ | ⟨x, l, c, ss, hcs, _, hl, hm, hz, _, hcell, hws⟩
  · simp [Value.cells] at hcs
    obtain ⟨rfl, rfl, rfl⟩ := hcs
    exact ⟨[], rfl, ⟨rfl, fun j => by simp [nthI]; decide, Rd.zero⟩, Nat.zero_le _⟩
  · simp [Value.cells] at hcs
    obtain ⟨rfl, rfl, rfl⟩ := hcs
    have hz' : ss.length = cap := by simpa using hz
    refine ⟨ss.take n, rfl, ⟨by simp; omega, fun j => ?_, ?_⟩, by omega⟩
    · unfold nthI
      cases hj : (ss.take n)[j]? with
      | none => simp; decide
      | some s => exact hws s (List.mem_of_mem_take (List.mem_of_getElem? hj))
    · rcases Nat.eq_zero_or_pos n with h0 | h0
      · exact .inl (by omega)
      · obtain ⟨b, off, spot⟩ := x
        have h1 := hcell 0 (by omega)
        have hspot : spot = none := by simpa [Addr.add] using World.cell?_spot h1
        subst hspot
        refine .inr ⟨b, off, rfl, fun j hj => ?_⟩
        have h2 := hcell j (by omega)
        have e1 : (⟨b, off, none⟩ : Addr).add j = ⟨b, off + j, none⟩ := by unfold Addr.add; split <;> simp_all
        rw [e1] at h2
        rw [h2]
        simp [nthI, hj]
end
end Go.Proofs.YtlbopihffpodkaaDoor
