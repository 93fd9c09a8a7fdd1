/- How readings of words are opened, by what they read as. No condition. -/
import Derived.Test.YtejooloflcldiaaOpen
import Derived.Test.YtejooloflcldiaaSyn
import Derived.Deep.SlicePairs
import Derived.Lib.SmallJoins
namespace Go.Proofs.Ytejooloflcldiaa
open Go.ChangeShapes Go.WideShapes Go.RowKit Go.Deep
open Go.ChangeMaps (open_string)
instance : Inhabited SynA := ⟨SynA.none⟩
section
variable {H : Type} {enc : TypeId × Value → H} {W : World} {base : Nat} {v : Value} {d : DataW H} {p : List MemPlace}
theorem add_none (b off j : Nat) : (⟨b, off, none⟩ : Addr).add j = ⟨b, off + j, none⟩ := by unfold Addr.add; split <;> simp_all
theorem open_strs {fuel : Nat} {cs : List Value} {x : DataW H × List MemPlace} (hf : DataW.trod enc Try.prog W 0 (fun _ => true) true fuel 22 cs = some x) :
    ∃ a n cap xs, cs = [.slice a n cap] ∧ Strs W a n xs ∧ n ≤ maxLen := by
  rcases open_strings Try.underlying22 Try.underlying9 (by kernel_rfl) hf with ⟨rfl, _⟩ | ⟨x, n, cap, ss, rfl, _, hl, hm, hz, _, hcell, hws⟩
  · exact ⟨none, 0, 0, [], rfl, ⟨rfl, fun j => by simp [nthS], Rd.zero⟩, Nat.zero_le _⟩
  · have hz' : ss.length = cap := by simpa using hz
    refine ⟨some x, n, cap, ss.take n, rfl, ⟨by simp; omega, fun j => ?_, ?_⟩, by omega⟩
    · unfold nthS
      cases hj : (ss.take n)[j]? with
      | none => simp
      | some s => exact hws s (List.mem_of_mem_take (List.mem_of_getElem? hj))
    · rcases Nat.eq_zero_or_pos n with h0 | h0
      · exact .inl (by omega)
      · obtain ⟨b, off, spot⟩ := x
        have h1 := hcell 0 (by omega)
        have hspot : spot = none := by simpa [Addr.add] using World.cell?_spot h1
        subst hspot
        refine .inr ⟨b, off, rfl, fun j hj => ?_⟩
        have h2 := hcell j (by omega)
        rw [add_none] at h2
        rw [h2]
        simp [nthS, hj]
theorem open_syns {fuel : Nat} {cs : List Value} {x : DataW H × List MemPlace} (h : DataW.trod enc Try.prog W 0 (fun _ => true) true fuel 23 cs = some x) :
    ∃ a n cap ys, cs = [.slice a n cap] ∧ Syns W a n ys ∧ n ≤ maxLen := by
  rcases open_slice_pairs Try.underlying23 Try.underlying80 (by kernel_rfl) rfl rfl (by kernel_rfl) (by kernel_rfl) h with ⟨rfl, _⟩ | ⟨⟨b, off, spot⟩, len, cap, m, k, V0, V1, D0, D1, P0, P1, rfl, _, hl, hm, hmm, _, hx⟩
  · exact ⟨none, 0, 0, [], rfl, ⟨rfl, fun j hj => by omega, Rd.zero⟩, Nat.zero_le _⟩
  · have hlm : len ≤ m := by rw [hmm]; split <;> omega
    have each : ∀ i, i < len → ∃ f : SynA, V0 i = .slice f.a f.n f.c ∧ V1 i = .string f.to ∧ f.In W := by
      intro i hi
      obtain ⟨_, _, t0, t1⟩ := hx i (by omega)
      obtain ⟨a, n, c, fs, e0, hs, hn⟩ := open_strs t0
      obtain ⟨s1, e1, _, z1⟩ := DataW.trod_string Try.underlying9 t1
      exact ⟨⟨a, n, c, fs, s1⟩, by simpa using e0, by simpa using e1, hs, hn, z1⟩
    obtain ⟨q, hq⟩ := choose_lt each
    have nth : ∀ j, j < len → nthY ((List.range len).map q) j = q j := fun j hj => by simp [nthY, hj]
    refine ⟨some ⟨b, off, spot⟩, len, cap, (List.range len).map q, rfl, ⟨by simp, fun j hj => by rw [nth j hj]; exact (hq j hj).2.2, ?_⟩, by omega⟩
    rcases Nat.eq_zero_or_pos len with h0 | h0
    · exact .inl (by omega)
    · have hspot : spot = none := by simpa [Addr.add] using World.cell?_spot (hx 0 (by omega)).1
      subst hspot
      refine .inr ⟨b, off, rfl, fun j hj => ?_⟩
      have hj2 : j / 2 < len := by omega
      obtain ⟨h1, h2, _⟩ := hx (j / 2) (by omega)
      obtain ⟨g1, g2, _⟩ := hq (j / 2) hj2
      rw [add_none] at h1 h2
      rw [syC, nth _ hj2]
      split
      · rw [show off + j = off + j / 2 * 2 by omega, h1, g1]
      · rw [show off + j = off + (j / 2 * 2 + 1) by omega, h2, g2]
theorem open_C (hv : Value.okWide Try.prog W .any base 25 v) (h : DataW.Trod enc Try.prog W 0 (fun _ => true) true 25 v d p) :
    ∃ x : ConfA, v = x.v ∧ x.In W := by
  obtain ⟨v0, v1, y0, y1, n, rfl, _, _, h0, h1⟩ := Go.Joins.open_agg2 Try.underlying25 (by kernel_rfl) (by kernel_rfl) hv h
  obtain ⟨a, n1, c1, fs, e1, hf, l1⟩ := open_strs h0
  obtain ⟨b, n2, c2, ns, e2, hg, l2⟩ := open_syns h1
  obtain rfl : v0 = .slice a n1 c1 := by simpa using e1
  obtain rfl : v1 = .slice b n2 c2 := by simpa using e2
  exact ⟨⟨a, n1, c1, fs, b, n2, c2, ns⟩, rfl, hf, hg, l1, l2⟩
end
end Go.Proofs.Ytejooloflcldiaa
