/- How slices of documents are opened, by what they read as. No condition. -/
import Derived.Test.YtlbopihffpodkaaDocL
import Derived.Deep.Slices
import Derived.Deep.Strs
namespace Go.Proofs.Ytlbopihffpodkaa
open Go.ChangeShapes Go.WideShapes Go.RowKit Go.Deep
instance : Inhabited DocA := ⟨DocA.none⟩
section
variable {H : Type} {enc : TypeId × Value → H} {W : World} {base : Nat} {v : Value} {d : DataW H} {p : List MemPlace}
theorem open_L (hv : Value.okWide Try.prog W .any base 49 v) (h : DataW.Trod enc Try.prog W 0 (fun _ => true) true 49 v d p) :
    ∃ a n cap xs, v = .slice a n cap ∧ Docs W a n xs ∧ n ≤ maxLen := by
  obtain ⟨a, n, cap, rfl⟩ := okWide_slice Try.underlying49 hv
  obtain ⟨fuel, hf⟩ := h
  refine ⟨a, n, cap, ?_⟩
  have ce : Try.prog.cellsOf 43 = 3 := by kernel_rfl
  have ce0 : Try.prog.cellsOf 3 = 1 := by kernel_rfl
  have ce1 : Try.prog.cellsOf 40 = 1 := by kernel_rfl
  have ce2 : Try.prog.cellsOf 41 = 1 := by kernel_rfl
  rcases open_slice Try.underlying49 hf with ⟨hcs, _⟩ | ⟨⟨b, off, spot⟩, l, c, m, k, D, Pl, hcs, _, hl, hm, hmm, _, hx⟩
  · simp [Value.cells] at hcs
    obtain ⟨rfl, rfl, rfl⟩ := hcs
    exact ⟨[], rfl, ⟨rfl, fun j hj => by omega, Rd.zero⟩, Nat.zero_le _⟩
  · simp [Value.cells] at hcs
    obtain ⟨rfl, rfl, rfl⟩ := hcs
    have hlm : n ≤ m := by rw [hmm]; split <;> omega
    have each : ∀ i, i < n → ∃ x : DocA, x.In W ∧ W.cell? ((⟨b, off, spot⟩ : Addr).add (i * 3)) = some (.int .i64 x.id) ∧ W.cell? ((⟨b, off, spot⟩ : Addr).add (i * 3 + 1)) = some (.slice x.a x.n x.c) ∧ W.cell? ((⟨b, off, spot⟩ : Addr).add (i * 3 + 2)) = some (.slice x.b x.m x.d) := by
      intro i hi
      obtain ⟨cs', h1, h2⟩ := hx i (by omega)
      rw [ce] at h1
      obtain ⟨_, hlen, hcell⟩ := World.cells?_some h1
      obtain ⟨y0, y1, y2, n', _, _, h3, h4, h5⟩ := trod_struct3 Try.underlying43 h2
      match cs', hlen with
      | [v0, v1, v2], _ =>
        obtain ⟨q, e0, _, _⟩ := DataW.trod_int Try.underlying3 h3
        obtain ⟨a1, n1, c1, fs, e1, hf1, l1⟩ := open_flds h4
        obtain ⟨b2, n2, c2, ns, e2, hg2, l2⟩ := open_atts h5
        have f0 : v0 = .int .i64 q := by rw [ce0] at e0; simpa using e0
        have f1 : v1 = .slice a1 n1 c1 := by rw [ce1] at e1; simpa using e1
        have f2 : v2 = .slice b2 n2 c2 := by rw [ce2] at e2; simpa using e2
        have g0 := hcell 0 (by omega)
        have g1 := hcell 1 (by omega)
        have g2 := hcell 2 (by omega)
        rw [add_add] at g0 g1 g2
        subst f0 f1 f2
        exact ⟨⟨q, a1, n1, c1, fs, b2, n2, c2, ns⟩, ⟨hf1, hg2, l1, l2⟩, by simpa using g0, by simpa using g1, by simpa using g2⟩
    obtain ⟨q, hq⟩ := choose_lt each
    have nth : ∀ j, j < n → nthX ((List.range n).map q) j = q j := fun j hj => by simp [nthX, hj]
    refine ⟨(List.range n).map q, rfl, ⟨by simp, fun j hj => by rw [nth j hj]; exact (hq j hj).1, ?_⟩, by omega⟩
    rcases Nat.eq_zero_or_pos n with h0 | h0
    · exact .inl (by omega)
    · have hspot : spot = none := by simpa [Addr.add] using World.cell?_spot (hq 0 (by omega)).2.1
      subst hspot
      refine .inr ⟨b, off, rfl, fun j hj => ?_⟩
      have hj2 : j / 3 < n := by omega
      obtain ⟨_, h1, h2, h3⟩ := hq (j / 3) hj2
      rw [add_none] at h1 h2 h3
      rw [dcC, nth _ hj2]
      split
      · rw [show off + j = off + j / 3 * 3 by omega, h1]
      · split
        · rw [show off + j = off + (j / 3 * 3 + 1) by omega, h2]
        · rw [show off + j = off + (j / 3 * 3 + 2) by omega, h3]
end
end Go.Proofs.Ytlbopihffpodkaa
