/- How documents are opened, by what they read as. No condition. -/
import Derived.Test.YtlbopihffpodkaaDoorOpen
import Derived.Test.YtlbopihffpodkaaDoorDocS
import Derived.Deep.SlicePairs
import Derived.Lib.SmallJoins
namespace Go.Proofs.YtlbopihffpodkaaDoor
set_option maxRecDepth 100000
open Go.ChangeShapes Go.WideShapes Go.RowKit Go.Deep
instance : Inhabited Fd := ⟨⟨ByteArray.empty, ByteArray.empty⟩⟩
instance : Inhabited Ad := ⟨⟨ByteArray.empty, 0⟩⟩
/-- A document with where it lies. -/
structure DocA where
  id : Int
  a : Option Addr
  n : Nat
  c : Nat
  fs : List Fd
  b : Option Addr
  m : Nat
  d : Nat
  ns : List Ad
def DocA.v (x : DocA) : Value := docV x.id x.a x.n x.c x.b x.m x.d
structure DocA.In (x : DocA) (w : World) : Prop where
  f : Flds w x.a x.n x.fs
  g : Atts w x.b x.m x.ns
  hn : x.n ≤ maxLen
  hm : x.m ≤ maxLen
section
variable {H : Type} {enc : TypeId × Value → H} {W : World} {base : Nat} {v : Value} {d : DataW H} {p : List MemPlace}
theorem add_none (b off j : Nat) : (⟨b, off, none⟩ : Addr).add j = ⟨b, off + j, none⟩ := by unfold Addr.add; split <;> simp_all
theorem open_flds {fuel : Nat} {cs : List Value} {x : DataW H × List MemPlace} (h : DataW.trod enc Tryd.prog W 0 (fun _ => true) true fuel 37 cs = some x) :
    ∃ a n cap fs, cs = [.slice a n cap] ∧ Flds W a n fs ∧ n ≤ maxLen := by
  rcases open_slice_pairs Tryd.underlying37 Tryd.underlying86 (by kernel_rfl) rfl rfl (by kernel_rfl) (by kernel_rfl) h with ⟨rfl, _⟩ | ⟨⟨b, off, spot⟩, len, cap, m, k, V0, V1, D0, D1, P0, P1, rfl, _, hl, hm, hmm, _, hx⟩
  · exact ⟨none, 0, 0, [], rfl, ⟨rfl, fun j => by simp [nthD], Rd.zero⟩, Nat.zero_le _⟩
  · have hlm : len ≤ m := by rw [hmm]; split <;> omega
    have each : ∀ i, i < len → ∃ f : Fd, V0 i = .string f.name ∧ V1 i = .string f.text ∧ f.name.size ≤ maxLen ∧ f.text.size ≤ maxLen := by
      intro i hi
      obtain ⟨_, _, t0, t1⟩ := hx i (by omega)
      obtain ⟨s0, e0, _, z0⟩ := DataW.trod_string Tryd.underlying9 t0
      obtain ⟨s1, e1, _, z1⟩ := DataW.trod_string Tryd.underlying9 t1
      exact ⟨⟨s0, s1⟩, by simpa using e0, by simpa using e1, z0, z1⟩
    obtain ⟨q, hq⟩ := choose_lt each
    have nth : ∀ j, j < len → nthD ((List.range len).map q) j = q j := fun j hj => by simp [nthD, hj]
    refine ⟨some ⟨b, off, spot⟩, len, cap, (List.range len).map q, rfl, ⟨by simp, fun j => ?_, ?_⟩, by omega⟩
    · by_cases hj : j < len
      · rw [nth j hj]; exact ⟨(hq j hj).2.2.1, (hq j hj).2.2.2⟩
      · simp [nthD, hj]
    · rcases Nat.eq_zero_or_pos len with h0 | h0
      · exact .inl (by omega)
      · have hspot : spot = none := by simpa [Addr.add] using World.cell?_spot (hx 0 (by omega)).1
        subst hspot
        refine .inr ⟨b, off, rfl, fun j hj => ?_⟩
        have hj2 : j / 2 < len := by omega
        obtain ⟨h1, h2, _⟩ := hx (j / 2) (by omega)
        obtain ⟨g1, g2, _⟩ := hq (j / 2) hj2
        rw [add_none] at h1 h2
        rw [fdC, nth _ hj2]
        split
        · rw [show off + j = off + j / 2 * 2 by omega, h1, g1]
        · rw [show off + j = off + (j / 2 * 2 + 1) by omega, h2, g2]
theorem open_atts {fuel : Nat} {cs : List Value} {x : DataW H × List MemPlace} (h : DataW.trod enc Tryd.prog W 0 (fun _ => true) true fuel 38 cs = some x) :
    ∃ a n cap fs, cs = [.slice a n cap] ∧ Atts W a n fs ∧ n ≤ maxLen := by
  rcases open_slice_pairs Tryd.underlying38 Tryd.underlying88 (by kernel_rfl) rfl rfl (by kernel_rfl) (by kernel_rfl) h with ⟨rfl, _⟩ | ⟨⟨b, off, spot⟩, len, cap, m, k, V0, V1, D0, D1, P0, P1, rfl, _, hl, hm, hmm, _, hx⟩
  · exact ⟨none, 0, 0, [], rfl, ⟨rfl, fun j => by simp [nthA]; decide, Rd.zero⟩, Nat.zero_le _⟩
  · have hlm : len ≤ m := by rw [hmm]; split <;> omega
    have each : ∀ i, i < len → ∃ f : Ad, V0 i = .string f.name ∧ V1 i = .int .i64 f.num ∧ f.name.size ≤ maxLen ∧ (Lit.int .i64 f.num).wf = true := by
      intro i hi
      obtain ⟨_, _, t0, t1⟩ := hx i (by omega)
      obtain ⟨s0, e0, _, z0⟩ := DataW.trod_string Tryd.underlying9 t0
      obtain ⟨s1, e1, _, z1⟩ := DataW.trod_int Tryd.underlying3 t1
      exact ⟨⟨s0, s1⟩, by simpa using e0, by simpa using e1, z0, z1⟩
    obtain ⟨q, hq⟩ := choose_lt each
    have nth : ∀ j, j < len → nthA ((List.range len).map q) j = q j := fun j hj => by simp [nthA, hj]
    refine ⟨some ⟨b, off, spot⟩, len, cap, (List.range len).map q, rfl, ⟨by simp, fun j => ?_, ?_⟩, by omega⟩
    · by_cases hj : j < len
      · rw [nth j hj]; exact ⟨(hq j hj).2.2.1, (hq j hj).2.2.2⟩
      · simp [nthA, hj]; decide
    · rcases Nat.eq_zero_or_pos len with h0 | h0
      · exact .inl (by omega)
      · have hspot : spot = none := by simpa [Addr.add] using World.cell?_spot (hx 0 (by omega)).1
        subst hspot
        refine .inr ⟨b, off, rfl, fun j hj => ?_⟩
        have hj2 : j / 2 < len := by omega
        obtain ⟨h1, h2, _⟩ := hx (j / 2) (by omega)
        obtain ⟨g1, g2, _⟩ := hq (j / 2) hj2
        rw [add_none] at h1 h2
        rw [adC, nth _ hj2]
        split
        · rw [show off + j = off + j / 2 * 2 by omega, h1, g1]
        · rw [show off + j = off + (j / 2 * 2 + 1) by omega, h2, g2]
theorem open_D (hv : Value.okWide Tryd.prog W .any base 40 v) (h : DataW.Trod enc Tryd.prog W 0 (fun _ => true) true 40 v d p) :
    ∃ x : DocA, v = x.v ∧ x.In W := by
  obtain ⟨v0, v1, v2, y0, y1, y2, n, rfl, _, _, h0, h1, h2⟩ := Go.Joins.open_agg3 Tryd.underlying40 (by kernel_rfl) (by kernel_rfl) hv h
  obtain ⟨i, e0, _, _⟩ := DataW.trod_int Tryd.underlying3 h0
  obtain ⟨a, n1, c1, fs, e1, hf, l1⟩ := open_flds h1
  obtain ⟨b, n2, c2, ns, e2, hg, l2⟩ := open_atts h2
  obtain rfl : v0 = .int .i64 i := by simpa using e0
  obtain rfl : v1 = .slice a n1 c1 := by simpa using e1
  obtain rfl : v2 = .slice b n2 c2 := by simpa using e2
  exact ⟨⟨i, a, n1, c1, fs, b, n2, c2, ns⟩, rfl, hf, hg, l1, l2⟩
end
end Go.Proofs.YtlbopihffpodkaaDoor
