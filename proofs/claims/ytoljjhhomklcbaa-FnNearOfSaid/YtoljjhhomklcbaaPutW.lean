/- A text put among others, in order. Conditions: what is read fits the model's sizes. -/
import Derived.Test.YtoljjhhomklcbaaDrawG
import Derived.Test.YtoljjhhomklcbaaGlobOf
import Derived.Test.YtoljjhhomklcbaaDrawN
import Derived.Test.YtoljjhhomklcbaaLawS
namespace Go.Proofs.Ytoljjhhomklcbaa
open Go.ChangeShapes Go.WideShapes Go.RowKit
theorem addr_add (b off j : Nat) : (⟨b, off, none⟩ : Addr).add j = ⟨b, off + j, none⟩ := by unfold Addr.add; split <;> simp_all
theorem one_strs (ys : List ByteArray) : ∀ u ∈ ys.map Value.string, u.oneCell' = true := by
  intro u hu
  simp only [List.mem_map] at hu
  obtain ⟨y, _, rfl⟩ := hu
  rfl
theorem src_take {w : World} {g n k : Nat} {xs : List ByteArray} (h : Strs w (some ⟨g, 0, none⟩) n xs) (hk : k ≤ n) : ∀ j u, ((xs.take k).map Value.string)[j]? = some u → w.cell? ((⟨g, 0, none⟩ : Addr).add j) = some u := by
  intro j u hj
  simp only [List.getElem?_map, List.getElem?_take] at hj
  by_cases hjk : j < k
  · rw [if_pos hjk] at hj
    have hc := h.cell (j := j) (by omega)
    rw [nthS_eq (by rw [h.len]; omega)] at hc
    rw [List.getElem?_eq_getElem (by rw [h.len]; omega)] at hj
    simp only [Option.map_some, Option.some.injEq] at hj
    rw [← hj]
    rw [addr_add]; exact hc
  · rw [if_neg hjk] at hj; cases hj
theorem src_drop {w : World} {g n k : Nat} {xs : List ByteArray} (h : Strs w (some ⟨g, 0, none⟩) n xs) (_hk : k ≤ n) : ∀ j u, ((xs.drop k).map Value.string)[j]? = some u → w.cell? ((⟨g, k, none⟩ : Addr).add j) = some u := by
  intro j u hj
  simp only [List.getElem?_map, List.getElem?_drop] at hj
  by_cases hjk : k + j < n
  · have hc := h.cell (j := k + j) hjk
    rw [Nat.zero_add] at hc
    rw [nthS_eq (by rw [h.len]; omega)] at hc
    rw [List.getElem?_eq_getElem (by rw [h.len]; omega)] at hj
    simp only [Option.map_some, Option.some.injEq] at hj
    rw [← hj]
    rw [addr_add]; exact hc
  · rw [List.getElem?_eq_none (by rw [h.len]; omega)] at hj; cases hj
theorem put_mem {xs zs : List ByteArray} {s : ByteArray} {k : Nat} (hz : ∀ y ∈ zs, y ∈ xs) : ∀ y ∈ xs.take k ++ [s] ++ zs, y ∈ xs ∨ y = s := by
  intro y hy
  simp only [List.mem_append, List.mem_singleton] at hy
  rcases hy with (hy | hy) | hy
  · exact .inl (List.mem_of_mem_take hy)
  · exact .inr hy
  · exact .inl (hz y hy)
theorem put_own {w : World} {B n cap : Nat} {a : Option Addr} {xs ys : List ByteArray} {s : ByteArray} (hf : ∀ j, (nthS xs j).size ≤ maxLen) (hs : s.size ≤ maxLen) (hl : ys.length = n) (h : w.ownsRow B 9 1 (.slice a n cap) n (ys.map Value.string)) (hm : ∀ y ∈ ys, y ∈ xs ∨ y = s) : OwnStrs w B a n cap ys := by
  refine ⟨hl, fun j => ?_, by rw [tab_strs, hl] at h; exact h⟩
  unfold nthS
  cases hj : ys[j]? with
  | none => simp
  | some y =>
    rcases hm y (List.mem_of_getElem? hj) with h1 | h1
    · obtain ⟨i, hi⟩ := List.getElem?_of_mem h1
      have := hf i
      simpa [nthS, hi] using this
    · simpa [h1] using hs
/-- What is behind l7Put. -/
def PutPost (B n : Nat) (xs : List ByteArray) (s : ByteArray) (w : World) (e : Ending) (w' : World) : Prop := ∃ (g' n' c' : Nat) (ys : List ByteArray), e = .returned (.slice (some ⟨g', 0, none⟩) n' c') ∧ n' ≤ n + 1 ∧ (∀ y ∈ ys, y ∈ xs ∨ y = s) ∧ OwnStrs w' B (some ⟨g', 0, none⟩) n' c' ys ∧ Below w.heap.size w w'
set_option maxHeartbeats 4000000 in
theorem l7Put_any (B g n c : Nat) (xs : List ByteArray) (s : ByteArray) {w : World} (ho : OwnStrs w B (some ⟨g, 0, none⟩) n c xs) (hn : n ≤ 1000) (hs : s.size ≤ maxLen) (hB : B ≤ w.heap.size) :
    Calls Try.prog 83 #[.slice (some ⟨g, 0, none⟩) n c, .string s] w (PutPost B n xs s w) := by
  have HO := Lib.hid ho
  have hcap := own_cap ho.own
  clear ho
  have ON := Lib.hid (World.ownsRow_made (e := 9) (size := 1) w #[] 0 (Nat.le_refl _) (Nat.zero_le _) rfl)
  have BA := Lib.hid ((Below.refl w.heap.size w).alloc (Nat.le_refl _) (.cells #[] 9))
  obtain ⟨i0, hi, hz0, hz1, hz2⟩ := info_parts info_str
  go_enter Try.func83, Try.ntmps83
  go_wp2_with fail
  go_loop [5] (fun i => ∃ k : Nat, k ≤ n ∧ i = .int .i64 k) (fun i => n - (intOf i).toNat)
  case atStart => exact ⟨0, Nat.zero_le _, rfl⟩
  case round =>
    obtain ⟨k, hk, rfl⟩ := hrel
    have hkc : k ≤ c := by omega
    by_cases hlt : k < n
    · have hck := HO.out.strs.cell hlt
      rw [Nat.zero_add] at hck
      have hkc' : k < c := by omega
      cases hb : Op.bytesLess (nthS xs k).toList s.toList
      · by_cases he : nthS xs k = s
        · have e1 := str_eq_t he
          have HE := Lib.hid he
          clear he
          go_wp2_with fail
          go_ret
          exact ⟨g, n, c, xs, rfl, by omega, fun y hy => .inl hy, HO.out, Below.refl _ _⟩
        · have e1 := str_eq_f he
          clear he
          obtain ⟨L1, hL1⟩ : ∃ L1, L1 = (xs.take k).map Value.string := ⟨_, rfl⟩
          have T1 := Lib.hid (show L1.length = k ∧ L1 = (xs.take k).map Value.string from ⟨by rw [hL1, List.length_map, List.length_take, HO.out.len]; omega, hL1⟩)
          obtain ⟨L2, hL2⟩ : ∃ L2, L2 = (xs.drop k).map Value.string := ⟨_, rfl⟩
          have T2 := Lib.hid (show L2.length = (n - k) ∧ L2 = (xs.drop k).map Value.string from ⟨by rw [hL2]; simp only [List.length_map, List.length_drop, HO.out.len], hL2⟩)
          clear hL1 hL2
          go_wp2_with (at_builtin; refine wpList_append_own _ rfl _ _ 40 rfl w.heap.size 9 i0 (.string ByteArray.empty) 1 16 Try.underlying40 hi hz0 hz1 hz2 rfl (by decide) _ _ _ rfl ON.out ⟨g, 0, none⟩ k c L1 rfl ?c1 ?c2 ?c3 ?c4 ?c5 ?c6 ?_)
          case c1 => have := T1.out.1; omega
          case c2 => intro j u hj; have := src_take (HO.out.strs.below BA.out) hk j u (by rw [← T1.out.2]; exact hj); first | exact this | simpa [addr_add] using this
          case c3 => rw [T1.out.2]; exact one_strs _
          case c4 => unfold maxLen; omega
          case c5 => omega
          intro v1 w1 hown1 hgrow1 hnn1
          obtain ⟨a1, c1, hv1⟩ := own_form hown1
          rw [hv1] at hown1
          have O1 := Lib.hid (show w1.ownsRow w.heap.size 9 1 (.slice a1 k c1) k L1 from by simpa using hown1)
          have B1 := Lib.hid (BA.out.grown hgrow1 BA.out.size (fun j hj => (own_block ON.out j hj).1))
          clear hown1 hgrow1 hnn1
          rw [hv1]
          clear hv1
          go_wp2_with (at_builtin; refine wpList_append_own _ rfl _ _ 40 rfl w.heap.size 9 i0 (.string ByteArray.empty) 1 16 Try.underlying40 hi hz0 hz1 hz2 rfl (by decide) _ _ _ rfl (O1.out.alloc _) ⟨w1.heap.size, 0, none⟩ 1 1 [.string s] rfl rfl ?d1 ?d2 ?d3 ?d4 ?d5 ?_)
          case d1 => exact cells_new w1 _ _
          case d2 => intro u hu; simp at hu; subst hu; rfl
          case d3 => unfold maxLen; omega
          case d4 => omega
          case d5 => have := B1.out.size; simp; omega
          intro v2 w2 hown2 hgrow2 hnn2
          obtain ⟨a2, c2, hv2⟩ := own_form hown2
          rw [hv2] at hown2
          have O2 := Lib.hid hown2
          have B2 := Lib.hid ((B1.out.alloc B1.out.size _).grown hgrow2 (by have := B1.out.size; simp; omega) (fun j hj => (own_block O1.out j hj).1))
          clear hown2 hgrow2 hnn2
          rw [hv2]
          clear hv2
          go_wp2_with (at_builtin; refine wpList_append_own _ rfl _ _ 40 rfl w.heap.size 9 i0 (.string ByteArray.empty) 1 16 Try.underlying40 hi hz0 hz1 hz2 rfl (by decide) _ _ _ rfl O2.out ⟨g, k, none⟩ (n - k) (c - k) L2 rfl ?e1 ?e2 ?e3 ?e4 ?e5 ?e6 ?_)
          case e1 => have := T2.out.1; omega
          case e2 => intro j u hj; have := src_drop (HO.out.strs.below B2.out) hk j u (by rw [← T2.out.2]; exact hj); simpa [addr_add] using this
          case e3 => rw [T2.out.2]; exact one_strs _
          case e4 => unfold maxLen; omega
          case e5 => omega
          case e6 => exact B2.out.size
          intro v3 w3 hown3 hgrow3 hnn3
          obtain ⟨a3, c3, hv3⟩ := own_form hown3
          rw [hv3] at hown3
          have B3 := Lib.hid (B2.out.grown hgrow3 B2.out.size (fun j hj => (own_block O2.out j hj).1))
          obtain ⟨g3, rfl, hB3, -⟩ := own_pos hown3 (by omega)
          have O3 := Lib.hid (own_base hown3 hB)
          clear hown3 hgrow3 hnn3 hB3
          rw [hv3]
          clear hv3
          go_wp2_with fail
          go_ret
          exact ⟨g3, _, c3, xs.take k ++ [s] ++ xs.drop k, rfl, by omega, put_mem (fun y hy => List.mem_of_mem_drop hy), put_own HO.out.fit hs (by rw [List.length_append, List.length_append, List.length_take, HO.out.len]; rw [List.length_drop, HO.out.len]; simp only [List.length_cons, List.length_nil]; omega) (by have := O3.out; rw [T1.out.2, T2.out.2] at this; simpa using this) (put_mem (fun y hy => List.mem_of_mem_drop hy)), B3.out⟩
      · go_wp2_with fail
        go_round
        case rel => exact ⟨k + 1, by omega, by go_num⟩
        case measure => simp [intOf]; omega
    · obtain rfl : k = n := by omega
      by_cases hkc2 : k = c
      · subst hkc2
        obtain ⟨L1, hL1⟩ : ∃ L1, L1 = (xs.take k).map Value.string := ⟨_, rfl⟩
        have T1 := Lib.hid (show L1.length = k ∧ L1 = (xs.take k).map Value.string from ⟨by rw [hL1, List.length_map, List.length_take, HO.out.len]; omega, hL1⟩)
        obtain ⟨L2, hL2⟩ : ∃ L2, L2 = (([] : List ByteArray)).map Value.string := ⟨_, rfl⟩
        have T2 := Lib.hid (show L2.length = 0 ∧ L2 = (([] : List ByteArray)).map Value.string from ⟨by rw [hL2]; simp, hL2⟩)
        clear hL1 hL2
        go_wp2_with (at_builtin; refine wpList_append_own _ rfl _ _ 40 rfl w.heap.size 9 i0 (.string ByteArray.empty) 1 16 Try.underlying40 hi hz0 hz1 hz2 rfl (by decide) _ _ _ rfl ON.out ⟨g, 0, none⟩ k k L1 rfl ?c1 ?c2 ?c3 ?c4 ?c5 ?c6 ?_)
        case c1 => have := T1.out.1; omega
        case c2 => intro j u hj; have := src_take (HO.out.strs.below BA.out) hk j u (by rw [← T1.out.2]; exact hj); first | exact this | simpa [addr_add] using this
        case c3 => rw [T1.out.2]; exact one_strs _
        case c4 => unfold maxLen; omega
        case c5 => omega
        intro v1 w1 hown1 hgrow1 hnn1
        obtain ⟨a1, c1, hv1⟩ := own_form hown1
        rw [hv1] at hown1
        have O1 := Lib.hid (show w1.ownsRow w.heap.size 9 1 (.slice a1 k c1) k L1 from by simpa using hown1)
        have B1 := Lib.hid (BA.out.grown hgrow1 BA.out.size (fun j hj => (own_block ON.out j hj).1))
        clear hown1 hgrow1 hnn1
        rw [hv1]
        clear hv1
        go_wp2_with (at_builtin; refine wpList_append_own _ rfl _ _ 40 rfl w.heap.size 9 i0 (.string ByteArray.empty) 1 16 Try.underlying40 hi hz0 hz1 hz2 rfl (by decide) _ _ _ rfl (O1.out.alloc _) ⟨w1.heap.size, 0, none⟩ 1 1 [.string s] rfl rfl ?d1 ?d2 ?d3 ?d4 ?d5 ?_)
        case d1 => exact cells_new w1 _ _
        case d2 => intro u hu; simp at hu; subst hu; rfl
        case d3 => unfold maxLen; omega
        case d4 => omega
        case d5 => have := B1.out.size; simp; omega
        intro v2 w2 hown2 hgrow2 hnn2
        obtain ⟨a2, c2, hv2⟩ := own_form hown2
        rw [hv2] at hown2
        have O2 := Lib.hid hown2
        have B2 := Lib.hid ((B1.out.alloc B1.out.size _).grown hgrow2 (by have := B1.out.size; simp; omega) (fun j hj => (own_block O1.out j hj).1))
        clear hown2 hgrow2 hnn2
        rw [hv2]
        clear hv2
        go_wp2_with (at_builtin; refine wpList_append_own _ rfl _ _ 40 rfl w.heap.size 9 i0 (.string ByteArray.empty) 1 16 Try.underlying40 hi hz0 hz1 hz2 rfl (by decide) _ _ _ rfl O2.out ⟨g, 0, none⟩ 0 _ L2 rfl ?e1 ?e2 ?e3 ?e4 ?e5 ?e6 ?_)
        case e1 => have := T2.out.1; omega
        case e2 => intro j u hj; rw [T2.out.2] at hj; simp at hj
        case e3 => rw [T2.out.2]; exact one_strs _
        case e4 => unfold maxLen; omega
        case e5 => omega
        case e6 => exact B2.out.size
        intro v3 w3 hown3 hgrow3 hnn3
        obtain ⟨a3, c3, hv3⟩ := own_form hown3
        rw [hv3] at hown3
        have B3 := Lib.hid (B2.out.grown hgrow3 B2.out.size (fun j hj => (own_block O2.out j hj).1))
        obtain ⟨g3, rfl, hB3, -⟩ := own_pos hown3 (by omega)
        have O3 := Lib.hid (own_base hown3 hB)
        clear hown3 hgrow3 hnn3 hB3
        rw [hv3]
        clear hv3
        go_wp2_with fail
        go_ret
        exact ⟨g3, _, c3, xs.take k ++ [s] ++ ([] : List ByteArray), rfl, by omega, put_mem (fun y hy => by cases hy), put_own HO.out.fit hs (by rw [List.length_append, List.length_append, List.length_take, HO.out.len]; simp only [List.length_cons, List.length_nil]; omega) (by have := O3.out; rw [T1.out.2, T2.out.2] at this; simpa using this) (put_mem (fun y hy => by cases hy)), B3.out⟩
      · have hkc3 : k < c := by omega
        obtain ⟨L1, hL1⟩ : ∃ L1, L1 = (xs.take k).map Value.string := ⟨_, rfl⟩
        have T1 := Lib.hid (show L1.length = k ∧ L1 = (xs.take k).map Value.string from ⟨by rw [hL1, List.length_map, List.length_take, HO.out.len]; omega, hL1⟩)
        obtain ⟨L2, hL2⟩ : ∃ L2, L2 = (([] : List ByteArray)).map Value.string := ⟨_, rfl⟩
        have T2 := Lib.hid (show L2.length = 0 ∧ L2 = (([] : List ByteArray)).map Value.string from ⟨by rw [hL2]; simp, hL2⟩)
        clear hL1 hL2
        go_wp2_with (at_builtin; refine wpList_append_own _ rfl _ _ 40 rfl w.heap.size 9 i0 (.string ByteArray.empty) 1 16 Try.underlying40 hi hz0 hz1 hz2 rfl (by decide) _ _ _ rfl ON.out ⟨g, 0, none⟩ k c L1 rfl ?c1 ?c2 ?c3 ?c4 ?c5 ?c6 ?_)
        case c1 => have := T1.out.1; omega
        case c2 => intro j u hj; have := src_take (HO.out.strs.below BA.out) hk j u (by rw [← T1.out.2]; exact hj); first | exact this | simpa [addr_add] using this
        case c3 => rw [T1.out.2]; exact one_strs _
        case c4 => unfold maxLen; omega
        case c5 => omega
        intro v1 w1 hown1 hgrow1 hnn1
        obtain ⟨a1, c1, hv1⟩ := own_form hown1
        rw [hv1] at hown1
        have O1 := Lib.hid (show w1.ownsRow w.heap.size 9 1 (.slice a1 k c1) k L1 from by simpa using hown1)
        have B1 := Lib.hid (BA.out.grown hgrow1 BA.out.size (fun j hj => (own_block ON.out j hj).1))
        clear hown1 hgrow1 hnn1
        rw [hv1]
        clear hv1
        go_wp2_with (at_builtin; refine wpList_append_own _ rfl _ _ 40 rfl w.heap.size 9 i0 (.string ByteArray.empty) 1 16 Try.underlying40 hi hz0 hz1 hz2 rfl (by decide) _ _ _ rfl (O1.out.alloc _) ⟨w1.heap.size, 0, none⟩ 1 1 [.string s] rfl rfl ?d1 ?d2 ?d3 ?d4 ?d5 ?_)
        case d1 => exact cells_new w1 _ _
        case d2 => intro u hu; simp at hu; subst hu; rfl
        case d3 => unfold maxLen; omega
        case d4 => omega
        case d5 => have := B1.out.size; simp; omega
        intro v2 w2 hown2 hgrow2 hnn2
        obtain ⟨a2, c2, hv2⟩ := own_form hown2
        rw [hv2] at hown2
        have O2 := Lib.hid hown2
        have B2 := Lib.hid ((B1.out.alloc B1.out.size _).grown hgrow2 (by have := B1.out.size; simp; omega) (fun j hj => (own_block O1.out j hj).1))
        clear hown2 hgrow2 hnn2
        rw [hv2]
        clear hv2
        go_wp2_with (at_builtin; refine wpList_append_own _ rfl _ _ 40 rfl w.heap.size 9 i0 (.string ByteArray.empty) 1 16 Try.underlying40 hi hz0 hz1 hz2 rfl (by decide) _ _ _ rfl O2.out ⟨g, k, none⟩ 0 _ L2 rfl ?e1 ?e2 ?e3 ?e4 ?e5 ?e6 ?_)
        case e1 => have := T2.out.1; omega
        case e2 => intro j u hj; rw [T2.out.2] at hj; simp at hj
        case e3 => rw [T2.out.2]; exact one_strs _
        case e4 => unfold maxLen; omega
        case e5 => omega
        case e6 => exact B2.out.size
        intro v3 w3 hown3 hgrow3 hnn3
        obtain ⟨a3, c3, hv3⟩ := own_form hown3
        rw [hv3] at hown3
        have B3 := Lib.hid (B2.out.grown hgrow3 B2.out.size (fun j hj => (own_block O2.out j hj).1))
        obtain ⟨g3, rfl, hB3, -⟩ := own_pos hown3 (by omega)
        have O3 := Lib.hid (own_base hown3 hB)
        clear hown3 hgrow3 hnn3 hB3
        rw [hv3]
        clear hv3
        go_wp2_with fail
        go_ret
        exact ⟨g3, _, c3, xs.take k ++ [s] ++ ([] : List ByteArray), rfl, by omega, put_mem (fun y hy => by cases hy), put_own HO.out.fit hs (by rw [List.length_append, List.length_append, List.length_take, HO.out.len]; simp only [List.length_cons, List.length_nil]; omega) (by have := O3.out; rw [T1.out.2, T2.out.2] at this; simpa using this) (put_mem (fun y hy => by cases hy)), B3.out⟩
end Go.Proofs.Ytoljjhhomklcbaa
