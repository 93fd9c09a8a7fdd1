/- The walks of the words of a pattern. Conditions: what is read fits the model's sizes. -/
import Derived.Test.YtoljjhhomklcbaaGlob
import Derived.Test.YtoljjhhomklcbaaWordsUp
import Derived.Test.YtoljjhhomklcbaaMark
namespace Go.Proofs.Ytoljjhhomklcbaa
open Go.RowKit

theorem take_snocS (xs : List ByteArray) (k : Nat) (h : k < xs.length) : xs.take (k + 1) = xs.take k ++ [nthS xs k] := by
  rw [List.take_succ_eq_append_getElem h, nthS_eq h]
theorem filter_yes {xs : List ByteArray} {q : ByteArray → Bool} {k : Nat} (h : k < xs.length) (hq : q (nthS xs k) = true) : (xs.take (k + 1)).filter q = (xs.take k).filter q ++ [nthS xs k] := by
  rw [take_snocS xs k h, List.filter_append]; simp [hq]
theorem filter_no {xs : List ByteArray} {q : ByteArray → Bool} {k : Nat} (h : k < xs.length) (hq : q (nthS xs k) = false) : (xs.take (k + 1)).filter q = (xs.take k).filter q := by
  rw [take_snocS xs k h, List.filter_append]; simp [hq]
theorem nthS_mem_fit {xs ys : List ByteArray} (h : ∀ j, (nthS xs j).size ≤ maxLen) (hs : ∀ y ∈ ys, y ∈ xs) : ∀ j, (nthS ys j).size ≤ maxLen := by
  intro j
  unfold nthS
  cases hj : ys[j]? with
  | none => simp
  | some y =>
    have hy := hs y (List.mem_of_getElem? hj)
    obtain ⟨i, hi⟩ := List.getElem?_of_mem hy
    have := h i
    simpa [nthS, hi] using this
def globOf (n : Nat) (xs : List ByteArray) (p : ByteArray) : List ByteArray := if wordsUp n xs && globOk p then xs.filter (globHasB p) else []
theorem own_nil_made (w : World) : OwnStrs (w.alloc (.cells #[] 9)) w.heap.size (some ⟨w.heap.size, 0, none⟩) 0 0 [] :=
  ⟨rfl, fun j => by simp [nthS], World.ownsRow_made w #[] 0 (Nat.le_refl _) (Nat.zero_le _) rfl⟩
theorem own_of_map {w : World} {B : Nat} {a : Option Addr} {n cap : Nat} {xs ys : List ByteArray} (hl : ys.length = n) (h : w.ownsRow B 9 1 (.slice a n cap) n (ys.map Value.string)) (hf : ∀ j, (nthS xs j).size ≤ maxLen) (hs : ∀ y ∈ ys, y ∈ xs) : OwnStrs w B a n cap ys :=
  ⟨hl, nthS_mem_fit hf hs, by rw [tab_strs, hl] at h; exact h⟩
theorem cells_new (w : World) (v : Value) (e : TypeId) : ∀ j u, [v][j]? = some u → (w.alloc (.cells #[v] e)).cell? ((⟨w.heap.size, 0, none⟩ : Addr).add j) = some u := by
  intro j u hj
  match j, hj with
  | 0, hj => simp at hj; subst hj; simp [Addr.add]
set_option maxHeartbeats 1000000 in
theorem GlobOf_any (a : Option Addr) (n cap : Nat) (xs : List ByteArray) (p : ByteArray) (w : World) (hx : Strs w a n xs) (hn : n ≤ maxLen) (hp : p.size ≤ maxLen) :
    Calls Try.prog 29 #[.slice a n cap, .string p] w fun e w' => ∃ a' c', e = .returned (.slice a' (globOf n xs p).length c') ∧ OwnStrs w' w.heap.size a' (globOf n xs p).length c' (globOf n xs p) ∧ Below w.heap.size w w' := by
  have HX := Lib.hid hx; clear hx
  have HA := Lib.hid ((Below.refl w.heap.size w).alloc (Nat.le_refl _) (.cells #[] 9))
  have ON := Lib.hid (own_nil_made w)
  cases h1 : wordsUp n xs
  · rw [show globOf n xs p = [] by simp [globOf, h1]]
    go_enter Try.func29, Try.ntmps29
    go_wp2_with fail
    refine (WordsUp_any _ _ _ _ (HX.out.below HA.out) hn).mono ?_
    rintro e w' ⟨rfl, rfl⟩
    go_wp2_with fail
    go_ret
    exact ⟨_, _, rfl, ON.out, HA.out⟩
  · cases h2 : globOk p
    · rw [show globOf n xs p = [] by simp [globOf, h1, h2]]
      go_enter Try.func29, Try.ntmps29
      go_wp2_with fail
      refine (WordsUp_any _ _ _ _ (HX.out.below HA.out) hn).mono ?_
      rintro e w' ⟨rfl, rfl⟩
      go_wp2_with fail
      refine (GlobOk_any _ hp _).mono ?_
      rintro e w' ⟨rfl, rfl⟩
      go_wp2_with fail
      go_ret
      exact ⟨_, _, rfl, ON.out, HA.out⟩
    · have HG := Lib.hid (show globOf n xs p = xs.filter (globHasB p) by simp [globOf, h1, h2])
      have hn40 : n ≤ 40 := by simp only [wordsUp, Bool.and_eq_true, decide_eq_true_eq] at h1; exact h1.1
      obtain ⟨i0, hi, hz0, hz1, hz2⟩ := info_parts info_str
      go_enter Try.func29, Try.ntmps29
      go_wp2_with fail
      refine (WordsUp_any _ _ _ _ (HX.out.below HA.out) hn).mono ?_
      rintro e w' ⟨rfl, rfl⟩
      go_wp2_with fail
      refine (GlobOk_any _ hp _).mono ?_
      rintro e w' ⟨rfl, rfl⟩
      go_wp2_with fail
      go_loopw [5, 20] (fun v i wr => ∃ (k : Nat) (a' : Option Addr) (c' : Nat) (ys : List ByteArray), k ≤ n ∧ i = .int .i64 k ∧ v = .slice a' ys.length c' ∧ ys = (xs.take k).filter (globHasB p) ∧ wr.ownsRow w.heap.size 9 1 (.slice a' ys.length c') ys.length (ys.map Value.string) ∧ Below w.heap.size w wr) (fun _ i _ => n - (intOf i).toNat)
      case atStart => exact ⟨0, _, _, [], Nat.zero_le _, rfl, rfl, rfl, ON.out.own, HA.out⟩
      case round =>
        clear h1 h2
        obtain ⟨k, a', c', ys, hk, rfl, rfl, hys, hown, hb⟩ := hrel
        have HY := Lib.hid hys; clear hys
        have HO := Lib.hid hown; clear hown
        have hyl : ys.length ≤ k := by
          rw [HY.out]; exact Nat.le_trans (List.length_filter_le _ _) (List.length_take_le _ _)
        by_cases hlt : k < n
        · obtain ⟨b, off, rfl, hc⟩ := (HX.out.below hb).rd.pos hlt
          have hck := hc k hlt
          have HB := Lib.hid hb; clear hb hc
          have hz := HX.out.fit k
          have hlx : k < xs.length := by rw [HX.out.len]; exact hlt
          cases hq : globHasB p (nthS xs k)
          · have F := Lib.hid (filter_no hlx hq)
            go_wp2_with fail
            refine (GlobHas_any _ _ hp hz _).mono ?_
            rintro e w' ⟨rfl, q, rfl⟩
            go_wp2_with fail
            go_roundw
            case rel => exact ⟨k + 1, a', c', ys, by omega, by go_num, rfl, by rw [F.out]; exact HY.out, own_drewN HO.out q, below_drewN HB.out q⟩
            case measure => simp [intOf]; omega
          · have F := Lib.hid (filter_yes hlx hq)
            go_wp2_with fail
            refine (GlobHas_any _ _ hp hz _).mono ?_
            rintro e w' ⟨rfl, q, rfl⟩
            go_wp2_with (at_builtin; refine wpList_append_own _ rfl _ _ 40 rfl w.heap.size 9 i0 (.string ByteArray.empty) 1 16 Try.underlying40 hi hz0 hz1 hz2 rfl (by decide) _ _ _ rfl ((own_drewN HO.out q).alloc _) ⟨wr.heap.size, 0, none⟩ 1 1 [.string (nthS xs k)] rfl rfl ?c1 ?c2 ?c3 ?c4 ?c5 ?_)
            case c1 => exact cells_new (wr.drewN q) _ _
            case c2 => intro u hu; simp at hu; subst hu; rfl
            case c3 => unfold maxLen; omega
            case c4 => omega
            case c5 => have := HB.out.size; show w.heap.size ≤ (wr.alloc _).heap.size; simp; omega
            · intro v' w1 hown' hgrow _
              obtain ⟨a2, c2, hv⟩ := own_form hown'
              rw [hv] at hown'
              have HO2 := Lib.hid hown'; clear hown'
              have HB2 := Lib.hid (((below_drewN HB.out q).alloc (by exact HB.out.size) _).grown hgrow (by have := HB.out.size; show w.heap.size ≤ (wr.alloc _).heap.size; simp; omega) (fun k hk => (own_block HO.out k hk).1))
              clear hgrow
              rw [hv]
              clear hv
              go_wp2_with fail
              go_roundw
              case rel => exact ⟨k + 1, a2, c2, ys ++ [nthS xs k], by omega, by go_num, by simp, by rw [F.out, HY.out], by have := HO2.out; simpa using this, HB2.out⟩
              case measure => simp [intOf]; omega
        · obtain rfl : k = n := by omega
          have HB := Lib.hid hb; clear hb
          have E := Lib.hid (show ys = globOf k xs p by rw [HG.out, HY.out, ← HX.out.len, List.take_length])
          go_wp2_with fail
          go_ret
          rw [← E.out]
          exact ⟨_, _, rfl, own_of_map rfl HO.out HX.out.fit (fun y hy => by rw [HY.out] at hy; exact List.mem_of_mem_take (List.mem_filter.1 hy).1), HB.out⟩
theorem own_none (w : World) (B : Nat) : OwnStrs w B none 0 0 [] := ⟨rfl, fun j => by simp [nthS], World.ownsRow_nil w B _ _⟩
theorem wordsUp_ok {n : Nat} {xs : List ByteArray} (h : wordsUp n xs = true) {j : Nat} (hj : j < n) : wordOk (nthS xs j) = true := by
  simp only [wordsUp, wordsAsc, Bool.and_eq_true] at h
  have := allN_iff.1 h.2 j hj
  simp only [ascAt, Bool.and_eq_true] at this
  exact this.1
set_option maxHeartbeats 1000000 in
theorem sGlobOf_any (a : Option Addr) (n cap : Nat) (xs : List ByteArray) (p : ByteArray) (w : World) (hx : Strs w a n xs) (hn : n ≤ maxLen) (hp : p.size ≤ maxLen) :
    Calls Try.prog 31 #[.slice a n cap, .string p] w fun e w' => ∃ a' c', e = .returned (.slice a' (globOf n xs p).length c') ∧ OwnStrs w' w.heap.size a' (globOf n xs p).length c' (globOf n xs p) ∧ Below w.heap.size w w' := by
  have HX := Lib.hid hx; clear hx
  have HA := Lib.hid ((Below.refl w.heap.size w).alloc (Nat.le_refl _) (.cells #[] 9))
  have ON := Lib.hid (own_nil_made w)
  cases h1 : wordsUp n xs
  · rw [show globOf n xs p = [] by simp [globOf, h1]]
    go_enter Try.func31, Try.ntmps31
    go_wp2_with fail
    refine (l4Sorted_any _ _ _ _ (HX.out.below HA.out) hn).mono ?_
    rintro e w' ⟨rfl, q, rfl⟩
    go_wp2_with fail
    go_ret
    exact ⟨_, _, rfl, own_none _ _, below_drewN HA.out q⟩
  · cases h2 : globOk p
    · rw [show globOf n xs p = [] by simp [globOf, h1, h2]]
      go_enter Try.func31, Try.ntmps31
      go_wp2_with fail
      refine (l4Sorted_any _ _ _ _ (HX.out.below HA.out) hn).mono ?_
      rintro e w' ⟨rfl, q, rfl⟩
      go_wp2_with fail
      refine (l5GlobOk_any _ hp _).mono ?_
      rintro e w' ⟨rfl, q2, rfl⟩
      go_wp2_with fail
      go_ret
      exact ⟨_, _, rfl, own_none _ _, below_drewN HA.out _⟩
    · have HG := Lib.hid (show globOf n xs p = xs.filter (globHasB p) by simp [globOf, h1, h2])
      have W := Lib.hid (fun j (hj : j < n) => wordsUp_ok h1 hj)
      have H2 := Lib.hid h2
      have hn40 : n ≤ 40 := by simp only [wordsUp, Bool.and_eq_true, decide_eq_true_eq] at h1; exact h1.1
      obtain ⟨i0, hi, hz0, hz1, hz2⟩ := info_parts info_str
      go_enter Try.func31, Try.ntmps31
      go_wp2_with fail
      refine (l4Sorted_any _ _ _ _ (HX.out.below HA.out) hn).mono ?_
      rintro e w' ⟨rfl, q, rfl⟩
      go_wp2_with fail
      refine (l5GlobOk_any _ hp _).mono ?_
      rintro e w' ⟨rfl, q2, rfl⟩
      go_wp2_with fail
      go_loopw [5, 6] (fun v i wr => ∃ (k : Nat) (a' : Option Addr) (c' : Nat) (ys : List ByteArray), k ≤ n ∧ i = .int .i64 k ∧ v = .slice a' ys.length c' ∧ ys = (xs.take k).filter (globHasB p) ∧ wr.ownsRow w.heap.size 9 1 (.slice a' ys.length c') ys.length (ys.map Value.string) ∧ Below w.heap.size w wr) (fun _ i _ => n - (intOf i).toNat)
      case atStart => exact ⟨0, _, _, [], Nat.zero_le _, rfl, rfl, rfl, own_drewN ON.out.own _, below_drewN HA.out _⟩
      case round =>
        clear h1 h2
        obtain ⟨k, a', c', ys, hk, rfl, rfl, hys, hown, hb⟩ := hrel
        have HY := Lib.hid hys; clear hys
        have HO := Lib.hid hown; clear hown
        have hyl : ys.length ≤ k := by
          rw [HY.out]; exact Nat.le_trans (List.length_filter_le _ _) (List.length_take_le _ _)
        by_cases hlt : k < n
        · obtain ⟨b, off, rfl, hc⟩ := (HX.out.below hb).rd.pos hlt
          have hck := hc k hlt
          have HB := Lib.hid hb; clear hb hc
          have hz := HX.out.fit k
          have hlx : k < xs.length := by rw [HX.out.len]; exact hlt
          have GL := Lib.hid (fun w => l5Glob_any _ p (nthS xs k) w (Nat.le_refl _) hp hz)
          have GE := Lib.hid (show globHasB p (nthS xs k) = gl p (nthS xs k) by rw [globHasB, H2.out, W.out k hlt]; rfl)
          cases hq : gl p (nthS xs k)
          · have F := Lib.hid (filter_no hlx (GE.out.trans hq))
            go_wp2_with fail
            refine (GL.out _).mono ?_
            rintro e w' ⟨rfl, q, rfl⟩
            go_wp2_with fail
            go_roundw
            case rel => exact ⟨k + 1, a', c', ys, by omega, by go_num, rfl, by rw [F.out]; exact HY.out, own_drewN HO.out q, below_drewN HB.out q⟩
            case measure => simp [intOf]; omega
          · have F := Lib.hid (filter_yes hlx (GE.out.trans hq))
            go_wp2_with fail
            refine (GL.out _).mono ?_
            rintro e w' ⟨rfl, q, rfl⟩
            go_wp2_with (at_builtin; refine wpList_append_own _ rfl _ _ 40 rfl w.heap.size 9 i0 (.string ByteArray.empty) 1 16 Try.underlying40 hi hz0 hz1 hz2 rfl (by decide) _ _ _ rfl ((own_drewN HO.out q).alloc _) ⟨wr.heap.size, 0, none⟩ 1 1 [.string (nthS xs k)] rfl rfl ?c1 ?c2 ?c3 ?c4 ?c5 ?_)
            case c1 => exact cells_new (wr.drewN q) _ _
            case c2 => intro u hu; simp at hu; subst hu; rfl
            case c3 => unfold maxLen; omega
            case c4 => omega
            case c5 => have := HB.out.size; show w.heap.size ≤ (wr.alloc _).heap.size; simp; omega
            · intro v' w1 hown' hgrow _
              obtain ⟨a2, c2, hv⟩ := own_form hown'
              rw [hv] at hown'
              have HO2 := Lib.hid hown'; clear hown'
              have HB2 := Lib.hid (((below_drewN HB.out q).alloc (by exact HB.out.size) _).grown hgrow (by have := HB.out.size; show w.heap.size ≤ (wr.alloc _).heap.size; simp; omega) (fun k hk => (own_block HO.out k hk).1))
              clear hgrow
              rw [hv]
              clear hv
              go_wp2_with fail
              go_roundw
              case rel => exact ⟨k + 1, a2, c2, ys ++ [nthS xs k], by omega, by go_num, by simp, by rw [F.out, HY.out], by have := HO2.out; simpa using this, HB2.out⟩
              case measure => simp [intOf]; omega
        · obtain rfl : k = n := by omega
          have HB := Lib.hid hb; clear hb
          have E := Lib.hid (show ys = globOf k xs p by rw [HG.out, HY.out, ← HX.out.len, List.take_length])
          go_wp2_with fail
          go_ret
          rw [← E.out]
          exact ⟨_, _, rfl, own_of_map rfl HO.out HX.out.fit (fun y hy => by rw [HY.out] at hy; exact List.mem_of_mem_take (List.mem_filter.1 hy).1), HB.out⟩
theorem globOf_le (n : Nat) (xs : List ByteArray) (p : ByteArray) (hl : xs.length = n) : (globOf n xs p).length ≤ n := by
  unfold globOf; split
  · rw [← hl]; exact List.length_filter_le _ _
  · exact Nat.zero_le _
end Go.Proofs.Ytoljjhhomklcbaa
