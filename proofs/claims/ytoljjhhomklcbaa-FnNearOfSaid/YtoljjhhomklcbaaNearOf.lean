/- The walks of the words that are near. Conditions: what is read fits the model's sizes. -/
import Derived.Test.YtoljjhhomklcbaaNear
import Derived.Test.YtoljjhhomklcbaaGlobOf
namespace Go.Proofs.Ytoljjhhomklcbaa
open Go.RowKit

def isNear (s : ByteArray) (far : Int) (x : ByteArray) : Bool := decide (nearFar x s ≤ far)
def nearOf (n : Nat) (xs : List ByteArray) (s : ByteArray) (far : Int) : List ByteArray := if wordsUp n xs && wordOk s && decide (0 ≤ far ∧ far ≤ 2) then xs.filter (isNear s far) else []
theorem nearOf_le (n : Nat) (xs : List ByteArray) (s : ByteArray) (far : Int) (hl : xs.length = n) : (nearOf n xs s far).length ≤ n := by
  unfold nearOf; split
  · rw [← hl]; exact List.length_filter_le _ _
  · exact Nat.zero_le _
set_option maxHeartbeats 1000000 in
theorem NearOf_any (a : Option Addr) (n cap : Nat) (xs : List ByteArray) (s : ByteArray) (far : Int) (w : World) (hx : Strs w a n xs) (hn : n ≤ maxLen) (hp : s.size ≤ maxLen) :
    Calls Try.prog 34 #[.slice a n cap, .string s, .int .i64 far] w fun e w' => ∃ a' c', e = .returned (.slice a' (nearOf n xs s far).length c') ∧ OwnStrs w' w.heap.size a' (nearOf n xs s far).length c' (nearOf n xs s far) ∧ Below w.heap.size w w' := by
  have HX := Lib.hid hx; clear hx
  have HA := Lib.hid ((Below.refl w.heap.size w).alloc (Nat.le_refl _) (.cells #[] 9))
  have ON := Lib.hid (own_nil_made w)
  cases h1 : wordsUp n xs
  · rw [show nearOf n xs s far = [] by simp [nearOf, h1]]
    go_enter Try.func34, Try.ntmps34
    go_wp2_with fail
    refine (WordsUp_any _ _ _ _ (HX.out.below HA.out) hn).mono ?_
    rintro e w' ⟨rfl, rfl⟩
    go_wp2_with fail
    go_ret
    exact ⟨_, _, rfl, ON.out, HA.out⟩
  · cases h2 : wordOk s
    · rw [show nearOf n xs s far = [] by simp [nearOf, h2]]
      go_enter Try.func34, Try.ntmps34
      go_wp2_with fail
      refine (WordsUp_any _ _ _ _ (HX.out.below HA.out) hn).mono ?_
      rintro e w' ⟨rfl, rfl⟩
      go_wp2_with fail
      refine (WordOk_any _ hp _).mono ?_
      rintro e w' ⟨rfl, rfl⟩
      go_wp2_with fail
      go_ret
      exact ⟨_, _, rfl, ON.out, HA.out⟩
    by_cases h3 : 0 ≤ far ∧ far ≤ 2
    case neg =>
      have h3' : decide (0 ≤ far ∧ far ≤ 2) = false := by simp only [decide_eq_false_iff_not]; exact h3
      rw [show nearOf n xs s far = [] by simp only [nearOf, h3', Bool.and_false]; simp]
      simp only [Bool.decide_and] at h3'
      clear h3
      go_enter Try.func34, Try.ntmps34
      go_wp2_with fail
      refine (WordsUp_any _ _ _ _ (HX.out.below HA.out) hn).mono ?_
      rintro e w' ⟨rfl, rfl⟩
      go_wp2_with fail
      refine (WordOk_any _ hp _).mono ?_
      rintro e w' ⟨rfl, rfl⟩
      go_wp2_with fail
      refine (within_any _ _ _ _).mono ?_
      rintro e w' ⟨rfl, rfl⟩
      simp only [Bool.decide_and, h3']
      go_wp2_with fail
      go_ret
      exact ⟨_, _, rfl, ON.out, HA.out⟩
    · have HG := Lib.hid (show nearOf n xs s far = xs.filter (isNear s far) by simp [nearOf, h1, h2, h3])
      have hn40 : n ≤ 40 := by simp only [wordsUp, Bool.and_eq_true, decide_eq_true_eq] at h1; exact h1.1
      obtain ⟨i0, hi, hz0, hz1, hz2⟩ := info_parts info_str
      obtain ⟨f0, f2⟩ := h3
      go_enter Try.func34, Try.ntmps34
      go_wp2_with fail
      refine (WordsUp_any _ _ _ _ (HX.out.below HA.out) hn).mono ?_
      rintro e w' ⟨rfl, rfl⟩
      go_wp2_with fail
      refine (WordOk_any _ hp _).mono ?_
      rintro e w' ⟨rfl, rfl⟩
      go_wp2_with fail
      refine (within_any _ _ _ _).mono ?_
      rintro e w' ⟨rfl, rfl⟩
      go_wp2_with fail
      go_loopw [7, 27] (fun v i wr => ∃ (k : Nat) (a' : Option Addr) (c' : Nat) (ys : List ByteArray), k ≤ n ∧ i = .int .i64 k ∧ v = .slice a' ys.length c' ∧ ys = (xs.take k).filter (isNear s far) ∧ wr.ownsRow w.heap.size 9 1 (.slice a' ys.length c') ys.length (ys.map Value.string) ∧ Below w.heap.size w wr) (fun _ i _ => n - (intOf i).toNat)
      case atStart => exact ⟨0, _, _, [], Nat.zero_le _, rfl, rfl, rfl, ON.out.own, HA.out⟩
      case round =>
        clear h1 h2
        obtain ⟨k, a', c', ys, hk, rfl, rfl, hys, hown, hb⟩ := hrel
        have HY := Lib.hid hys; clear hys
        have HO := Lib.hid hown; clear hown
        have hyl : ys.length ≤ k := by
          rw [HY.out]; exact Nat.le_trans (List.length_filter_le _ _) (List.length_take_le _ _)
        by_cases hlt : k < n
        · obtain ⟨b, off, rfl, hc⟩ := (HX.out.below hb).rd.pos hlt
          have hck := hc k hlt
          have HB := Lib.hid hb; clear hb hc
          have hz := HX.out.fit k
          have hlx : k < xs.length := by rw [HX.out.len]; exact hlt
          by_cases hq : nearFar (nthS xs k) s ≤ far
          rotate_left
          · have F := Lib.hid (filter_no (q := isNear s far) hlx (by simpa [isNear] using hq))
            go_wp2_with fail
            refine (NearFar_any _ _ hz hp _).mono ?_
            rintro e w1 ⟨rfl, hb1⟩
            have O1 := Lib.hid (own_below HO.out hb1 (Nat.le_refl _))
            have HB1 := Lib.hid (HB.out.trans (hb1.mono HB.out.size)); clear hb1
            go_wp2_with fail
            go_roundw
            case rel => exact ⟨k + 1, a', c', ys, by omega, by go_num, rfl, by rw [F.out]; exact HY.out, O1.out, HB1.out⟩
            case measure => simp [intOf]; omega
          · have F := Lib.hid (filter_yes (q := isNear s far) hlx (by simpa [isNear] using hq))
            go_wp2_with fail
            refine (NearFar_any _ _ hz hp _).mono ?_
            rintro e w1 ⟨rfl, hb1⟩
            have O1 := Lib.hid (own_below HO.out hb1 (Nat.le_refl _))
            have hck1 := (hb1.cell (p := ⟨b, off + k, none⟩) (World.block_lt_of_cell? wr _ hck)).trans hck
            have HB1 := Lib.hid (HB.out.trans (hb1.mono HB.out.size)); clear hb1
            go_wp2_with (at_builtin; refine wpList_append_own _ rfl _ _ 40 rfl w.heap.size 9 i0 (.string ByteArray.empty) 1 16 Try.underlying40 hi hz0 hz1 hz2 rfl (by decide) _ _ _ rfl (O1.out.alloc _) ⟨w1.heap.size, 0, none⟩ 1 1 [.string (nthS xs k)] rfl rfl ?c1 ?c2 ?c3 ?c4 ?c5 ?_)
            case c1 => exact cells_new w1 _ _
            case c2 => intro u hu; simp at hu; subst hu; rfl
            case c3 => unfold maxLen; omega
            case c4 => omega
            case c5 => have := HB1.out.size; show w.heap.size ≤ (w1.alloc _).heap.size; simp; omega
            · intro v' w2 hown' hgrow _
              obtain ⟨a2, c2, hv⟩ := own_form hown'
              rw [hv] at hown'
              have HO2 := Lib.hid hown'; clear hown'
              have HB2 := Lib.hid ((HB1.out.alloc HB1.out.size _).grown hgrow (by have := HB1.out.size; show w.heap.size ≤ (w1.alloc _).heap.size; simp; omega) (fun k hk => (own_block HO.out k hk).1))
              clear hgrow
              rw [hv]
              clear hv
              go_wp2_with fail
              go_roundw
              case rel => exact ⟨k + 1, a2, c2, ys ++ [nthS xs k], by omega, by go_num, by simp, by rw [F.out, HY.out], by have := HO2.out; simpa using this, HB2.out⟩
              case measure => simp [intOf]; omega
        · obtain rfl : k = n := by omega
          have HB := Lib.hid hb; clear hb
          have E := Lib.hid (show ys = nearOf k xs s far by rw [HG.out, HY.out, ← HX.out.len, List.take_length])
          go_wp2_with fail
          go_ret
          rw [← E.out]
          exact ⟨_, _, rfl, own_of_map rfl HO.out HX.out.fit (fun y hy => by rw [HY.out] at hy; exact List.mem_of_mem_take (List.mem_filter.1 hy).1), HB.out⟩
set_option maxHeartbeats 1000000 in
theorem sNearOf_any (a : Option Addr) (n cap : Nat) (xs : List ByteArray) (s : ByteArray) (far : Int) (w : World) (hx : Strs w a n xs) (hn : n ≤ maxLen) (hp : s.size ≤ maxLen) :
    Calls Try.prog 35 #[.slice a n cap, .string s, .int .i64 far] w fun e w' => ∃ a' c', e = .returned (.slice a' (nearOf n xs s far).length c') ∧ OwnStrs w' w.heap.size a' (nearOf n xs s far).length c' (nearOf n xs s far) ∧ Below w.heap.size w w' := by
  have HX := Lib.hid hx; clear hx
  have HA := Lib.hid ((Below.refl w.heap.size w).alloc (Nat.le_refl _) (.cells #[] 9))
  have ON := Lib.hid (own_nil_made w)
  cases h1 : wordsUp n xs
  · rw [show nearOf n xs s far = [] by simp [nearOf, h1]]
    go_enter Try.func35, Try.ntmps35
    go_wp2_with fail
    refine (l4Sorted_any _ _ _ _ (HX.out.below HA.out) hn).mono ?_
    rintro e w' ⟨rfl, q, rfl⟩
    go_wp2_with fail
    go_ret
    exact ⟨_, _, rfl, own_none _ _, below_drewN HA.out _⟩
  · cases h2 : wordOk s
    · rw [show nearOf n xs s far = [] by simp [nearOf, h2]]
      go_enter Try.func35, Try.ntmps35
      go_wp2_with fail
      refine (l4Sorted_any _ _ _ _ (HX.out.below HA.out) hn).mono ?_
      rintro e w' ⟨rfl, q, rfl⟩
      go_wp2_with fail
      refine (l1WordOk_any _ hp _).mono ?_
      rintro e w' ⟨rfl, q2, rfl⟩
      go_wp2_with fail
      go_ret
      exact ⟨_, _, rfl, own_none _ _, below_drewN HA.out _⟩
    by_cases h3 : 0 ≤ far ∧ far ≤ 2
    case neg =>
      have h3' : decide (0 ≤ far ∧ far ≤ 2) = false := by simp only [decide_eq_false_iff_not]; exact h3
      rw [show nearOf n xs s far = [] by simp only [nearOf, h3', Bool.and_false]; simp]
      simp only [Bool.decide_and] at h3'
      clear h3
      go_enter Try.func35, Try.ntmps35
      go_wp2_with fail
      refine (l4Sorted_any _ _ _ _ (HX.out.below HA.out) hn).mono ?_
      rintro e w' ⟨rfl, q, rfl⟩
      go_wp2_with fail
      refine (l1WordOk_any _ hp _).mono ?_
      rintro e w' ⟨rfl, q2, rfl⟩
      go_wp2_with fail
      refine (l1In_any _ _ _ _).mono ?_
      rintro e w' ⟨rfl, rfl⟩
      simp only [Bool.decide_and, h3']
      go_wp2_with fail
      go_ret
      exact ⟨_, _, rfl, own_none _ _, below_drewN HA.out _⟩
    · have HG := Lib.hid (show nearOf n xs s far = xs.filter (isNear s far) by simp [nearOf, h1, h2, h3])
      have W := Lib.hid (fun j (hj : j < n) => wordsUp_ok h1 hj)
      have H2 := Lib.hid h2
      have hn40 : n ≤ 40 := by simp only [wordsUp, Bool.and_eq_true, decide_eq_true_eq] at h1; exact h1.1
      obtain ⟨i0, hi, hz0, hz1, hz2⟩ := info_parts info_str
      obtain ⟨f0, f2⟩ := h3
      go_enter Try.func35, Try.ntmps35
      go_wp2_with fail
      refine (l4Sorted_any _ _ _ _ (HX.out.below HA.out) hn).mono ?_
      rintro e w' ⟨rfl, q, rfl⟩
      go_wp2_with fail
      refine (l1WordOk_any _ hp _).mono ?_
      rintro e w' ⟨rfl, q2, rfl⟩
      go_wp2_with fail
      refine (l1In_any _ _ _ _).mono ?_
      rintro e w' ⟨rfl, rfl⟩
      go_wp2_with fail
      go_loopw [7, 8] (fun v i wr => ∃ (k : Nat) (a' : Option Addr) (c' : Nat) (ys : List ByteArray), k ≤ n ∧ i = .int .i64 k ∧ v = .slice a' ys.length c' ∧ ys = (xs.take k).filter (isNear s far) ∧ wr.ownsRow w.heap.size 9 1 (.slice a' ys.length c') ys.length (ys.map Value.string) ∧ Below w.heap.size w wr) (fun _ i _ => n - (intOf i).toNat)
      case atStart => exact ⟨0, _, _, [], Nat.zero_le _, rfl, rfl, rfl, own_drewN ON.out.own _, below_drewN HA.out _⟩
      case round =>
        clear h1 h2
        obtain ⟨k, a', c', ys, hk, rfl, rfl, hys, hown, hb⟩ := hrel
        have HY := Lib.hid hys; clear hys
        have HO := Lib.hid hown; clear hown
        have hyl : ys.length ≤ k := by
          rw [HY.out]; exact Nat.le_trans (List.length_filter_le _ _) (List.length_take_le _ _)
        by_cases hlt : k < n
        · obtain ⟨b, off, rfl, hc⟩ := (HX.out.below hb).rd.pos hlt
          have hck := hc k hlt
          have HB := Lib.hid hb; clear hb hc
          have hz := HX.out.fit k
          have hlx : k < xs.length := by rw [HX.out.len]; exact hlt
          have Z1 := wordOk_size (W.out k hlt)
          have Z2 := wordOk_size H2.out
          have GE := Lib.hid (show farI (nthS xs k) s = nearFar (nthS xs k) s by rw [nearFar, W.out k hlt, H2.out]; rfl)
          by_cases hq : farI (nthS xs k) s ≤ far
          rotate_left
          · have F := Lib.hid (filter_no (q := isNear s far) hlx (by have := GE.out; simp only [isNear, ← this]; simpa using hq))
            go_wp2_with fail
            refine (l5Far_any _ _ Z1.2 Z2.2 _).mono ?_
            rintro e w1 ⟨rfl, hb1⟩
            have O1 := Lib.hid (own_below HO.out hb1 (Nat.le_refl _))
            have HB1 := Lib.hid (HB.out.trans (hb1.mono HB.out.size)); clear hb1
            go_wp2_with fail
            go_roundw
            case rel => exact ⟨k + 1, a', c', ys, by omega, by go_num, rfl, by rw [F.out]; exact HY.out, O1.out, HB1.out⟩
            case measure => simp [intOf]; omega
          · have F := Lib.hid (filter_yes (q := isNear s far) hlx (by have := GE.out; simp only [isNear, ← this]; simpa using hq))
            go_wp2_with fail
            refine (l5Far_any _ _ Z1.2 Z2.2 _).mono ?_
            rintro e w1 ⟨rfl, hb1⟩
            have O1 := Lib.hid (own_below HO.out hb1 (Nat.le_refl _))
            have hck1 := (hb1.cell (p := ⟨b, off + k, none⟩) (World.block_lt_of_cell? wr _ hck)).trans hck
            have HB1 := Lib.hid (HB.out.trans (hb1.mono HB.out.size)); clear hb1
            go_wp2_with (at_builtin; refine wpList_append_own _ rfl _ _ 40 rfl w.heap.size 9 i0 (.string ByteArray.empty) 1 16 Try.underlying40 hi hz0 hz1 hz2 rfl (by decide) _ _ _ rfl (O1.out.alloc _) ⟨w1.heap.size, 0, none⟩ 1 1 [.string (nthS xs k)] rfl rfl ?c1 ?c2 ?c3 ?c4 ?c5 ?_)
            case c1 => exact cells_new w1 _ _
            case c2 => intro u hu; simp at hu; subst hu; rfl
            case c3 => unfold maxLen; omega
            case c4 => omega
            case c5 => have := HB1.out.size; show w.heap.size ≤ (w1.alloc _).heap.size; simp; omega
            · intro v' w2 hown' hgrow _
              obtain ⟨a2, c2, hv⟩ := own_form hown'
              rw [hv] at hown'
              have HO2 := Lib.hid hown'; clear hown'
              have HB2 := Lib.hid ((HB1.out.alloc HB1.out.size _).grown hgrow (by have := HB1.out.size; show w.heap.size ≤ (w1.alloc _).heap.size; simp; omega) (fun k hk => (own_block HO.out k hk).1))
              clear hgrow
              rw [hv]
              clear hv
              go_wp2_with fail
              go_roundw
              case rel => exact ⟨k + 1, a2, c2, ys ++ [nthS xs k], by omega, by go_num, by simp, by rw [F.out, HY.out], by have := HO2.out; simpa using this, HB2.out⟩
              case measure => simp [intOf]; omega
        · obtain rfl : k = n := by omega
          have HB := Lib.hid hb; clear hb
          have E := Lib.hid (show ys = nearOf k xs s far by rw [HG.out, HY.out, ← HX.out.len, List.take_length])
          go_wp2_with fail
          go_ret
          rw [← E.out]
          exact ⟨_, _, rfl, own_of_map rfl HO.out HX.out.fit (fun y hy => by rw [HY.out] at hy; exact List.mem_of_mem_take (List.mem_filter.1 hy).1), HB.out⟩
end Go.Proofs.Ytoljjhhomklcbaa
