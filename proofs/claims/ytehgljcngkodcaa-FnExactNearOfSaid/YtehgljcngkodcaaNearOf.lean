/- The walks of the words that are near. Conditions: what is read fits the model's sizes. -/
import Derived.Test.YtehgljcngkodcaaNear
import Derived.Test.YtehgljcngkodcaaGlobOf
namespace Go.Proofs.Ytehgljcngkodcaa
open Go.RowKit

def isNear (s : ByteArray) (far : Int) (x : ByteArray) : Bool := decide (nearFar x s ≤ far)
def nearOf (n : Nat) (xs : List ByteArray) (s : ByteArray) (far : Int) : List ByteArray := if wordsUp n xs && wordOk s && decide (0 ≤ far ∧ far ≤ 2) then xs.filter (isNear s far) else []
theorem nearOf_le (n : Nat) (xs : List ByteArray) (s : ByteArray) (far : Int) (hl : xs.length = n) : (nearOf n xs s far).length ≤ n := by
  unfold nearOf; split
  · rw [← hl]; exact List.length_filter_le _ _
  · exact Nat.zero_le _
set_option maxHeartbeats 1000000 in
theorem NearOf_any (a : Option Addr) (n cap : Nat) (xs : List ByteArray) (s : ByteArray) (far : Int) (w : World) (hx : Strs w a n xs) (hn : n ≤ maxLen) (hp : s.size ≤ maxLen) :
    Calls Try.prog 44 #[.slice a n cap, .string s, .int .i64 far] w fun e w' => ∃ a' c', e = .returned (.slice a' (nearOf n xs s far).length c') ∧ OwnStrs w' w.heap.size a' (nearOf n xs s far).length c' (nearOf n xs s far) ∧ Below w.heap.size w w' := by
  have HX := Lib.hid hx; clear hx
  have HA := Lib.hid ((Below.refl w.heap.size w).alloc (Nat.le_refl _) (.cells #[] 9))
  have ON := Lib.hid (own_nil_made w)
  cases h1 : wordsUp n xs
  · rw [show nearOf n xs s far = [] by simp [nearOf, h1]]
    go_enter Try.func44, Try.ntmps44
    go_wp2_with fail
    refine (WordsUp_any _ _ _ _ (HX.out.below HA.out) hn).mono ?_
    rintro e w' ⟨rfl, rfl⟩
    go_wp2_with fail
    go_ret
    exact ⟨_, _, rfl, ON.out, HA.out⟩
  · cases h2 : wordOk s
    · rw [show nearOf n xs s far = [] by simp [nearOf, h2]]
      go_enter Try.func44, Try.ntmps44
      go_wp2_with fail
      refine (WordsUp_any _ _ _ _ (HX.out.below HA.out) hn).mono ?_
      rintro e w' ⟨rfl, rfl⟩
      go_wp2_with fail
      refine (WordOk_any _ hp _).mono ?_
      rintro e w' ⟨rfl, rfl⟩
      go_wp2_with fail
      go_ret
      exact ⟨_, _, rfl, ON.out, HA.out⟩
    by_cases h3 : 0 ≤ far ∧ far ≤ 2
    case neg =>
      have h3' : decide (0 ≤ far ∧ far ≤ 2) = false := by simp only [decide_eq_false_iff_not]; exact h3
      rw [show nearOf n xs s far = [] by simp only [nearOf, h3', Bool.and_false]; simp]
      simp only [Bool.decide_and] at h3'
      clear h3
      go_enter Try.func44, Try.ntmps44
      go_wp2_with fail
      refine (WordsUp_any _ _ _ _ (HX.out.below HA.out) hn).mono ?_
      rintro e w' ⟨rfl, rfl⟩
      go_wp2_with fail
      refine (WordOk_any _ hp _).mono ?_
      rintro e w' ⟨rfl, rfl⟩
      go_wp2_with fail
      refine (within_any _ _ _ _).mono ?_
      rintro e w' ⟨rfl, rfl⟩
      simp only [Bool.decide_and, h3']
      go_wp2_with fail
      go_ret
      exact ⟨_, _, rfl, ON.out, HA.out⟩
    · have HG := Lib.hid (show nearOf n xs s far = xs.filter (isNear s far) by simp [nearOf, h1, h2, h3])
      have hn40 : n ≤ 40 := by simp only [wordsUp, Bool.and_eq_true, decide_eq_true_eq] at h1; exact h1.1
      obtain ⟨i0, hi, hz0, hz1, hz2⟩ := info_parts info_str
      obtain ⟨f0, f2⟩ := h3
      go_enter Try.func44, Try.ntmps44
      go_wp2_with fail
      refine (WordsUp_any _ _ _ _ (HX.out.below HA.out) hn).mono ?_
      rintro e w' ⟨rfl, rfl⟩
      go_wp2_with fail
      refine (WordOk_any _ hp _).mono ?_
      rintro e w' ⟨rfl, rfl⟩
      go_wp2_with fail
      refine (within_any _ _ _ _).mono ?_
      rintro e w' ⟨rfl, rfl⟩
      go_wp2_with fail
      go_loopw [7, 27] (fun v i wr => ∃ (k : Nat) (a' : Option Addr) (c' : Nat) (ys : List ByteArray), k ≤ n ∧ i = .int .i64 k ∧ v = .slice a' ys.length c' ∧ ys = (xs.take k).filter (isNear s far) ∧ wr.ownsRow w.heap.size 9 1 (.slice a' ys.length c') ys.length (ys.map Value.string) ∧ Below w.heap.size w wr) (fun _ i _ => n - (intOf i).toNat)
      case atStart => exact ⟨0, _, _, [], Nat.zero_le _, rfl, rfl, rfl, ON.out.own, HA.out⟩
      case round =>
        clear h1 h2
        obtain ⟨k, a', c', ys, hk, rfl, rfl, hys, hown, hb⟩ := hrel
        have HY := Lib.hid hys; clear hys
        have HO := Lib.hid hown; clear hown
        have hyl : ys.length ≤ k := by
          rw [HY.out]; exact Nat.le_trans (List.length_filter_le _ _) (List.length_take_le _ _)
        by_cases hlt : k < n
        · obtain ⟨b, off, rfl, hc⟩ := (HX.out.below hb).rd.pos hlt
          have hck := hc k hlt
          have HB := Lib.hid hb; clear hb hc
          have hz := HX.out.fit k
          have hlx : k < xs.length := by rw [HX.out.len]; exact hlt
          by_cases hq : nearFar (nthS xs k) s ≤ far
          rotate_left
          · have F := Lib.hid (filter_no (q := isNear s far) hlx (by simpa [isNear] using hq))
            go_wp2_with fail
            refine (NearFar_any _ _ hz hp _).mono ?_
            rintro e w1 ⟨rfl, hb1⟩
            have O1 := Lib.hid (own_below HO.out hb1 (Nat.le_refl _))
            have HB1 := Lib.hid (HB.out.trans (hb1.mono HB.out.size)); clear hb1
            go_wp2_with fail
            go_roundw
            case rel => exact ⟨k + 1, a', c', ys, by omega, by go_num, rfl, by rw [F.out]; exact HY.out, O1.out, HB1.out⟩
            case measure => simp [intOf]; omega
          · have F := Lib.hid (filter_yes (q := isNear s far) hlx (by simpa [isNear] using hq))
            go_wp2_with fail
            refine (NearFar_any _ _ hz hp _).mono ?_
            rintro e w1 ⟨rfl, hb1⟩
            have O1 := Lib.hid (own_below HO.out hb1 (Nat.le_refl _))
            have hck1 := (hb1.cell (p := ⟨b, off + k, none⟩) (World.block_lt_of_cell? wr _ hck)).trans hck
            have HB1 := Lib.hid (HB.out.trans (hb1.mono HB.out.size)); clear hb1
            go_wp2_with (at_builtin; refine wpList_append_own _ rfl _ _ 26 rfl w.heap.size 9 i0 (.string ByteArray.empty) 1 16 Try.underlying26 hi hz0 hz1 hz2 rfl (by decide) _ _ _ rfl (O1.out.alloc _) ⟨w1.heap.size, 0, none⟩ 1 1 [.string (nthS xs k)] rfl rfl ?c1 ?c2 ?c3 ?c4 ?c5 ?_)
            case c1 => exact cells_new w1 _ _
            case c2 => intro u hu; simp at hu; subst hu; rfl
            case c3 => unfold maxLen; omega
            case c4 => omega
            case c5 => have := HB1.out.size; show w.heap.size ≤ (w1.alloc _).heap.size; simp; omega
            · intro v' w2 hown' hgrow _
              obtain ⟨a2, c2, hv⟩ := own_form hown'
              rw [hv] at hown'
              have HO2 := Lib.hid hown'; clear hown'
              have HB2 := Lib.hid ((HB1.out.alloc HB1.out.size _).grown hgrow (by have := HB1.out.size; show w.heap.size ≤ (w1.alloc _).heap.size; simp; omega) (fun k hk => (own_block HO.out k hk).1))
              clear hgrow
              rw [hv]
              clear hv
              go_wp2_with fail
              go_roundw
              case rel => exact ⟨k + 1, a2, c2, ys ++ [nthS xs k], by omega, by go_num, by simp, by rw [F.out, HY.out], by have := HO2.out; simpa using this, HB2.out⟩
              case measure => simp [intOf]; omega
        · obtain rfl : k = n := by omega
          have HB := Lib.hid hb; clear hb
          have E := Lib.hid (show ys = nearOf k xs s far by rw [HG.out, HY.out, ← HX.out.len, List.take_length])
          go_wp2_with fail
          go_ret
          rw [← E.out]
          exact ⟨_, _, rfl, own_of_map rfl HO.out HX.out.fit (fun y hy => by rw [HY.out] at hy; exact List.mem_of_mem_take (List.mem_filter.1 hy).1), HB.out⟩
set_option maxHeartbeats 1000000 in
theorem sNearOf_any (a : Option Addr) (n cap : Nat) (xs : List ByteArray) (s : ByteArray) (far : Int) (w : World) (hx : Strs w a n xs) (hn : n ≤ maxLen) (hp : s.size ≤ maxLen) :
    Calls Try.prog 43 #[.slice a n cap, .string s, .int .i64 far] w fun e w' => ∃ a' c', e = .returned (.slice a' (nearOf n xs s far).length c') ∧ OwnStrs w' w.heap.size a' (nearOf n xs s far).length c' (nearOf n xs s far) ∧ Below w.heap.size w w' := by
  have HX := Lib.hid hx; clear hx
  have HA := Lib.hid ((Below.refl w.heap.size w).alloc (Nat.le_refl _) (.cells #[] 9))
  have ON := Lib.hid (own_nil_made w)
  cases h1 : wordsUp n xs
  · rw [show nearOf n xs s far = [] by simp [nearOf, h1]]
    go_enter Try.func43, Try.ntmps43
    go_wp2_with fail
    refine (l4Sorted_any _ _ _ _ (HX.out.below HA.out) hn).mono ?_
    rintro e w' ⟨rfl, q, rfl⟩
    go_wp2_with fail
    go_ret
    exact ⟨_, _, rfl, own_none _ _, below_drewN HA.out _⟩
  · cases h2 : wordOk s
    · rw [show nearOf n xs s far = [] by simp [nearOf, h2]]
      go_enter Try.func43, Try.ntmps43
      go_wp2_with fail
      refine (l4Sorted_any _ _ _ _ (HX.out.below HA.out) hn).mono ?_
      rintro e w' ⟨rfl, q, rfl⟩
      go_wp2_with fail
      refine (l1WordOk_any _ hp _).mono ?_
      rintro e w' ⟨rfl, q2, rfl⟩
      go_wp2_with fail
      go_ret
      exact ⟨_, _, rfl, own_none _ _, below_drewN HA.out _⟩
    by_cases h3 : 0 ≤ far ∧ far ≤ 2
    case neg =>
      have h3' : decide (0 ≤ far ∧ far ≤ 2) = false := by simp only [decide_eq_false_iff_not]; exact h3
      rw [show nearOf n xs s far = [] by simp only [nearOf, h3', Bool.and_false]; simp]
      simp only [Bool.decide_and] at h3'
      clear h3
      go_enter Try.func43, Try.ntmps43
      go_wp2_with fail
      refine (l4Sorted_any _ _ _ _ (HX.out.below HA.out) hn).mono ?_
      rintro e w' ⟨rfl, q, rfl⟩
      go_wp2_with fail
      refine (l1WordOk_any _ hp _).mono ?_
      rintro e w' ⟨rfl, q2, rfl⟩
      go_wp2_with fail
      refine (l1In_any _ _ _ _).mono ?_
      rintro e w' ⟨rfl, rfl⟩
      simp only [Bool.decide_and, h3']
      go_wp2_with fail
      go_ret
      exact ⟨_, _, rfl, own_none _ _, below_drewN HA.out _⟩
    · have HG := Lib.hid (show nearOf n xs s far = xs.filter (isNear s far) by simp [nearOf, h1, h2, h3])
      have W := Lib.hid (fun j (hj : j < n) => wordsUp_ok h1 hj)
      have H2 := Lib.hid h2
      have hn40 : n ≤ 40 := by simp only [wordsUp, Bool.and_eq_true, decide_eq_true_eq] at h1; exact h1.1
      obtain ⟨i0, hi, hz0, hz1, hz2⟩ := info_parts info_str
      obtain ⟨f0, f2⟩ := h3
      go_enter Try.func43, Try.ntmps43
      go_wp2_with fail
      refine (l4Sorted_any _ _ _ _ (HX.out.below HA.out) hn).mono ?_
      rintro e w' ⟨rfl, q, rfl⟩
      go_wp2_with fail
      refine (l1WordOk_any _ hp _).mono ?_
      rintro e w' ⟨rfl, q2, rfl⟩
      go_wp2_with fail
      refine (l1In_any _ _ _ _).mono ?_
      rintro e w' ⟨rfl, rfl⟩
      go_wp2_with fail
      go_loopw [7, 8] (fun v i wr => ∃ (k : Nat) (a' : Option Addr) (c' : Nat) (ys : List ByteArray), k ≤ n ∧ i = .int .i64 k ∧ v = .slice a' ys.length c' ∧ ys = (xs.take k).filter (isNear s far) ∧ wr.ownsRow w.heap.size 9 1 (.slice a' ys.length c') ys.length (ys.map Value.string) ∧ Below w.heap.size w wr) (fun _ i _ => n - (intOf i).toNat)
      case atStart => exact ⟨0, _, _, [], Nat.zero_le _, rfl, rfl, rfl, own_drewN ON.out.own _, below_drewN HA.out _⟩
      case round =>
        clear h1 h2
        obtain ⟨k, a', c', ys, hk, rfl, rfl, hys, hown, hb⟩ := hrel
        have HY := Lib.hid hys; clear hys
        have HO := Lib.hid hown; clear hown
        have hyl : ys.length ≤ k := by
          rw [HY.out]; exact Nat.le_trans (List.length_filter_le _ _) (List.length_take_le _ _)
        by_cases hlt : k < n
        · obtain ⟨b, off, rfl, hc⟩ := (HX.out.below hb).rd.pos hlt
          have hck := hc k hlt
          have HB := Lib.hid hb; clear hb hc
          have hz := HX.out.fit k
          have hlx : k < xs.length := by rw [HX.out.len]; exact hlt
          have Z1 := wordOk_size (W.out k hlt)
          have Z2 := wordOk_size H2.out
          have GE := Lib.hid (show farI (nthS xs k) s = nearFar (nthS xs k) s by rw [nearFar, W.out k hlt, H2.out]; rfl)
          by_cases hq : farI (nthS xs k) s ≤ far
          rotate_left
          · have F := Lib.hid (filter_no (q := isNear s far) hlx (by have := GE.out; simp only [isNear, ← this]; simpa using hq))
            go_wp2_with fail
            refine (l5Far_any _ _ Z1.2 Z2.2 _).mono ?_
            rintro e w1 ⟨rfl, hb1⟩
            have O1 := Lib.hid (own_below HO.out hb1 (Nat.le_refl _))
            have HB1 := Lib.hid (HB.out.trans (hb1.mono HB.out.size)); clear hb1
            go_wp2_with fail
            go_roundw
            case rel => exact ⟨k + 1, a', c', ys, by omega, by go_num, rfl, by rw [F.out]; exact HY.out, O1.out, HB1.out⟩
            case measure => simp [intOf]; omega
          · have F := Lib.hid (filter_yes (q := isNear s far) hlx (by have := GE.out; simp only [isNear, ← this]; simpa using hq))
            go_wp2_with fail
            refine (l5Far_any _ _ Z1.2 Z2.2 _).mono ?_
            rintro e w1 ⟨rfl, hb1⟩
            have O1 := Lib.hid (own_below HO.out hb1 (Nat.le_refl _))
            have hck1 := (hb1.cell (p := ⟨b, off + k, none⟩) (World.block_lt_of_cell? wr _ hck)).trans hck
            have HB1 := Lib.hid (HB.out.trans (hb1.mono HB.out.size)); clear hb1
            go_wp2_with (at_builtin; refine wpList_append_own _ rfl _ _ 26 rfl w.heap.size 9 i0 (.string ByteArray.empty) 1 16 Try.underlying26 hi hz0 hz1 hz2 rfl (by decide) _ _ _ rfl (O1.out.alloc _) ⟨w1.heap.size, 0, none⟩ 1 1 [.string (nthS xs k)] rfl rfl ?c1 ?c2 ?c3 ?c4 ?c5 ?_)
            case c1 => exact cells_new w1 _ _
            case c2 => intro u hu; simp at hu; subst hu; rfl
            case c3 => unfold maxLen; omega
            case c4 => omega
            case c5 => have := HB1.out.size; show w.heap.size ≤ (w1.alloc _).heap.size; simp; omega
            · intro v' w2 hown' hgrow _
              obtain ⟨a2, c2, hv⟩ := own_form hown'
              rw [hv] at hown'
              have HO2 := Lib.hid hown'; clear hown'
              have HB2 := Lib.hid ((HB1.out.alloc HB1.out.size _).grown hgrow (by have := HB1.out.size; show w.heap.size ≤ (w1.alloc _).heap.size; simp; omega) (fun k hk => (own_block HO.out k hk).1))
              clear hgrow
              rw [hv]
              clear hv
              go_wp2_with fail
              go_roundw
              case rel => exact ⟨k + 1, a2, c2, ys ++ [nthS xs k], by omega, by go_num, by simp, by rw [F.out, HY.out], by have := HO2.out; simpa using this, HB2.out⟩
              case measure => simp [intOf]; omega
        · obtain rfl : k = n := by omega
          have HB := Lib.hid hb; clear hb
          have E := Lib.hid (show ys = nearOf k xs s far by rw [HG.out, HY.out, ← HX.out.len, List.take_length])
          go_wp2_with fail
          go_ret
          rw [← E.out]
          exact ⟨_, _, rfl, own_of_map rfl HO.out HX.out.fit (fun y hy => by rw [HY.out] at hy; exact List.mem_of_mem_take (List.mem_filter.1 hy).1), HB.out⟩
set_option maxHeartbeats 1000000 in
theorem xNearOf_any (a : Option Addr) (n cap : Nat) (xs : List ByteArray) {w : World} (hx : Strs w a n xs) (hn : n ≤ maxLen) (s : ByteArray) (hp : s.size ≤ maxLen) (far : Int) (_hfar : (Lit.int .i64 far).wf = true) :
    Calls Try.prog 14 #[.slice a n cap, .string s, .int .i64 far] w fun e w' => e = .returned (.bool true) ∧ Below w.heap.size w w' := by
  have HX := Lib.hid hx; clear hx
  have HN := Lib.hid hn; clear hn
  by_cases hpl : (1048576 : Int) < (s.size : Int)
  · go_enter Try.func14, Try.ntmps14
    go_wp2_with fail
    go_ret
    exact ⟨rfl, Below.refl _ _⟩
  by_cases hneg : szStrs xs n 1048576 < 0
  · go_enter Try.func14, Try.ntmps14
    go_wp2_with fail
    refine (szStringS_any _ _ _ _ _ _ HX.out HN.out (by omega) (by omega)).mono ?_
    rintro e w' ⟨rfl, rfl⟩
    go_wp2_with fail
    go_ret
    exact ⟨rfl, Below.refl _ _⟩
  · have hb := szStrs_bound (xs := xs) (n := n) (left := 1048576) (by omega)
    have hn2 : n ≤ 1048576 := by omega
    have hn3 : n ≤ maxLen := by unfold maxLen; omega
    have hL := nearOf_le n xs s far HX.out.len
    have hL3 : (nearOf n xs s far).length ≤ maxLen := Nat.le_trans hL hn3
    clear hb
    have T := Lib.hid (fun (v : World) (h : Strs v a n xs) => toStringS_any a n cap xs v h hn2)
    go_enter Try.func14, Try.ntmps14
    go_wp2_with fail
    refine (szStringS_any _ _ _ _ _ _ HX.out HN.out (by omega) (by omega)).mono ?_
    rintro e w' ⟨rfl, rfl⟩
    go_wp2_with fail
    refine (T.out _ HX.out).mono ?_
    rintro e w1 ⟨a1, rfl, ho1, hb1⟩
    have O1 := Lib.hid ho1; clear ho1
    have B1 := Lib.hid hb1; clear hb1
    go_wp2_with fail
    refine (sNearOf_any _ _ _ _ _ _ _ O1.out.strs hn3 hp).mono ?_
    rintro e w2 ⟨a2, c2, rfl, ho2, hb2⟩
    have W2 := Lib.hid ho2; clear ho2
    have B2 := Lib.hid (B1.out.trans (hb2.mono B1.out.size)); clear hb2
    go_wp2_with fail
    refine (T.out _ (HX.out.below B2.out)).mono ?_
    rintro e w3 ⟨a3, rfl, ho3, hb3⟩
    have X3 := Lib.hid ho3; clear ho3
    have W3 := Lib.hid (W2.out.below hb3)
    have B3 := Lib.hid (B2.out.trans (hb3.mono B2.out.size))
    have S3 := Lib.hid hb3.size; clear hb3
    go_wp2_with fail
    refine (NearOf_any _ _ _ _ _ _ _ X3.out.strs hn3 hp).mono ?_
    rintro e w4 ⟨a4, c4, rfl, ho4, hb4⟩
    have G4 := Lib.hid ho4; clear ho4
    have W4 := Lib.hid (W3.out.below hb4)
    have X4 := Lib.hid (X3.out.below hb4)
    have B4 := Lib.hid (B3.out.trans (hb4.mono B3.out.size)); clear hb4
    have E1 : eqStrs (nearOf n xs s far).length (nearOf n xs s far).length (nearOf n xs s far) (nearOf n xs s far) = true := eqStrs_refl _ _
    have E2 : eqStrs n n xs xs = true := eqStrs_refl _ _
    go_wp2_with fail
    refine (eqStringS_any _ _ _ _ _ _ _ _ _ G4.out.strs W4.out.strs hL3 hL3).mono ?_
    rintro e w4' ⟨rfl, q, rfl⟩
    go_wp2_with fail
    refine (T.out _ (HX.out.below (below_drewN B4.out q))).mono ?_
    rintro e w5 ⟨a5, rfl, ho5, hb5⟩
    have hb5' : Below w4.heap.size w4 w5 := (below_drewN (Below.refl _ _) q).trans hb5
    have T5 := Lib.hid ho5; clear ho5
    have W5 := Lib.hid (W4.out.below hb5')
    have X5 := Lib.hid (X4.out.below hb5')
    have G5 := Lib.hid (G4.out.below hb5')
    have B5 := Lib.hid (B4.out.trans (hb5'.mono B4.out.size)); clear hb5 hb5'
    go_wp2_with fail
    refine (eqStringS_any _ _ _ _ _ _ _ _ _ X5.out.strs T5.out.strs hn3 hn3).mono ?_
    rintro e w5' ⟨rfl, q2, rfl⟩
    go_wp2_with fail
    refine (markStringS_any a3 n n 1 w2.heap.size _ (w5.drewN q2) (own_drewN X5.out.own q2) (by omega) (by omega)).mono ?_
    rintro e w6 ⟨rfl, ho6, hg6⟩
    clear ho6
    have W6 := Lib.hid (OwnStrs.kept (w := w5.drewN q2) ⟨W5.out.len, W5.out.fit, W5.out.own⟩ hg6 (own_apart W2.out.own X3.out.own (Nat.le_refl _)))
    have G6 := Lib.hid (OwnStrs.kept (w := w5.drewN q2) ⟨G5.out.len, G5.out.fit, G5.out.own⟩ hg6 (own_apart' X3.out.own G4.out.own (Nat.le_refl _)))
    have B6 := Lib.hid ((below_drewN B5.out q2).grown hg6 B5.out.size (fun k hk => Nat.le_trans B2.out.size (own_block X3.out.own k hk).1))
    clear hg6
    go_wp2_with fail
    refine (eqStringS_any _ _ _ _ _ _ _ _ _ G6.out.strs W6.out.strs hL3 hL3).mono ?_
    rintro e w6' ⟨rfl, q3, rfl⟩
    go_wp2_with fail
    refine (markStringS_any a4 (nearOf n xs s far).length c4 1 w3.heap.size _ (w6.drewN q3) (own_drewN G6.out.own q3) (by omega) (by omega)).mono ?_
    rintro e w7 ⟨rfl, ho7, hg7⟩
    have G7 := Lib.hid ho7; clear ho7
    have W7 := Lib.hid (OwnStrs.kept (w := w6.drewN q3) ⟨W6.out.len, W6.out.fit, W6.out.own⟩ hg7 (own_apart W2.out.own G4.out.own (Nat.le_trans S3.out (Nat.le_refl _))))
    have B7 := Lib.hid ((below_drewN B6.out q3).grown hg7 B6.out.size (fun k hk => Nat.le_trans B3.out.size (own_block G4.out.own k hk).1))
    clear hg7
    go_wp2_with fail
    refine (heldStringS_any _ _ _ 1 _ (Rd.of_own1 G7.out) (by omega) (by omega)).mono ?_
    rintro e w8 ⟨rfl, hb8⟩
    have G8 := Lib.hid (own_below G7.out hb8 (Nat.le_refl _))
    have W8 := Lib.hid (W7.out.below hb8)
    have B8 := Lib.hid (B7.out.trans (hb8.mono B7.out.size)); clear hb8
    go_wp2_with fail
    refine (T.out _ (HX.out.below B8.out)).mono ?_
    rintro e w9 ⟨a9, rfl, ho9, hb9⟩
    have O9 := Lib.hid ho9; clear ho9
    have G9 := Lib.hid (own_below G8.out hb9 (Nat.le_refl _))
    have W9 := Lib.hid (W8.out.below hb9)
    have B9 := Lib.hid (B8.out.trans (hb9.mono B8.out.size)); clear hb9
    go_wp2_with fail
    refine (NearOf_any _ _ _ _ _ _ _ O9.out.strs hn3 hp).mono ?_
    rintro e w10 ⟨a10, c10, rfl, ho10, hb10⟩
    have H10 := Lib.hid ho10; clear ho10
    have G10 := Lib.hid (own_below G9.out hb10 (Nat.le_refl _))
    have W10 := Lib.hid (W9.out.below hb10)
    have B10 := Lib.hid (B9.out.trans (hb10.mono B9.out.size)); clear hb10
    go_wp2_with fail
    refine (eqStringS_any _ _ _ _ _ _ _ _ _ H10.out.strs W10.out.strs hL3 hL3).mono ?_
    rintro e w10' ⟨rfl, q4, rfl⟩
    go_wp2_with fail
    refine (heldStringS_any _ _ _ 1 _ (Rd.of_own1 (own_drewN G10.out q4)) (by omega) (by omega)).mono ?_
    rintro e w11 ⟨rfl, hb11⟩
    have B11 := Lib.hid ((below_drewN B10.out q4).trans (hb11.mono B10.out.size)); clear hb11
    go_wp2_with fail
    go_ret
    exact ⟨rfl, B11.out⟩
end Go.Proofs.Ytehgljcngkodcaa
