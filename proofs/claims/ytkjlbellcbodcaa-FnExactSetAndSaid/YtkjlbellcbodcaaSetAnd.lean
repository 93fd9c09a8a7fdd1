/- The walks of what two lists of numbers have both. Conditions: what is read fits the model's sizes. -/
import Derived.Test.YtkjlbellcbodcaaGapGet
namespace Go.Proofs.Ytkjlbellcbodcaa
open Go.RowKit

def hasI (m : Nat) (ys : List Int) (v : Int) : Bool := !(allN m fun j => !(nthI ys j == v))
theorem hasI_yes {m k : Nat} {ys : List Int} {v : Int} (hk : k < m) (h : (nthI ys k == v) = true) : hasI m ys v = true := by
  rw [hasI, allN_fail hk (by rw [h]; rfl)]; rfl
theorem hasI_no {m : Nat} {ys : List Int} {v : Int} (h : allN m (fun j => !(nthI ys j == v)) = true) : hasI m ys v = false := by rw [hasI, h]; rfl
def setAnd (n m : Nat) (xs ys : List Int) : List Int := if upOk n xs && upOk m ys then xs.filter (hasI m ys) else []
theorem setAnd_le {n m : Nat} {xs ys : List Int} (hl : xs.length = n) : (setAnd n m xs ys).length ≤ n := by
  unfold setAnd; split
  · rw [← hl]; exact List.length_filter_le _ _
  · exact Nat.zero_le _
theorem take_snocI (xs : List Int) (k : Nat) (h : k < xs.length) : xs.take (k + 1) = xs.take k ++ [nthI xs k] := by
  rw [List.take_succ_eq_append_getElem h, nthI_eq h]
theorem filterI_yes {xs : List Int} {q : Int → Bool} {k : Nat} (h : k < xs.length) (hq : q (nthI xs k) = true) : (xs.take (k + 1)).filter q = (xs.take k).filter q ++ [nthI xs k] := by
  rw [take_snocI xs k h, List.filter_append]; simp [hq]
theorem filterI_no {xs : List Int} {q : Int → Bool} {k : Nat} (h : k < xs.length) (hq : q (nthI xs k) = false) : (xs.take (k + 1)).filter q = (xs.take k).filter q := by
  rw [take_snocI xs k h, List.filter_append]; simp [hq]
theorem up_mem {n : Nat} {xs : List Int} (h : upOk n xs = true) (hl : xs.length = n) : ∀ x ∈ xs, 0 ≤ x ∧ x ≤ 999999999 := by
  intro x hx
  obtain ⟨i, hi⟩ := List.getElem?_of_mem hx
  have hin : i < xs.length := (List.getElem?_eq_some_iff.1 hi).1
  have h1 : upAsc n xs = true := by simp only [upOk, Bool.and_eq_true] at h; exact h.1
  have h2 := up_num h1 (show i < n by omega)
  have h3 : nthI xs i = x := by simp [nthI, hi]
  rwa [h3] at h2
theorem setAnd_fit {n m : Nat} {xs ys : List Int} (hl : xs.length = n) : ∀ x ∈ setAnd n m xs ys, 0 ≤ x ∧ x ≤ 999999999 := by
  unfold setAnd; split
  · rename_i h
    simp only [Bool.and_eq_true] at h
    intro x hx
    exact up_mem h.1 hl x (List.mem_filter.1 hx).1
  · simp
theorem Index_any {w : World} (a : Option Addr) (m cap : Nat) (ys : List Int) (v : Int) (hx : Ints w .i64 a m ys) (hm : m ≤ maxLen) :
    Calls Try.prog 55 #[.slice a m cap, .int .i64 v] w fun e w' => ∃ r : Int, e = .returned (.int .i64 r) ∧ decide (0 ≤ r) = hasI m ys v ∧ w = w' := by
  have HX := Lib.hid hx; clear hx
  unfold maxLen at hm
  go_enter Try.func55, Try.ntmps55
  go_wp2_with fail
  go_loop [8] (fun i => ∃ k : Nat, k ≤ m ∧ i = .int .i64 k ∧ allN k (fun j => !(nthI ys j == v)) = true) (fun i => m - (intOf i).toNat)
  case atStart => exact ⟨0, Nat.zero_le _, rfl, rfl⟩
  case round =>
    obtain ⟨k, hk, rfl, hall⟩ := hrel
    have HA := Lib.hid hall; clear hall
    by_cases hlt : k < m
    · obtain ⟨b, off, rfl, hc⟩ := HX.out.rd.pos hlt
      have hck := hc k hlt
      clear hc
      cases hq : nthI ys k == v
      · have F := Lib.hid (allN_step (p := fun j => !(nthI ys j == v)) HA.out (by show (!(nthI ys k == v)) = true; rw [hq]; rfl))
        have hq' : (v == nthI ys k) = false := by rw [beq_eq_false_iff_ne] at *; exact fun h => hq h.symm
        clear hq
        go_wp2_with fail
        go_round
        case rel => exact ⟨k + 1, by omega, by go_num, F.out⟩
        case measure => simp [intOf]; omega
      · have F := Lib.hid (hasI_yes hlt hq)
        have hq' : (v == nthI ys k) = true := by rw [beq_iff_eq] at *; exact hq.symm
        clear hq
        go_wp2_with fail
        go_ret
        exact ⟨k, rfl, by rw [F.out]; simp, rfl⟩
    · obtain rfl : k = m := by omega
      have F := Lib.hid (hasI_no HA.out)
      go_wp2_with fail
      go_ret
      exact ⟨-1, rfl, by rw [F.out]; rfl, rfl⟩
theorem Contains_any {w : World} (a : Option Addr) (m cap : Nat) (ys : List Int) (v : Int) (hx : Ints w .i64 a m ys) (hm : m ≤ maxLen) :
    Calls Try.prog 49 #[.slice a m cap, .int .i64 v] w fun e w' => e = .returned (.bool (hasI m ys v)) ∧ w = w' := by
  have HX := Lib.hid hx; clear hx
  go_enter Try.func49, Try.ntmps49
  go_wp2_with fail
  refine (Index_any _ _ _ _ _ HX.out hm).mono ?_
  rintro e w' ⟨r, rfl, hr, rfl⟩
  have HR := Lib.hid hr; clear hr
  go_wp2_with fail
  go_ret
  exact ⟨ret_bool HR.out, rfl⟩
theorem l8Has_any {w : World} (a : Option Addr) (m cap : Nat) (ys : List Int) (v : Int) (hx : Ints w .i64 a m ys) (hm : m ≤ maxLen) :
    Calls Try.prog 54 #[.slice a m cap, .int .i64 v] w fun e w' => e = .returned (.bool (hasI m ys v)) ∧ w = w' := by
  have HX := Lib.hid hx; clear hx
  unfold maxLen at hm
  go_enter Try.func54, Try.ntmps54
  go_wp2_with fail
  go_loop [5] (fun i => ∃ k : Nat, k ≤ m ∧ i = .int .i64 k ∧ allN k (fun j => !(nthI ys j == v)) = true) (fun i => m - (intOf i).toNat)
  case atStart => exact ⟨0, Nat.zero_le _, rfl, rfl⟩
  case round =>
    obtain ⟨k, hk, rfl, hall⟩ := hrel
    have HA := Lib.hid hall; clear hall
    by_cases hlt : k < m
    · obtain ⟨b, off, rfl, hc⟩ := HX.out.rd.pos hlt
      have hck := hc k hlt
      clear hc
      cases hq : nthI ys k == v
      · have F := Lib.hid (allN_step (p := fun j => !(nthI ys j == v)) HA.out (by show (!(nthI ys k == v)) = true; rw [hq]; rfl))
        go_wp2_with fail
        go_round
        case rel => exact ⟨k + 1, by omega, by go_num, F.out⟩
        case measure => simp [intOf]; omega
      · have F := Lib.hid (hasI_yes hlt hq)
        go_wp2_with fail
        go_ret
        exact ⟨ret_bool F.out.symm, rfl⟩
    · obtain rfl : k = m := by omega
      have F := Lib.hid (hasI_no HA.out)
      go_wp2_with fail
      go_ret
      exact ⟨ret_bool F.out.symm, rfl⟩
set_option maxRecDepth 20000 in
set_option maxHeartbeats 1000000 in
theorem SetAnd_any (a : Option Addr) (n cap : Nat) (xs : List Int) (b : Option Addr) (m d : Nat) (ys : List Int) (w : World) (hx : Ints w .i64 a n xs) (hy : Ints w .i64 b m ys) (hn : n ≤ maxLen) (hm : m ≤ maxLen) :
    Calls Try.prog 30 #[.slice a n cap, .slice b m d] w fun e w' => ∃ a' c', e = .returned (.slice a' (setAnd n m xs ys).length c') ∧ OwnInts w' w.heap.size a' (setAnd n m xs ys).length c' (setAnd n m xs ys) ∧ Below w.heap.size w w' := by
  have HFT := Lib.hid (setAnd_fit (ys := ys) (m := m) hx.len)
  have HX := Lib.hid hx; clear hx
  have HY := Lib.hid hy; clear hy
  have HA := Lib.hid ((Below.refl w.heap.size w).alloc (Nat.le_refl _) (.cells #[] 3))
  have ON := Lib.hid (ownI_new w w.heap.size (Nat.le_refl _))
  cases h1 : upOk n xs
  · have R := Lib.hid (show setAnd n m xs ys = [] by simp [setAnd, h1])
    go_enter Try.func30, Try.ntmps30
    go_wp2_with fail
    refine (UpOk_any _ _ _ _ (HX.out.below HA.out) hn).mono ?_
    rintro e w' ⟨rfl, rfl⟩
    go_wp2_with fail
    go_ret
    rw [R.out]
    exact ⟨_, _, rfl, ON.out, HA.out⟩
  · cases h2 : upOk m ys
    · have R := Lib.hid (show setAnd n m xs ys = [] by simp [setAnd, h2])
      go_enter Try.func30, Try.ntmps30
      go_wp2_with fail
      refine (UpOk_any _ _ _ _ (HX.out.below HA.out) hn).mono ?_
      rintro e w' ⟨rfl, rfl⟩
      go_wp2_with fail
      refine (UpOk_any _ _ _ _ (HY.out.below HA.out) hm).mono ?_
      rintro e w' ⟨rfl, rfl⟩
      go_wp2_with fail
      go_ret
      rw [R.out]
      exact ⟨_, _, rfl, ON.out, HA.out⟩
    · have HG := Lib.hid (show setAnd n m xs ys = xs.filter (hasI m ys) by simp [setAnd, h1, h2])
      have hn40 : n ≤ 60 := by simp only [upOk, Bool.and_eq_true, decide_eq_true_eq] at h1; exact h1.2
      obtain ⟨i0, hi, hz0, hz1, hz2⟩ := info_parts info_int
      go_enter Try.func30, Try.ntmps30
      go_wp2_with fail
      refine (UpOk_any _ _ _ _ (HX.out.below HA.out) hn).mono ?_
      rintro e w' ⟨rfl, rfl⟩
      go_wp2_with fail
      refine (UpOk_any _ _ _ _ (HY.out.below HA.out) hm).mono ?_
      rintro e w' ⟨rfl, rfl⟩
      go_wp2_with fail
      go_loopw [5, 20] (fun v i wr => ∃ (k : Nat) (a' : Option Addr) (c' : Nat) (zs : List Int), k ≤ n ∧ i = .int .i64 k ∧ v = .slice a' zs.length c' ∧ zs = (xs.take k).filter (hasI m ys) ∧ wr.ownsRow w.heap.size 3 1 (.slice a' zs.length c') zs.length (zs.map (Value.int .i64)) ∧ Below w.heap.size w wr) (fun _ i _ => n - (intOf i).toNat)
      case atStart => exact ⟨0, _, _, [], Nat.zero_le _, rfl, rfl, rfl, ints_nil_made w, HA.out⟩
      case round =>
        clear h1 h2
        obtain ⟨k, a', c', zs, hk, rfl, rfl, hys, hown, hb⟩ := hrel
        have HZ := Lib.hid hys; clear hys
        have HO := Lib.hid hown; clear hown
        have hyl : zs.length ≤ k := by
          rw [HZ.out]; exact Nat.le_trans (List.length_filter_le _ _) (List.length_take_le _ _)
        by_cases hlt : k < n
        · obtain ⟨b1, off, rfl, hc⟩ := (HX.out.below hb).rd.pos hlt
          have hck := hc k hlt
          have HB := Lib.hid hb; clear hb hc
          have hlx : k < xs.length := by rw [HX.out.len]; exact hlt
          cases hq : hasI m ys (nthI xs k)
          · have F := Lib.hid (filterI_no hlx hq)
            go_wp2_with fail
            refine (Contains_any _ _ _ _ _ (HY.out.below HB.out) hm).mono ?_
            rintro e w' ⟨rfl, rfl⟩
            go_wp2_with fail
            go_roundw
            case rel => exact ⟨k + 1, a', c', zs, by omega, by go_num, rfl, by rw [F.out]; exact HZ.out, HO.out, HB.out⟩
            case measure => simp [intOf]; omega
          · have F := Lib.hid (filterI_yes hlx hq)
            go_wp2_with fail
            refine (Contains_any _ _ _ _ _ (HY.out.below HB.out) hm).mono ?_
            rintro e w' ⟨rfl, rfl⟩
            go_wp2_with (at_builtin; refine wpList_append_own _ rfl _ _ 24 rfl w.heap.size 3 i0 (.int .i64 0) 1 8 Try.underlying24 hi hz0 hz1 hz2 rfl (by decide) _ _ _ rfl (HO.out.alloc _) ⟨wr.heap.size, 0, none⟩ 1 1 [.int .i64 (nthI xs k)] rfl rfl ?c1 ?c2 ?c3 ?c4 ?c5 ?_)
            case c1 => exact cells_new1 wr _ _
            case c2 => intro u hu; simp at hu; subst hu; rfl
            case c3 => unfold maxLen; omega
            case c4 => omega
            case c5 => have := HB.out.size; simp; omega
            · intro v' w1 hown' hgrow _
              obtain ⟨a2, c2, hv⟩ := own_form hown'
              rw [hv] at hown'
              have HO2 := Lib.hid hown'
              have HB2 := Lib.hid ((HB.out.alloc HB.out.size _).grown hgrow (by have := HB.out.size; simp; omega) (fun k hk => (own_block HO.out k hk).1))
              clear hgrow hown'
              rw [hv]
              clear hv
              go_wp2_with fail
              go_roundw
              case rel => exact ⟨k + 1, a2, c2, zs ++ [nthI xs k], by omega, by go_num, by simp, by rw [F.out, HZ.out], by have := HO2.out; simpa using this, HB2.out⟩
              case measure => simp [intOf]; omega
        · obtain rfl : k = n := by omega
          have HB := Lib.hid hb; clear hb
          have E := Lib.hid (show zs = setAnd k m xs ys by rw [HG.out, HZ.out, ← HX.out.len, List.take_length])
          go_wp2_with fail
          go_ret
          rw [← E.out]
          exact ⟨_, _, rfl, OwnInts.of_map HO.out (by rw [E.out]; exact HFT.out), HB.out⟩
set_option maxRecDepth 20000 in
set_option maxHeartbeats 1000000 in
theorem l8And_any (a : Option Addr) (n cap : Nat) (xs : List Int) (b : Option Addr) (m d : Nat) (ys : List Int) (w : World) (hx : Ints w .i64 a n xs) (hy : Ints w .i64 b m ys) (hn40 : n ≤ 60) (hm : m ≤ maxLen) (hf : ∀ x ∈ xs.filter (hasI m ys), 0 ≤ x ∧ x ≤ 999999999) :
    Calls Try.prog 48 #[.slice a n cap, .slice b m d] w fun e w' => ∃ a' c', e = .returned (.slice a' (xs.filter (hasI m ys)).length c') ∧ OwnInts w' w.heap.size a' (xs.filter (hasI m ys)).length c' (xs.filter (hasI m ys)) ∧ Below w.heap.size w w' := by
  have HFT := Lib.hid hf; clear hf
  have HX := Lib.hid hx; clear hx
  have HY := Lib.hid hy; clear hy
  have HA := Lib.hid ((Below.refl w.heap.size w).alloc (Nat.le_refl _) (.cells #[] 3))
  obtain ⟨i0, hi, hz0, hz1, hz2⟩ := info_parts info_int
  go_enter Try.func48, Try.ntmps48
  go_wp2_with fail
  go_loopw [5, 6] (fun v i wr => ∃ (k : Nat) (a' : Option Addr) (c' : Nat) (zs : List Int), k ≤ n ∧ i = .int .i64 k ∧ v = .slice a' zs.length c' ∧ zs = (xs.take k).filter (hasI m ys) ∧ wr.ownsRow w.heap.size 3 1 (.slice a' zs.length c') zs.length (zs.map (Value.int .i64)) ∧ Below w.heap.size w wr) (fun _ i _ => n - (intOf i).toNat)
  case atStart => exact ⟨0, _, _, [], Nat.zero_le _, rfl, rfl, rfl, ints_nil_made w, HA.out⟩
  case round =>
    obtain ⟨k, a', c', zs, hk, rfl, rfl, hys, hown, hb⟩ := hrel
    have HZ := Lib.hid hys; clear hys
    have HO := Lib.hid hown; clear hown
    have hyl : zs.length ≤ k := by
      rw [HZ.out]; exact Nat.le_trans (List.length_filter_le _ _) (List.length_take_le _ _)
    by_cases hlt : k < n
    · obtain ⟨b1, off, rfl, hc⟩ := (HX.out.below hb).rd.pos hlt
      have hck := hc k hlt
      have HB := Lib.hid hb; clear hb hc
      have hlx : k < xs.length := by rw [HX.out.len]; exact hlt
      cases hq : hasI m ys (nthI xs k)
      · have F := Lib.hid (filterI_no hlx hq)
        go_wp2_with fail
        refine (l8Has_any _ _ _ _ _ (HY.out.below HB.out) hm).mono ?_
        rintro e w' ⟨rfl, rfl⟩
        go_wp2_with fail
        go_roundw
        case rel => exact ⟨k + 1, a', c', zs, by omega, by go_num, rfl, by rw [F.out]; exact HZ.out, HO.out, HB.out⟩
        case measure => simp [intOf]; omega
      · have F := Lib.hid (filterI_yes hlx hq)
        go_wp2_with fail
        refine (l8Has_any _ _ _ _ _ (HY.out.below HB.out) hm).mono ?_
        rintro e w' ⟨rfl, rfl⟩
        go_wp2_with (at_builtin; refine wpList_append_own _ rfl _ _ 24 rfl w.heap.size 3 i0 (.int .i64 0) 1 8 Try.underlying24 hi hz0 hz1 hz2 rfl (by decide) _ _ _ rfl (HO.out.alloc _) ⟨wr.heap.size, 0, none⟩ 1 1 [.int .i64 (nthI xs k)] rfl rfl ?c1 ?c2 ?c3 ?c4 ?c5 ?_)
        case c1 => exact cells_new1 wr _ _
        case c2 => intro u hu; simp at hu; subst hu; rfl
        case c3 => unfold maxLen; omega
        case c4 => omega
        case c5 => have := HB.out.size; simp; omega
        · intro v' w1 hown' hgrow _
          obtain ⟨a2, c2, hv⟩ := own_form hown'
          rw [hv] at hown'
          have HO2 := Lib.hid hown'
          have HB2 := Lib.hid ((HB.out.alloc HB.out.size _).grown hgrow (by have := HB.out.size; simp; omega) (fun k hk => (own_block HO.out k hk).1))
          clear hgrow hown'
          rw [hv]
          clear hv
          go_wp2_with fail
          go_roundw
          case rel => exact ⟨k + 1, a2, c2, zs ++ [nthI xs k], by omega, by go_num, by simp, by rw [F.out, HZ.out], by have := HO2.out; simpa using this, HB2.out⟩
          case measure => simp [intOf]; omega
    · obtain rfl : k = n := by omega
      have HB := Lib.hid hb; clear hb
      have E := Lib.hid (show zs = xs.filter (hasI m ys) by rw [HZ.out, ← HX.out.len, List.take_length])
      go_wp2_with fail
      go_ret
      rw [← E.out]
      exact ⟨_, _, rfl, OwnInts.of_map HO.out (by rw [E.out]; exact HFT.out), HB.out⟩
theorem sSetAnd_any (a : Option Addr) (n cap : Nat) (xs : List Int) (b : Option Addr) (m d : Nat) (ys : List Int) (w : World) (hx : Ints w .i64 a n xs) (hy : Ints w .i64 b m ys) (hn : n ≤ maxLen) (hm : m ≤ maxLen) :
    Calls Try.prog 29 #[.slice a n cap, .slice b m d] w fun e w' => ∃ a' c', e = .returned (.slice a' (setAnd n m xs ys).length c') ∧ OwnInts w' w.heap.size a' (setAnd n m xs ys).length c' (setAnd n m xs ys) ∧ Below w.heap.size w w' := by
  have HFT := Lib.hid (setAnd_fit (ys := ys) (m := m) hx.len)
  have HX := Lib.hid hx; clear hx
  have HY := Lib.hid hy; clear hy
  cases h1 : upOk n xs
  · have R := Lib.hid (show setAnd n m xs ys = [] by simp [setAnd, h1])
    go_enter Try.func29, Try.ntmps29
    go_wp2_with fail
    refine (l3Up_any _ _ _ _ HX.out hn).mono ?_
    rintro e w' ⟨rfl, q, rfl⟩
    go_wp2_with fail
    go_ret
    rw [R.out]
    exact ⟨_, _, rfl, ownI_none _ _, (Drw.mk _ _).below⟩
  · cases h2 : upOk m ys
    · have R := Lib.hid (show setAnd n m xs ys = [] by simp [setAnd, h2])
      go_enter Try.func29, Try.ntmps29
      go_wp2_with fail
      refine (l3Up_any _ _ _ _ HX.out hn).mono ?_
      rintro e w' ⟨rfl, q, rfl⟩
      go_wp2_with fail
      refine (l3Up_any _ _ _ _ (HY.out.drewN q) hm).mono ?_
      rintro e w' ⟨rfl, q2, rfl⟩
      go_wp2_with fail
      go_ret
      rw [R.out]
      exact ⟨_, _, rfl, ownI_none _ _, (Drw.mk _ _).below⟩
    · have HG := Lib.hid (show setAnd n m xs ys = xs.filter (hasI m ys) by simp [setAnd, h1, h2])
      have hn40 : n ≤ 60 := by simp only [upOk, Bool.and_eq_true, decide_eq_true_eq] at h1; exact h1.2
      go_enter Try.func29, Try.ntmps29
      go_wp2_with fail
      refine (l3Up_any _ _ _ _ HX.out hn).mono ?_
      rintro e w' ⟨rfl, q, rfl⟩
      go_wp2_with fail
      refine (l3Up_any _ _ _ _ (HY.out.drewN q) hm).mono ?_
      rintro e w' ⟨rfl, q2, rfl⟩
      go_wp2_with fail
      refine (l8And_any _ _ _ _ _ _ _ _ _ (HX.out.drewN _) (HY.out.drewN _) hn40 hm (by rw [← HG.out]; exact HFT.out)).mono ?_
      rintro e w1 ⟨a1, c1, rfl, ho, hb⟩
      have O1 := Lib.hid ho; clear ho
      have B1 := Lib.hid ((Drw.mk w _).below.trans hb); clear hb
      go_wp2_with fail
      go_ret
      rw [HG.out]
      exact ⟨_, _, rfl, O1.out, B1.out⟩
set_option maxRecDepth 20000 in
set_option maxHeartbeats 2000000 in
theorem xSetAnd_any (w : World) (a : Option Addr) (n cap : Nat) (xs : List Int) (hx : Ints w .i64 a n xs) (hn : n ≤ maxLen) (b : Option Addr) (m d : Nat) (ys : List Int) (hy : Ints w .i64 b m ys) (hm : m ≤ maxLen) :
    Calls Try.prog 9 #[.slice a n cap, .slice b m d] w fun e w' => e = .returned (.bool true) ∧ Below w.heap.size w w' := by
  have HX := Lib.hid hx; clear hx
  have HY := Lib.hid hy; clear hy
  by_cases hl1 : (1048576 : Int) < (n : Int)
  · go_enter Try.func9, Try.ntmps9
    go_wp2_with fail
    go_ret
    exact ⟨rfl, Below.refl _ _⟩
  by_cases hl2 : (1048576 : Int) < (m : Int)
  · go_enter Try.func9, Try.ntmps9
    go_wp2_with fail
    go_ret
    exact ⟨rfl, Below.refl _ _⟩
  have hn2 : n ≤ 1048576 := by omega
  have hm2 : m ≤ 1048576 := by omega
  have hL := setAnd_le (ys := ys) (m := m) HX.out.len
  have hL3 : (setAnd n m xs ys).length ≤ maxLen := Nat.le_trans hL hn
  have T := Lib.hid (fun (v : World) (h : Ints v .i64 a n xs) => toIntS_any a n cap xs v h hn2)
  have U := Lib.hid (fun (v : World) (h : Ints v .i64 b m ys) => toIntS_any b m d ys v h hm2)
  have E0 : eqInts (setAnd n m xs ys).length (setAnd n m xs ys).length (setAnd n m xs ys) (setAnd n m xs ys) = true := eqInts_refl _ _
  have E1 : eqInts n n xs xs = true := eqInts_refl _ _
  have E2 : eqInts m m ys ys = true := eqInts_refl _ _
  go_enter Try.func9, Try.ntmps9
  go_wp2_with fail
  refine (T.out _ HX.out).mono ?_
  rintro e w1 ⟨a1, rfl, ho1, hb1⟩
  have O1 := Lib.hid ho1; clear ho1
  have B1 := Lib.hid hb1; clear hb1
  go_wp2_with fail
  refine (U.out _ (HY.out.below B1.out)).mono ?_
  rintro e w2 ⟨a2, rfl, ho2, hb2⟩
  have O2 := Lib.hid ho2; clear ho2
  have P1 := Lib.hid (O1.out.below hb2)
  have B2 := Lib.hid (B1.out.trans (hb2.mono B1.out.size)); clear hb2
  go_wp2_with fail
  refine (sSetAnd_any _ _ _ _ _ _ _ _ _ P1.out.ints O2.out.ints hn hm).mono ?_
  rintro e w3 ⟨a3, c3, rfl, ho3, hb3⟩
  have W3 := Lib.hid ho3; clear ho3
  have B3 := Lib.hid (B2.out.trans (hb3.mono B2.out.size)); clear hb3
  go_wp2_with fail
  refine (T.out _ (HX.out.below B3.out)).mono ?_
  rintro e w4 ⟨a4, rfl, ho4, hb4⟩
  have X4 := Lib.hid ho4; clear ho4
  have W4 := Lib.hid (W3.out.below hb4)
  have S4 := Lib.hid hb4.size
  have B4 := Lib.hid (B3.out.trans (hb4.mono B3.out.size)); clear hb4
  go_wp2_with fail
  refine (U.out _ (HY.out.below B4.out)).mono ?_
  rintro e w5 ⟨a5, rfl, ho5, hb5⟩
  have Y5 := Lib.hid ho5; clear ho5
  have W5 := Lib.hid (W4.out.below hb5)
  have X5 := Lib.hid (X4.out.below hb5)
  have S5 := Lib.hid hb5.size
  have B5 := Lib.hid (B4.out.trans (hb5.mono B4.out.size)); clear hb5
  go_wp2_with fail
  refine (SetAnd_any _ _ _ _ _ _ _ _ _ X5.out.ints Y5.out.ints hn hm).mono ?_
  rintro e w6 ⟨a6, c6, rfl, ho6, hb6⟩
  have G6 := Lib.hid ho6; clear ho6
  have W6 := Lib.hid (W5.out.below hb6)
  have X6 := Lib.hid (X5.out.below hb6)
  have Y6 := Lib.hid (Y5.out.below hb6)
  have B6 := Lib.hid (B5.out.trans (hb6.mono B5.out.size)); clear hb6
  go_wp2_with fail
  refine (eqIntS_any _ _ _ _ _ _ _ _ _ G6.out.ints W6.out.ints hL3 hL3).mono ?_
  rintro e w6' ⟨rfl, q, rfl⟩
  go_wp2_with fail
  refine (T.out _ (HX.out.below (below_drewN B6.out q))).mono ?_
  rintro e w7 ⟨a7, rfl, ho7, hb7⟩
  have hb7' : Below w6.heap.size w6 w7 := (below_drewN (Below.refl _ _) q).trans hb7
  have T7 := Lib.hid ho7; clear ho7
  have G7 := Lib.hid (G6.out.below hb7')
  have W7 := Lib.hid (W6.out.below hb7')
  have X7 := Lib.hid (X6.out.below hb7')
  have Y7 := Lib.hid (Y6.out.below hb7')
  have B7 := Lib.hid (B6.out.trans (hb7'.mono B6.out.size)); clear hb7 hb7'
  go_wp2_with fail
  refine (eqIntS_any _ _ _ _ _ _ _ _ _ X7.out.ints T7.out.ints hn hn).mono ?_
  rintro e w7' ⟨rfl, q2, rfl⟩
  go_wp2_with fail
  refine (U.out _ (HY.out.below (below_drewN B7.out q2))).mono ?_
  rintro e w8 ⟨a8, rfl, ho8, hb8⟩
  have hb8' : Below w7.heap.size w7 w8 := (below_drewN (Below.refl _ _) q2).trans hb8
  have T8 := Lib.hid ho8; clear ho8
  have G8 := Lib.hid (G7.out.below hb8')
  have W8 := Lib.hid (W7.out.below hb8')
  have X8 := Lib.hid (X7.out.below hb8')
  have Y8 := Lib.hid (Y7.out.below hb8')
  have B8 := Lib.hid (B7.out.trans (hb8'.mono B7.out.size)); clear hb8 hb8'
  go_wp2_with fail
  refine (eqIntS_any _ _ _ _ _ _ _ _ _ Y8.out.ints T8.out.ints hm hm).mono ?_
  rintro e w8' ⟨rfl, q3, rfl⟩
  go_wp2_with fail
  refine (markIntS_any a4 n n 1 w3.heap.size _ (w8.drewN q3) (own_drewN X8.out.own q3) (by omega) (by omega)).mono ?_
  rintro e w9 ⟨rfl, ho9, hg9⟩
  clear ho9
  have W9 := Lib.hid (OwnInts.kept (w := w8.drewN q3) ⟨W8.out.len, W8.out.fit, W8.out.own⟩ hg9 (own_apart W3.out.own X4.out.own (Nat.le_refl _)))
  have Y9 := Lib.hid (OwnInts.kept (w := w8.drewN q3) ⟨Y8.out.len, Y8.out.fit, Y8.out.own⟩ hg9 (own_apart' X4.out.own Y5.out.own (Nat.le_refl _)))
  have G9 := Lib.hid (OwnInts.kept (w := w8.drewN q3) ⟨G8.out.len, G8.out.fit, G8.out.own⟩ hg9 (own_apart' X4.out.own G6.out.own S5.out))
  have B9 := Lib.hid ((below_drewN B8.out q3).grown hg9 B8.out.size (fun k hk => Nat.le_trans B3.out.size (own_block X4.out.own k hk).1))
  clear hg9
  have M0 := fun w h => markIntS_any a5 m m (1 + n) w4.heap.size (fun j => .int .i64 (nthI ys j)) w h (by omega) (by omega)
  simp only [Int.natCast_add] at M0
  have M := Lib.hid M0; clear M0
  go_wp2_with fail
  refine (M.out _ Y9.out.own).mono ?_
  rintro e w10 ⟨rfl, ho10, hg10⟩
  clear ho10 M
  have W10 := Lib.hid (W9.out.kept hg10 (own_apart W3.out.own Y5.out.own S4.out))
  have G10 := Lib.hid (G9.out.kept hg10 (own_apart' Y5.out.own G6.out.own (Nat.le_refl _)))
  have B10 := Lib.hid (B9.out.grown hg10 B9.out.size (fun k hk => Nat.le_trans B4.out.size (own_block Y5.out.own k hk).1))
  clear hg10
  go_wp2_with fail
  refine (eqIntS_any _ _ _ _ _ _ _ _ _ G10.out.ints W10.out.ints hL3 hL3).mono ?_
  rintro e w10' ⟨rfl, q4, rfl⟩
  go_wp2_with fail
  refine (markIntS_any a6 (setAnd n m xs ys).length c6 1 w5.heap.size _ (w10.drewN q4) (own_drewN G10.out.own q4) (by omega) (by omega)).mono ?_
  rintro e w11 ⟨rfl, ho11, hg11⟩
  have G11 := Lib.hid ho11; clear ho11
  have W11 := Lib.hid (OwnInts.kept (w := w10.drewN q4) ⟨W10.out.len, W10.out.fit, W10.out.own⟩ hg11 (own_apart W3.out.own G6.out.own (Nat.le_trans S4.out S5.out)))
  have B11 := Lib.hid ((below_drewN B10.out q4).grown hg11 B10.out.size (fun k hk => Nat.le_trans B5.out.size (own_block G6.out.own k hk).1))
  clear hg11
  go_wp2_with fail
  refine (heldIntS_any _ _ _ 1 _ (Rd.of_own1 G11.out) (by omega) (by omega)).mono ?_
  rintro e w' ⟨rfl, rfl⟩
  go_wp2_with fail
  refine (T.out _ (HX.out.below B11.out)).mono ?_
  rintro e w12 ⟨a12, rfl, ho12, hb12⟩
  have O12 := Lib.hid ho12; clear ho12
  have G12 := Lib.hid (own_below G11.out hb12 (Nat.le_refl _))
  have W12 := Lib.hid (W11.out.below hb12)
  have B12 := Lib.hid (B11.out.trans (hb12.mono B11.out.size)); clear hb12
  go_wp2_with fail
  refine (U.out _ (HY.out.below B12.out)).mono ?_
  rintro e w13 ⟨a13, rfl, ho13, hb13⟩
  have P13 := Lib.hid ho13; clear ho13
  have O13 := Lib.hid (O12.out.below hb13)
  have G13 := Lib.hid (own_below G12.out hb13 (Nat.le_refl _))
  have W13 := Lib.hid (W12.out.below hb13)
  have B13 := Lib.hid (B12.out.trans (hb13.mono B12.out.size)); clear hb13
  go_wp2_with fail
  refine (SetAnd_any _ _ _ _ _ _ _ _ _ O13.out.ints P13.out.ints hn hm).mono ?_
  rintro e w14 ⟨a14, c14, rfl, ho14, hb14⟩
  have H14 := Lib.hid ho14; clear ho14
  have G14 := Lib.hid (own_below G13.out hb14 (Nat.le_refl _))
  have W14 := Lib.hid (W13.out.below hb14)
  have B14 := Lib.hid (B13.out.trans (hb14.mono B13.out.size)); clear hb14
  go_wp2_with fail
  refine (eqIntS_any _ _ _ _ _ _ _ _ _ H14.out.ints W14.out.ints hL3 hL3).mono ?_
  rintro e w14' ⟨rfl, q5, rfl⟩
  go_wp2_with fail
  refine (heldIntS_any _ _ _ 1 _ (Rd.of_own1 (own_drewN G14.out q5)) (by omega) (by omega)).mono ?_
  rintro e w' ⟨rfl, rfl⟩
  go_wp2_with fail
  go_ret
  exact ⟨rfl, below_drewN B14.out q5⟩
end Go.Proofs.Ytkjlbellcbodcaa
