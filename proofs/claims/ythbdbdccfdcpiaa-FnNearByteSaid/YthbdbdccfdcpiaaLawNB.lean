/- The law on a byte put in, taken out or turned. Conditions: what is read fits the model's sizes. -/
import Derived.Test.YthbdbdccfdcpiaaLawN
import Derived.Test.YthbdbdccfdcpiaaWdsLaw
namespace Go.Proofs.Ythbdbdccfdcpiaa
open Go.RowKit
theorem byW_extract {s : ByteArray} {a b j : Nat} (hb : b ≤ s.size) (hj : a + j < b) : byW (s.extract a b) j = byW s (a + j) := by
  have h1 : j < (s.extract a b).size := by simp only [ByteArray.size_extract]; omega
  rw [← byW_get _ j h1, ← byW_get s (a + j) (by omega), ByteArray.getElem_extract]
def putS (s : ByteArray) (k : Nat) : ByteArray := s.extract 0 k ++ ⟨#[48]⟩ ++ s.extract k s.size
def takeS (s : ByteArray) (k : Nat) : ByteArray := s.extract 0 k ++ s.extract (k + 1) s.size
def turnS (s : ByteArray) (k : Nat) : ByteArray := s.extract 0 k ++ ⟨#[48]⟩ ++ s.extract (k + 1) s.size
theorem head_size {s : ByteArray} {k : Nat} (h : k ≤ s.size) : (s.extract 0 k).size = k := by simp only [ByteArray.size_extract]; omega
theorem head1_size {s : ByteArray} {k : Nat} (h : k ≤ s.size) : (s.extract 0 k ++ (⟨#[48]⟩ : ByteArray)).size = k + 1 := by rw [ByteArray.size_append, head_size h]; rfl
theorem tail_size {s : ByteArray} {k : Nat} : (s.extract k s.size).size = s.size - k := by simp only [ByteArray.size_extract]; omega
theorem head1_byte {s : ByteArray} {k : Nat} (h : k ≤ s.size) : (∀ j, j < k → byW (s.extract 0 k ++ (⟨#[48]⟩ : ByteArray)) j = byW s j) ∧ byW (s.extract 0 k ++ (⟨#[48]⟩ : ByteArray)) k = 48 := by
  refine ⟨fun j hj => ?_, ?_⟩
  · rw [byW_app_l (by rw [head_size h]; exact hj), byW_extract h (by omega), Nat.zero_add]
  · have := byW_app_r (a := s.extract 0 k) (b := (⟨#[48]⟩ : ByteArray)) (k := 0) (by decide)
    rw [head_size h, Nat.add_zero] at this
    rw [this]; rfl
theorem putS_facts {s : ByteArray} {k : Nat} (h : k ≤ s.size) : (putS s k).size = s.size + 1 ∧ (∀ j, j < k → byW (putS s k) j = byW s j) ∧ byW (putS s k) k = 48 ∧ ∀ j, k ≤ j → j < s.size → byW (putS s k) (j + 1) = byW s j := by
  obtain ⟨h1, h2⟩ := head1_byte h
  have hz := head1_size h
  refine ⟨by rw [putS, ByteArray.size_append, hz, tail_size]; omega, fun j hj => ?_, ?_, fun j hj hjs => ?_⟩
  · rw [putS, byW_app_l (by rw [hz]; omega), h1 j hj]
  · rw [putS, byW_app_l (by rw [hz]; omega), h2]
  · obtain ⟨d, rfl⟩ : ∃ d, j = k + d := ⟨j - k, by omega⟩
    have := byW_app_r (a := s.extract 0 k ++ (⟨#[48]⟩ : ByteArray)) (b := s.extract k s.size) (k := d) (by rw [tail_size]; omega)
    rw [hz] at this
    rw [putS, show k + d + 1 = k + 1 + d by omega, this, byW_extract (Nat.le_refl _) (by omega)]
theorem turnS_facts {s : ByteArray} {k : Nat} (h : k < s.size) : (turnS s k).size = s.size ∧ byW (turnS s k) k = 48 ∧ ∀ j, j < s.size → j ≠ k → byW (turnS s k) j = byW s j := by
  obtain ⟨h1, h2⟩ := head1_byte (Nat.le_of_lt h)
  have hz := head1_size (Nat.le_of_lt h)
  refine ⟨by rw [turnS, ByteArray.size_append, hz, tail_size]; omega, ?_, fun j hjs hj => ?_⟩
  · rw [turnS, byW_app_l (by rw [hz]; omega), h2]
  · rcases Nat.lt_or_ge j k with h3 | h3
    · rw [turnS, byW_app_l (by rw [hz]; omega), h1 j h3]
    · obtain ⟨d, rfl⟩ : ∃ d, j = k + 1 + d := ⟨j - (k + 1), by omega⟩
      have := byW_app_r (a := s.extract 0 k ++ (⟨#[48]⟩ : ByteArray)) (b := s.extract (k + 1) s.size) (k := d) (by rw [tail_size]; omega)
      rw [hz] at this
      rw [turnS, this, byW_extract (Nat.le_refl _) (by omega)]
theorem takeS_facts {s : ByteArray} {k : Nat} (h : k < s.size) : (takeS s k).size = s.size - 1 ∧ (∀ j, j < k → byW (takeS s k) j = byW s j) ∧ ∀ j, k ≤ j → j < s.size - 1 → byW (takeS s k) j = byW s (j + 1) := by
  have hz := head_size (Nat.le_of_lt h)
  refine ⟨by rw [takeS, ByteArray.size_append, hz, tail_size]; omega, fun j hj => ?_, fun j hj hjs => ?_⟩
  · rw [takeS, byW_app_l (by rw [hz]; omega), byW_extract (Nat.le_of_lt h) (by omega), Nat.zero_add]
  · obtain ⟨d, rfl⟩ : ∃ d, j = k + d := ⟨j - k, by omega⟩
    have := byW_app_r (a := s.extract 0 k) (b := s.extract (k + 1) s.size) (k := d) (by rw [tail_size]; omega)
    rw [hz] at this
    rw [takeS, this, byW_extract (Nat.le_refl _) (by omega), show k + 1 + d = k + d + 1 by omega]
theorem word_mk {s : ByteArray} (h : ∀ k, k < s.size → wordB (byW s k) = true) (h1 : 1 ≤ s.size) (h2 : s.size ≤ 12) : wordOk s = true := by
  rw [wordOk, Bool.and_eq_true, byWb]; exact ⟨h, decide_eq_true ⟨h1, h2⟩⟩
theorem byte_laws {s : ByteArray} {k : Nat} (hw : wordOk s = true) (h12 : s.size < 12) (h2 : 2 ≤ s.size) (hk : k < s.size) :
    nearFar s (putS s k) = 1 ∧ nearFar s (takeS s k) = 1 ∧ nearFar s (turnS s k) ≤ 1 ∧ nearFar (putS s k) (turnS s k) ≤ 2 := by
  obtain ⟨wb, _, _⟩ := word_bytes hw
  obtain ⟨p1, p2, p3, p4⟩ := putS_facts (s := s) (k := k) (by omega)
  obtain ⟨t1, t2, t3⟩ := turnS_facts hk
  obtain ⟨l1, l2, l3⟩ := takeS_facts hk
  have w48 : wordB 48 = true := by decide
  have hp : wordOk (putS s k) = true := word_mk (fun j hj => by
    rcases Nat.lt_or_ge j k with h | h
    · rw [p2 j h]; exact wb j (by omega)
    · rcases Nat.eq_or_lt_of_le h with h | h
      · subst h; rw [p3]; exact w48
      · have := p4 (j - 1) (by omega) (by omega)
        rw [show j - 1 + 1 = j by omega] at this
        rw [this]; exact wb _ (by omega)) (by omega) (by omega)
  have ht : wordOk (turnS s k) = true := word_mk (fun j hj => by
    by_cases h : j = k
    · subst h; rw [t2]; exact w48
    · rw [t3 j (by omega) h]; exact wb j (by omega)) (by omega) (by omega)
  have hl : wordOk (takeS s k) = true := word_mk (fun j hj => by
    rcases Nat.lt_or_ge j k with h | h
    · rw [l2 j h]; exact wb j (by omega)
    · rw [l3 j h (by omega)]; exact wb _ (by omega)) (by omega) (by omega)
  have e1 := lev_ins (byI s) (byI (putS s k)) k s.size (fun j hj => (p2 j hj).symm) (fun j hj hjs => (p4 j hj hjs).symm) (by omega)
  have e2 := lev_ins (byI (takeS s k)) (byI s) k (s.size - 1) (fun j hj => l2 j hj) (fun j hj hjs => l3 j hj hjs) (by omega)
  have e3 := lev_turn (byI s) (byI (turnS s k)) k s.size (fun j hj hjk => (t3 j hj hjk).symm)
  have f1 : farI s (putS s k) ≤ 1 := by unfold farI levI; rw [p1]; omega
  have f2 : farI s (takeS s k) ≤ 1 := by
    rw [farI_sym]; unfold farI levI; rw [l1]
    rw [show s.size - 1 + 1 = s.size by omega] at e2; omega
  have f3 : farI s (turnS s k) ≤ 1 := by unfold farI levI; rw [t1]; omega
  have b1 := farI_bd s (putS s k)
  have b2 := farI_bd s (takeS s k)
  have tr := farI_tri (putS s k) (turnS s k) s
  rw [farI_sym (putS s k) s] at tr
  rw [p1] at b1
  rw [l1] at b2
  rw [nearFar_words hw hp, nearFar_words hw hl, nearFar_words hw ht, nearFar_words hp ht]
  omega
set_option maxRecDepth 20000 in
set_option maxHeartbeats 2000000 in
theorem FnNearByte_any {w : World} (a : Option Addr) (n cap : Nat) (xs : List Int) (hx : Byts w a n cap xs) (hn : n ≤ maxLen) (b : Option Addr) (m capb : Nat) (ys : List Int) (_hy : Byts w b m capb ys) (hm : m ≤ maxLen) :
    Calls Try.prog 6 #[.slice a n cap, .slice b m capb] w fun e w' => e = .returned (.bool true) ∧ Below w.heap.size w w' := by
  have HX := Lib.hid hx; clear hx
  unfold maxLen at hn hm
  by_cases hlt : (1048576 : Int) < (n : Int)
  · go_enter Try.func6, Try.ntmps6
    go_wp2_with fail
    go_ret
    exact ⟨rfl, Below.refl _ _⟩
  by_cases hlt2 : (1048576 : Int) < (m : Int)
  · go_enter Try.func6, Try.ntmps6
    go_wp2_with fail
    go_ret
    exact ⟨rfl, Below.refl _ _⟩
  go_enter Try.func6, Try.ntmps6
  go_wp2_with fail
  refine (DrawNearFar_any _ _ _ _ HX.out (by omega)).mono ?_
  rintro e w1 ⟨s, t, rfl, hs, ht, hb⟩
  have HS := Lib.hid hs; clear hs
  have B1 := Lib.hid hb; clear hb
  have hsz := wordOk_size HS.out
  obtain ⟨hs1, hs12⟩ := hsz
  have LS := Lib.hid (show s.size ≤ maxLen by unfold maxLen; omega)
  have LT := Lib.hid (show t.size ≤ maxLen by unfold maxLen; omega)
  obtain ⟨d, hd⟩ : ∃ d, d = nearFar s t := ⟨_, rfl⟩
  have C := Lib.hid (fun w => by have := NearFar_any s t LS.out LT.out w; rwa [← hd] at this)
  have S := Lib.hid (fun w => by have := sNearFar_any s t LS.out LT.out w; rwa [← hd] at this)
  have HD := Lib.hid hd; clear hd
  go_wp2_with fail
  refine (C.out _).mono ?_
  rintro e w3 ⟨rfl, hb⟩
  have B3 := Lib.hid (B1.out.trans (hb.mono B1.out.size)); clear hb
  go_wp2_with fail
  refine (S.out _).mono ?_
  rintro e w4 ⟨rfl, hb⟩
  have B4 := Lib.hid (B3.out.trans (hb.mono B3.out.size)); clear hb
  by_cases hbad : d < 0 ∨ 12 ≤ s.size ∨ s.size < 2
  · rcases hbad with h | h | h
    · go_wp2_with fail
      refine (S.out _).mono ?_
      rintro e w5 ⟨rfl, hb⟩
      have B5 := Lib.hid (B4.out.trans (hb.mono B4.out.size)); clear hb
      go_wp2_with fail
      go_ret
      exact ⟨rfl, B5.out⟩
    · by_cases h0 : d < 0
      all_goals
        go_wp2_with fail
        refine (S.out _).mono ?_
        rintro e w5 ⟨rfl, hb⟩
        have B5 := Lib.hid (B4.out.trans (hb.mono B4.out.size)); clear hb
        go_wp2_with fail
        go_ret
        exact ⟨rfl, B5.out⟩
    · by_cases h0 : d < 0
      all_goals
        go_wp2_with fail
        refine (S.out _).mono ?_
        rintro e w5 ⟨rfl, hb⟩
        have B5 := Lib.hid (B4.out.trans (hb.mono B4.out.size)); clear hb
        go_wp2_with fail
        go_ret
        exact ⟨rfl, B5.out⟩
  · have h1 : 0 ≤ d := by omega
    have h2 : s.size < 12 := by omega
    have h3 : 2 ≤ s.size := by omega
    clear hbad
    obtain ⟨k, hk⟩ : ∃ k, k = m % s.size := ⟨_, rfl⟩
    have hkm : (m : Int) % (s.size : Int) = (k : Int) := by rw [hk]; rfl
    have hks : k < s.size := by rw [hk]; exact Nat.mod_lt _ (by omega)
    obtain ⟨y1, y2, y3, y4⟩ := byte_laws HS.out h2 h3 hks
    have zp := (putS_facts (s := s) (k := k) (by omega)).1
    have zt := (turnS_facts hks).1
    have zl := (takeS_facts hks).1
    have LP := Lib.hid (show (putS s k).size ≤ maxLen by rw [zp]; unfold maxLen; omega)
    have LN := Lib.hid (show (turnS s k).size ≤ maxLen by rw [zt]; unfold maxLen; omega)
    have LL := Lib.hid (show (takeS s k).size ≤ maxLen by rw [zl]; unfold maxLen; omega)
    have C1 := Lib.hid (fun w => by have := NearFar_any s (putS s k) LS.out LP.out w; rw [y1] at this; exact this)
    have C2 := Lib.hid (fun w => by have := NearFar_any s (takeS s k) LS.out LL.out w; rw [y2] at this; exact this)
    obtain ⟨d3, hd3⟩ : ∃ d, d = nearFar s (turnS s k) := ⟨_, rfl⟩
    obtain ⟨d4, hd4⟩ : ∃ d, d = nearFar (putS s k) (turnS s k) := ⟨_, rfl⟩
    have C3 := Lib.hid (fun w => by have := NearFar_any s (turnS s k) LS.out LN.out w; rwa [← hd3] at this)
    have C4 := Lib.hid (fun w => by have := NearFar_any (putS s k) (turnS s k) LP.out LN.out w; rwa [← hd4] at this)
    rw [← hd3] at y3
    rw [← hd4] at y4
    clear hd3 hd4
    have k1 : (k : Int) + 1 ≤ (s.size : Int) := by omega
    have v1 : IntKind.i64.wrap ((k : Int) + 1) = (k : Int) + 1 := IntWalk.i64_in _ (by omega)
    have v2 : ((k : Int) + 1).toNat = k + 1 := by omega
    have v3 : (0 : Int) ≤ (k : Int) + 1 := by omega
    clear hk y1 y2 zp zt zl
    go_wp2_with fail
    go_quiet (fail)
    go_wp2_with fail
    go_quiet (fail)
    go_wp2_with fail
    go_quiet (fail)
    clear v1
    go_wp2_with fail
    refine (C1.out _).mono ?_
    rintro e w5 ⟨rfl, hb⟩
    have B5 := Lib.hid ((below_drewN B4.out _).trans (hb.mono B4.out.size)); clear hb
    go_wp2_with fail
    refine (C2.out _).mono ?_
    rintro e w6 ⟨rfl, hb⟩
    have B6 := Lib.hid (B5.out.trans (hb.mono B5.out.size)); clear hb
    go_wp2_with fail
    refine (C3.out _).mono ?_
    rintro e w7 ⟨rfl, hb⟩
    have B7 := Lib.hid (B6.out.trans (hb.mono B6.out.size)); clear hb
    go_wp2_with fail
    refine (C4.out _).mono ?_
    rintro e w8 ⟨rfl, hb⟩
    have B8 := Lib.hid (B7.out.trans (hb.mono B7.out.size)); clear hb
    go_wp2_with fail
    go_ret
    exact ⟨by first | rfl | exact ret_bool (decide_eq_true y4), B8.out⟩
end Go.Proofs.Ythbdbdccfdcpiaa
