/- The law on stars and marks. Conditions: what is read fits the model's sizes. -/
import Derived.Test.YtoljjhhomklcbaaDrawG
import Derived.Test.YtoljjhhomklcbaaGlob
import Derived.Test.YtoljjhhomklcbaaLawS
namespace Go.Proofs.Ytoljjhhomklcbaa
open Go.RowKit
theorem starM_iff (f : List UInt8 → Bool) : ∀ s, starM f s = true ↔ ∃ k, k ≤ s.length ∧ f (s.drop k) = true
  | [] => by
    rw [starM]
    exact ⟨fun h => ⟨0, Nat.le_refl _, h⟩, fun ⟨k, hk, h⟩ => by rwa [List.drop_nil] at h⟩
  | d :: s => by
    rw [starM, Bool.or_eq_true, starM_iff f s]
    constructor
    · rintro (h | ⟨k, hk, h⟩)
      · exact ⟨0, Nat.zero_le _, h⟩
      · exact ⟨k + 1, by simpa using hk, by simpa using h⟩
    · rintro ⟨k, hk, h⟩
      cases k with
      | zero => exact .inl h
      | succ k => exact .inr ⟨k, by simpa using hk, by simpa using h⟩
theorem globM_ne (c : UInt8) (p : List UInt8) (hc : c ≠ 42) : globM (c :: p) [] = false ∧ ∀ d t, globM (c :: p) (d :: t) = ((c == 63 || c == d) && globM p t) :=
  ⟨by simp [globM, hc], fun d t => by simp [globM, hc]⟩
theorem globM_star (p s : List UInt8) : globM (42 :: p) s = true ↔ ∃ k, k ≤ s.length ∧ globM p (s.drop k) = true := by
  rw [show globM (42 :: p) s = starM (globM p) s by cases s <;> simp [globM], starM_iff]
theorem globM_snoc : ∀ p s, globM (p ++ [42]) s = true ↔ ∃ k, k ≤ s.length ∧ globM p (s.take k) = true
  | [], s => by
    rw [List.nil_append, globM_star]
    exact ⟨fun _ => ⟨0, Nat.zero_le _, by simp [globM]⟩, fun _ => ⟨s.length, Nat.le_refl _, by simp [globM]⟩⟩
  | c :: p, s => by
    rw [List.cons_append]
    by_cases hc : c = 42
    · subst hc
      rw [globM_star]
      constructor
      · rintro ⟨k, hk, h⟩
        obtain ⟨j, hj, h⟩ := (globM_snoc p (s.drop k)).1 h
        rw [List.length_drop] at hj
        refine ⟨k + j, by omega, (globM_star _ _).2 ⟨k, by rw [List.length_take]; omega, ?_⟩⟩
        rw [List.drop_take, show k + j - k = j by omega]; exact h
      · rintro ⟨m, hm, h⟩
        obtain ⟨k, hk, h⟩ := (globM_star _ _).1 h
        rw [List.length_take] at hk
        rw [List.drop_take] at h
        exact ⟨k, by omega, (globM_snoc p (s.drop k)).2 ⟨m - k, by rw [List.length_drop]; omega, h⟩⟩
    · cases s with
      | nil =>
        rw [(globM_ne c _ hc).1]
        constructor
        · intro h; cases h
        · rintro ⟨k, hk, h⟩; rw [List.take_nil, (globM_ne c _ hc).1] at h; cases h
      | cons d t =>
        rw [(globM_ne c _ hc).2, Bool.and_eq_true, globM_snoc p t]
        constructor
        · rintro ⟨h1, k, hk, h⟩
          exact ⟨k + 1, by simpa using hk, by rw [List.take_succ_cons, (globM_ne c _ hc).2, h1, h]; rfl⟩
        · rintro ⟨k, hk, h⟩
          cases k with
          | zero => rw [List.take_zero, (globM_ne c _ hc).1] at h; cases h
          | succ k =>
            rw [List.take_succ_cons, (globM_ne c _ hc).2, Bool.and_eq_true] at h
            exact ⟨h.1, k, by simpa using hk, h.2⟩
theorem globM_nil_iff : ∀ p : List UInt8, globM p [] = p.all (· == 42)
  | [] => rfl
  | c :: p => by
    by_cases hc : c = 42
    · subst hc
      rw [globM, if_pos rfl, starM, globM_nil_iff p]; simp
    · rw [(globM_ne c p hc).1]; simp [hc]
theorem globM_plain : ∀ p s : List UInt8, (∀ c ∈ p, c ≠ 42 ∧ c ≠ 63) → globM p s = (p == s)
  | [], s, _ => by cases s <;> simp [globM]
  | c :: p, s, h => by
    have hc := h c (by simp)
    cases s with
    | nil => rw [(globM_ne c p hc.1).1]; rfl
    | cons d t =>
      rw [(globM_ne c p hc.1).2, globM_plain p t (fun x hx => h x (by simp [hx]))]
      have : (c == 63) = false := by simp [hc.2]
      rw [this, Bool.false_or]; rfl

theorem allB_snoc (q : Int → Bool) {s : ByteArray} {k : Nat} (h : k < s.size) : allB q (s.data.toList.take (k + 1)) = (allB q (s.data.toList.take k) && q ((s[k]'h).toNat : Int)) := by
  rw [take_snoc s k h]; simp [allB]
/-- Some number below n. -/
def anyN (n : Nat) (f : Nat → Bool) : Bool := (List.range n).any f
theorem anyN_succ (n : Nat) (f : Nat → Bool) : anyN (n + 1) f = (anyN n f || f n) := by simp [anyN, List.range_succ]
theorem anyN_iff {n : Nat} {f : Nat → Bool} : anyN n f = true ↔ ∃ k, k < n ∧ f k = true := by simp [anyN]
def begAt (p s : ByteArray) (k : Nat) : Bool := decide (0 < k) && globHasB p (s.extract 0 k)
def endAt (p s : ByteArray) (k : Nat) : Bool := decide (k < s.size) && globHasB p (s.extract k s.size)
def isStar (c : Int) : Bool := decide (c = 42)
def starT : ByteArray := ⟨#[42]⟩
theorem stars_nil (p : ByteArray) : globM p.data.toList [] = allB isStar p.data.toList := by
  rw [globM_nil_iff, allB]
  congr 1
  funext c
  rw [Bool.eq_iff_iff]
  simp only [beq_iff_eq, isStar, decide_eq_true_eq]
  rw [u8_eq]; rfl
theorem glob_size {p : ByteArray} (h : globOk p = true) : 1 ≤ p.size ∧ p.size ≤ 12 := by
  simp only [globOk, Bool.and_eq_true, decide_eq_true_eq] at h; exact h.2
theorem glob_app {p : ByteArray} (h : globOk p = true) (h1 : p.size < 12) : globOk (p ++ starT) = true ∧ globOk (starT ++ p) = true := by
  have hz := glob_size h
  simp only [globOk, Bool.and_eq_true, decide_eq_true_eq, ByteArray.size_append] at h ⊢
  have e : (starT).size = 1 := rfl
  have hs : allB globB [42] = true := by decide
  rw [e]
  refine ⟨⟨?_, by omega⟩, ?_, by omega⟩
  · rw [ByteArray.data_append, Array.toList_append, allB, List.all_append, Bool.and_eq_true]; exact ⟨h.1, hs⟩
  · rw [ByteArray.data_append, Array.toList_append, allB, List.all_append, Bool.and_eq_true]; exact ⟨hs, h.1⟩
theorem word_tail {s : ByteArray} {k : Nat} (h : wordOk s = true) (h1 : k < s.size) : wordOk (s.extract k s.size) = true := by
  obtain ⟨a, b, c⟩ := word_bytes h
  have hz : (s.extract k s.size).size = s.size - k := by simp only [ByteArray.size_extract]; omega
  rw [wordOk, Bool.and_eq_true, byWb, hz]
  refine ⟨fun j hj => ?_, decide_eq_true (by omega)⟩
  have e : byW (s.extract k s.size) j = byW s (k + j) := by
    rw [← byW_get _ j (by omega), ← byW_get s (k + j) (by omega), ByteArray.getElem_extract]
  rw [e]; exact a _ (by omega)
theorem begs_law {p s : ByteArray} (hp : globOk p = true) (h1 : p.size < 12) (hs : wordOk s = true) : globHasB (p ++ starT) s = (anyN (s.size + 1) (begAt p s) || allB isStar p.data.toList) := by
  rw [globHasB, (glob_app hp h1).1, hs, Bool.true_and, Bool.true_and, Bool.eq_iff_iff, gl, ByteArray.data_append, Array.toList_append]
  have e : starT.data.toList = [42] := rfl
  rw [e, globM_snoc, Bool.or_eq_true, anyN_iff, ← stars_nil]
  have hl : s.data.toList.length = s.size := by simp
  have ex : ∀ k, k ≤ s.size → globM p.data.toList (s.data.toList.take k) = gl p (s.extract 0 k) := fun k hk => by
    rw [gl, Lib.extract_data, List.drop_zero, Nat.sub_zero]
  constructor
  · rintro ⟨k, hk, h⟩
    rcases Nat.eq_zero_or_pos k with h0 | h0
    · subst h0; exact .inr h
    · rw [hl] at hk
      rw [ex k hk] at h
      exact .inl ⟨k, by omega, by rw [begAt, decide_eq_true h0, globHasB, hp, word_prefix hs h0 hk, h]; rfl⟩
  · rintro (⟨k, hk, h⟩ | h)
    · simp only [begAt, globHasB, Bool.and_eq_true] at h
      exact ⟨k, by omega, by rw [ex k (by omega)]; exact h.2.2⟩
    · exact ⟨0, Nat.zero_le _, h⟩
theorem ends_law {p s : ByteArray} (hp : globOk p = true) (h1 : p.size < 12) (hs : wordOk s = true) : globHasB (starT ++ p) s = (anyN (s.size + 1) (endAt p s) || allB isStar p.data.toList) := by
  rw [globHasB, (glob_app hp h1).2, hs, Bool.true_and, Bool.true_and, Bool.eq_iff_iff, gl, ByteArray.data_append, Array.toList_append]
  have e : starT.data.toList = [42] := rfl
  rw [e, List.singleton_append, globM_star, Bool.or_eq_true, anyN_iff, ← stars_nil]
  have hl : s.data.toList.length = s.size := by simp
  have ex : ∀ k, k ≤ s.size → globM p.data.toList (s.data.toList.drop k) = gl p (s.extract k s.size) := fun k hk => by
    rw [gl, Lib.extract_data, List.take_of_length_le (by simp)]
  constructor
  · rintro ⟨k, hk, h⟩
    rw [hl] at hk
    rcases Nat.lt_or_ge k s.size with h0 | h0
    · rw [ex k hk] at h
      exact .inl ⟨k, by omega, by rw [endAt, decide_eq_true h0, globHasB, hp, word_tail hs h0, h]; rfl⟩
    · rw [List.drop_eq_nil_iff.2 (by omega)] at h
      exact .inr h
  · rintro (⟨k, hk, h⟩ | h)
    · simp only [endAt, globHasB, Bool.and_eq_true] at h
      exact ⟨k, by omega, by rw [ex k (by omega)]; exact h.2.2⟩
    · exact ⟨s.size, by omega, by rw [List.drop_eq_nil_iff.2 (by omega)]; exact h⟩
theorem word_has {p s : ByteArray} (hp : wordOk p = true) (hg : globOk p = true) (hs : wordOk s = true) : globHasB p s = decide (p = s) := by
  rw [globHasB, hg, hs, Bool.true_and, Bool.true_and, gl, globM_plain, Bool.eq_iff_iff]
  · simp only [beq_iff_eq, decide_eq_true_eq]
    exact ⟨fun h => ByteArray.ext (Array.ext' h), fun h => by rw [h]⟩
  · intro c hc
    simp only [wordOk, allB, Bool.and_eq_true, List.all_eq_true] at hp
    have h := hp.1 c hc
    refine ⟨fun e => ?_, fun e => ?_⟩
    · subst e; exact absurd h (by decide)
    · subst e; exact absurd h (by decide)
set_option maxRecDepth 100000 in
set_option maxHeartbeats 4000000 in
theorem FnGlobHas_any {w : World} (a : Option Addr) (n cap : Nat) (cs : List Int) (hx : Byts w a n cap cs) (hn : n ≤ maxLen) :
    Calls Try.prog 3 #[.slice a n cap] w fun e w' => e = .returned (.bool true) ∧ Below w.heap.size w w' := by
  have HX := Lib.hid hx; clear hx
  unfold maxLen at hn
  by_cases hlt : (1048576 : Int) < (n : Int)
  · go_enter Try.func3, Try.ntmps3
    go_wp2_with fail
    go_ret
    exact ⟨rfl, Below.refl _ _⟩
  go_enter Try.func3, Try.ntmps3
  go_wp2_with fail
  refine (DrawGlobHas_any _ _ _ _ HX.out (by omega)).mono ?_
  rintro e w1 ⟨p, s, rfl, hp20, hs, hb⟩
  have B1 := Lib.hid hb; clear hb
  have HS := Lib.hid hs; clear hs
  obtain ⟨-, hs1, hs12⟩ := word_bytes HS.out
  have LP := Lib.hid (show p.size ≤ maxLen by unfold maxLen; omega)
  have LS := Lib.hid (show s.size ≤ maxLen by unfold maxLen; omega)
  obtain ⟨H, hH⟩ : ∃ H, H = globHasB p s := ⟨_, rfl⟩
  have C := Lib.hid (fun w => by have := GlobHas_any p s LP.out LS.out w; rwa [← hH] at this)
  have S := Lib.hid (fun w => by have := sGlobHas_any p s LP.out LS.out w; rwa [← hH] at this)
  have HH := Lib.hid hH; clear hH
  go_wp2_with fail
  refine (C.out _).mono ?_
  rintro e w' ⟨rfl, q1, rfl⟩
  go_wp2_with fail
  refine (S.out _).mono ?_
  rintro e w' ⟨rfl, q2, rfl⟩
  go_wp2_with fail
  refine (GlobOk_any _ LP.out _).mono ?_
  rintro e w' ⟨rfl, rfl⟩
  go_wp2_with fail
  refine (sGlobOk_any _ LP.out _).mono ?_
  rintro e w' ⟨rfl, q3, rfl⟩
  cases hg : globOk p
  · go_wp2_with fail
    refine (GlobOk_any _ LP.out _).mono ?_
    rintro e w' ⟨rfl, rfl⟩
    rw [hg]
    go_wp2_with fail
    refine (S.out _).mono ?_
    rintro e w' ⟨rfl, q4, rfl⟩
    go_wp2_with fail
    refine (GlobOk_any _ LP.out _).mono ?_
    rintro e w' ⟨rfl, rfl⟩
    go_wp2_with fail
    refine (sGlobOk_any _ LP.out _).mono ?_
    rintro e w' ⟨rfl, q5, rfl⟩
    go_wp2_with fail
    go_ret
    exact ⟨rfl, by first | exact B1.out.trans (Drw.below ⟨_, rfl⟩) | exact below_drewN B1.out _⟩
  have HG := Lib.hid hg
  go_wp2_with fail
  refine (GlobOk_any _ LP.out _).mono ?_
  rintro e w' ⟨rfl, rfl⟩
  rw [hg]
  clear hg
  by_cases h12 : 12 ≤ p.size
  · go_wp2_with fail
    refine (S.out _).mono ?_
    rintro e w' ⟨rfl, q4, rfl⟩
    go_wp2_with fail
    refine (GlobOk_any _ LP.out _).mono ?_
    rintro e w' ⟨rfl, rfl⟩
    go_wp2_with fail
    refine (sGlobOk_any _ LP.out _).mono ?_
    rintro e w' ⟨rfl, q5, rfl⟩
    go_wp2_with fail
    go_ret
    exact ⟨rfl, by first | exact B1.out.trans (Drw.below ⟨_, rfl⟩) | exact below_drewN B1.out _⟩
  have BL := Lib.hid (begs_law HG.out (by omega) HS.out)
  have EL := Lib.hid (ends_law HG.out (by omega) HS.out)
  go_wp2_with fail
  go_loopw [6, 7, 8] (fun b e i wr => ∃ k : Nat, k ≤ s.size + 1 ∧ i = .int .i64 k ∧ b = .bool (anyN k (begAt p s)) ∧ e = .bool (anyN k (endAt p s)) ∧ Drw w1 wr) (fun _ _ i _ => s.size + 1 - (intOf i).toNat)
  case atStart => exact ⟨0, Nat.zero_le _, rfl, rfl, rfl, ⟨_, rfl⟩⟩
  case round =>
    obtain ⟨k, hk, rfl, rfl, rfl, qq, rfl⟩ := hrel
    by_cases hlk : k ≤ s.size
    · have NB := Lib.hid (anyN_succ k (begAt p s))
      have NE := Lib.hid (anyN_succ k (endAt p s))
      have zb : (s.extract 0 k).size ≤ maxLen := by simp only [ByteArray.size_extract]; unfold maxLen; omega
      have ze : (s.extract k s.size).size ≤ maxLen := by simp only [ByteArray.size_extract]; unfold maxLen; omega
      have CB := Lib.hid (fun w => GlobHas_any p (s.extract 0 k) LP.out zb w)
      have CE := Lib.hid (fun w => GlobHas_any p (s.extract k s.size) LP.out ze w)
      clear zb ze
      have VB := Lib.hid (show begAt p s k = (decide (0 < k) && globHasB p (s.extract 0 k)) from rfl)
      have VE := Lib.hid (show endAt p s k = (decide (k < s.size) && globHasB p (s.extract k s.size)) from rfl)
      generalize globHasB p (s.extract 0 k) = XB at *
      generalize globHasB p (s.extract k s.size) = XE at *
      rcases (show k = 0 ∨ 0 < k ∧ k < s.size ∨ k = s.size by omega) with h0 | ⟨h0, h1⟩ | h0
      · have hk0 : k ≤ 0 := by omega
        have hk1 : k < s.size := by omega
        have dB := Lib.hid (show decide (0 < k) = false by simp; omega)
        have dE := Lib.hid (show decide (k < s.size) = true by simp; omega)
        clear h0
        cases hB : anyN k (begAt p s)
        · have HBV := Lib.hid hB; clear hB
          cases hE : anyN k (endAt p s)
          · have HEV := Lib.hid hE; clear hE
            cases XE
            all_goals
              go_wp2_with fail
              refine (CE.out _).mono ?_
              rintro e w' ⟨rfl, q5, rfl⟩
              go_wp2_with fail
              go_roundw
              case rel => exact ⟨k + 1, by omega, by go_num, by rw [NB.out, HBV.out, VB.out, dB.out]; rfl, by rw [NE.out, HEV.out, VE.out, dE.out]; rfl, (by first | exact Drw.refl _ | exact Drw.mk _ _ | exact (Drw.mk _ _).trans (Drw.mk _ _) | exact ((Drw.mk _ _).trans (Drw.mk _ _)).trans (Drw.mk _ _))⟩
              case measure => simp [intOf]; omega
          · have HEV := Lib.hid hE; clear hE
            go_wp2_with fail
            go_roundw
            case rel => exact ⟨k + 1, by omega, by go_num, by rw [NB.out, HBV.out, VB.out, dB.out]; rfl, by rw [NE.out, HEV.out, VE.out, dE.out]; rfl, (by first | exact Drw.refl _ | exact Drw.mk _ _ | exact (Drw.mk _ _).trans (Drw.mk _ _) | exact ((Drw.mk _ _).trans (Drw.mk _ _)).trans (Drw.mk _ _))⟩
            case measure => simp [intOf]; omega
        · have HBV := Lib.hid hB; clear hB
          cases hE : anyN k (endAt p s)
          · have HEV := Lib.hid hE; clear hE
            cases XE
            all_goals
              go_wp2_with fail
              refine (CE.out _).mono ?_
              rintro e w' ⟨rfl, q5, rfl⟩
              go_wp2_with fail
              go_roundw
              case rel => exact ⟨k + 1, by omega, by go_num, by rw [NB.out, HBV.out, VB.out, dB.out]; rfl, by rw [NE.out, HEV.out, VE.out, dE.out]; rfl, (by first | exact Drw.refl _ | exact Drw.mk _ _ | exact (Drw.mk _ _).trans (Drw.mk _ _) | exact ((Drw.mk _ _).trans (Drw.mk _ _)).trans (Drw.mk _ _))⟩
              case measure => simp [intOf]; omega
          · have HEV := Lib.hid hE; clear hE
            go_wp2_with fail
            go_roundw
            case rel => exact ⟨k + 1, by omega, by go_num, by rw [NB.out, HBV.out, VB.out, dB.out]; rfl, by rw [NE.out, HEV.out, VE.out, dE.out]; rfl, (by first | exact Drw.refl _ | exact Drw.mk _ _ | exact (Drw.mk _ _).trans (Drw.mk _ _) | exact ((Drw.mk _ _).trans (Drw.mk _ _)).trans (Drw.mk _ _))⟩
            case measure => simp [intOf]; omega
      · have dB := Lib.hid (show decide (0 < k) = true by simp; omega)
        have dE := Lib.hid (show decide (k < s.size) = true by simp; omega)
        cases hB : anyN k (begAt p s)
        · have HBV := Lib.hid hB; clear hB
          cases hE : anyN k (endAt p s)
          · have HEV := Lib.hid hE; clear hE
            cases XB <;> cases XE
            all_goals
              go_wp2_with fail
              refine (CB.out _).mono ?_
              rintro e w' ⟨rfl, q4, rfl⟩
              go_wp2_with fail
              refine (CE.out _).mono ?_
              rintro e w' ⟨rfl, q5, rfl⟩
              go_wp2_with fail
              go_roundw
              case rel => exact ⟨k + 1, by omega, by go_num, by rw [NB.out, HBV.out, VB.out, dB.out]; rfl, by rw [NE.out, HEV.out, VE.out, dE.out]; rfl, (by first | exact Drw.refl _ | exact Drw.mk _ _ | exact (Drw.mk _ _).trans (Drw.mk _ _) | exact ((Drw.mk _ _).trans (Drw.mk _ _)).trans (Drw.mk _ _))⟩
              case measure => simp [intOf]; omega
          · have HEV := Lib.hid hE; clear hE
            cases XB
            all_goals
              go_wp2_with fail
              refine (CB.out _).mono ?_
              rintro e w' ⟨rfl, q4, rfl⟩
              go_wp2_with fail
              go_roundw
              case rel => exact ⟨k + 1, by omega, by go_num, by rw [NB.out, HBV.out, VB.out, dB.out]; rfl, by rw [NE.out, HEV.out, VE.out, dE.out]; rfl, (by first | exact Drw.refl _ | exact Drw.mk _ _ | exact (Drw.mk _ _).trans (Drw.mk _ _) | exact ((Drw.mk _ _).trans (Drw.mk _ _)).trans (Drw.mk _ _))⟩
              case measure => simp [intOf]; omega
        · have HBV := Lib.hid hB; clear hB
          cases hE : anyN k (endAt p s)
          · have HEV := Lib.hid hE; clear hE
            cases XE
            all_goals
              go_wp2_with fail
              refine (CE.out _).mono ?_
              rintro e w' ⟨rfl, q5, rfl⟩
              go_wp2_with fail
              go_roundw
              case rel => exact ⟨k + 1, by omega, by go_num, by rw [NB.out, HBV.out, VB.out, dB.out]; rfl, by rw [NE.out, HEV.out, VE.out, dE.out]; rfl, (by first | exact Drw.refl _ | exact Drw.mk _ _ | exact (Drw.mk _ _).trans (Drw.mk _ _) | exact ((Drw.mk _ _).trans (Drw.mk _ _)).trans (Drw.mk _ _))⟩
              case measure => simp [intOf]; omega
          · have HEV := Lib.hid hE; clear hE
            go_wp2_with fail
            go_roundw
            case rel => exact ⟨k + 1, by omega, by go_num, by rw [NB.out, HBV.out, VB.out, dB.out]; rfl, by rw [NE.out, HEV.out, VE.out, dE.out]; rfl, (by first | exact Drw.refl _ | exact Drw.mk _ _ | exact (Drw.mk _ _).trans (Drw.mk _ _) | exact ((Drw.mk _ _).trans (Drw.mk _ _)).trans (Drw.mk _ _))⟩
            case measure => simp [intOf]; omega
      · have hk0 : 0 < k := by omega
        have hk1 : s.size ≤ k := by omega
        have dB := Lib.hid (show decide (0 < k) = true by simp; omega)
        have dE := Lib.hid (show decide (k < s.size) = false by simp; omega)
        clear h0
        cases hB : anyN k (begAt p s)
        · have HBV := Lib.hid hB; clear hB
          cases hE : anyN k (endAt p s)
          · have HEV := Lib.hid hE; clear hE
            cases XB
            all_goals
              go_wp2_with fail
              refine (CB.out _).mono ?_
              rintro e w' ⟨rfl, q4, rfl⟩
              go_wp2_with fail
              go_roundw
              case rel => exact ⟨k + 1, by omega, by go_num, by rw [NB.out, HBV.out, VB.out, dB.out]; rfl, by rw [NE.out, HEV.out, VE.out, dE.out]; rfl, (by first | exact Drw.refl _ | exact Drw.mk _ _ | exact (Drw.mk _ _).trans (Drw.mk _ _) | exact ((Drw.mk _ _).trans (Drw.mk _ _)).trans (Drw.mk _ _))⟩
              case measure => simp [intOf]; omega
          · have HEV := Lib.hid hE; clear hE
            cases XB
            all_goals
              go_wp2_with fail
              refine (CB.out _).mono ?_
              rintro e w' ⟨rfl, q4, rfl⟩
              go_wp2_with fail
              go_roundw
              case rel => exact ⟨k + 1, by omega, by go_num, by rw [NB.out, HBV.out, VB.out, dB.out]; rfl, by rw [NE.out, HEV.out, VE.out, dE.out]; rfl, (by first | exact Drw.refl _ | exact Drw.mk _ _ | exact (Drw.mk _ _).trans (Drw.mk _ _) | exact ((Drw.mk _ _).trans (Drw.mk _ _)).trans (Drw.mk _ _))⟩
              case measure => simp [intOf]; omega
        · have HBV := Lib.hid hB; clear hB
          cases hE : anyN k (endAt p s)
          · have HEV := Lib.hid hE; clear hE
            go_wp2_with fail
            go_roundw
            case rel => exact ⟨k + 1, by omega, by go_num, by rw [NB.out, HBV.out, VB.out, dB.out]; rfl, by rw [NE.out, HEV.out, VE.out, dE.out]; rfl, (by first | exact Drw.refl _ | exact Drw.mk _ _ | exact (Drw.mk _ _).trans (Drw.mk _ _) | exact ((Drw.mk _ _).trans (Drw.mk _ _)).trans (Drw.mk _ _))⟩
            case measure => simp [intOf]; omega
          · have HEV := Lib.hid hE; clear hE
            go_wp2_with fail
            go_roundw
            case rel => exact ⟨k + 1, by omega, by go_num, by rw [NB.out, HBV.out, VB.out, dB.out]; rfl, by rw [NE.out, HEV.out, VE.out, dE.out]; rfl, (by first | exact Drw.refl _ | exact Drw.mk _ _ | exact (Drw.mk _ _).trans (Drw.mk _ _) | exact ((Drw.mk _ _).trans (Drw.mk _ _)).trans (Drw.mk _ _))⟩
            case measure => simp [intOf]; omega
    · obtain rfl : k = s.size + 1 := by omega
      generalize anyN (s.size + 1) (begAt p s) = XB at *
      generalize anyN (s.size + 1) (endAt p s) = XE at *
      go_wp2_with fail
      obtain ⟨W6, hW6⟩ : ∃ W, W = w1.drewN qq := ⟨_, rfl⟩
      have B6 := Lib.hid (show Below w.heap.size w W6 by rw [hW6]; exact below_drewN B1.out qq)
      rw [← hW6]
      clear hW6
      go_loop [9, 10] (fun b i => ∃ k : Nat, k ≤ p.size ∧ i = .int .i64 k ∧ b = .bool (allB isStar (p.data.toList.take k))) (fun _ i => p.size - (intOf i).toNat)
      case atStart => exact ⟨0, Nat.zero_le _, rfl, rfl⟩
      case round =>
        obtain ⟨k, hk, rfl, rfl⟩ := hrel
        by_cases hlk2 : k < p.size
        · have SN := Lib.hid (allB_snoc isStar hlk2)
          cases hS : allB isStar (p.data.toList.take k)
          · have HSV := Lib.hid hS; clear hS
            go_wp2_with fail
            go_round
            case rel => exact ⟨k + 1, by omega, by go_num, by rw [SN.out, HSV.out]; rfl⟩
            case measure => simp [intOf]; omega
          · have HSV := Lib.hid hS; clear hS
            by_cases hc : ((p[k]'hlk2).toNat : Int) = 42
            · have bc := beq_t hc
              have IS := Lib.hid (show isStar ((p[k]'hlk2).toNat : Int) = true by rw [isStar, hc]; rfl)
              clear hc
              go_wp2_with fail
              go_round
              case rel => exact ⟨k + 1, by omega, by go_num, by rw [SN.out, HSV.out, IS.out]; rfl⟩
              case measure => simp [intOf]; omega
            · have bc := beq_f hc
              have IS := Lib.hid (show isStar ((p[k]'hlk2).toNat : Int) = false by rw [isStar]; simp [hc])
              clear hc
              go_wp2_with fail
              go_round
              case rel => exact ⟨k + 1, by omega, by go_num, by rw [SN.out, HSV.out, IS.out]; rfl⟩
              case measure => simp [intOf]; omega
        · obtain rfl : k = p.size := by omega
          have AE := Lib.hid (show allB isStar (p.data.toList.take p.size) = allB isStar p.data.toList by rw [List.take_of_length_le (by simp)])
          rw [AE.out]
          have zp : (p ++ starT).size ≤ maxLen := by rw [ByteArray.size_append]; unfold maxLen; have : starT.size = 1 := rfl; omega
          have zq : (starT ++ p).size ≤ maxLen := by rw [ByteArray.size_append]; unfold maxLen; have : starT.size = 1 := rfl; omega
          have CP := Lib.hid (fun w => by have := GlobHas_any (p ++ starT) s zp LS.out w; rwa [BL.out] at this)
          have CQ := Lib.hid (fun w => by have := GlobHas_any (starT ++ p) s zq LS.out w; rwa [EL.out] at this)
          clear zp zq
          generalize allB isStar p.data.toList = ST at *
          have z1 : p.size + 1 ≤ 9223372036854775807 := by omega
          have z2 : (⟨#[42]⟩ : ByteArray).size + p.size ≤ 9223372036854775807 := by show 1 + p.size ≤ _; omega
          have z3 : p.size + (⟨#[42]⟩ : ByteArray).size ≤ 9223372036854775807 := by show p.size + 1 ≤ _; omega
          go_wp2_with fail
          refine (WordOk_any _ LP.out _).mono ?_
          rintro e w' ⟨rfl, rfl⟩
          have ways : wordOk p = false ∨ wordOk p = true ∧ ((p.toList == s.toList) = true ∧ H = true ∨ (p.toList == s.toList) = false ∧ H = false) := by
            cases hw : wordOk p
            · exact .inl rfl
            · refine .inr ⟨rfl, ?_⟩
              have hh := HH.out
              rw [word_has hw HG.out HS.out] at hh
              by_cases hps : p = s
              · exact .inl ⟨str_eq_t hps, by rw [hh]; simp [hps]⟩
              · exact .inr ⟨str_eq_f hps, by rw [hh]; simp [hps]⟩
          rcases ways with hw | ⟨hw, ⟨he, rfl⟩ | ⟨he, rfl⟩⟩ <;> cases XB <;> cases XE
          all_goals
            go_wp2_with fail
            refine (CP.out _).mono ?_
            rintro e w' ⟨rfl, q7, rfl⟩
            simp only [Bool.true_or, Bool.false_or]
            go_wp2_with fail
            refine (CQ.out _).mono ?_
            rintro e w' ⟨rfl, q8, rfl⟩
            simp only [Bool.true_or, Bool.false_or]
            go_wp2_with fail
            go_ret
            exact ⟨by simp, by first | exact below_drewN B6.out _ | exact below_drewN (below_drewN B6.out _) _⟩
end Go.Proofs.Ytoljjhhomklcbaa
