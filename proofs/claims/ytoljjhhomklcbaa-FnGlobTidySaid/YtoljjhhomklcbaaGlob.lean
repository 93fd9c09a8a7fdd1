/- The walks of patterns: which texts are patterns, and which words they have. Condition: the strings fit the model's sizes. -/
import Derived.Test.YtoljjhhomklcbaaWord
import Derived.Lib.Strings
namespace Go.Proofs.Ytoljjhhomklcbaa
open Go.RowKit

def globB (c : Int) : Bool := wordB c || decide (c = 42) || decide (c = 63)
def globOk (s : ByteArray) : Bool := allB globB s.data.toList && decide (1 ≤ s.size ∧ s.size ≤ 12)
theorem globB_false {c : Int} : globB c = false ↔ (wordB c = false ∧ c ≠ 42 ∧ c ≠ 63) := by simp [globB, and_assoc]

theorem GlobOk_any (s : ByteArray) (hs : s.size ≤ maxLen) (w : World) :
    Calls Try.prog 14 #[.string s] w fun e w' => e = .returned (.bool (globOk s)) ∧ w = w' := by
  unfold maxLen at hs
  go_enter Try.func14, Try.ntmps14
  go_wp2_with fail
  go_loop [6] (fun i => ∃ k : Nat, k ≤ s.size ∧ i = .int .i64 k ∧ allB globB (s.data.toList.take k) = true) (fun i => s.size - (intOf i).toNat)
  case atStart => exact ⟨0, Nat.zero_le _, rfl, rfl⟩
  case round =>
    obtain ⟨k, hk, rfl, hall⟩ := hrel
    have HA := Lib.hid hall; clear hall
    by_cases hlt : k < s.size
    · have next : globB ((s[k]'hlt).toNat : Int) = true → Hid (allB globB (s.data.toList.take (k + 1)) = true) := fun h => allB_step hlt HA.out h
      have stop : globB ((s[k]'hlt).toNat : Int) = false → Hid (globOk s = false) := fun h => by show globOk s = false; rw [globOk, allB_fail hlt h]; rfl
      cases hf : wordB ((s[k]'hlt).toNat : Int)
      · by_cases h1 : ((s[k]'hlt).toNat : Int) = 42
        · have N := next (by simp [globB, h1]); clear next stop
          go_wp2_with (go_at_call 47; refine (wordByte_any _ _).mono ?_; rintro e w' ⟨rfl, rfl⟩)
          go_round
          case rel => exact ⟨k + 1, by omega, by go_num, N.out⟩
          case measure => simp [intOf]; omega
        · by_cases h2 : ((s[k]'hlt).toNat : Int) = 63
          · have N := next (by simp [globB, h2]); clear next stop
            go_wp2_with (go_at_call 47; refine (wordByte_any _ _).mono ?_; rintro e w' ⟨rfl, rfl⟩)
            go_round
            case rel => exact ⟨k + 1, by omega, by go_num, N.out⟩
            case measure => simp [intOf]; omega
          · have N := stop (globB_false.2 ⟨hf, h1, h2⟩); clear next stop; have b1 := bne_t h1; have b2 := bne_t h2
            go_wp2_with (go_at_call 47; refine (wordByte_any _ _).mono ?_; rintro e w' ⟨rfl, rfl⟩)
            go_ret
            exact ⟨ret_bool N.out.symm, rfl⟩
      · have N := next (by simp [globB, hf]); clear next stop
        go_wp2_with (go_at_call 47; refine (wordByte_any _ _).mono ?_; rintro e w' ⟨rfl, rfl⟩)
        go_round
        case rel => exact ⟨k + 1, by omega, by go_num, N.out⟩
        case measure => simp [intOf]; omega
    · go_wp2_with (go_at_call 48; refine (within_any _ _ _ _).mono ?_; rintro e w' ⟨rfl, rfl⟩)
      go_ret
      exact ⟨ret_bool (by rw [globOk, allB_full (by omega) HA.out, Bool.true_and, Bool.eq_iff_iff]; simp only [Bool.and_eq_true, decide_eq_true_eq]; omega), rfl⟩
/-- A pattern has a text: a star any bytes, a mark one. -/
def starM (f : List UInt8 → Bool) : List UInt8 → Bool
  | [] => f []
  | d :: s => f (d :: s) || starM f s
def globM : List UInt8 → List UInt8 → Bool
  | [], s => s.isEmpty
  | c :: p, s => if c = 42 then starM (globM p) s else
    match s with
    | [] => false
    | d :: t => (c == 63 || c == d) && globM p t

theorem oneByte (s : ByteArray) (k : Nat) (h : k < s.size) : wordOk (s.extract k (k + 1)) = wordB ((s[k]'h).toNat : Int) := by
  have e : (s.extract k (k + 1)).data.toList = [s[k]] := by
    rw [Lib.extract_data, show k + 1 - k = 1 from by omega, List.drop_eq_getElem_cons (by simpa using h)]; rfl
  have z : (s.extract k (k + 1)).size = 1 := by rw [← size_list, e]; rfl
  rw [wordOk, e, z]; simp [allB]
theorem l5GlobOk_any (s : ByteArray) (hs : s.size ≤ maxLen) (w : World) :
    Calls Try.prog 44 #[.string s] w fun e w' => e = .returned (.bool (globOk s)) ∧ Drw w w' := by
  unfold maxLen at hs
  go_enter Try.func44, Try.ntmps44
  go_wp2_with fail
  go_loopw [3] (fun i wr => ∃ k : Nat, k ≤ s.size ∧ i = .int .i64 k ∧ allB globB (s.data.toList.take k) = true ∧ Drw w wr) (fun i _ => s.size - (intOf i).toNat)
  case atStart => exact ⟨0, Nat.zero_le _, rfl, rfl, Drw.refl _⟩
  case round =>
    obtain ⟨k, hk, rfl, hall, hd⟩ := hrel
    have HA := Lib.hid hall; clear hall
    have HD := Lib.hid hd; clear hd
    by_cases hlt : k < s.size
    · have next : globB ((s[k]'hlt).toNat : Int) = true → Hid (allB globB (s.data.toList.take (k + 1)) = true) := fun h => allB_step hlt HA.out h
      have stop : globB ((s[k]'hlt).toNat : Int) = false → Hid (globOk s = false) := fun h => by show globOk s = false; rw [globOk, allB_fail hlt h]; rfl
      have H1 : Hid (wordOk (s.extract k (k + 1)) = wordB ((s[k]'hlt).toNat : Int)) := oneByte s k hlt
      have hx : (s.extract k (k + 1)).size ≤ maxLen := by simp only [ByteArray.size_extract, maxLen]; omega
      by_cases h1 : ((s[k]'hlt).toNat : Int) = 42
      · have N := next (by simp [globB, h1]); clear next stop
        go_wp2_with fail
        go_roundw
        case rel => exact ⟨k + 1, by omega, by go_num, N.out, HD.out⟩
        case measure => simp [intOf]; omega
      · by_cases h2 : ((s[k]'hlt).toNat : Int) = 63
        · have N := next (by simp [globB, h2]); clear next stop
          go_wp2_with fail
          go_roundw
          case rel => exact ⟨k + 1, by omega, by go_num, N.out, HD.out⟩
          case measure => simp [intOf]; omega
        · have b1 := bne_t h1
          have b2 := bne_t h2
          have z1 : (k : Int) + 1 ≤ (s.size : Int) := by omega
          cases hf : wordB ((s[k]'hlt).toNat : Int)
          · have N := stop (globB_false.2 ⟨hf, h1, h2⟩); clear next stop
            have h3 : wordOk (s.extract k (k + 1)) = false := by rw [H1.out, hf]
            clear H1 hf
            go_wp2_with (go_at_call 45; refine (l1WordOk_any _ hx _).mono ?_; rintro e w' ⟨rfl, n, rfl⟩)
            go_ret
            exact ⟨ret_bool N.out.symm, HD.out.trans (Drw.mk _ _)⟩
          · have N := next (by simp [globB, hf]); clear next stop
            have h3 : wordOk (s.extract k (k + 1)) = true := by rw [H1.out, hf]
            clear H1 hf
            go_wp2_with (go_at_call 45; refine (l1WordOk_any _ hx _).mono ?_; rintro e w' ⟨rfl, n, rfl⟩)
            go_roundw
            case rel => exact ⟨k + 1, by omega, by go_num, N.out, HD.out.trans (Drw.mk _ _)⟩
            case measure => simp [intOf]; omega
    · go_wp2_with (go_at_call 60; refine (l1In_any _ _ _ _).mono ?_; rintro e w' ⟨rfl, rfl⟩)
      go_ret
      exact ⟨ret_bool (by rw [globOk, allB_full (by omega) HA.out, Bool.true_and, Bool.eq_iff_iff]; simp only [Bool.and_eq_true, decide_eq_true_eq]; omega), HD.out⟩
theorem ba_cons (s : ByteArray) (h : 0 < s.size) : s.data.toList = (s[0]'h) :: (s.extract 1 s.size).data.toList := by
  have hx : (s.extract 1 s.size).data.toList = s.data.toList.drop 1 := by rw [Lib.extract_data, List.take_of_length_le (by simp)]
  rw [hx]
  have h' : 0 < s.data.toList.length := by simpa using h
  have := List.drop_eq_getElem_cons h'
  rw [List.drop_zero] at this
  exact this
theorem ba_nil (s : ByteArray) (h : s.size = 0) : s.data.toList = [] := List.eq_nil_of_length_eq_zero (by simpa using h)
theorem ba_empty (s : ByteArray) (h : s.size = 0) : s.toList = [] := by rw [ByteArray.toList_eq, ba_nil s h]
theorem ba_empty_f (s : ByteArray) (h : 0 < s.size) : s.toList.isEmpty = false := by rw [ByteArray.toList_eq, ba_cons s h]; rfl
theorem ba_ne (s : ByteArray) (h : 0 < s.size) : ¬ s.toList = [] := by rw [ByteArray.toList_eq, ba_cons s h]; simp
theorem u8_eq (a b : UInt8) : (a = b) ↔ ((a.toNat : Int) = (b.toNat : Int)) := by rw [← UInt8.toNat_inj]; omega

abbrev gl (p s : ByteArray) : Bool := globM p.data.toList s.data.toList
theorem gl_nil {p s : ByteArray} (hp : p.size = 0) : gl p s = s.toList.isEmpty := by rw [gl, ba_nil p hp, ByteArray.toList_eq]; rfl
theorem gl_star {p s : ByteArray} (hp : 0 < p.size) (hs : 0 < s.size) (h : ((p[0]'hp).toNat : Int) = 42) : gl p s = (gl (p.extract 1 p.size) s || gl p (s.extract 1 s.size)) := by
  have e : p[0]'hp = 42 := (u8_eq _ _).2 (by rw [h]; rfl)
  rw [gl, gl, gl, ba_cons p hp, ba_cons s hs, e]; simp [globM, starM]
theorem gl_star_nil {p s : ByteArray} (hp : 0 < p.size) (hs : s.size = 0) (h : ((p[0]'hp).toNat : Int) = 42) : gl p s = gl (p.extract 1 p.size) s := by
  have e : p[0]'hp = 42 := (u8_eq _ _).2 (by rw [h]; rfl)
  rw [gl, gl, ba_cons p hp, ba_nil s hs, e]; simp [globM, starM]
theorem gl_none {p s : ByteArray} (hp : 0 < p.size) (hs : s.size = 0) (h : ((p[0]'hp).toNat : Int) ≠ 42) : gl p s = false := by
  have e : p[0]'hp ≠ 42 := fun e => h (by rw [e]; rfl)
  rw [gl, ba_cons p hp, ba_nil s hs]; simp [globM, e]
theorem gl_step {p s : ByteArray} (hp : 0 < p.size) (hs : 0 < s.size) (h : ((p[0]'hp).toNat : Int) ≠ 42) (h1 : ((p[0]'hp).toNat : Int) = 63 ∨ ((p[0]'hp).toNat : Int) = ((s[0]'hs).toNat : Int)) : gl p s = gl (p.extract 1 p.size) (s.extract 1 s.size) := by
  have e : p[0]'hp ≠ 42 := fun e => h (by rw [e]; rfl)
  have e1 : (p[0]'hp == 63 || p[0]'hp == s[0]'hs) = true := by
    simp only [Bool.or_eq_true, beq_iff_eq]; rw [u8_eq, u8_eq]; exact h1
  rw [gl, gl, ba_cons p hp, ba_cons s hs]; simp only [globM, if_neg e, e1, Bool.true_and]
theorem gl_miss {p s : ByteArray} (hp : 0 < p.size) (hs : 0 < s.size) (h : ((p[0]'hp).toNat : Int) ≠ 42) (h1 : ((p[0]'hp).toNat : Int) ≠ 63) (h2 : ((p[0]'hp).toNat : Int) ≠ ((s[0]'hs).toNat : Int)) : gl p s = false := by
  have e : p[0]'hp ≠ 42 := fun e => h (by rw [e]; rfl)
  have e1 : (p[0]'hp == 63 || p[0]'hp == s[0]'hs) = false := by
    simp only [Bool.or_eq_false_iff, beq_eq_false_iff_ne, ne_eq]; rw [u8_eq, u8_eq]; exact ⟨h1, h2⟩
  rw [gl, ba_cons p hp, ba_cons s hs]; simp only [globM, if_neg e, e1, Bool.false_and]
theorem ext1_size (s : ByteArray) : (s.extract 1 s.size).size = s.size - 1 := by simp only [ByteArray.size_extract]; omega

theorem sGlobOk_any (s : ByteArray) (hs : s.size ≤ maxLen) (w : World) :
    Calls Try.prog 15 #[.string s] w fun e w' => e = .returned (.bool (globOk s)) ∧ Drw w w' := by
  go_enter Try.func15, Try.ntmps15
  go_wp2_with (go_at_call 44; refine (l5GlobOk_any _ hs _).mono ?_; rintro e w' ⟨rfl, hd⟩)
  go_ret
  exact ⟨rfl, hd⟩
theorem globHas_any : ∀ (n : Nat) (p s : ByteArray) (w : World), p.size + s.size ≤ n → p.size ≤ maxLen → s.size ≤ maxLen →
    Calls Try.prog 43 #[.string p, .string s] w fun e w' => e = .returned (.bool (gl p s)) ∧ Drw w w' := by
  intro n
  induction n with
  | zero =>
    intro p s w hn hp hs
    have g1 := Lib.hid (gl_nil (p := p) (s := s) (by omega))
    have e1 := ba_empty p (by omega)
    go_enter Try.func43, Try.ntmps43
    go_wp2_with fail
    go_ret
    exact ⟨ret_bool g1.out.symm, Drw.refl _⟩
  | succ n ih =>
    intro p s w hn hp hs
    have HI := Lib.hid ih; clear ih
    unfold maxLen at hp hs
    by_cases hp0 : p.size = 0
    · have g1 := Lib.hid (gl_nil (p := p) (s := s) hp0)
      have e1 := ba_empty p (by omega)
      clear hp0
      go_enter Try.func43, Try.ntmps43
      go_wp2_with fail
      go_ret
      exact ⟨ret_bool g1.out.symm, Drw.refl _⟩
    · have hpp : 0 < p.size := by omega
      have e1 := ba_empty_f p hpp
      have e1' := ba_ne p hpp
      have z1 : (1 : Int) ≤ (p.size : Int) := by omega
      have x1 := ext1_size p
      have x2 := ext1_size s
      by_cases h42 : ((p[0]'hpp).toNat : Int) = 42
      · by_cases hs0 : s.size = 0
        · have g1 := Lib.hid (gl_star_nil hpp hs0 h42)
          have e2 := ba_empty s (by omega)
          have c1 := fun w => HI.out (p.extract 1 p.size) s w (by omega) (by unfold maxLen; omega) (by unfold maxLen; omega)
          have C1 := Lib.hid c1
          clear c1 x1 x2 hs0
          cases hg : gl (p.extract 1 p.size) s
          all_goals
            go_enter Try.func43, Try.ntmps43
            go_wp2_with (go_at_call 43; refine (C1.out _).mono ?_; rintro e w' ⟨rfl, n, rfl⟩)
            go_ret
            exact ⟨ret_bool (by rw [g1.out, hg]), Drw.mk _ _⟩
        · have hsp : 0 < s.size := by omega
          have g1 := Lib.hid (gl_star hpp hsp h42)
          have e2 := ba_empty_f s hsp
          have e2' := ba_ne s hsp
          have z2 : (1 : Int) ≤ (s.size : Int) := by omega
          have c1 := fun w => HI.out (p.extract 1 p.size) s w (by omega) (by unfold maxLen; omega) (by unfold maxLen; omega)
          have C1 := Lib.hid c1
          have c2 := fun w => HI.out p (s.extract 1 s.size) w (by omega) (by unfold maxLen; omega) (by unfold maxLen; omega)
          have C2 := Lib.hid c2
          clear c1 c2 x1 x2
          cases hg : gl (p.extract 1 p.size) s
          · go_enter Try.func43, Try.ntmps43
            go_wp2_with fail
            refine (C1.out _).mono ?_
            rintro e w' ⟨rfl, n, rfl⟩
            go_wp2_with fail
            refine (C2.out _).mono ?_
            rintro e w' ⟨rfl, n, rfl⟩
            go_wp2_with fail
            go_ret
            exact ⟨ret_bool (by rw [g1.out, hg]; rfl), Drw.mk _ _⟩
          · go_enter Try.func43, Try.ntmps43
            go_wp2_with fail
            refine (C1.out _).mono ?_
            rintro e w' ⟨rfl, n, rfl⟩
            go_wp2_with fail
            go_ret
            exact ⟨ret_bool (by rw [g1.out, hg]; rfl), Drw.mk _ _⟩
      · by_cases hs0 : s.size = 0
        · have g1 := Lib.hid (gl_none hpp hs0 h42)
          have e2 := ba_empty s (by omega)
          clear hs0 x1 x2
          go_enter Try.func43, Try.ntmps43
          go_wp2_with fail
          go_ret
          exact ⟨ret_bool g1.out.symm, Drw.refl _⟩
        · have hsp : 0 < s.size := by omega
          have e2 := ba_empty_f s hsp
          have e2' := ba_ne s hsp
          have z2 : (1 : Int) ≤ (s.size : Int) := by omega
          have c2 := fun w => HI.out (p.extract 1 p.size) (s.extract 1 s.size) w (by omega) (by unfold maxLen; omega) (by unfold maxLen; omega)
          have C2 := Lib.hid c2
          clear c2 x1 x2
          by_cases h63 : ((p[0]'hpp).toNat : Int) = 63
          · have g1 := Lib.hid (gl_step hpp hsp h42 (.inl h63))
            have b1 := beq_t h63
            go_enter Try.func43, Try.ntmps43
            go_wp2_with fail
            go_quiet ((exact quiet_d (C2.out _)))
            go_wp2_with fail
            go_ret
            exact ⟨ret_bool g1.out.symm, Drw.mk _ _⟩
          · by_cases hcc : ((p[0]'hpp).toNat : Int) = ((s[0]'hsp).toNat : Int)
            · have g1 := Lib.hid (gl_step hpp hsp h42 (.inr hcc))
              have b1 := beq_f h63
              have b2 := beq_t hcc
              clear hcc h63
              go_enter Try.func43, Try.ntmps43
              go_wp2_with fail
              go_quiet ((exact quiet_d (C2.out _)))
              go_wp2_with fail
              go_ret
              exact ⟨ret_bool g1.out.symm, Drw.mk _ _⟩
            · have g1 := Lib.hid (gl_miss hpp hsp h42 h63 hcc)
              have b1 := beq_f h63
              have b2 := beq_f hcc
              clear hcc h63
              go_enter Try.func43, Try.ntmps43
              go_wp2_with fail
              go_quiet (fail)
              go_wp2_with fail
              go_ret
              exact ⟨ret_bool g1.out.symm, Drw.mk _ _⟩
theorem l5Glob_any : ∀ (n : Nat) (p s : ByteArray) (w : World), p.size + s.size ≤ n → p.size ≤ maxLen → s.size ≤ maxLen →
    Calls Try.prog 46 #[.string p, .string s] w fun e w' => e = .returned (.bool (gl p s)) ∧ Drw w w' := by
  intro n
  induction n with
  | zero =>
    intro p s w hn hp hs
    have g1 := Lib.hid (gl_nil (p := p) (s := s) (by omega))
    have e1 := ba_empty p (by omega)
    go_enter Try.func46, Try.ntmps46
    go_wp2_with fail
    go_ret
    exact ⟨ret_bool g1.out.symm, Drw.refl _⟩
  | succ n ih =>
    intro p s w hn hp hs
    have HI := Lib.hid ih; clear ih
    unfold maxLen at hp hs
    by_cases hp0 : p.size = 0
    · have g1 := Lib.hid (gl_nil (p := p) (s := s) hp0)
      have e1 := ba_empty p (by omega)
      clear hp0
      go_enter Try.func46, Try.ntmps46
      go_wp2_with fail
      go_ret
      exact ⟨ret_bool g1.out.symm, Drw.refl _⟩
    · have hpp : 0 < p.size := by omega
      have e1 := ba_empty_f p hpp
      have e1' := ba_ne p hpp
      have z1 : (1 : Int) ≤ (p.size : Int) := by omega
      have x1 := ext1_size p
      have x2 := ext1_size s
      by_cases h42 : ((p[0]'hpp).toNat : Int) = 42
      · by_cases hs0 : s.size = 0
        · have g1 := Lib.hid (gl_star_nil hpp hs0 h42)
          have e2 := ba_empty s (by omega)
          have c1 := fun w => HI.out (p.extract 1 p.size) s w (by omega) (by unfold maxLen; omega) (by unfold maxLen; omega)
          have C1 := Lib.hid c1
          clear c1 x1 x2 hs0
          cases hg : gl (p.extract 1 p.size) s
          all_goals
            go_enter Try.func46, Try.ntmps46
            go_wp2_with (go_at_call 46; refine (C1.out _).mono ?_; rintro e w' ⟨rfl, n, rfl⟩)
            go_ret
            exact ⟨ret_bool (by rw [g1.out, hg]), Drw.mk _ _⟩
        · have hsp : 0 < s.size := by omega
          have g1 := Lib.hid (gl_star hpp hsp h42)
          have e2 := ba_empty_f s hsp
          have e2' := ba_ne s hsp
          have z2 : (1 : Int) ≤ (s.size : Int) := by omega
          have c1 := fun w => HI.out (p.extract 1 p.size) s w (by omega) (by unfold maxLen; omega) (by unfold maxLen; omega)
          have C1 := Lib.hid c1
          have c2 := fun w => HI.out p (s.extract 1 s.size) w (by omega) (by unfold maxLen; omega) (by unfold maxLen; omega)
          have C2 := Lib.hid c2
          clear c1 c2 x1 x2
          cases hg : gl (p.extract 1 p.size) s
          · go_enter Try.func46, Try.ntmps46
            go_wp2_with fail
            refine (C1.out _).mono ?_
            rintro e w' ⟨rfl, n, rfl⟩
            go_wp2_with fail
            refine (C2.out _).mono ?_
            rintro e w' ⟨rfl, n, rfl⟩
            go_wp2_with fail
            go_ret
            exact ⟨ret_bool (by rw [g1.out, hg]; rfl), Drw.mk _ _⟩
          · go_enter Try.func46, Try.ntmps46
            go_wp2_with fail
            refine (C1.out _).mono ?_
            rintro e w' ⟨rfl, n, rfl⟩
            go_wp2_with fail
            go_ret
            exact ⟨ret_bool (by rw [g1.out, hg]; rfl), Drw.mk _ _⟩
      · by_cases hs0 : s.size = 0
        · have g1 := Lib.hid (gl_none hpp hs0 h42)
          have e2 := ba_empty s (by omega)
          have b3 : (!s.toList.isEmpty) = false := by rw [e2]; rfl
          clear hs0 x1 x2
          go_enter Try.func46, Try.ntmps46
          go_wp2_with fail
          go_quiet (fail)
          go_wp2_with fail
          go_ret
          exact ⟨ret_bool g1.out.symm, Drw.mk _ _⟩
        · have hsp : 0 < s.size := by omega
          have e2 := ba_empty_f s hsp
          have e2' := ba_ne s hsp
          have z2 : (1 : Int) ≤ (s.size : Int) := by omega
          have c2 := fun w => HI.out (p.extract 1 p.size) (s.extract 1 s.size) w (by omega) (by unfold maxLen; omega) (by unfold maxLen; omega)
          have C2 := Lib.hid c2
          clear c2 x1 x2
          by_cases h63 : ((p[0]'hpp).toNat : Int) = 63
          · have g1 := Lib.hid (gl_step hpp hsp h42 (.inl h63))
            have b1 := beq_t h63
            go_enter Try.func46, Try.ntmps46
            go_wp2_with fail
            go_quiet ((exact quiet_d (C2.out _)))
            go_wp2_with fail
            go_ret
            exact ⟨ret_bool g1.out.symm, Drw.mk _ _⟩
          · by_cases hcc : ((p[0]'hpp).toNat : Int) = ((s[0]'hsp).toNat : Int)
            · have g1 := Lib.hid (gl_step hpp hsp h42 (.inr hcc))
              have b1 := beq_f h63
              have b2 := beq_t hcc
              clear hcc h63
              go_enter Try.func46, Try.ntmps46
              go_wp2_with fail
              go_quiet ((exact quiet_d (C2.out _)))
              go_wp2_with fail
              go_ret
              exact ⟨ret_bool g1.out.symm, Drw.mk _ _⟩
            · have g1 := Lib.hid (gl_miss hpp hsp h42 h63 hcc)
              have b1 := beq_f h63
              have b2 := beq_f hcc
              clear hcc h63
              go_enter Try.func46, Try.ntmps46
              go_wp2_with fail
              go_quiet (fail)
              go_wp2_with fail
              go_ret
              exact ⟨ret_bool g1.out.symm, Drw.mk _ _⟩
def globHasB (p s : ByteArray) : Bool := globOk p && wordOk s && gl p s
theorem GlobHas_any (p s : ByteArray) (hp : p.size ≤ maxLen) (hs : s.size ≤ maxLen) (w : World) :
    Calls Try.prog 12 #[.string p, .string s] w fun e w' => e = .returned (.bool (globHasB p s)) ∧ Drw w w' := by
  have H := Lib.hid (fun w => globHas_any _ p s w (Nat.le_refl _) hp hs)
  unfold globHasB
  cases h1 : globOk p
  · go_enter Try.func12, Try.ntmps12
    go_wp2_with (go_at_call 14; refine (GlobOk_any _ hp _).mono ?_; rintro e w' ⟨rfl, rfl⟩)
    go_ret
    exact ⟨rfl, Drw.refl _⟩
  · cases h2 : wordOk s
    · go_enter Try.func12, Try.ntmps12
      go_wp2_with (first | (go_at_call 14; refine (GlobOk_any _ hp _).mono ?_; rintro e w' ⟨rfl, rfl⟩) | (go_at_call 16; refine (WordOk_any _ hs _).mono ?_; rintro e w' ⟨rfl, rfl⟩))
      go_ret
      exact ⟨rfl, Drw.refl _⟩
    · go_enter Try.func12, Try.ntmps12
      go_wp2_with (first | (go_at_call 14; refine (GlobOk_any _ hp _).mono ?_; rintro e w' ⟨rfl, rfl⟩) | (go_at_call 16; refine (WordOk_any _ hs _).mono ?_; rintro e w' ⟨rfl, rfl⟩) | (go_at_call 43; refine (H.out _).mono ?_; rintro e w' ⟨rfl, n, rfl⟩))
      go_ret
      exact ⟨rfl, Drw.mk _ _⟩
theorem sGlobHas_any (p s : ByteArray) (hp : p.size ≤ maxLen) (hs : s.size ≤ maxLen) (w : World) :
    Calls Try.prog 13 #[.string p, .string s] w fun e w' => e = .returned (.bool (globHasB p s)) ∧ Drw w w' := by
  have H := Lib.hid (fun w => l5Glob_any _ p s w (Nat.le_refl _) hp hs)
  unfold globHasB
  cases h1 : globOk p
  · go_enter Try.func13, Try.ntmps13
    go_wp2_with (go_at_call 44; refine (l5GlobOk_any _ hp _).mono ?_; rintro e w' ⟨rfl, n, rfl⟩)
    go_ret
    exact ⟨rfl, Drw.mk _ _⟩
  · cases h2 : wordOk s
    · go_enter Try.func13, Try.ntmps13
      go_wp2_with (first | (go_at_call 44; refine (l5GlobOk_any _ hp _).mono ?_; rintro e w' ⟨rfl, n, rfl⟩) | (go_at_call 45; refine (l1WordOk_any _ hs _).mono ?_; rintro e w' ⟨rfl, n, rfl⟩))
      go_ret
      exact ⟨rfl, Drw.mk _ _⟩
    · go_enter Try.func13, Try.ntmps13
      go_wp2_with (first | (go_at_call 44; refine (l5GlobOk_any _ hp _).mono ?_; rintro e w' ⟨rfl, n, rfl⟩) | (go_at_call 45; refine (l1WordOk_any _ hs _).mono ?_; rintro e w' ⟨rfl, n, rfl⟩) | (go_at_call 46; refine (H.out _).mono ?_; rintro e w' ⟨rfl, n, rfl⟩))
      go_ret
      exact ⟨rfl, Drw.mk _ _⟩
end Go.Proofs.Ytoljjhhomklcbaa
