/- The walks of patterns that are tidied. Conditions: what is read fits the model's sizes. -/
import Derived.Test.YtoljjhhomklcbaaTidy
namespace Go.Proofs.Ytoljjhhomklcbaa
open Go.RowKit
theorem list_drop {s : ByteArray} {k : Nat} (h : k < s.size) : s.data.toList.drop k = (s[k]'h) :: s.data.toList.drop (k + 1) := by
  have h' : k < s.data.toList.length := by simpa using h
  exact List.drop_eq_getElem_cons h'
theorem list_ext {s : ByteArray} {a b : Nat} : (s.extract a b).data.toList = (s.data.toList.drop a).take (b - a) := Lib.extract_data _ _ _
theorem list_one {s : ByteArray} {k : Nat} (h : k < s.size) : (s.extract k (k + 1)).data.toList = [s[k]'h] := by
  rw [list_ext, list_drop h, show k + 1 - k = 1 by omega]; rfl
theorem list_app (a b : ByteArray) : (a ++ b).data.toList = a.data.toList ++ b.data.toList := by simp [ByteArray.data_append]
/-- What was written, and what is left, so far. -/
def TidyAt (p : ByteArray) (o : ByteArray) (st : Bool) (k : Nat) : Prop := o.data.toList ++ tidyL st (p.data.toList.drop k) = tidyL false p.data.toList
theorem TidyAt.size {p o : ByteArray} {st : Bool} {k : Nat} (h : TidyAt p o st k) : o.size ≤ p.size := by
  have h1 := congrArg List.length h
  have h2 := tidy_len p.data.toList false
  rw [List.length_append] at h1
  simp at h1 h2
  have : o.data.toList.length = o.size := by simp
  simp at this
  omega
theorem TidyAt.start (p : ByteArray) : TidyAt p ⟨#[]⟩ false 0 := rfl
theorem TidyAt.stop {p o : ByteArray} {st : Bool} {k : Nat} (h : TidyAt p o st k) (hk : p.size ≤ k) : o.data.toList ++ (if st then [42] else []) = tidyL false p.data.toList := by
  have h1 := h
  unfold TidyAt at h1
  rw [List.drop_eq_nil_of_le (by simpa using hk)] at h1
  exact h1
theorem tidy_done {p o : ByteArray} (h : o.data.toList = tidyL false p.data.toList) : o = tidyS p := by
  apply ByteArray.ext
  show o.data = (tidyL false p.data.toList).toArray
  rw [← h]
theorem TidyAt.star {p o : ByteArray} {st : Bool} {k : Nat} (h : TidyAt p o st k) (hk : k < p.size) (hc : ((p[k]'hk).toNat : Int) = 42) : TidyAt p o true (k + 1) := by
  have e : p[k]'hk = 42 := (u8_eq _ _).2 (by rw [hc]; rfl)
  unfold TidyAt at h ⊢
  rw [list_drop hk, e, tidy_star] at h; exact h
theorem TidyAt.mark {p o : ByteArray} {st : Bool} {k : Nat} (h : TidyAt p o st k) (hk : k < p.size) (hc : ((p[k]'hk).toNat : Int) = 63) : TidyAt p (o ++ ⟨#[63]⟩) st (k + 1) := by
  have e : p[k]'hk = 63 := (u8_eq _ _).2 (by rw [hc]; rfl)
  unfold TidyAt at h ⊢
  rw [list_drop hk, e, tidy_mark] at h
  rw [list_app, ← h]; simp
theorem TidyAt.else {p o : ByteArray} {st : Bool} {k : Nat} (h : TidyAt p o st k) (hk : k < p.size) (h1 : ((p[k]'hk).toNat : Int) ≠ 42) (h2 : ((p[k]'hk).toNat : Int) ≠ 63) : TidyAt p ((if st then o ++ ⟨#[42]⟩ else o) ++ p.extract k (k + 1)) false (k + 1) := by
  have e1 : p[k]'hk ≠ 42 := fun e => h1 (by rw [e]; rfl)
  have e2 : p[k]'hk ≠ 63 := fun e => h2 (by rw [e]; rfl)
  unfold TidyAt at h ⊢
  rw [list_drop hk, tidy_else e1 e2] at h
  rw [list_app, list_one hk, ← h]
  cases st
  · simp
  · simp
theorem idx_ge (l : List UInt8) (c : UInt8) : l.contains c = decide (0 ≤ Lib.indexByte l c) := by
  induction l with
  | nil => rfl
  | cons d l ih =>
    have hge := Lib.indexByte_ge l c
    rw [List.contains_cons, ih, Lib.indexByte]
    by_cases h : d = c
    · subst h; simp
    · have h1 : (c == d) = false := by simpa using fun e : c = d => h e.symm
      have h2 : (d == c) = false := by simpa using h
      rw [h1, h2, Bool.false_or]
      by_cases h3 : Lib.indexByte l c = -1
      · rw [h3]; rfl
      · have h4 : (Lib.indexByte l c == -1) = false := by simpa using h3
        rw [h4]
        simp only [Bool.false_eq_true, if_false, decide_eq_decide]
        omega
theorem TidyAt.run {p o : ByteArray} {k e : Nat} (h : TidyAt p o false k) (hke : k ≤ e) (he : e ≤ p.size) (hr : ∀ j, k ≤ j → (hj : j < e) → ((p[j]'(Nat.lt_of_lt_of_le hj he)).toNat : Int) = 42 ∨ ((p[j]'(Nat.lt_of_lt_of_le hj he)).toNat : Int) = 63) (hs : ∀ hj : e < p.size, ((p[e]'hj).toNat : Int) ≠ 42 ∧ ((p[e]'hj).toNat : Int) ≠ 63) :
    TidyAt p (o ++ ⟨(Lib.repeatL [63] (Lib.countByte (p.extract k e).data.toList 63)).toArray⟩ ++ (if decide (0 ≤ Lib.indexByte (p.extract k e).data.toList 42) then ⟨#[42]⟩ else ByteArray.empty)) false e := by
  unfold TidyAt at h ⊢
  have hd : p.data.toList.drop k = (p.extract k e).data.toList ++ p.data.toList.drop e := by
    rw [list_ext]
    have h5 := List.take_append_drop (e - k) (p.data.toList.drop k)
    rw [List.drop_drop, show k + (e - k) = e by omega] at h5
    exact h5.symm
  have hin : ∀ c ∈ (p.extract k e).data.toList, c = 42 ∨ c = 63 := by
    intro c hc
    rw [list_ext] at hc
    obtain ⟨j, hj, rfl⟩ := List.mem_iff_getElem.1 hc
    simp at hj
    have h3 := hr (k + j) (by omega) (by omega)
    have h4 : (List.take (e - k) (List.drop k p.data.toList))[j]'(by simp; omega) = p[k + j]'(by omega) := by
      rw [List.getElem_take, List.getElem_drop]; simp [ByteArray.getElem_eq_getElem_data]
    rw [h4]
    rcases h3 with h3 | h3
    · exact .inl ((u8_eq _ _).2 (by rw [h3]; rfl))
    · exact .inr ((u8_eq _ _).2 (by rw [h3]; rfl))
  have hrest : p.data.toList.drop e = [] ∨ ∃ c r, p.data.toList.drop e = c :: r ∧ c ≠ 42 ∧ c ≠ 63 := by
    by_cases hlt : e < p.size
    · right
      obtain ⟨h1, h2⟩ := hs hlt
      exact ⟨_, _, list_drop hlt, fun e => h1 (by rw [e]; rfl), fun e => h2 (by rw [e]; rfl)⟩
    · left; exact List.drop_eq_nil_of_le (by simp; omega)
  rw [hd, tidy_run _ _ _ hin hrest] at h
  rw [← h, list_app, list_app]
  have hrep : Lib.repeatL [63] (Lib.countByte (p.extract k e).data.toList 63) = List.replicate ((p.extract k e).data.toList.count 63) 63 := by
    have := Lib.repeatL_replicate 63 1 (Lib.countByte (p.extract k e).data.toList 63)
    rw [Nat.mul_one] at this
    exact this
  rw [show (⟨(Lib.repeatL [63] (Lib.countByte (p.extract k e).data.toList 63)).toArray⟩ : ByteArray).data.toList = Lib.repeatL [63] (Lib.countByte (p.extract k e).data.toList 63) by simp, hrep, idx_ge]
  cases decide (0 ≤ Lib.indexByte (p.extract k e).data.toList 42) <;> simp
set_option maxHeartbeats 1000000 in
theorem sGlobTidy_any (p : ByteArray) (hp : p.size ≤ maxLen) (w : World) :
    Calls Try.prog 37 #[.string p] w fun e w' => e = .returned (.string (globTidy p)) ∧ Drw w w' := by
  cases hg : globOk p
  · have R := Lib.hid (show globTidy p = ⟨#[]⟩ by unfold globTidy; rw [hg]; rfl)
    go_enter Try.func37, Try.ntmps37
    go_wp2_with fail
    refine (l5GlobOk_any _ hp _).mono ?_
    rintro e w1 ⟨rfl, hd⟩
    go_wp2_with fail
    go_ret
    exact ⟨ret_str R.out.symm, hd⟩
  have R := Lib.hid (show globTidy p = tidyS p by unfold globTidy; rw [hg]; rfl)
  obtain ⟨hs1, hs2⟩ := glob_size hg
  go_enter Try.func37, Try.ntmps37
  go_wp2_with fail
  refine (l5GlobOk_any _ hp _).mono ?_
  rintro e w1 ⟨rfl, hd⟩
  have HD := Lib.hid hd; clear hd
  rw [hg]
  clear hg
  go_wp2_with fail
  go_loop [3, 4, 5] (fun v b i => ∃ (k : Nat) (o : ByteArray) (st : Bool), k ≤ p.size ∧ i = .int .i64 k ∧ v = .string o ∧ b = .bool st ∧ TidyAt p o st k) (fun _ _ i => p.size - (intOf i).toNat)
  case atStart => exact ⟨0, _, false, Nat.zero_le _, rfl, rfl, rfl, TidyAt.start p⟩
  case round =>
    obtain ⟨k, o, st, hk, rfl, rfl, rfl, hat⟩ := hrel
    have ho := hat.size
    have AT := Lib.hid hat; clear hat
    by_cases hlt : k < p.size
    · by_cases h1 : ((p[k]'hlt).toNat : Int) = 42
      · have N := Lib.hid (AT.out.star hlt h1)
        have b1 := beq_t h1
        go_wp2_with fail
        go_round
        case rel => exact ⟨k + 1, o, true, by omega, by go_num, rfl, rfl, N.out⟩
        case measure => simp [intOf]; omega
      · by_cases h2 : ((p[k]'hlt).toNat : Int) = 63
        · have N := Lib.hid (AT.out.mark hlt h2)
          have b1 := beq_f h1
          have b2 := beq_t h2
          have z1 : o.size + (⟨#[63]⟩ : ByteArray).size ≤ 9223372036854775807 := by show o.size + 1 ≤ _; omega
          go_wp2_with fail
          go_round
          case rel => exact ⟨k + 1, _, st, by omega, by go_num, rfl, rfl, N.out⟩
          case measure => simp [intOf]; omega
        · have N := Lib.hid (AT.out.else hlt h1 h2)
          have b1 := beq_f h1
          have b2 := beq_f h2
          have z3 : (k : Int) + 1 ≤ (p.size : Int) := by omega
          have hx : (p.extract k (k + 1)).size = 1 := by rw [ByteArray.size_extract]; omega
          cases st
          · have z1 : o.size + (p.extract k (k + 1)).size ≤ 9223372036854775807 := by rw [hx]; omega
            clear hx
            go_wp2_with fail
            go_round
            case rel => exact ⟨k + 1, _, false, by omega, by go_num, rfl, rfl, N.out⟩
            case measure => simp [intOf]; omega
          · have z2 : o.size + (⟨#[42]⟩ : ByteArray).size ≤ 9223372036854775807 := by show o.size + 1 ≤ _; omega
            have z1 : (o ++ (⟨#[42]⟩ : ByteArray)).size + (p.extract k (k + 1)).size ≤ 9223372036854775807 := by rw [hx, ByteArray.size_append]; show o.size + 1 + 1 ≤ _; omega
            clear hx
            go_wp2_with fail
            go_round
            case rel => exact ⟨k + 1, _, false, by omega, by go_num, rfl, rfl, N.out⟩
            case measure => simp [intOf]; omega
    · have E := Lib.hid (AT.out.stop (by omega))
      cases st
      · have F := Lib.hid (show o = globTidy p by rw [R.out]; exact tidy_done (by have := E.out; simpa using this))
        go_wp2_with fail
        go_ret
        exact ⟨ret_str F.out, HD.out⟩
      · have z2 : o.size + (⟨#[42]⟩ : ByteArray).size ≤ 9223372036854775807 := by show o.size + 1 ≤ _; omega
        have F := Lib.hid (show o ++ ⟨#[42]⟩ = globTidy p by rw [R.out]; exact tidy_done (by have := E.out; rw [list_app]; simpa using this))
        go_wp2_with fail
        go_ret
        exact ⟨ret_str F.out, HD.out⟩
theorem word_mark {c : Int} (h : wordB c = true) : c ≠ 42 ∧ c ≠ 63 := by
  refine ⟨fun e => ?_, fun e => ?_⟩ <;> (subst e; revert h; decide)
theorem glob_byte {p : ByteArray} (h : globOk p = true) {k : Nat} (hk : k < p.size) (hw : wordB ((p[k]'hk).toNat : Int) = false) : ((p[k]'hk).toNat : Int) = 42 ∨ ((p[k]'hk).toNat : Int) = 63 := by
  have hg : globB ((p[k]'hk).toNat : Int) = true := by
    cases hb : globB ((p[k]'hk).toNat : Int)
    · have := allB_fail hk hb
      rw [globOk, this] at h; cases h
    · rfl
  simpa [globB, hw] using hg
set_option maxHeartbeats 2000000 in
theorem GlobTidy_any (p : ByteArray) (hp : p.size ≤ maxLen) (w : World) :
    Calls Try.prog 38 #[.string p] w fun e w' => e = .returned (.string (globTidy p)) ∧ Below w.heap.size w w' := by
  cases hg : globOk p
  · have R := Lib.hid (show globTidy p = ⟨#[]⟩ by unfold globTidy; rw [hg]; rfl)
    go_enter Try.func38, Try.ntmps38
    go_wp2_with fail
    refine (GlobOk_any _ hp _).mono ?_
    rintro e w1 ⟨rfl, rfl⟩
    go_wp2_with fail
    go_ret
    exact ⟨ret_str R.out.symm, Below.refl _ _⟩
  have R := Lib.hid (show globTidy p = tidyS p by unfold globTidy; rw [hg]; rfl)
  have GB := Lib.hid (fun k hk => glob_byte hg (k := k) hk)
  obtain ⟨hs1, hs2⟩ := glob_size hg
  have CR : Hid (∀ (c : Nat) w, c ≤ 1000 → Calls Try.prog 62 #[.string ⟨#[63]⟩, .int .i64 (c : Int)] w fun e w' => e = .returned (.string ⟨(Lib.repeatL [63] c).toArray⟩) ∧ Below w.heap.size w w') := fun c w hc => Try.strings_Repeat ⟨#[63]⟩ c w (by omega) (by show 1 * c ≤ _; omega)
  have CC : Hid (∀ (s : ByteArray) w, Calls Try.prog 63 #[.string s, .string ⟨#[63]⟩] w fun e w' => e = .returned (.int .i64 (Lib.countByte s.data.toList 63 : Nat)) ∧ w' = w) := fun s w => Try.strings_Count_one s 63 w
  have CT : Hid (∀ (s : ByteArray) w, Calls Try.prog 64 #[.string s, .string ⟨#[42]⟩] w fun e w' => e = .returned (.bool (decide (0 ≤ Lib.indexByte s.data.toList 42))) ∧ w' = w) := fun s w => Try.strings_Contains_one s 42 w
  go_enter Try.func38, Try.ntmps38
  go_wp2_with fail
  refine (GlobOk_any _ hp _).mono ?_
  rintro e w1 ⟨rfl, rfl⟩
  rw [hg]
  clear hg
  go_wp2_with fail
  go_loopw [3, 4] (fun v i wr => ∃ (k : Nat) (o : ByteArray), k ≤ p.size ∧ i = .int .i64 k ∧ v = .string o ∧ TidyAt p o false k ∧ Below w.heap.size w wr) (fun _ i _ => p.size - (intOf i).toNat)
  case atStart => exact ⟨0, _, Nat.zero_le _, rfl, rfl, TidyAt.start p, Below.refl _ _⟩
  case round =>
    obtain ⟨k, o, hk, rfl, rfl, hat, hb⟩ := hrel
    have ho := hat.size
    have AT := Lib.hid hat; clear hat
    have HB := Lib.hid hb; clear hb
    by_cases hlt : k < p.size
    · cases hw : wordB ((p[k]'hlt).toNat : Int)
      · have HW := Lib.hid hw
        obtain ⟨wo, hwo⟩ : ∃ wo : World, wo = wr := ⟨_, rfl⟩
        rw [← hwo] at HB ⊢
        clear hwo
        go_wp2_with fail
        refine (wordByte_any _ _).mono ?_
        rintro e w2 ⟨rfl, rfl⟩
        rw [hw]
        clear hw
        go_wp2_with fail
        go_loop [5] (fun i => ∃ e : Nat, k ≤ e ∧ e ≤ p.size ∧ i = .int .i64 e ∧ (∀ j, k ≤ j → j < e → (hj : j < p.size) → wordB ((p[j]'hj).toNat : Int) = false)) (fun i => p.size - (intOf i).toNat)
        case atStart => exact ⟨k, Nat.le_refl _, hk, rfl, fun j h1 h2 => by omega⟩
        case round =>
          obtain ⟨n, hkn, hn, rfl, hall⟩ := hrel
          have AL := Lib.hid hall; clear hall
          by_cases hln : n < p.size
          · cases hwn : wordB ((p[n]'hln).toNat : Int)
            · have N := Lib.hid (show ∀ j, k ≤ j → j < n + 1 → (hj : j < p.size) → wordB ((p[j]'hj).toNat : Int) = false from fun j h1 h2 hj => by
                rcases Nat.lt_or_ge j n with h | h
                · exact AL.out j h1 h hj
                · obtain rfl : j = n := by omega
                  exact hwn)
              go_wp2_with fail
              refine (wordByte_any _ _).mono ?_
              rintro e w2 ⟨rfl, rfl⟩
              rw [hwn]
              clear hwn
              go_wp2_with fail
              go_round
              case rel => exact ⟨n + 1, by omega, by omega, by go_num, N.out⟩
              case measure => simp [intOf]; omega
            · have kn : k < n := by
                rcases Nat.lt_or_ge k n with h | h
                · exact h
                · obtain rfl : n = k := by omega
                  rw [HW.out] at hwn; cases hwn
              have NX := Lib.hid (AT.out.run hkn hn (fun j h1 hj => GB.out j (by omega) (AL.out j h1 hj (by omega))) (fun hj => word_mark hwn))
              go_wp2_with fail
              refine (wordByte_any _ _).mono ?_
              rintro e w2 ⟨rfl, rfl⟩
              rw [hwn]
              clear hwn
              go_wp2_with fail
              refine (CC.out _ _).mono ?_
              rintro e w2 ⟨rfl, rfl⟩
              have LC := Lib.hid (show Lib.countByte (p.extract k n).data.toList 63 ≤ 12 from Nat.le_trans List.count_le_length (by rw [list_ext]; simp; omega))
              obtain ⟨c, hc⟩ : ∃ c, c = Lib.countByte (p.extract k n).data.toList 63 := ⟨_, rfl⟩
              rw [← hc] at LC NX ⊢
              clear hc
              go_wp2_with fail
              refine (CR.out c _ (by have := LC.out; omega)).mono ?_
              rintro e w3 ⟨rfl, hb⟩
              have B3 := Lib.hid (HB.out.trans (hb.mono HB.out.size)); clear hb
              obtain ⟨x, hx⟩ : ∃ x : ByteArray, x = ⟨(Lib.repeatL [63] c).toArray⟩ := ⟨_, rfl⟩
              have hxs : x.size ≤ 12 := by
                have h1 := Lib.repeatL_length [63] c
                have h2 := LC.out
                rw [hx]
                show ((Lib.repeatL [63] c).toArray).size ≤ 12
                simp at h1 ⊢; omega
              rw [← hx] at NX ⊢
              clear hx
              have z1 : o.size + x.size ≤ 9223372036854775807 := by omega
              have z2 : (o ++ x).size + (⟨#[42]⟩ : ByteArray).size ≤ 9223372036854775807 := by rw [ByteArray.size_append]; show o.size + x.size + 1 ≤ _; omega
              go_wp2_with fail
              refine (CT.out _ _).mono ?_
              rintro e w4 ⟨rfl, rfl⟩
              cases ht : decide (0 ≤ Lib.indexByte (p.extract k n).data.toList 42)
              · have N2 := Lib.hid (show TidyAt p (o ++ x) false n by have := NX.out; rw [ht] at this; simpa using this)
                clear ht
                go_wp2_with fail
                go_roundw
                case rel => exact ⟨n, _, hn, rfl, rfl, N2.out, B3.out⟩
                case measure => simp [intOf]; omega
              · have N2 := Lib.hid (show TidyAt p (o ++ x ++ ⟨#[42]⟩) false n by have := NX.out; rw [ht] at this; simpa using this)
                clear ht
                go_wp2_with fail
                go_roundw
                case rel => exact ⟨n, _, hn, rfl, rfl, N2.out, B3.out⟩
                case measure => simp [intOf]; omega
          · have kn : k < n := by omega
            have NX := Lib.hid (AT.out.run hkn hn (fun j h1 hj => GB.out j (by omega) (AL.out j h1 hj (by omega))) (fun hj => absurd hj hln))
            go_wp2_with fail
            refine (CC.out _ _).mono ?_
            rintro e w2 ⟨rfl, rfl⟩
            have LC := Lib.hid (show Lib.countByte (p.extract k n).data.toList 63 ≤ 12 from Nat.le_trans List.count_le_length (by rw [list_ext]; simp; omega))
            obtain ⟨c, hc⟩ : ∃ c, c = Lib.countByte (p.extract k n).data.toList 63 := ⟨_, rfl⟩
            rw [← hc] at LC NX ⊢
            clear hc
            go_wp2_with fail
            refine (CR.out c _ (by have := LC.out; omega)).mono ?_
            rintro e w3 ⟨rfl, hb⟩
            have B3 := Lib.hid (HB.out.trans (hb.mono HB.out.size)); clear hb
            obtain ⟨x, hx⟩ : ∃ x : ByteArray, x = ⟨(Lib.repeatL [63] c).toArray⟩ := ⟨_, rfl⟩
            have hxs : x.size ≤ 12 := by
              have h1 := Lib.repeatL_length [63] c
              have h2 := LC.out
              rw [hx]
              show ((Lib.repeatL [63] c).toArray).size ≤ 12
              simp at h1 ⊢; omega
            rw [← hx] at NX ⊢
            clear hx
            have z1 : o.size + x.size ≤ 9223372036854775807 := by omega
            have z2 : (o ++ x).size + (⟨#[42]⟩ : ByteArray).size ≤ 9223372036854775807 := by rw [ByteArray.size_append]; show o.size + x.size + 1 ≤ _; omega
            go_wp2_with fail
            refine (CT.out _ _).mono ?_
            rintro e w4 ⟨rfl, rfl⟩
            cases ht : decide (0 ≤ Lib.indexByte (p.extract k n).data.toList 42)
            · have N2 := Lib.hid (show TidyAt p (o ++ x) false n by have := NX.out; rw [ht] at this; simpa using this)
              clear ht
              go_wp2_with fail
              go_roundw
              case rel => exact ⟨n, _, hn, rfl, rfl, N2.out, B3.out⟩
              case measure => simp [intOf]; omega
            · have N2 := Lib.hid (show TidyAt p (o ++ x ++ ⟨#[42]⟩) false n by have := NX.out; rw [ht] at this; simpa using this)
              clear ht
              go_wp2_with fail
              go_roundw
              case rel => exact ⟨n, _, hn, rfl, rfl, N2.out, B3.out⟩
              case measure => simp [intOf]; omega
      · obtain ⟨m1, m2⟩ := word_mark hw
        have N := Lib.hid (show TidyAt p (o ++ p.extract k (k + 1)) false (k + 1) from AT.out.else hlt m1 m2)
        clear m1 m2
        have z3 : (k : Int) + 1 ≤ (p.size : Int) := by omega
        have hx : (p.extract k (k + 1)).size = 1 := by rw [ByteArray.size_extract]; omega
        have z1 : o.size + (p.extract k (k + 1)).size ≤ 9223372036854775807 := by rw [hx]; omega
        clear hx
        go_wp2_with fail
        refine (wordByte_any _ _).mono ?_
        rintro e w2 ⟨rfl, rfl⟩
        rw [hw]
        go_wp2_with fail
        go_roundw
        case rel => exact ⟨k + 1, _, by omega, by go_num, rfl, N.out, HB.out⟩
        case measure => simp [intOf]; omega
    · have E := Lib.hid (AT.out.stop (by omega))
      have F := Lib.hid (show o = globTidy p by rw [R.out]; exact tidy_done (by have := E.out; simpa using this))
      go_wp2_with fail
      go_ret
      exact ⟨ret_str F.out, HB.out⟩
end Go.Proofs.Ytoljjhhomklcbaa
