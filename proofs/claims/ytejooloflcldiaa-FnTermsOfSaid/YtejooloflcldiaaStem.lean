/- The walks of a word without its endings. Conditions: the string fits the model's sizes. -/
import Derived.Test.YtejooloflcldiaaStrs
import Derived.Test.YtejooloflcldiaaWord
namespace Go.Proofs.Ytejooloflcldiaa
open Go.RowKit

/-- The endings, the longest first. -/
def endsL : List ByteArray := [⟨#[105, 110, 103]⟩, ⟨#[101, 100]⟩, ⟨#[101, 115]⟩, ⟨#[108, 121]⟩, ⟨#[115]⟩]
/-- A text ends with an ending. -/
def hasSuf (s e : ByteArray) : Bool := decide (e.size ≤ s.size) && ((s.extract (s.size - e.size) s.size).toList == e.toList)
/-- The ending number j can be left out. -/
def canCut (s : ByteArray) (j : Nat) : Bool := hasSuf s (nthS endsL j) && decide (3 + (nthS endsL j).size ≤ s.size)
def cutAt (s : ByteArray) (j : Nat) : ByteArray := s.extract 0 (s.size - (nthS endsL j).size)
def cutFrom (s : ByteArray) : Nat → Nat → ByteArray
  | 0, _ => s
  | n + 1, j => if canCut s j then cutAt s j else cutFrom s n (j + 1)
/-- Without one ending. -/
def onceB (s : ByteArray) : ByteArray := cutFrom s 5 0
def stemN : Nat → ByteArray → ByteArray
  | 0, s => s
  | n + 1, s => stemN n (onceB s)
/-- Without endings. -/
def stemB (s : ByteArray) : ByteArray := stemN s.size s
def stemOf (s : ByteArray) : ByteArray := if wordOk s then stemB s else ByteArray.empty

theorem ends_size (j : Nat) (h : j < 5) : 1 ≤ (nthS endsL j).size ∧ (nthS endsL j).size ≤ 3 := by
  match j, h with
  | 0, _ => decide
  | 1, _ => decide
  | 2, _ => decide
  | 3, _ => decide
  | 4, _ => decide
theorem ends_fit (j : Nat) : (nthS endsL j).size ≤ maxLen := by
  rcases Nat.lt_or_ge j 5 with h | h
  · have := ends_size j h; unfold maxLen; omega
  · rw [nthS, List.getElem?_eq_none (by simpa [endsL] using h)]; simp
theorem cutAt_size (s : ByteArray) (j : Nat) : (cutAt s j).size = s.size - (nthS endsL j).size := by simp [cutAt, ByteArray.size_extract]
theorem cutFrom_eq (s : ByteArray) : ∀ (n j k : Nat), k ≤ n → (∀ i, i < k → canCut s (j + i) = false) → cutFrom s n j = cutFrom s (n - k) (j + k) := by
  intro n j k
  induction k generalizing n j with
  | zero => intro _ _; rfl
  | succ k ih =>
    intro hk h
    obtain ⟨m, rfl⟩ : ∃ m, n = m + 1 := ⟨n - 1, by omega⟩
    have h0 := h 0 (by omega)
    rw [Nat.add_zero] at h0
    rw [cutFrom, h0]
    simp only [Bool.false_eq_true, if_false]
    rw [ih m (j + 1) (by omega) (fun i hi => by have := h (i + 1) (by omega); rwa [show j + (i + 1) = j + 1 + i from by omega] at this)]
    rw [show m + 1 - (k + 1) = m - k from by omega, show j + 1 + k = j + (k + 1) from by omega]
theorem once_at {s : ByteArray} {k : Nat} (hk : k < 5) (h : allN k (fun j => !canCut s j) = true) (hc : canCut s k = true) : onceB s = cutAt s k := by
  rw [allN_iff] at h
  rw [onceB, cutFrom_eq s 5 0 k (by omega) (fun i hi => by simpa using h i hi), show 5 - k = (4 - k) + 1 from by omega, cutFrom, Nat.zero_add, hc, if_pos rfl]
theorem once_none {s : ByteArray} (h : allN 5 (fun j => !canCut s j) = true) : onceB s = s := by
  rw [allN_iff] at h
  rw [onceB, cutFrom_eq s 5 0 5 (by omega) (fun i hi => by simpa using h i hi)]; rfl
theorem canCut_size {s : ByteArray} {k : Nat} (h : canCut s k = true) : 3 + (nthS endsL k).size ≤ s.size := by
  simp only [canCut, Bool.and_eq_true, decide_eq_true_eq] at h; exact h.2
theorem once_or (s : ByteArray) : onceB s = s ∨ (onceB s).size < s.size := by
  by_cases h : allN 5 (fun j => !canCut s j) = true
  · exact .inl (once_none h)
  · right
    have h' : ∃ k, k < 5 ∧ canCut s k = true ∧ allN k (fun j => !canCut s j) = true := by
      apply Classical.byContradiction
      intro hn
      apply h
      have : ∀ m, m ≤ 5 → allN m (fun j => !canCut s j) = true := by
        intro m
        induction m with
        | zero => intro _; rfl
        | succ m ih =>
          intro hm
          refine allN_step (ih (by omega)) ?_
          cases hc : canCut s m
          · rfl
          · exact absurd ⟨m, by omega, hc, ih (by omega)⟩ hn
      exact this 5 (Nat.le_refl _)
    obtain ⟨k, hk, hc, ha⟩ := h'
    have h1 := canCut_size hc
    have h2 := ends_size k hk
    rw [once_at hk ha hc, cutAt_size]
    omega
theorem stemN_fix {s : ByteArray} (h : onceB s = s) : ∀ n, stemN n s = s := by
  intro n; induction n with
  | zero => rfl
  | succ n ih => rw [stemN, h, ih]
theorem stemN_more : ∀ (n : Nat) (s : ByteArray), s.size ≤ n → stemN (n + 1) s = stemN n s := by
  intro n; induction n with
  | zero =>
    intro s hs
    have : onceB s = s := by rcases once_or s with h | h; exact h; omega
    rw [stemN_fix this, stemN_fix this]
  | succ n ih =>
    intro s hs
    rcases once_or s with h | h
    · rw [stemN_fix h, stemN_fix h]
    · rw [stemN, ih _ (by omega)]; rfl
theorem stemN_big (s : ByteArray) : ∀ (n : Nat), s.size ≤ n → stemN n s = stemB s := by
  intro n h
  obtain ⟨d, rfl⟩ : ∃ d, n = s.size + d := ⟨n - s.size, by omega⟩
  clear h
  induction d with
  | zero => rfl
  | succ d ih => rw [← Nat.add_assoc, stemN_more _ _ (by omega), ih]
theorem stemB_once (s : ByteArray) : stemB (onceB s) = stemB s := by
  rcases once_or s with h | h
  · rw [h]
  · have : stemN (s.size + 1) s = stemN s.size (onceB s) := rfl
    rw [stemN_big s _ (by omega), stemN_big (onceB s) _ (by omega)] at this
    exact this.symm
theorem stemB_fix {s : ByteArray} (h : onceB s = s) : stemB s = s := stemN_fix h _

theorem HasSuffix_any (s e : ByteArray) (hs : s.size ≤ maxLen) (he : e.size ≤ maxLen) (w : World) :
    Calls Try.prog 52 #[.string s, .string e] w fun r w' => r = .returned (.bool (hasSuf s e)) ∧ w = w' := by
  have inner : ∀ w, Calls Try.prog 70 #[.string s, .string e] w fun r w' => r = .returned (.bool (hasSuf s e)) ∧ w = w' := by
    intro w
    unfold maxLen at hs he
    by_cases h : e.size ≤ s.size
    · have h1 : ((s.size : Int) - (e.size : Int)).toNat = s.size - e.size := by omega
      go_enter Try.func70, Try.ntmps70
      go_wp2
      go_ret
      exact ⟨ret_bool (by simp [hasSuf, h]), rfl⟩
    · go_enter Try.func70, Try.ntmps70
      go_wp2
      go_ret
      exact ⟨ret_bool (by simp [hasSuf, h]), rfl⟩
  have H := Lib.hid inner; clear inner
  go_enter Try.func52, Try.ntmps52
  go_wp2_with (go_at_call 70; refine (H.out _).mono ?_; rintro e w' ⟨rfl, rfl⟩)
  go_ret
  exact ⟨rfl, rfl⟩
def szV : Value → Nat | .string s => s.size | _ => 0
def flV : Value → Nat | .bool true => 1 | _ => 0
def EndsAt (w : World) (g : Nat) : Prop := ∀ j, j < 5 → w.cell? ⟨g, j, none⟩ = some (.string (nthS endsL j))
theorem ends_made (w : World) : EndsAt (w.alloc (.cells #[.string ⟨#[105, 110, 103]⟩, .string ⟨#[101, 100]⟩, .string ⟨#[101, 115]⟩, .string ⟨#[108, 121]⟩, .string ⟨#[115]⟩] 9)) w.heap.size := by
  intro j hj
  rw [World.cell?_alloc_at _ _ _ _ rfl]
  match j, hj with
  | 0, _ => rfl
  | 1, _ => rfl
  | 2, _ => rfl
  | 3, _ => rfl
  | 4, _ => rfl
set_option maxHeartbeats 1000000 in
theorem StemOf_any (s : ByteArray) (hs : s.size ≤ maxLen) (w : World) :
    Calls Try.prog 25 #[.string s] w fun e w' => e = .returned (.string (stemOf s)) ∧ Below w.heap.size w w' := by
  cases hok : wordOk s
  · go_enter Try.func25, Try.ntmps25
    go_wp2_with (go_at_call 18; refine (WordOk_any _ hs _).mono ?_; rintro e w' ⟨rfl, rfl⟩)
    go_ret
    exact ⟨ret_str (by simp [stemOf, hok]; rfl), Below.refl _ _⟩
  · have hst : stemOf s = stemB s := by simp [stemOf, hok]
    have HST := Lib.hid hst; clear hst
    go_enter Try.func25, Try.ntmps25
    go_wp2_with (go_at_call 18; refine (WordOk_any _ hs _).mono ?_; rintro e w' ⟨rfl, rfl⟩)
    go_loopw [0, 3] (fun v b wr => ∃ (s1 : ByteArray) (ag : Bool), v = .string s1 ∧ b = .bool ag ∧ s1.size ≤ s.size ∧ stemB s1 = stemB s ∧ (ag = false → onceB s1 = s1) ∧ Below w.heap.size w wr) (fun v b _ => 2 * szV v + flV b)
    case atStart => exact ⟨s, true, rfl, rfl, Nat.le_refl _, rfl, (fun h => by cases h), Below.refl _ _⟩
    case round =>
      obtain ⟨s1, ag, rfl, rfl, hle, heq, hag, hb⟩ := hrel
      have HE := Lib.hid heq; clear heq
      have HB := Lib.hid hb; clear hb
      have hs1 : s1.size ≤ maxLen := Nat.le_trans hle hs
      have HM := Lib.hid hs1
      unfold maxLen at hs1
      cases ag
      · have hfix := hag rfl
        have HF := Lib.hid hfix; clear hfix hag
        go_wp2_with fail
        go_ret
        exact ⟨ret_str (by rw [HST.out, ← HE.out, stemB_fix HF.out]), HB.out⟩
      · clear hag
        have em := ends_made wr
        have EM := Lib.hid em; clear em
        have BA := Lib.hid (HB.out.alloc HB.out.size (.cells #[.string ⟨#[105, 110, 103]⟩, .string ⟨#[101, 100]⟩, .string ⟨#[101, 115]⟩, .string ⟨#[108, 121]⟩, .string ⟨#[115]⟩] 9))
        go_wp2_with fail
        obtain ⟨wo, rfl⟩ : ∃ wo : World, wo = wr := ⟨_, rfl⟩
        go_loopw [0, 3, 12] (fun v b i wx => v = .string s1 ∧ b = .bool false ∧ ∃ k : Nat, k ≤ 5 ∧ i = .int .i64 k ∧ allN k (fun j => !canCut s1 j) = true ∧ EndsAt wx wo.heap.size ∧ Below w.heap.size w wx) (fun _ _ i _ => 5 - (intOf i).toNat)
        case atStart => exact ⟨rfl, rfl, 0, Nat.zero_le _, rfl, rfl, EM.out, BA.out⟩
        case round =>
          obtain ⟨rfl, rfl, k, hk, rfl, hall, hen, hb2⟩ := hrel
          have HA := Lib.hid hall; clear hall
          have HB2 := Lib.hid hb2; clear hb2
          by_cases hlt : k < 5
          · have hck := hen k hlt
            have HEN := Lib.hid hen; clear hen
            have hz := ends_size k hlt
            obtain ⟨hz1, hz2⟩ := hz
            have hez := Lib.hid (ends_fit k)
            cases hsf : hasSuf s1 (nthS endsL k)
            · have NX := Lib.hid (allN_step (p := fun j => !canCut s1 j) HA.out (by simp [canCut, hsf]))
              go_wp2_with (go_at_call 52; refine (HasSuffix_any _ _ HM.out hez.out _).mono ?_; rintro e w' ⟨rfl, rfl⟩)
              go_roundw
              case rel => exact ⟨rfl, rfl, k + 1, by omega, by go_num, NX.out, HEN.out, HB2.out⟩
              case measure => simp [intOf]; omega
            · by_cases hl : 3 + (nthS endsL k).size ≤ s1.size
              · have hcc : canCut s1 k = true := by simp [canCut, hsf, hl]
                have ON := Lib.hid (once_at hlt HA.out hcc)
                have CS := Lib.hid (cutAt_size s1 k)
                clear hcc
                go_wp2_with (go_at_call 52; refine (HasSuffix_any _ _ HM.out hez.out _).mono ?_; rintro e w' ⟨rfl, rfl⟩)
                have e1 : s1.extract 0 (s1.size - (nthS endsL k).size) = onceB s1 := ON.out.symm
                go_roundw
                case rel =>
                  refine ⟨onceB s1, true, vstr ?_, rfl, ?_, ?_, (fun h => by cases h), HB2.out⟩
                  · exact e1
                  · rw [ON.out, CS.out]; omega
                  · rw [stemB_once]; exact HE.out
                case measure =>
                  simp only [szV, flV, ByteArray.size_extract]; omega
              · have NX := Lib.hid (allN_step (p := fun j => !canCut s1 j) HA.out (by simp [canCut, hl]))
                go_wp2_with (go_at_call 52; refine (HasSuffix_any _ _ HM.out hez.out _).mono ?_; rintro e w' ⟨rfl, rfl⟩)
                go_roundw
                case rel => exact ⟨rfl, rfl, k + 1, by omega, by go_num, NX.out, HEN.out, HB2.out⟩
                case measure => simp [intOf]; omega
          · obtain rfl : k = 5 := by omega
            have ON := Lib.hid (once_none HA.out)
            go_wp2_with fail
            go_roundw
            case rel => exact ⟨s1, false, rfl, rfl, hle, HE.out, fun _ => ON.out, HB2.out⟩
            case measure => simp only [szV, flV]; omega
theorem l2Ends_any (w : World) :
    Calls Try.prog 75 #[] w fun e w' => ∃ g, e = .returned (.slice (some ⟨g, 0, none⟩) 5 5) ∧ EndsAt w' g ∧ Below w.heap.size w w' := by
  go_enter Try.func75, Try.ntmps75
  go_wp2
  go_ret
  exact ⟨_, rfl, ends_made w, (Below.refl _ _).alloc (Nat.le_refl _) _⟩
set_option maxHeartbeats 1000000 in
theorem l2Once_any (s : ByteArray) (hs : s.size ≤ maxLen) (w : World) :
    Calls Try.prog 71 #[.string s] w fun e w' => e = .returned (.string (onceB s)) ∧ Below w.heap.size w w' := by
  have HM := Lib.hid hs
  unfold maxLen at hs
  go_enter Try.func71, Try.ntmps71
  go_wp2_with fail
  go_loopw [3] (fun i wr => ∃ k : Nat, k ≤ 5 ∧ i = .int .i64 k ∧ allN k (fun j => !canCut s j) = true ∧ Below w.heap.size w wr) (fun i _ => 5 - (intOf i).toNat)
  case atStart => exact ⟨0, Nat.zero_le _, rfl, rfl, Below.refl _ _⟩
  case round =>
    obtain ⟨k, hk, rfl, hall, hb⟩ := hrel
    have HA := Lib.hid hall; clear hall
    have HB := Lib.hid hb; clear hb
    by_cases hlt : k < 5
    · obtain ⟨hz1, hz2⟩ := ends_size k hlt
      go_wp2_with fail
      refine (l2Ends_any _).mono ?_
      rintro e w1 ⟨g1, rfl, hen1, hb1⟩
      have HB1 := Lib.hid (HB.out.trans (hb1.mono HB.out.size)); clear hen1 hb1
      go_wp2_with fail
      refine (l2Ends_any _).mono ?_
      rintro e w2 ⟨g2, rfl, hen2, hb2⟩
      have HB2 := Lib.hid (HB1.out.trans (hb2.mono HB1.out.size)); clear hb2
      have hck := hen2 k hlt
      clear hen2
      by_cases hl : 3 + (nthS endsL k).size ≤ s.size
      · have hE : ((s.size : Int) - ((nthS endsL k).size : Int)).toNat = s.size - (nthS endsL k).size := by omega
        have g1 : (3 : Int) ≤ (s.size : Int) - ((nthS endsL k).size : Int) := by omega
        cases hsf : (s.extract (s.size - (nthS endsL k).size) s.size).toList == (nthS endsL k).toList
        · have NX := Lib.hid (allN_step (p := fun j => !canCut s j) HA.out (by simp only [canCut, hasSuf, hsf]; simp))
          go_wp2_with fail
          go_roundw
          case rel => exact ⟨k + 1, by omega, by go_num, NX.out, HB2.out⟩
          case measure => simp [intOf]; omega
        · have ON := Lib.hid (once_at hlt HA.out (by simp only [canCut, hasSuf, hsf]; simp; omega))
          go_wp2_with fail
          go_ret
          exact ⟨ret_str (by rw [ON.out]; rfl), HB2.out⟩
      · have NX := Lib.hid (allN_step (p := fun j => !canCut s j) HA.out (by simp [canCut, hl]))
        go_wp2_with fail
        go_roundw
        case rel => exact ⟨k + 1, by omega, by go_num, NX.out, HB2.out⟩
        case measure => simp [intOf]; omega
    · obtain rfl : k = 5 := by omega
      have ON := Lib.hid (once_none HA.out)
      go_wp2_with fail
      refine (l2Ends_any _).mono ?_
      rintro e w1 ⟨g1, rfl, hen1, hb1⟩
      have HB1 := Lib.hid (HB.out.trans (hb1.mono HB.out.size)); clear hen1 hb1
      go_wp2_with fail
      go_ret
      exact ⟨ret_str ON.out.symm, HB1.out⟩
theorem l2Stem_any (s : ByteArray) (hs : s.size ≤ maxLen) (w : World) :
    Calls Try.prog 58 #[.string s] w fun e w' => e = .returned (.string (stemB s)) ∧ Below w.heap.size w w' := by
  go_enter Try.func58, Try.ntmps58
  go_wp2_with fail
  go_loopw [0] (fun v wr => ∃ (s1 : ByteArray), v = .string s1 ∧ s1.size ≤ s.size ∧ stemB s1 = stemB s ∧ Below w.heap.size w wr) (fun v _ => szV v)
  case atStart => exact ⟨s, rfl, Nat.le_refl _, rfl, Below.refl _ _⟩
  case round =>
    obtain ⟨s1, rfl, hle, heq, hb⟩ := hrel
    have HE := Lib.hid heq; clear heq
    have HB := Lib.hid hb; clear hb
    have HM := Lib.hid (Nat.le_trans hle hs)
    by_cases ho : onceB s1 = s1
    · have HF := Lib.hid ho
      have b1 : (!((onceB s1).toList == s1.toList)) = false := by rw [ho]; simp
      clear ho
      go_wp2_with fail
      refine (l2Once_any _ HM.out _).mono ?_
      rintro e w1 ⟨rfl, hb1⟩
      have HB1 := Lib.hid (HB.out.trans (hb1.mono HB.out.size)); clear hb1
      go_wp2_with fail
      go_ret
      exact ⟨ret_str (by rw [← HE.out, stemB_fix HF.out]), HB1.out⟩
    · have hor := once_or s1
      have hlt : (onceB s1).size < s1.size := by rcases hor with h | h; exact absurd h ho; exact h
      have b1 : (!((onceB s1).toList == s1.toList)) = true := by
        simp only [Bool.not_eq_true', beq_eq_false_iff_ne, ne_eq, ByteArray.toList_eq]
        intro h
        exact ho (ByteArray.ext (Array.ext' h))
      clear ho hor
      go_wp2_with fail
      refine (l2Once_any _ HM.out _).mono ?_
      rintro e w1 ⟨rfl, hb1⟩
      have HB1 := Lib.hid (HB.out.trans (hb1.mono HB.out.size)); clear hb1
      go_wp2_with fail
      refine (l2Once_any _ HM.out _).mono ?_
      rintro e w2 ⟨rfl, hb2⟩
      have HB2 := Lib.hid (HB1.out.trans (hb2.mono HB1.out.size)); clear hb2
      go_wp2_with fail
      go_roundw
      case rel => exact ⟨_, rfl, by omega, by rw [stemB_once]; exact HE.out, HB2.out⟩
      case measure => simp only [szV]; omega
end Go.Proofs.Ytejooloflcldiaa
