/- The walks of how far two words are. Conditions: words of at most twelve bytes, or the strings fit the model's sizes. -/
import Derived.Test.YtoljjhhomklcbaaStrs
import Derived.Test.YtoljjhhomklcbaaWord
import Derived.StillTailTactics
import Derived.Deep.RegionWith
namespace Go.Proofs.Ytoljjhhomklcbaa
open Go.RowKit

/-- A row of distances out of the row ahead. -/
def levNext (ai : Int) (b : Nat → Int) (p : Nat → Nat) (i : Nat) : Nat → Nat
  | 0 => i + 1
  | j + 1 => min (p j + (if ai = b j then 0 else 1)) (min (p (j + 1) + 1) (levNext ai b p i j + 1))
/-- How far the first i bytes of a are from the first j of b. -/
def lev (a b : Nat → Int) : Nat → Nat → Nat
  | 0 => fun j => j
  | i + 1 => levNext (a i) b (lev a b i) i
theorem lev_zero (a b : Nat → Int) (i : Nat) : lev a b i 0 = i := by cases i <;> rfl
theorem lev_le (a b : Nat → Int) : ∀ i j, lev a b i j ≤ i + j := by
  intro i
  induction i with
  | zero => intro j; simp [lev]
  | succ i ih =>
    intro j
    induction j with
    | zero => simp [lev, levNext]
    | succ j ihj =>
      show levNext _ _ _ _ (j + 1) ≤ _
      have h : levNext (a i) b (lev a b i) i j ≤ i + 1 + j := ihj
      simp only [levNext]
      omega
/-- The bytes of a string as numbers. -/
def byI (s : ByteArray) (k : Nat) : Int := PlainAid.bt s k
theorem byI_get (s : ByteArray) (k : Nat) (h : k < s.size) : ((s[k]'h).toNat : Int) = byI s k := PlainAid.get_bt s k h
def levI (a b : ByteArray) (i j : Nat) : Int := (lev (byI a) (byI b) i j : Int)
theorem levI_bd (a b : ByteArray) (i j : Nat) : 0 ≤ levI a b i j ∧ levI a b i j ≤ (i : Int) + j := by
  have := lev_le (byI a) (byI b) i j; unfold levI; omega
theorem levI_row (a b : ByteArray) (i : Nat) : levI a b i 0 = i := by rw [levI, lev_zero]
theorem levI_zero (a b : ByteArray) (j : Nat) : levI a b 0 j = j := rfl
theorem levI_eq (a b : ByteArray) (i j : Nat) (h : byI a i = byI b j) : levI a b (i + 1) (j + 1) = min (levI a b i j) (min (levI a b i (j + 1) + 1) (levI a b (i + 1) j + 1)) := by
  have e : lev (byI a) (byI b) (i + 1) (j + 1) = min (lev (byI a) (byI b) i j + 0) (min (lev (byI a) (byI b) i (j + 1) + 1) (lev (byI a) (byI b) (i + 1) j + 1)) := by
    show levNext _ _ _ _ (j + 1) = _
    rw [levNext, if_pos h]; rfl
  unfold levI; rw [e]; omega
theorem levI_ne (a b : ByteArray) (i j : Nat) (h : byI a i ≠ byI b j) : levI a b (i + 1) (j + 1) = min (levI a b i j + 1) (min (levI a b i (j + 1) + 1) (levI a b (i + 1) j + 1)) := by
  have e : lev (byI a) (byI b) (i + 1) (j + 1) = min (lev (byI a) (byI b) i j + 1) (min (lev (byI a) (byI b) i (j + 1) + 1) (lev (byI a) (byI b) (i + 1) j + 1)) := by
    show levNext _ _ _ _ (j + 1) = _
    rw [levNext, if_neg h]; rfl
  unfold levI; rw [e]; omega
/-- How far a is from b; -1 if one is no word. -/
def farI (a b : ByteArray) : Int := levI a b a.size b.size
def nearFar (a b : ByteArray) : Int := if wordOk a && wordOk b then farI a b else -1
theorem info_int : (Try.prog.info? 3).map (fun i => (i.zero, i.size, i.bytes)) = some (some (.int .i64 0), 1, 8) := by kernel_rfl
theorem wordOk_size {s : ByteArray} (h : wordOk s = true) : 1 ≤ s.size ∧ s.size ≤ 12 := by
  simp only [wordOk, Bool.and_eq_true, decide_eq_true_eq] at h; exact h.2
def rowF (a b : ByteArray) (i : Nat) (j : Nat) : Value := .int .i64 (levI a b i j)

set_option maxRecDepth 20000 in
set_option maxHeartbeats 2000000 in
theorem NearFar_any (a b : ByteArray) (ha : a.size ≤ maxLen) (hb : b.size ≤ maxLen) (w : World) :
    Calls Try.prog 36 #[.string a, .string b] w fun e w' => e = .returned (.int .i64 (nearFar a b)) ∧ Below w.heap.size w w' := by
  cases h1 : wordOk a
  · go_enter Try.func36, Try.ntmps36
    go_wp2_with (go_at_call 16; refine (WordOk_any _ ha _).mono ?_; rintro e w' ⟨rfl, rfl⟩)
    go_ret
    exact ⟨ret_int (by simp [nearFar, h1]), Below.refl _ _⟩
  · cases h2 : wordOk b
    · go_enter Try.func36, Try.ntmps36
      go_wp2_with fail
      refine (WordOk_any _ ha _).mono ?_
      rintro e w' ⟨rfl, rfl⟩
      go_wp2_with fail
      refine (WordOk_any _ hb _).mono ?_
      rintro e w' ⟨rfl, rfl⟩
      go_wp2_with fail
      go_ret
      exact ⟨ret_int (by simp [nearFar, h1, h2]), Below.refl _ _⟩
    · have HR := Lib.hid (show nearFar a b = farI a b by simp [nearFar, h1, h2])
      obtain ⟨za1, za2⟩ := wordOk_size h1
      obtain ⟨zb1, zb2⟩ := wordOk_size h2
      obtain ⟨i0, hi, hz0, hz1, hz2⟩ := info_parts info_int
      go_enter Try.func36, Try.ntmps36
      go_wp2_with fail
      refine (WordOk_any _ ha _).mono ?_
      rintro e w' ⟨rfl, rfl⟩
      go_wp2_with fail
      refine (WordOk_any _ hb _).mono ?_
      rintro e w' ⟨rfl, rfl⟩
      go_wp2_with (refine wpList_make_full _ rfl (.tmp 21) (.tmp 21) _ rfl w.heap.size 3 i0 _ 1 Try.underlying28 hi hz0 hz1 .i64 .i64 _ _ (b.size + 1) rfl rfl (by omega) (by omega) (by rw [hz2]; omega) (by unfold maxLen; omega) (Nat.le_refl _) ?_; intro w1 hown hg)
      clear h1 h2
      rw [Nat.mul_one, show (Value.int IntKind.i64 0).cells = #[.int .i64 0] from rfl, made_zero] at hown
      have HB1 := Lib.hid ((Below.refl w.heap.size w).grown hg (Nat.le_refl _) (by simp))
      have HO1 := Lib.hid hown; clear hown hg
      go_loopw [25] (fun i wr => ∃ k : Nat, k ≤ b.size + 1 ∧ i = .int .i64 k ∧ wr.ownsRow w.heap.size 3 1 (.slice (some ⟨w.heap.size, 0, none⟩) (b.size + 1) (b.size + 1)) (b.size + 1) (tab (b.size + 1) (upTo k (rowF a b 0) fun _ => .int .i64 0)) ∧ Below w.heap.size w wr) (fun i _ => b.size + 1 - (intOf i).toNat)
      case atStart => exact ⟨0, Nat.zero_le _, rfl, by rw [tab_upTo_zero]; exact HO1.out, HB1.out⟩
      case round =>
        obtain ⟨k, hk, rfl, hown, hbl⟩ := hrel
        by_cases hlt : k < b.size + 1
        · have hf := hown.frozenAt k
          have hco := hown.cellAt k (by omega)
          rw [tab_get _ _ _ hlt] at hco
          have hst := (hown.stored k (.int .i64 k)).1
          rw [tab_upTo_set (F := rowF a b 0) hlt (by rw [rowF, levI_zero])] at hst
          have HB2 := Lib.hid (hbl.setCell (p := ⟨w.heap.size, k, none⟩) (Nat.le_refl _) (.int .i64 k))
          have HST := Lib.hid hst
          clear hst hown hbl
          go_wp2_with fail
          go_roundw
          case rel => exact ⟨k + 1, by omega, by go_num, HST.out, HB2.out⟩
          case measure => simp [intOf]; omega
        · obtain rfl : k = b.size + 1 := by omega
          rw [tab_upTo_full] at hown
          have HO2 := Lib.hid hown; clear hown
          have HB2 := Lib.hid hbl; clear hbl hlt hk
          go_wp2_with fail
          go_loopw [7] (fun i wr => ∃ k : Nat, k ≤ a.size ∧ i = .int .i64 ((k : Int) + 1) ∧ wr.ownsRow w.heap.size 3 1 (.slice (some ⟨w.heap.size, 0, none⟩) (b.size + 1) (b.size + 1)) (b.size + 1) (tab (b.size + 1) (rowF a b k)) ∧ Below w.heap.size w wr) (fun i _ => a.size + 1 - (intOf i).toNat)
          case atStart => exact ⟨0, Nat.zero_le _, rfl, HO2.out, HB2.out⟩
          case round =>
            clear HO2 HB2 HO1 HB1
            obtain ⟨i, hi1, rfl, hown, hbl⟩ := hrel
            by_cases hlt : i < a.size
            · have hf := hown.frozenAt 0
              have hco := hown.cellAt 0 (by omega)
              rw [tab_get _ _ _ (by omega)] at hco
              have hst := (hown.stored 0 (.int .i64 ((i : Int) + 1))).1
              rw [← tab_upTo_zero (b.size + 1) (rowF a b (i + 1)) (rowF a b i), tab_upTo_set (F := rowF a b (i + 1)) (by omega) (by rw [rowF, levI_row]; simp)] at hst
              rw [rowF, levI_row] at hco
              have HB2 := Lib.hid (hbl.setCell (p := ⟨w.heap.size, 0, none⟩) (Nat.le_refl _) (.int .i64 ((i : Int) + 1)))
              have HST := Lib.hid hst
              clear hst hown hbl
              go_wp2_with fail
              obtain ⟨wo, rfl⟩ : ∃ wo : World, wo = wr := ⟨_, rfl⟩
              clear hf hco
              go_loopw [8, 9] (fun c i2 wx => ∃ j : Nat, j ≤ b.size ∧ i2 = .int .i64 ((j : Int) + 1) ∧ c = .int .i64 (levI a b i j) ∧ wx.ownsRow w.heap.size 3 1 (.slice (some ⟨w.heap.size, 0, none⟩) (b.size + 1) (b.size + 1)) (b.size + 1) (tab (b.size + 1) (upTo (j + 1) (rowF a b (i + 1)) (rowF a b i))) ∧ Below w.heap.size w wx) (fun _ i2 _ => b.size + 1 - (intOf i2).toNat)
              case atStart => exact ⟨0, Nat.zero_le _, rfl, vint (by rw [levI_row]), HST.out, HB2.out⟩
              case round =>
                clear HST HB2
                obtain ⟨j, hj1, rfl, rfl, hown, hbl⟩ := hrel
                by_cases hjt : j < b.size
                · have hf := hown.frozenAt (j + 1)
                  have hco1 := hown.cellAt (j + 1) (by omega)
                  have hco0 := hown.cellAt j (by omega)
                  rw [tab_get _ _ _ (by omega)] at hco1 hco0
                  simp only [upTo, Nat.lt_irrefl, if_false, Nat.lt_succ_self, if_true, rowF] at hco1 hco0
                  obtain ⟨c, hc⟩ : ∃ c, c = levI a b i j := ⟨_, rfl⟩
                  obtain ⟨u, hu⟩ : ∃ u, u = levI a b i (j + 1) := ⟨_, rfl⟩
                  obtain ⟨v, hv⟩ : ∃ v, v = levI a b (i + 1) j := ⟨_, rfl⟩
                  obtain ⟨c0, c1⟩ := levI_bd a b i j
                  obtain ⟨u0, u1⟩ := levI_bd a b i (j + 1)
                  obtain ⟨v0, v1⟩ := levI_bd a b (i + 1) j
                  have S := fun x (n : Nat) h => ((own_drewN hown n).stored (j + 1) (.int .i64 x)).1 |> (tab_upTo_set (N := b.size + 1) (k := j + 1) (F := rowF a b (i + 1)) (G := rowF a b i) (u := .int .i64 x) (by omega) h ▸ ·)
                  have HS := Lib.hid S
                  have HBB := Lib.hid (fun x (n : Nat) => (below_drewN hbl n).setCell (p := ⟨w.heap.size, j + 1, none⟩) (Nat.le_refl _) (.int .i64 x))
                  rw [← hc] at c0 c1 ⊢
                  rw [← hu] at u0 u1 hco1
                  rw [← hv] at v0 v1 hco0
                  have HC := Lib.hid hc; clear hc
                  have HU := Lib.hid hu; clear hu
                  have HV := Lib.hid hv; clear hv
                  clear S hown hbl
                  by_cases heq : ((a[i]'hlt).toNat : Int) = ((b[j]'hjt).toNat : Int)
                  · have b1 := bne_f heq
                    have E := Lib.hid (levI_eq a b i j (by rw [← byI_get a i hlt, ← byI_get b j hjt]; exact heq))
                    clear heq
                    have w1 : IntKind.i64.wrap (i : Int) = (i : Int) := IntWalk.i64_in _ (by omega)
                    have w2 : IntKind.i64.wrap (j : Int) = (j : Int) := IntWalk.i64_in _ (by omega)
                    go_wp2_with fail
                    go_quiet (fail)
                    go_wp2_with fail
                    go_region
                    go_wp2_with fail
                    go_roundw
                    case rel =>
                      refine ⟨j + 1, by omega, by go_num, vint HU.out, ?_, ?_⟩
                      · exact HS.out _ _ (by rw [rowF, E.out, ← HC.out, ← HU.out, ← HV.out]; congr 1; omega)
                      · exact HBB.out _ _
                    case measure => simp [intOf]; omega
                  · have b1 := bne_t heq
                    have E := Lib.hid (levI_ne a b i j (by rw [← byI_get a i hlt, ← byI_get b j hjt]; exact heq))
                    clear heq
                    have w1 : IntKind.i64.wrap (i : Int) = (i : Int) := IntWalk.i64_in _ (by omega)
                    have w2 : IntKind.i64.wrap (j : Int) = (j : Int) := IntWalk.i64_in _ (by omega)
                    go_wp2_with fail
                    go_quiet (fail)
                    go_wp2_with fail
                    go_region
                    go_wp2_with fail
                    go_roundw
                    case rel =>
                      refine ⟨j + 1, by omega, by go_num, vint HU.out, ?_, ?_⟩
                      · exact HS.out _ _ (by rw [rowF, E.out, ← HC.out, ← HU.out, ← HV.out]; congr 1; omega)
                      · exact HBB.out _ _
                    case measure => simp [intOf]; omega
                · obtain rfl : j = b.size := by omega
                  rw [tab_upTo_full] at hown
                  have HO3 := Lib.hid hown; clear hown
                  have HB3 := Lib.hid hbl; clear hbl
                  go_wp2_with fail
                  go_roundw
                  case rel => exact ⟨i + 1, by omega, by go_num, HO3.out, HB3.out⟩
                  case measure => simp [intOf]; omega
            · obtain rfl : i = a.size := by omega
              have hco := hown.cellAt b.size (by omega)
              rw [tab_get _ _ _ (by omega)] at hco
              rw [rowF] at hco
              have HB3 := Lib.hid hbl; clear hbl
              clear hown
              go_wp2_with fail
              go_ret
              exact ⟨ret_int (by rw [HR.out]; rfl), HB3.out⟩
theorem l5Min_any (x y : Int) (w : World) :
    Calls Try.prog 72 #[.int .i64 x, .int .i64 y] w fun e w' => e = .returned (.int .i64 (min x y)) ∧ w = w' := by
  by_cases h : x < y
  · go_enter Try.func72, Try.ntmps72
    go_wp2_with fail
    go_ret
    exact ⟨ret_int (by omega), rfl⟩
  · go_enter Try.func72, Try.ntmps72
    go_wp2_with fail
    go_ret
    exact ⟨ret_int (by omega), rfl⟩
set_option maxRecDepth 20000 in
set_option maxHeartbeats 2000000 in
theorem l5Far_any (a b : ByteArray) (za2 : a.size ≤ 12) (zb2 : b.size ≤ 12) (w : World) :
    Calls Try.prog 61 #[.string a, .string b] w fun e w' => e = .returned (.int .i64 (farI a b)) ∧ Below w.heap.size w w' := by
  obtain ⟨i0, hi, hz0, hz1, hz2⟩ := info_parts info_int
  go_enter Try.func61, Try.ntmps61
  go_wp2_with (refine wpList_make_full _ rfl (.tmp 13) (.tmp 13) _ rfl w.heap.size 3 i0 _ 1 Try.underlying28 hi hz0 hz1 .i64 .i64 _ _ (b.size + 1) rfl rfl (by omega) (by omega) (by rw [hz2]; omega) (by unfold maxLen; omega) (Nat.le_refl _) ?_; intro w1 hown hg)
  rw [Nat.mul_one, show (Value.int IntKind.i64 0).cells = #[.int .i64 0] from rfl, made_zero] at hown
  have HB1 := Lib.hid ((Below.refl w.heap.size w).grown hg (Nat.le_refl _) (by simp))
  have HO1 := Lib.hid hown; clear hown hg
  go_loopw [6] (fun i wr => ∃ k : Nat, k ≤ b.size + 1 ∧ i = .int .i64 k ∧ wr.ownsRow w.heap.size 3 1 (.slice (some ⟨w.heap.size, 0, none⟩) (b.size + 1) (b.size + 1)) (b.size + 1) (tab (b.size + 1) (upTo k (rowF a b 0) fun _ => .int .i64 0)) ∧ Below w.heap.size w wr) (fun i _ => b.size + 1 - (intOf i).toNat)
  case atStart => exact ⟨0, Nat.zero_le _, rfl, by rw [tab_upTo_zero]; exact HO1.out, HB1.out⟩
  case round =>
    obtain ⟨k, hk, rfl, hown, hbl⟩ := hrel
    by_cases hlt : k < b.size + 1
    · have hf := hown.frozenAt k
      have hco := hown.cellAt k (by omega)
      rw [tab_get _ _ _ hlt] at hco
      have hst := (hown.stored k (.int .i64 k)).1
      rw [tab_upTo_set (F := rowF a b 0) hlt (by rw [rowF, levI_zero])] at hst
      have HB2 := Lib.hid (hbl.setCell (p := ⟨w.heap.size, k, none⟩) (Nat.le_refl _) (.int .i64 k))
      have HST := Lib.hid hst
      clear hst hown hbl
      go_wp2_with fail
      go_roundw
      case rel => exact ⟨k + 1, by omega, by go_num, HST.out, HB2.out⟩
      case measure => simp [intOf]; omega
    · obtain rfl : k = b.size + 1 := by omega
      rw [tab_upTo_full] at hown
      have HO2 := Lib.hid hown; clear hown
      have HB2 := Lib.hid hbl; clear hbl hlt hk
      have d1 : decide ((b.size : Int) + 1 ≤ (b.size : Int)) = false := by simp; omega
      rw [show ((b.size + 1 : Nat) : Int) = (b.size : Int) + 1 from by omega]
      go_wp2_with fail
      go_loopw [7] (fun i wr => ∃ k : Nat, k ≤ a.size ∧ i = .int .i64 k ∧ wr.ownsRow w.heap.size 3 1 (.slice (some ⟨w.heap.size, 0, none⟩) (b.size + 1) (b.size + 1)) (b.size + 1) (tab (b.size + 1) (rowF a b k)) ∧ Below w.heap.size w wr) (fun i _ => a.size + 1 - (intOf i).toNat)
      case atStart => exact ⟨0, Nat.zero_le _, rfl, HO2.out, HB2.out⟩
      case round =>
        clear HO2 HB2 HO1 HB1
        obtain ⟨i, hi1, rfl, hown, hbl⟩ := hrel
        by_cases hlt : i < a.size
        · have hf := hown.frozenAt 0
          have hco := hown.cellAt 0 (by omega)
          rw [tab_get _ _ _ (by omega)] at hco
          have hst := (hown.stored 0 (.int .i64 ((i : Int) + 1))).1
          rw [← tab_upTo_zero (b.size + 1) (rowF a b (i + 1)) (rowF a b i), tab_upTo_set (F := rowF a b (i + 1)) (by omega) (by rw [rowF, levI_row]; simp)] at hst
          rw [rowF, levI_row] at hco
          have HB2 := Lib.hid (hbl.setCell (p := ⟨w.heap.size, 0, none⟩) (Nat.le_refl _) (.int .i64 ((i : Int) + 1)))
          have HST := Lib.hid hst
          clear hst hown hbl
          go_wp2_with fail
          obtain ⟨wo, rfl⟩ : ∃ wo : World, wo = wr := ⟨_, rfl⟩
          clear hf hco
          go_loopw [8, 9] (fun c i2 wx => ∃ j : Nat, j ≤ b.size ∧ i2 = .int .i64 (j : Int) ∧ c = .int .i64 (levI a b i j) ∧ wx.ownsRow w.heap.size 3 1 (.slice (some ⟨w.heap.size, 0, none⟩) (b.size + 1) (b.size + 1)) (b.size + 1) (tab (b.size + 1) (upTo (j + 1) (rowF a b (i + 1)) (rowF a b i))) ∧ Below w.heap.size w wx) (fun _ i2 _ => b.size + 1 - (intOf i2).toNat)
          case atStart => exact ⟨0, Nat.zero_le _, rfl, vint (by rw [levI_row]), HST.out, HB2.out⟩
          case round =>
            clear HST HB2
            obtain ⟨j, hj1, rfl, rfl, hown, hbl⟩ := hrel
            by_cases hjt : j < b.size
            · have hf := hown.frozenAt (j + 1)
              have hco1 := hown.cellAt (j + 1) (by omega)
              have hco0 := hown.cellAt j (by omega)
              rw [tab_get _ _ _ (by omega)] at hco1 hco0
              simp only [upTo, Nat.lt_irrefl, if_false, Nat.lt_succ_self, if_true, rowF] at hco1 hco0
              obtain ⟨c, hc⟩ : ∃ c, c = levI a b i j := ⟨_, rfl⟩
              obtain ⟨u, hu⟩ : ∃ u, u = levI a b i (j + 1) := ⟨_, rfl⟩
              obtain ⟨v, hv⟩ : ∃ v, v = levI a b (i + 1) j := ⟨_, rfl⟩
              obtain ⟨c0, c1⟩ := levI_bd a b i j
              obtain ⟨u0, u1⟩ := levI_bd a b i (j + 1)
              obtain ⟨v0, v1⟩ := levI_bd a b (i + 1) j
              have S := fun x (n : Nat) h => ((own_drewN hown n).stored (j + 1) (.int .i64 x)).1 |> (tab_upTo_set (N := b.size + 1) (k := j + 1) (F := rowF a b (i + 1)) (G := rowF a b i) (u := .int .i64 x) (by omega) h ▸ ·)
              have HS := Lib.hid S
              have HBB := Lib.hid (fun x (n : Nat) => (below_drewN hbl n).setCell (p := ⟨w.heap.size, j + 1, none⟩) (Nat.le_refl _) (.int .i64 x))
              rw [← hc] at c0 c1 ⊢
              rw [← hu] at u0 u1 hco1
              rw [← hv] at v0 v1 hco0
              have HC := Lib.hid hc; clear hc
              have HU := Lib.hid hu; clear hu
              have HV := Lib.hid hv; clear hv
              clear S hown hbl
              by_cases heq : ((a[i]'hlt).toNat : Int) = ((b[j]'hjt).toNat : Int)
              · have b1 := bne_f heq
                have E := Lib.hid (levI_eq a b i j (by rw [← byI_get a i hlt, ← byI_get b j hjt]; exact heq))
                clear heq
                go_wp2_with fail
                go_quiet (fail)
                go_wp2_with fail
                have j1 : (j : Int) < (b.size : Int) + 1 := by omega
                have j2 : (j : Int) + 1 < (b.size : Int) + 1 := by omega
                have j3 : IntKind.i64.wrap ((j : Int) + 1) = (j : Int) + 1 := IntWalk.i64_in _ (by omega)
                have j4 : (0 : Int) ≤ (j : Int) + 1 := by omega
                have j5 : ((j : Int) + 1).toNat = j + 1 := by omega
                have j6 : IntKind.i64.wrap (min v u + 1) = min v u + 1 := IntWalk.i64_in _ (by omega)
                refine wp_region_still_tail 17 (by kernel_rfl) (by kernel_rfl) ?_
                show wpStill _ _ (wr.drewN (nq + 1)) (fun a' => wpList _ _ _ _ a' (wr.drewN (nq + 1))) _ _
                simp only [List.take_succ_cons, List.take_zero, List.drop_succ_cons, List.drop_zero]
                repeat still_step
                still_call ((l5Min_any _ _ _).mono fun _ _ h => ⟨h.1, h.2.symm⟩)
                repeat still_step
                still_call ((l5Min_any _ _ _).mono fun _ _ h => ⟨h.1, h.2.symm⟩)
                repeat still_step
                refine wpStill_nil ?_
                go_wp2_with fail
                go_roundw
                case rel =>
                  refine ⟨j + 1, by omega, by go_num, vint HU.out, ?_, ?_⟩
                  · exact HS.out _ _ (by rw [rowF, E.out, ← HC.out, ← HU.out, ← HV.out]; congr 1; omega)
                  · exact HBB.out _ _
                case measure => simp [intOf]; omega
              · have b1 := bne_t heq
                have E := Lib.hid (levI_ne a b i j (by rw [← byI_get a i hlt, ← byI_get b j hjt]; exact heq))
                clear heq
                go_wp2_with fail
                go_quiet (fail)
                go_wp2_with fail
                have j1 : (j : Int) < (b.size : Int) + 1 := by omega
                have j2 : (j : Int) + 1 < (b.size : Int) + 1 := by omega
                have j3 : IntKind.i64.wrap ((j : Int) + 1) = (j : Int) + 1 := IntWalk.i64_in _ (by omega)
                have j4 : (0 : Int) ≤ (j : Int) + 1 := by omega
                have j5 : ((j : Int) + 1).toNat = j + 1 := by omega
                have j6 : IntKind.i64.wrap (min v u + 1) = min v u + 1 := IntWalk.i64_in _ (by omega)
                refine wp_region_still_tail 17 (by kernel_rfl) (by kernel_rfl) ?_
                show wpStill _ _ (wr.drewN (nq + 1)) (fun a' => wpList _ _ _ _ a' (wr.drewN (nq + 1))) _ _
                simp only [List.take_succ_cons, List.take_zero, List.drop_succ_cons, List.drop_zero]
                repeat still_step
                still_call ((l5Min_any _ _ _).mono fun _ _ h => ⟨h.1, h.2.symm⟩)
                repeat still_step
                still_call ((l5Min_any _ _ _).mono fun _ _ h => ⟨h.1, h.2.symm⟩)
                repeat still_step
                refine wpStill_nil ?_
                go_wp2_with fail
                go_roundw
                case rel =>
                  refine ⟨j + 1, by omega, by go_num, vint HU.out, ?_, ?_⟩
                  · exact HS.out _ _ (by rw [rowF, E.out, ← HC.out, ← HU.out, ← HV.out]; congr 1; omega)
                  · exact HBB.out _ _
                case measure => simp [intOf]; omega
            · obtain rfl : j = b.size := by omega
              rw [tab_upTo_full] at hown
              have HO3 := Lib.hid hown; clear hown
              have HB3 := Lib.hid hbl; clear hbl
              go_wp2_with fail
              go_roundw
              case rel => exact ⟨i + 1, by omega, by go_num, HO3.out, HB3.out⟩
              case measure => simp [intOf]; omega
        · obtain rfl : i = a.size := by omega
          have hco := hown.cellAt b.size (by omega)
          rw [tab_get _ _ _ (by omega)] at hco
          rw [rowF] at hco
          have HB3 := Lib.hid hbl; clear hbl
          clear hown
          go_wp2_with fail
          go_ret
          exact ⟨ret_int rfl, HB3.out⟩
end Go.Proofs.Ytoljjhhomklcbaa
