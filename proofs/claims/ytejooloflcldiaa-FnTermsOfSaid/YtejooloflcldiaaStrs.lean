/- The walks of the laws' helpers on slices of strings: how much they hold, their copy, whether two are the same. Conditions: what is read fits the model's sizes. -/
import Derived.Test.YtejooloflcldiaaMem
namespace Go.Proofs.Ytejooloflcldiaa
open Go.RowKit

def szTo (xs : List ByteArray) (k : Nat) : Nat := sumTo (fun j => (nthS xs j).size) k
def szStrs (xs : List ByteArray) (n : Nat) (left : Int) : Int := if left - n - (szTo xs n : Int) < 0 then -1 else left - n - (szTo xs n : Int)
theorem szTo_succ (xs : List ByteArray) (k : Nat) : szTo xs (k + 1) = szTo xs k + (nthS xs k).size := rfl
theorem szTo_le (xs : List ByteArray) {k n : Nat} (h : k ≤ n) : szTo xs k ≤ szTo xs n := sumTo_le _ h
theorem szStrs_neg {xs : List ByteArray} {n k : Nat} {left : Int} (hk : k ≤ n) (h : left - n - (szTo xs k : Int) < 0) : szStrs xs n left = -1 := by
  have := szTo_le xs hk; unfold szStrs; rw [if_pos (by omega)]
theorem szStrs_pos {xs : List ByteArray} {n : Nat} {left : Int} (h : 0 ≤ left - n - (szTo xs n : Int)) : szStrs xs n left = left - n - (szTo xs n : Int) := by
  unfold szStrs; rw [if_neg (by omega)]
theorem szStrs_bound {xs : List ByteArray} {n : Nat} {left : Int} (h : 0 ≤ szStrs xs n left) : szStrs xs n left ≤ left ∧ (n : Int) ≤ left ∧ (szTo xs n : Int) ≤ left := by
  unfold szStrs at *; split at h <;> omega
theorem szStrs_le {xs : List ByteArray} {n : Nat} {left : Int} (h : 0 ≤ left) : szStrs xs n left ≤ left ∧ -1 ≤ szStrs xs n left := by unfold szStrs; split <;> omega

theorem szStringS_any (a : Option Addr) (n cap : Nat) (xs : List ByteArray) (left : Int) (w : World) (hs : Strs w a n xs) (hn : n ≤ maxLen) (h0 : 0 ≤ left) (h1 : left ≤ 1048576) :
    Calls Try.prog 32 #[.slice a n cap, .int .i64 left] w fun e w' => e = .returned (.int .i64 (szStrs xs n left)) ∧ w = w' := by
  have HS := Lib.hid hs; clear hs
  unfold maxLen at hn
  have P0 := Lib.hid (szTo_le xs (Nat.zero_le n))
  by_cases hneg : left - (n : Int) < 0
  · have HR := Lib.hid (szStrs_neg (xs := xs) (Nat.zero_le n) (by show left - n - ((0 : Nat) : Int) < 0; omega))
    go_enter Try.func32, Try.ntmps32
    go_wp2
    go_ret
    exact ⟨ret_int HR.out.symm, rfl⟩
  · go_enter Try.func32, Try.ntmps32
    go_wp2
    go_loop [1, 5] (fun t i => ∃ k : Nat, k ≤ n ∧ i = .int .i64 k ∧ t = .int .i64 (left - n - (szTo xs k : Int)) ∧ 0 ≤ left - n - (szTo xs k : Int)) (fun _ i => n - (intOf i).toNat)
    case atStart => exact ⟨0, Nat.zero_le _, rfl, vint (by show _ = left - n - ((0 : Nat) : Int); omega), by show 0 ≤ left - n - ((0 : Nat) : Int); omega⟩
    case round =>
      obtain ⟨k, hk, rfl, rfl, hge⟩ := hrel
      by_cases hlt : k < n
      · obtain ⟨b, off, rfl, hc⟩ := HS.out.rd.pos hlt
        have hck := hc k hlt
        have hz := HS.out.fit k
        unfold maxLen at hz
        have HC := Lib.hid hc; clear hc
        have S := Lib.hid (szTo_succ xs k)
        by_cases hneg : left - n - (szTo xs k : Int) - ((nthS xs k).size : Int) < 0
        · have HR := Lib.hid (szStrs_neg (xs := xs) (n := n) (left := left) (k := k + 1) hlt (by rw [S.out]; omega))
          go_wp2
          go_ret
          exact ⟨ret_int HR.out.symm, rfl⟩
        · go_wp2
          go_round
          case rel => exact ⟨k + 1, by omega, by go_num, vint (by rw [S.out]; omega), by rw [S.out]; omega⟩
          case measure => simp [intOf]; omega
      · obtain rfl : k = n := by omega
        have HR := Lib.hid (szStrs_pos (xs := xs) hge)
        go_wp2
        go_ret
        exact ⟨ret_int HR.out.symm, rfl⟩
theorem info_str : (Try.prog.info? 9).map (fun i => (i.zero, i.size, i.bytes)) = some (some (.string ByteArray.empty), 1, 16) := by kernel_rfl
theorem toStringS_any (a : Option Addr) (n cap : Nat) (xs : List ByteArray) (w : World) (hs : Strs w a n xs) (hn : n ≤ 1048576) :
    Calls Try.prog 35 #[.slice a n cap] w fun e w' => ∃ a' : Option Addr, e = .returned (.slice a' n n) ∧ OwnStrs w' w.heap.size a' n n xs ∧ Below w.heap.size w w' := by
  obtain ⟨i0, hi, hz0, hz1, hz2⟩ := info_parts info_str
  have HS := Lib.hid hs; clear hs
  go_enter Try.func35, Try.ntmps35
  go_wp2_with (first | (refine wpList_make_full _ rfl (.tmp 6) (.tmp 6) _ rfl w.heap.size 9 i0 _ 1 Try.underlying22 hi hz0 hz1 .i64 .i64 _ _ n rfl rfl rfl rfl (by rw [hz2]; omega) (by unfold maxLen; omega) (Nat.le_refl _) ?_; intro w1 hown hg))
  rw [Nat.mul_one, show (Value.string ByteArray.empty).cells = #[.string ByteArray.empty] from rfl, made_zero] at hown
  have hb1 : Below w.heap.size w w1 := (Below.refl _ _).grown hg (Nat.le_refl _) (by simp)
  have HO := Lib.hid hown; clear hown hg
  have HB := Lib.hid hb1; clear hb1
  go_loopw [4] (fun i wr => ∃ k : Nat, k ≤ n ∧ i = .int .i64 k ∧ wr.ownsRow w.heap.size 9 1 (.slice (some ⟨w.heap.size, 0, none⟩) n n) n (tab n (upTo k (fun j => .string (nthS xs j)) fun _ => .string ByteArray.empty)) ∧ Below w.heap.size w wr) (fun i _ => n - (intOf i).toNat)
  case atStart => exact ⟨0, Nat.zero_le _, rfl, by rw [tab_upTo_zero]; exact HO.out, HB.out⟩
  case round =>
    obtain ⟨k, hk, rfl, hown, hb⟩ := hrel
    by_cases hlt : k < n
    · obtain ⟨b, off, rfl, hc⟩ := (HS.out.below hb).rd.pos hlt
      have hck := hc k hlt
      have hf := hown.frozenAt k
      have hco := hown.cellAt k (by omega)
      rw [tab_get _ _ _ hlt] at hco
      have hst := (hown.stored k (.string (nthS xs k))).1
      rw [tab_upTo_set hlt rfl] at hst
      have HB2 := Lib.hid (hb.setCell (p := ⟨w.heap.size, k, none⟩) (Nat.le_refl _) (.string (nthS xs k)))
      have HST := Lib.hid hst
      clear hst hown hb hc
      go_wp2
      go_roundw
      case rel => exact ⟨k + 1, by omega, by go_num, HST.out, HB2.out⟩
      case measure => simp [intOf]; omega
    · obtain rfl : k = n := by omega
      have HO2 := Lib.hid hown; clear hown
      have HB2 := Lib.hid hb; clear hb
      go_wp2
      go_ret
      exact ⟨_, rfl, ⟨HS.out.len, HS.out.fit, by have := HO2.out; rwa [tab_upTo_full] at this⟩, HB2.out⟩
def eqStrs (n m : Nat) (xs ys : List ByteArray) : Bool := decide (n = m) && allN n fun j => (nthS xs j).toList == (nthS ys j).toList
theorem eqStrs_refl (n : Nat) (xs : List ByteArray) : eqStrs n n xs xs = true := by
  rw [eqStrs, Bool.and_eq_true, allN_iff]; exact ⟨by simp, fun j _ => by simp⟩
theorem eqStringS_any (a : Option Addr) (n c : Nat) (xs : List ByteArray) (b : Option Addr) (m d : Nat) (ys : List ByteArray) (w : World) (hx : Strs w a n xs) (hy : Strs w b m ys) (hn : n ≤ maxLen) (hm : m ≤ maxLen) :
    Calls Try.prog 40 #[.slice a n c, .slice b m d] w fun e w' => e = .returned (.bool (eqStrs n m xs ys)) ∧ Drw w w' := by
  have HX := Lib.hid hx; clear hx
  have HY := Lib.hid hy; clear hy
  unfold maxLen at hn hm
  by_cases hnm : n = m
  · subst hnm
    go_enter Try.func40, Try.ntmps40
    go_wp2
    go_loopw [5] (fun i wr => ∃ k : Nat, k ≤ n ∧ i = .int .i64 k ∧ allN k (fun j => (nthS xs j).toList == (nthS ys j).toList) = true ∧ Drw w wr) (fun i _ => n - (intOf i).toNat)
    case atStart => exact ⟨0, Nat.zero_le _, rfl, rfl, Drw.refl _⟩
    case round =>
      obtain ⟨k, hk, rfl, hall, q, rfl⟩ := hrel
      have HA := Lib.hid hall; clear hall
      by_cases hlt : k < n
      · obtain ⟨b1, off1, rfl, hc1⟩ := HX.out.rd.pos hlt
        have hck1 := hc1 k hlt
        obtain ⟨b2, off2, rfl, hc2⟩ := HY.out.rd.pos hlt
        have hck2 := hc2 k hlt
        clear hc1 hc2
        cases hq : (nthS xs k).toList == (nthS ys k).toList
        · have HF := Lib.hid (allN_fail (p := fun j => (nthS xs j).toList == (nthS ys j).toList) hlt hq)
          go_wp2_with fail
          go_quiet (fail)
          go_wp2_with fail
          go_ret
          exact ⟨ret_bool (by rw [eqStrs, HF.out]; simp), (by first | exact Drw.refl _ | exact Drw.mk _ _ | exact (Drw.mk _ _).trans (Drw.mk _ _) | exact ((Drw.mk _ _).trans (Drw.mk _ _)).trans (Drw.mk _ _))⟩
        · have HF := Lib.hid (allN_step (p := fun j => (nthS xs j).toList == (nthS ys j).toList) HA.out hq)
          go_wp2_with fail
          go_quiet (fail)
          go_wp2_with fail
          go_roundw
          case rel => exact ⟨k + 1, by omega, by go_num, HF.out, (by first | exact Drw.refl _ | exact Drw.mk _ _ | exact (Drw.mk _ _).trans (Drw.mk _ _) | exact ((Drw.mk _ _).trans (Drw.mk _ _)).trans (Drw.mk _ _))⟩
          case measure => simp [intOf]; omega
      · obtain rfl : k = n := by omega
        go_wp2
        go_ret
        exact ⟨ret_bool (by rw [eqStrs, HA.out]; simp), (by first | exact Drw.refl _ | exact Drw.mk _ _ | exact (Drw.mk _ _).trans (Drw.mk _ _) | exact ((Drw.mk _ _).trans (Drw.mk _ _)).trans (Drw.mk _ _))⟩
  · have b1 : ((n : Int) != (m : Int)) = true := bne_t (by omega)
    have HN := Lib.hid hnm; clear hnm
    go_enter Try.func40, Try.ntmps40
    go_wp2
    go_ret
    exact ⟨ret_bool (by simp [eqStrs, HN.out]), Drw.refl _⟩
end Go.Proofs.Ytejooloflcldiaa
