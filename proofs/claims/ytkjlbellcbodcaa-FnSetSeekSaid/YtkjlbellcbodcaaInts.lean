/- The walks of the laws' helpers on slices of numbers: their copy, whether two are the same, marks. Conditions: what is read fits the model's sizes. -/
import Derived.Test.YtkjlbellcbodcaaMem
namespace Go.Proofs.Ytkjlbellcbodcaa
open Go.RowKit

/-- A slice of numbers that the call itself made. -/
structure OwnInts (w : World) (B : Nat) (a : Option Addr) (n cap : Nat) (xs : List Int) : Prop where
  len : xs.length = n
  fit : ∀ j, (Lit.int .i64 (nthI xs j)).wf = true
  own : w.ownsRow B 3 1 (.slice a n cap) n (tab n fun j => .int .i64 (nthI xs j))
theorem OwnInts.ints {w : World} {B : Nat} {a : Option Addr} {n cap : Nat} {xs : List Int} (h : OwnInts w B a n cap xs) : Ints w .i64 a n xs := ⟨h.len, h.fit, Rd.of_own1 h.own⟩
theorem OwnInts.below {w w' : World} {B : Nat} {a : Option Addr} {n cap : Nat} {xs : List Int} (h : OwnInts w B a n cap xs) (hb : Below w.heap.size w w') : OwnInts w' B a n cap xs := ⟨h.len, h.fit, own_below h.own hb (Nat.le_refl _)⟩
theorem OwnInts.base {w : World} {B B' : Nat} {a : Option Addr} {n cap : Nat} {xs : List Int} (h : OwnInts w B a n cap xs) (hB : B' ≤ B) : OwnInts w B' a n cap xs := ⟨h.len, h.fit, own_base h.own hB⟩
theorem OwnInts.kept {w w' : World} {B : Nat} {a : Option Addr} {n cap : Nat} {xs : List Int} {row : Option Nat} (h : OwnInts w B a n cap xs) (hg : w.grownBy w' row) (hne : (Value.slice a n cap).ownBlock = none ∨ (Value.slice a n cap).ownBlock ≠ row) : OwnInts w' B a n cap xs := ⟨h.len, h.fit, h.own.kept hg hne⟩
theorem Ints.below {w w' : World} {k : IntKind} {a : Option Addr} {n : Nat} {xs : List Int} (h : Ints w k a n xs) (hb : Below w.heap.size w w') : Ints w' k a n xs := ⟨h.len, h.fit, h.rd.below hb⟩
theorem Ints.drewN {w : World} {k : IntKind} {a : Option Addr} {n : Nat} {xs : List Int} (h : Ints w k a n xs) (q : Nat) : Ints (w.drewN q) k a n xs := ⟨h.len, h.fit, h.rd⟩
theorem info_int : (Try.prog.info? 3).map (fun i => (i.zero, i.size, i.bytes)) = some (some (.int .i64 0), 1, 8) := by kernel_rfl
theorem toIntS_any (a : Option Addr) (n cap : Nat) (xs : List Int) (w : World) (hs : Ints w .i64 a n xs) (hn : n ≤ 1048576) :
    Calls Try.prog 18 #[.slice a n cap] w fun e w' => ∃ a' : Option Addr, e = .returned (.slice a' n n) ∧ OwnInts w' w.heap.size a' n n xs ∧ Below w.heap.size w w' := by
  obtain ⟨i0, hi, hz0, hz1, hz2⟩ := info_parts info_int
  have HS := Lib.hid hs; clear hs
  go_enter Try.func18, Try.ntmps18
  go_wp2_with (first | (refine wpList_make_full _ rfl (.tmp 6) (.tmp 6) _ rfl w.heap.size 3 i0 _ 1 Try.underlying24 hi hz0 hz1 .i64 .i64 _ _ n rfl rfl rfl rfl (by rw [hz2]; omega) (by unfold maxLen; omega) (Nat.le_refl _) ?_; intro w1 hown hg))
  rw [Nat.mul_one, show (Value.int .i64 0).cells = #[.int .i64 0] from rfl, made_zero] at hown
  have hb1 : Below w.heap.size w w1 := (Below.refl _ _).grown hg (Nat.le_refl _) (by simp)
  have HO := Lib.hid hown; clear hown hg
  have HB := Lib.hid hb1; clear hb1
  go_loopw [4] (fun i wr => ∃ k : Nat, k ≤ n ∧ i = .int .i64 k ∧ wr.ownsRow w.heap.size 3 1 (.slice (some ⟨w.heap.size, 0, none⟩) n n) n (tab n (upTo k (fun j => .int .i64 (nthI xs j)) fun _ => .int .i64 0)) ∧ Below w.heap.size w wr) (fun i _ => n - (intOf i).toNat)
  case atStart => exact ⟨0, Nat.zero_le _, rfl, by rw [tab_upTo_zero]; exact HO.out, HB.out⟩
  case round =>
    obtain ⟨k, hk, rfl, hown, hb⟩ := hrel
    by_cases hlt : k < n
    · obtain ⟨b, off, rfl, hc⟩ := (HS.out.below hb).rd.pos hlt
      have hck := hc k hlt
      have hf := hown.frozenAt k
      have hco := hown.cellAt k (by omega)
      rw [tab_get _ _ _ hlt] at hco
      have hst := (hown.stored k (.int .i64 (nthI xs k))).1
      rw [tab_upTo_set hlt rfl] at hst
      have HB2 := Lib.hid (hb.setCell (p := ⟨w.heap.size, k, none⟩) (Nat.le_refl _) (.int .i64 (nthI xs k)))
      have HST := Lib.hid hst
      clear hst hown hb hc
      go_wp2
      go_roundw
      case rel => exact ⟨k + 1, by omega, by go_num, HST.out, HB2.out⟩
      case measure => simp [intOf]; omega
    · obtain rfl : k = n := by omega
      have HO2 := Lib.hid hown; clear hown
      have HB2 := Lib.hid hb; clear hb
      go_wp2
      go_ret
      exact ⟨_, rfl, ⟨HS.out.len, HS.out.fit, by have := HO2.out; rwa [tab_upTo_full] at this⟩, HB2.out⟩
def eqInts (n m : Nat) (xs ys : List Int) : Bool := decide (n = m) && allN n fun j => nthI xs j == nthI ys j
theorem eqInts_refl (n : Nat) (xs : List Int) : eqInts n n xs xs = true := by
  rw [eqInts, Bool.and_eq_true, allN_iff]; exact ⟨by simp, fun j _ => by simp⟩
theorem eqIntS_any (a : Option Addr) (n c : Nat) (xs : List Int) (b : Option Addr) (m d : Nat) (ys : List Int) (w : World) (hx : Ints w .i64 a n xs) (hy : Ints w .i64 b m ys) (hn : n ≤ maxLen) (hm : m ≤ maxLen) :
    Calls Try.prog 20 #[.slice a n c, .slice b m d] w fun e w' => e = .returned (.bool (eqInts n m xs ys)) ∧ Drw w w' := by
  have HX := Lib.hid hx; clear hx
  have HY := Lib.hid hy; clear hy
  unfold maxLen at hn hm
  by_cases hnm : n = m
  · subst hnm
    go_enter Try.func20, Try.ntmps20
    go_wp2
    go_loopw [5] (fun i wr => ∃ k : Nat, k ≤ n ∧ i = .int .i64 k ∧ allN k (fun j => nthI xs j == nthI ys j) = true ∧ Drw w wr) (fun i _ => n - (intOf i).toNat)
    case atStart => exact ⟨0, Nat.zero_le _, rfl, rfl, Drw.refl _⟩
    case round =>
      obtain ⟨k, hk, rfl, hall, q, rfl⟩ := hrel
      have HA := Lib.hid hall; clear hall
      by_cases hlt : k < n
      · obtain ⟨b1, off1, rfl, hc1⟩ := HX.out.rd.pos hlt
        have hck1 := hc1 k hlt
        obtain ⟨b2, off2, rfl, hc2⟩ := HY.out.rd.pos hlt
        have hck2 := hc2 k hlt
        clear hc1 hc2
        cases hq : nthI xs k == nthI ys k
        · have HF := Lib.hid (allN_fail (p := fun j => nthI xs j == nthI ys j) hlt hq)
          go_wp2_with fail
          go_quiet (fail)
          go_wp2_with fail
          go_ret
          exact ⟨ret_bool (by rw [eqInts, HF.out]; simp), (by first | exact Drw.refl _ | exact Drw.mk _ _ | exact (Drw.mk _ _).trans (Drw.mk _ _) | exact ((Drw.mk _ _).trans (Drw.mk _ _)).trans (Drw.mk _ _))⟩
        · have HF := Lib.hid (allN_step (p := fun j => nthI xs j == nthI ys j) HA.out hq)
          go_wp2_with fail
          go_quiet (fail)
          go_wp2_with fail
          go_roundw
          case rel => exact ⟨k + 1, by omega, by go_num, HF.out, (by first | exact Drw.refl _ | exact Drw.mk _ _ | exact (Drw.mk _ _).trans (Drw.mk _ _) | exact ((Drw.mk _ _).trans (Drw.mk _ _)).trans (Drw.mk _ _))⟩
          case measure => simp [intOf]; omega
      · obtain rfl : k = n := by omega
        go_wp2
        go_ret
        exact ⟨ret_bool (by rw [eqInts, HA.out]; simp), (by first | exact Drw.refl _ | exact Drw.mk _ _ | exact (Drw.mk _ _).trans (Drw.mk _ _) | exact ((Drw.mk _ _).trans (Drw.mk _ _)).trans (Drw.mk _ _))⟩
  · have b1 : ((n : Int) != (m : Int)) = true := bne_t (by omega)
    have HN := Lib.hid hnm; clear hnm
    go_enter Try.func20, Try.ntmps20
    go_wp2
    go_ret
    exact ⟨ret_bool (by simp [eqInts, HN.out]), Drw.refl _⟩
def marksI (k : Nat) (j : Nat) : Value := .int .i64 ((k + j : Nat) : Int)
theorem markIntS_any (a : Option Addr) (n cap : Nat) (k : Nat) (B : Nat) (F : Nat → Value) (w : World) (ho : w.ownsRow B 3 1 (.slice a n cap) n (tab n F)) (h0 : 0 < k) (h1 : k + n ≤ 1152921504606846976) :
    Calls Try.prog 31 #[.slice a n cap, .int .i64 k] w fun e w' => e = .returned (.int .i64 ((k : Int) + (n : Int))) ∧ w'.ownsRow B 3 1 (.slice a n cap) n (tab n (marksI k)) ∧ w.grownBy w' (Value.slice a n cap).ownBlock := by
  have HO := Lib.hid ho; clear ho
  go_enter Try.func31, Try.ntmps31
  go_wp2_with fail
  go_loopw [1, 5] (fun v i wr => ∃ m : Nat, m ≤ n ∧ i = .int .i64 m ∧ v = .int .i64 ((k + m : Nat) : Int) ∧ wr.ownsRow B 3 1 (.slice a n cap) n (tab n (upTo m (marksI k) F)) ∧ w.grownBy wr (Value.slice a n cap).ownBlock) (fun _ i _ => n - (intOf i).toNat)
  case atStart => exact ⟨0, Nat.zero_le _, rfl, rfl, by rw [tab_upTo_zero]; exact HO.out, World.grownBy.refl _ _⟩
  case round =>
    obtain ⟨m, hm, rfl, rfl, hown, hgr⟩ := hrel
    by_cases hlt : m < n
    · obtain ⟨g, rfl, hB, hgs⟩ := own_pos hown (by omega)
      have OW := Lib.hid hown; clear hown
      have GR := Lib.hid hgr; clear hgr
      have O1 := OW.out
      have hf := O1.frozenAt m
      have hco := O1.cellAt m (by omega)
      rw [tab_get _ _ _ hlt] at hco
      have hst := (O1.stored m (.int .i64 ((k + m : Nat) : Int)))
      have ST := Lib.hid hst.1
      have G1 := Lib.hid (grownBy_trans GR.out hst.2)
      clear O1 hst
      go_wp2_with fail
      go_roundw
      case rel => exact ⟨m + 1, by omega, by go_num, by go_num, by have := ST.out; rwa [tab_upTo_set (u := .int .i64 ((k + m : Nat) : Int)) (F := marksI k) hlt rfl] at this, G1.out⟩
      case measure => simp [intOf]; omega
    · obtain rfl : m = n := by omega
      have OW := Lib.hid hown; clear hown
      have GR := Lib.hid hgr; clear hgr
      go_wp2_with fail
      go_ret
      exact ⟨ret_int (by omega), by have := OW.out; rwa [tab_upTo_full] at this, GR.out⟩
theorem heldIntS_any (a : Option Addr) (n cap : Nat) (k : Nat) (w : World) (hr : Rd w a n (marksI k)) (h0 : 0 < k) (h1 : k + n ≤ 1152921504606846976) :
    Calls Try.prog 32 #[.slice a n cap, .int .i64 k] w fun e w' => e = .returned (.int .i64 ((k : Int) + (n : Int))) ∧ w = w' := by
  have HR := Lib.hid hr; clear hr
  go_enter Try.func32, Try.ntmps32
  go_wp2_with fail
  go_loop [1, 5] (fun v i => ∃ m : Nat, m ≤ n ∧ i = .int .i64 m ∧ v = .int .i64 ((k + m : Nat) : Int)) (fun _ i => n - (intOf i).toNat)
  case atStart => exact ⟨0, Nat.zero_le _, rfl, rfl⟩
  case round =>
    obtain ⟨m, hm, rfl, rfl⟩ := hrel
    by_cases hlt : m < n
    · obtain ⟨b, off, rfl, hc⟩ := HR.out.pos hlt
      have hck : w.cell? ⟨b, off + m, none⟩ = some (.int .i64 ((k : Int) + (m : Int))) := by rw [hc m hlt, marksI, Int.natCast_add]
      clear hc
      go_wp2_with fail
      go_round
      case rel => exact ⟨m + 1, by omega, by go_num, by go_num⟩
      case measure => simp [intOf]; omega
    · obtain rfl : m = n := by omega
      go_wp2_with fail
      go_ret
      exact ⟨ret_int (by omega), rfl⟩
end Go.Proofs.Ytkjlbellcbodcaa
