/- The walks of what tells whether a document is so. Conditions: what is read fits the model's sizes. -/
import Derived.Test.YtlbopihffpodkaaDoorDocS
import Derived.Test.YtlbopihffpodkaaDoorWordsUp
import Derived.Test.YtlbopihffpodkaaDoorText
import Derived.Test.YtlbopihffpodkaaDoorUp
namespace Go.Proofs.YtlbopihffpodkaaDoor
set_option maxRecDepth 100000
open Go.RowKit
def fdAt (fs : List Fd) (j : Nat) : Bool := wordOk (nthD fs j).name && textOk (nthD fs j).text && (decide (j = 0) || lessS (nthD fs (j - 1)).name (nthD fs j).name)
def adAt (ns : List Ad) (j : Nat) : Bool := wordOk (nthA ns j).name && numOk (nthA ns j).num && (decide (j = 0) || lessS (nthA ns (j - 1)).name (nthA ns j).name)
def idOk (id : Int) : Bool := decide (1 ≤ id ∧ id ≤ 9999)
/-- A document is so. -/
def docOk (id : Int) (n : Nat) (fs : List Fd) (m : Nat) (ns : List Ad) : Bool := idOk id && decide (n ≤ 3) && decide (m ≤ 3) && allN n (fdAt fs) && allN m (adAt ns)
theorem docOk_n {id : Int} {n m : Nat} {fs : List Fd} {ns : List Ad} (h : ¬ n ≤ 3) : docOk id n fs m ns = false := by simp [docOk, h]
theorem docOk_m {id : Int} {n m : Nat} {fs : List Fd} {ns : List Ad} (h : ¬ m ≤ 3) : docOk id n fs m ns = false := by simp [docOk, h]
theorem docOk_i {id : Int} {n m : Nat} {fs : List Fd} {ns : List Ad} (h : idOk id = false) : docOk id n fs m ns = false := by simp [docOk, h]
theorem docOk_f {id : Int} {n m : Nat} {fs : List Fd} {ns : List Ad} {k : Nat} (hk : k < n) (h : fdAt fs k = false) : docOk id n fs m ns = false := by simp [docOk, allN_fail hk h]
theorem docOk_a {id : Int} {n m : Nat} {fs : List Fd} {ns : List Ad} {k : Nat} (hk : k < m) (h : adAt ns k = false) : docOk id n fs m ns = false := by simp [docOk, allN_fail hk h]
theorem docOk_t {id : Int} {n m : Nat} {fs : List Fd} {ns : List Ad} (hi : idOk id = true) (hn : n ≤ 3) (hm : m ≤ 3) (hf : allN n (fdAt fs) = true) (ha : allN m (adAt ns) = true) : docOk id n fs m ns = true := by simp [docOk, hi, hn, hm, hf, ha]
theorem within_id (x : Int) (w : World) : Calls Tryd.prog 26 #[.int .i64 x, .int .i64 1, .int .i64 9999] w fun e w' => e = .returned (.bool (idOk x)) ∧ w = w' :=
  within_any x 1 9999 w
theorem l1In_id (x : Int) (w : World) : Calls Tryd.prog 51 #[.int .i64 x, .int .i64 1, .int .i64 9999] w fun e w' => e = .returned (.bool (idOk x)) ∧ w = w' :=
  l1In_any x 1 9999 w
set_option maxHeartbeats 1000000 in
theorem DocOk_any (id : Int) (a : Option Addr) (n c : Nat) (fs : List Fd) (b : Option Addr) (m d : Nat) (ns : List Ad) (w : World) (hx : Flds w a n fs) (hy : Atts w b m ns) (hn : n ≤ maxLen) (hm : m ≤ maxLen) :
    Calls Tryd.prog 10 #[docV id a n c b m d] w fun e w' => e = .returned (.bool (docOk id n fs m ns)) ∧ Below w.heap.size w w' := by
  have HX := Lib.hid hx; clear hx
  have HY := Lib.hid hy; clear hy
  have HN := Lib.hid hn
  have HM := Lib.hid hm
  unfold maxLen at hn hm
  unfold docV
  cases hi : idOk id
  · go_enter Tryd.func10, Tryd.ntmps10
    go_wp2_with (go_at_call 26; refine (within_id _ _).mono ?_; rintro e w' ⟨rfl, rfl⟩)
    go_ret
    exact ⟨ret_bool (docOk_i hi).symm, (Below.refl _ _).alloc (Nat.le_refl _) _⟩
  · by_cases h3 : n ≤ 3
    · by_cases h4 : m ≤ 3
      · go_enter Tryd.func10, Tryd.ntmps10
        go_wp2_with (go_at_call 26; refine (within_id _ _).mono ?_; rintro e w' ⟨rfl, rfl⟩)
        have BW : Hid (Below w.heap.size w (w.alloc (.cells #[.int .i64 id, .slice a n c, .slice b m d] 26))) := (Below.refl _ _).alloc (Nat.le_refl _) _
        have c1 : Hid ((w.alloc (.cells #[.int .i64 id, .slice a n c, .slice b m d] 26)).cell? ⟨w.heap.size, 1, none⟩ = some (.slice a n c)) := World.cell?_alloc_at _ _ _ _ rfl
        have c2 : Hid ((w.alloc (.cells #[.int .i64 id, .slice a n c, .slice b m d] 26)).cell? ⟨w.heap.size, 2, none⟩ = some (.slice b m d)) := World.cell?_alloc_at _ _ _ _ rfl
        have hsz : Hid (w.heap.size < (w.alloc (.cells #[.int .i64 id, .slice a n c, .slice b m d] 26)).heap.size) := by show _ < _; simp
        have X0 := Lib.hid (HX.out.below BW.out)
        have Y0 := Lib.hid (HY.out.below BW.out)
        generalize w.alloc (.cells #[.int .i64 id, .slice a n c, .slice b m d] 26) = W0 at *
        go_loopw [26] (fun i wr => ∃ k : Nat, k ≤ n ∧ i = .int .i64 k ∧ allN k (fdAt fs) = true ∧ Below W0.heap.size W0 wr) (fun i _ => n - (intOf i).toNat)
        case atStart => exact ⟨0, Nat.zero_le _, rfl, rfl, Below.refl _ _⟩
        case round =>
          obtain ⟨k, hk, rfl, hall, hb⟩ := hrel
          have HA := Lib.hid hall; clear hall
          by_cases hlt : k < n
          · obtain ⟨g, off, rfl, hc⟩ := (X0.out.below hb).pos hlt
            obtain ⟨x0, x1⟩ := hc k hlt
            obtain ⟨f0, f1⟩ := X0.out.fit k
            have xp : 0 < k → wr.cell? ⟨g, off + (k - 1) * 2, none⟩ = some (.string (nthD fs (k - 1)).name) := fun _ => (hc (k - 1) (by omega)).1
            have d1 : wr.cell? ⟨w.heap.size, 1, none⟩ = some (.slice (some ⟨g, off, none⟩) n c) := (hb.cell hsz.out).trans c1.out
            have l1 : w.heap.size < wr.heap.size := Nat.lt_of_lt_of_le hsz.out hb.size
            have l2 : w.heap.size ≠ wr.heap.size := by omega
            have l3 : g < wr.heap.size := World.block_lt_of_cell? wr _ x0
            have l4 : g ≠ wr.heap.size := by omega
            have next : fdAt fs k = true → Hid (allN (k + 1) (fdAt fs) = true) := fun h => allN_step HA.out h
            have stop : fdAt fs k = false → Hid (docOk id n fs m ns = false) := fun h => docOk_f hlt h
            have HB := Lib.hid hb
            have F0 := Lib.hid f0
            have F1 := Lib.hid f1
            clear hc hb f0 f1
            cases hf : wordOk (nthD fs k).name
            · have N := stop (by simp [fdAt, hf]); clear next stop xp
              go_wp2_with fail
              go_quiet (first | (go_at_call 27; exact quiet_l (WordOk_any _ F0.out _)) | (go_at_call 28; exact quiet_l (TextOk_any _ _ F1.out)))
              go_wp2_with fail
              go_ret
              exact ⟨ret_bool N.out.symm, BW.out.trans ((below_drewN (HB.out.alloc HB.out.size _) _).mono BW.out.size)⟩
            · cases ht : textOk (nthD fs k).text
              · have N := stop (by simp [fdAt, hf, ht]); clear next stop xp
                go_wp2_with fail
                go_quiet (first | (go_at_call 27; exact quiet_l (WordOk_any _ F0.out _)) | (go_at_call 28; exact quiet_l (TextOk_any _ _ F1.out)))
                go_wp2_with fail
                go_ret
                exact ⟨ret_bool N.out.symm, BW.out.trans ((below_drewN (HB.out.alloc HB.out.size _) _).mono BW.out.size)⟩
              · by_cases h0 : k = 0
                · subst h0
                  rw [Nat.zero_mul, Nat.add_zero] at x0 x1
                  have N := next (by simp [fdAt, hf, ht]); clear next stop xp
                  go_wp2_with fail
                  go_quiet (first | (go_at_call 27; exact quiet_l (WordOk_any _ F0.out _)) | (go_at_call 28; exact quiet_l (TextOk_any _ _ F1.out)))
                  go_wp2_with fail
                  go_roundw
                  case rel => exact ⟨1, by omega, by go_num, N.out, below_drewN (HB.out.alloc HB.out.size _) _⟩
                  case measure => simp [intOf]; omega
                · have h0' : 0 < k := by omega
                  have xq := xp h0'
                  have wk : IntKind.i64.wrap ((k : Int) - 1) = (k : Int) - 1 := IntWalk.i64_in _ (by omega)
                  have wp : (0 : Int) ≤ (k : Int) - 1 := by omega
                  have wq : ((k : Int) - 1).toNat = k - 1 := by omega
                  have wl : (k : Int) - 1 < (n : Int) := by omega
                  have w1 : (1 : Int) ≤ (k : Int) := by omega
                  have w2 : (k : Int) ≤ (n : Int) := by omega
                  have g1 : decide (0 < k) = true := by simp; omega
                  clear xp h0
                  cases hl : Op.bytesLess (nthD fs (k - 1)).name.toList (nthD fs k).name.toList
                  · have N := stop (by simp [fdAt, lessS, hf, ht, hl]; omega); clear next stop
                    go_wp2_with fail
                    go_quiet (first | (go_at_call 27; exact quiet_l (WordOk_any _ F0.out _)) | (go_at_call 28; exact quiet_l (TextOk_any _ _ F1.out)))
                    go_wp2_with fail
                    go_ret
                    exact ⟨ret_bool N.out.symm, BW.out.trans ((below_drewN (HB.out.alloc HB.out.size _) _).mono BW.out.size)⟩
                  · have N := next (by simp [fdAt, lessS, hf, ht, hl]); clear next stop
                    go_wp2_with fail
                    go_quiet (first | (go_at_call 27; exact quiet_l (WordOk_any _ F0.out _)) | (go_at_call 28; exact quiet_l (TextOk_any _ _ F1.out)))
                    go_wp2_with fail
                    go_roundw
                    case rel => exact ⟨k + 1, by omega, by go_num, N.out, below_drewN (HB.out.alloc HB.out.size _) _⟩
                    case measure => simp [intOf]; omega
          · obtain rfl : k = n := by omega
            obtain ⟨n, rfl⟩ : ∃ n : Nat, n = k := ⟨_, rfl⟩
            have AF := Lib.hid HA.out; clear HA
            obtain ⟨wo, rfl⟩ : ∃ wo : World, wo = wr := ⟨_, rfl⟩
            have d2 : wo.cell? ⟨w.heap.size, 2, none⟩ = some (.slice b m d) := (hb.cell hsz.out).trans c2.out
            have l0 : Hid (w.heap.size < wo.heap.size) := Nat.lt_of_lt_of_le hsz.out hb.size
            have HBo := Lib.hid hb; clear hb
            go_wp2_with fail
            go_loopw [61] (fun i wr => ∃ k : Nat, k ≤ m ∧ i = .int .i64 k ∧ allN k (adAt ns) = true ∧ Below wo.heap.size wo wr) (fun i _ => m - (intOf i).toNat)
            case atStart => exact ⟨0, Nat.zero_le _, rfl, rfl, Below.refl _ _⟩
            case round =>
              obtain ⟨k, hk, rfl, hall, hb⟩ := hrel
              have HA := Lib.hid hall; clear hall
              by_cases hlt : k < m
              · obtain ⟨g, off, rfl, hc⟩ := ((Y0.out.below HBo.out).below hb).pos hlt
                obtain ⟨x0, x1⟩ := hc k hlt
                obtain ⟨f0, f1⟩ := Y0.out.fit k
                have xp : 0 < k → wr.cell? ⟨g, off + (k - 1) * 2, none⟩ = some (.string (nthA ns (k - 1)).name) := fun _ => (hc (k - 1) (by omega)).1
                have d1 : wr.cell? ⟨w.heap.size, 2, none⟩ = some (.slice (some ⟨g, off, none⟩) m d) := (hb.cell l0.out).trans d2
                have l1 : w.heap.size < wr.heap.size := Nat.lt_of_lt_of_le l0.out hb.size
                have l2 : w.heap.size ≠ wr.heap.size := by omega
                have l3 : g < wr.heap.size := World.block_lt_of_cell? wr _ x0
                have l4 : g ≠ wr.heap.size := by omega
                have next : adAt ns k = true → Hid (allN (k + 1) (adAt ns) = true) := fun h => allN_step HA.out h
                have stop : adAt ns k = false → Hid (docOk id n fs m ns = false) := fun h => docOk_a hlt h
                have HB := Lib.hid hb
                have F0 := Lib.hid f0
                clear hc hb f0 f1
                cases hf : wordOk (nthA ns k).name
                · have N := stop (by simp [adAt, hf]); clear next stop xp
                  go_wp2_with fail
                  go_quiet (first | (go_at_call 27; exact quiet_l (WordOk_any _ F0.out _)) | (go_at_call 26; exact quiet_l (within_num _ _)))
                  go_wp2_with fail
                  go_ret
                  exact ⟨ret_bool N.out.symm, BW.out.trans ((HBo.out.mono BW.out.size).trans ((below_drewN (HB.out.alloc HB.out.size _) _).mono (Nat.le_trans BW.out.size HBo.out.size)))⟩
                · cases ht : numOk (nthA ns k).num
                  · have N := stop (by simp [adAt, hf, ht]); clear next stop xp
                    go_wp2_with fail
                    go_quiet (first | (go_at_call 27; exact quiet_l (WordOk_any _ F0.out _)) | (go_at_call 26; exact quiet_l (within_num _ _)))
                    go_wp2_with fail
                    go_ret
                    exact ⟨ret_bool N.out.symm, BW.out.trans ((HBo.out.mono BW.out.size).trans ((below_drewN (HB.out.alloc HB.out.size _) _).mono (Nat.le_trans BW.out.size HBo.out.size)))⟩
                  · by_cases h0 : k = 0
                    · subst h0
                      rw [Nat.zero_mul, Nat.add_zero] at x0 x1
                      have N := next (by simp [adAt, hf, ht]); clear next stop xp
                      go_wp2_with fail
                      go_quiet (first | (go_at_call 27; exact quiet_l (WordOk_any _ F0.out _)) | (go_at_call 26; exact quiet_l (within_num _ _)))
                      go_wp2_with fail
                      go_roundw
                      case rel => exact ⟨1, by omega, by go_num, N.out, below_drewN (HB.out.alloc HB.out.size _) _⟩
                      case measure => simp [intOf]; omega
                    · have h0' : 0 < k := by omega
                      have xq := xp h0'
                      have wk : IntKind.i64.wrap ((k : Int) - 1) = (k : Int) - 1 := IntWalk.i64_in _ (by omega)
                      have wp : (0 : Int) ≤ (k : Int) - 1 := by omega
                      have wq : ((k : Int) - 1).toNat = k - 1 := by omega
                      have wl : (k : Int) - 1 < (m : Int) := by omega
                      have w1 : (1 : Int) ≤ (k : Int) := by omega
                      have w2 : (k : Int) ≤ (m : Int) := by omega
                      have g1 : decide (0 < k) = true := by simp; omega
                      clear xp h0
                      cases hl : Op.bytesLess (nthA ns (k - 1)).name.toList (nthA ns k).name.toList
                      · have N := stop (by simp [adAt, lessS, hf, ht, hl]; omega); clear next stop
                        go_wp2_with fail
                        go_quiet (first | (go_at_call 27; exact quiet_l (WordOk_any _ F0.out _)) | (go_at_call 26; exact quiet_l (within_num _ _)))
                        go_wp2_with fail
                        go_ret
                        exact ⟨ret_bool N.out.symm, BW.out.trans ((HBo.out.mono BW.out.size).trans ((below_drewN (HB.out.alloc HB.out.size _) _).mono (Nat.le_trans BW.out.size HBo.out.size)))⟩
                      · have N := next (by simp [adAt, lessS, hf, ht, hl]); clear next stop
                        go_wp2_with fail
                        go_quiet (first | (go_at_call 27; exact quiet_l (WordOk_any _ F0.out _)) | (go_at_call 26; exact quiet_l (within_num _ _)))
                        go_wp2_with fail
                        go_roundw
                        case rel => exact ⟨k + 1, by omega, by go_num, N.out, below_drewN (HB.out.alloc HB.out.size _) _⟩
                        case measure => simp [intOf]; omega
              · obtain rfl : k = m := by omega
                have HB := Lib.hid hb; clear hb
                go_wp2_with fail
                go_ret
                exact ⟨ret_bool (docOk_t hi h3 h4 AF.out HA.out).symm, BW.out.trans ((HBo.out.mono BW.out.size).trans (HB.out.mono (Nat.le_trans BW.out.size HBo.out.size)))⟩
      · go_enter Tryd.func10, Tryd.ntmps10
        go_wp2_with (go_at_call 26; refine (within_id _ _).mono ?_; rintro e w' ⟨rfl, rfl⟩)
        go_ret
        exact ⟨ret_bool (docOk_m h4).symm, (Below.refl _ _).alloc (Nat.le_refl _) _⟩
    · go_enter Tryd.func10, Tryd.ntmps10
      go_wp2_with (go_at_call 26; refine (within_id _ _).mono ?_; rintro e w' ⟨rfl, rfl⟩)
      go_ret
      exact ⟨ret_bool (docOk_n h3).symm, (Below.refl _ _).alloc (Nat.le_refl _) _⟩
set_option maxHeartbeats 4000000 in
theorem l6Ok_any (id : Int) (a : Option Addr) (n c : Nat) (fs : List Fd) (b : Option Addr) (m d : Nat) (ns : List Ad) (w : World) (hx : Flds w a n fs) (hy : Atts w b m ns) (hn : n ≤ maxLen) (hm : m ≤ maxLen) :
    Calls Tryd.prog 24 #[docV id a n c b m d] w fun e w' => e = .returned (.bool (docOk id n fs m ns)) ∧ Below w.heap.size w w' := by
  have HX := Lib.hid hx; clear hx
  have HY := Lib.hid hy; clear hy
  have HN := Lib.hid hn
  have HM := Lib.hid hm
  unfold maxLen at hn hm
  unfold docV
  go_enter Tryd.func24, Tryd.ntmps24
  go_wp2_with fail
  have BW : Hid (Below w.heap.size w (w.alloc (.cells #[.int .i64 id, .slice a n c, .slice b m d] 26))) := (Below.refl _ _).alloc (Nat.le_refl _) _
  have c0 : Hid ((w.alloc (.cells #[.int .i64 id, .slice a n c, .slice b m d] 26)).cell? ⟨w.heap.size, 0, none⟩ = some (.int .i64 id)) := World.cell?_alloc_at _ _ _ _ rfl
  have c1 : Hid ((w.alloc (.cells #[.int .i64 id, .slice a n c, .slice b m d] 26)).cell? ⟨w.heap.size, 1, none⟩ = some (.slice a n c)) := World.cell?_alloc_at _ _ _ _ rfl
  have c2 : Hid ((w.alloc (.cells #[.int .i64 id, .slice a n c, .slice b m d] 26)).cell? ⟨w.heap.size, 2, none⟩ = some (.slice b m d)) := World.cell?_alloc_at _ _ _ _ rfl
  have hsz : Hid (w.heap.size < (w.alloc (.cells #[.int .i64 id, .slice a n c, .slice b m d] 26)).heap.size) := by show _ < _; simp
  have X0 := Lib.hid (HX.out.below BW.out)
  have Y0 := Lib.hid (HY.out.below BW.out)
  generalize w.alloc (.cells #[.int .i64 id, .slice a n c, .slice b m d] 26) = W0 at *
  go_loopw [3] (fun i wr => ∃ k : Nat, k ≤ n ∧ i = .int .i64 k ∧ allN k (fdAt fs) = true ∧ Below W0.heap.size W0 wr) (fun i _ => n - (intOf i).toNat)
  case atStart => exact ⟨0, Nat.zero_le _, rfl, rfl, Below.refl _ _⟩
  case round =>
    obtain ⟨k, hk, rfl, hall, hb⟩ := hrel
    have HA := Lib.hid hall; clear hall
    by_cases hlt : k < n
    · obtain ⟨g, off, rfl, hc⟩ := (X0.out.below hb).pos hlt
      obtain ⟨x0, x1⟩ := hc k hlt
      obtain ⟨f0, f1⟩ := X0.out.fit k
      have xp : 0 < k → wr.cell? ⟨g, off + (k - 1) * 2, none⟩ = some (.string (nthD fs (k - 1)).name) := fun _ => (hc (k - 1) (by omega)).1
      have d1 : wr.cell? ⟨w.heap.size, 1, none⟩ = some (.slice (some ⟨g, off, none⟩) n c) := (hb.cell hsz.out).trans c1.out
      have l1 : w.heap.size < wr.heap.size := Nat.lt_of_lt_of_le hsz.out hb.size
      have l2 : w.heap.size ≠ wr.heap.size := by omega
      have l3 : g < wr.heap.size := World.block_lt_of_cell? wr _ x0
      have l4 : g ≠ wr.heap.size := by omega
      have next : fdAt fs k = true → Hid (allN (k + 1) (fdAt fs) = true) := fun h => allN_step HA.out h
      have stop : fdAt fs k = false → Hid (docOk id n fs m ns = false) := fun h => docOk_f hlt h
      have HB := Lib.hid hb
      have F0 := Lib.hid f0
      have F1 := Lib.hid f1
      clear hc hb f0 f1
      cases hf : wordOk (nthD fs k).name
      · have N := stop (by simp [fdAt, hf]); clear next stop xp
        go_wp2_with fail
        go_quiet (first | (go_at_call 49; first | exact quiet_d (l1WordOk_any _ F0.out _) | exact quiet_ad (l1WordOk_any _ F0.out _)) | (go_at_call 50; first | exact quiet_l (l1Text_any _ _ F1.out) | exact quiet_al (l1Text_any _ _ F1.out) | exact quiet_d (l1Text_any _ _ F1.out) | exact quiet_ad (l1Text_any _ _ F1.out)))
        go_wp2_with fail
        go_ret
        exact ⟨ret_bool N.out.symm, BW.out.trans ((below_drewN (HB.out.alloc HB.out.size _) _).mono BW.out.size)⟩
      · cases ht : textOk (nthD fs k).text
        · have N := stop (by simp [fdAt, hf, ht]); clear next stop xp
          go_wp2_with fail
          go_quiet (first | (go_at_call 49; first | exact quiet_d (l1WordOk_any _ F0.out _) | exact quiet_ad (l1WordOk_any _ F0.out _)) | (go_at_call 50; first | exact quiet_l (l1Text_any _ _ F1.out) | exact quiet_al (l1Text_any _ _ F1.out) | exact quiet_d (l1Text_any _ _ F1.out) | exact quiet_ad (l1Text_any _ _ F1.out)))
          go_wp2_with fail
          go_ret
          exact ⟨ret_bool N.out.symm, BW.out.trans ((below_drewN (HB.out.alloc HB.out.size _) _).mono BW.out.size)⟩
        · by_cases h0 : k = 0
          · subst h0
            rw [Nat.zero_mul, Nat.add_zero] at x0 x1
            have N := next (by simp [fdAt, hf, ht]); clear next stop xp
            go_wp2_with fail
            go_quiet (first | (go_at_call 49; first | exact quiet_d (l1WordOk_any _ F0.out _) | exact quiet_ad (l1WordOk_any _ F0.out _)) | (go_at_call 50; first | exact quiet_l (l1Text_any _ _ F1.out) | exact quiet_al (l1Text_any _ _ F1.out) | exact quiet_d (l1Text_any _ _ F1.out) | exact quiet_ad (l1Text_any _ _ F1.out)))
            go_wp2_with fail
            go_roundw
            case rel => exact ⟨1, by omega, by go_num, N.out, below_drewN (HB.out.alloc HB.out.size _) _⟩
            case measure => simp [intOf]; omega
          · have h0' : 0 < k := by omega
            have xq := xp h0'
            have wk : IntKind.i64.wrap ((k : Int) - 1) = (k : Int) - 1 := IntWalk.i64_in _ (by omega)
            have wp : (0 : Int) ≤ (k : Int) - 1 := by omega
            have wq : ((k : Int) - 1).toNat = k - 1 := by omega
            have wl : (k : Int) - 1 < (n : Int) := by omega
            have w1 : (1 : Int) ≤ (k : Int) := by omega
            have w2 : (k : Int) ≤ (n : Int) := by omega
            have g1 : decide (0 < k) = true := by simp; omega
            clear xp h0
            have hmm := lessS_not (nthD fs (k - 1)).name (nthD fs k).name
            unfold lessS at hmm
            cases hl : Op.bytesLess (nthD fs (k - 1)).name.toList (nthD fs k).name.toList
            · have N := stop (by simp [fdAt, lessS, hf, ht, hl]; omega); clear next stop
              rw [hl] at hmm
              go_wp2_with fail
              go_quiet (first | (go_at_call 49; first | exact quiet_d (l1WordOk_any _ F0.out _) | exact quiet_ad (l1WordOk_any _ F0.out _)) | (go_at_call 50; first | exact quiet_l (l1Text_any _ _ F1.out) | exact quiet_al (l1Text_any _ _ F1.out) | exact quiet_d (l1Text_any _ _ F1.out) | exact quiet_ad (l1Text_any _ _ F1.out)))
              go_wp2_with fail
              go_ret
              exact ⟨ret_bool N.out.symm, BW.out.trans ((below_drewN (HB.out.alloc HB.out.size _) _).mono BW.out.size)⟩
            · have N := next (by simp [fdAt, lessS, hf, ht, hl]); clear next stop
              rw [hl] at hmm
              go_wp2_with fail
              go_quiet (first | (go_at_call 49; first | exact quiet_d (l1WordOk_any _ F0.out _) | exact quiet_ad (l1WordOk_any _ F0.out _)) | (go_at_call 50; first | exact quiet_l (l1Text_any _ _ F1.out) | exact quiet_al (l1Text_any _ _ F1.out) | exact quiet_d (l1Text_any _ _ F1.out) | exact quiet_ad (l1Text_any _ _ F1.out)))
              go_wp2_with fail
              go_roundw
              case rel => exact ⟨k + 1, by omega, by go_num, N.out, below_drewN (HB.out.alloc HB.out.size _) _⟩
              case measure => simp [intOf]; omega
    · obtain rfl : k = n := by omega
      obtain ⟨n, rfl⟩ : ∃ n : Nat, n = k := ⟨_, rfl⟩
      have AF := Lib.hid HA.out; clear HA
      obtain ⟨wo, rfl⟩ : ∃ wo : World, wo = wr := ⟨_, rfl⟩
      have d1 : wo.cell? ⟨w.heap.size, 1, none⟩ = some (.slice a n c) := (hb.cell hsz.out).trans c1.out
      have d2 : wo.cell? ⟨w.heap.size, 2, none⟩ = some (.slice b m d) := (hb.cell hsz.out).trans c2.out
      have D0 : Hid (wo.cell? ⟨w.heap.size, 0, none⟩ = some (.int .i64 id)) := (hb.cell hsz.out).trans c0.out
      have l0 : Hid (w.heap.size < wo.heap.size) := Nat.lt_of_lt_of_le hsz.out hb.size
      have HBo := Lib.hid hb; clear hb
      go_wp2_with fail
      have D1 := Lib.hid d1; clear d1
      go_loopw [5] (fun i wr => ∃ k : Nat, k ≤ m ∧ i = .int .i64 k ∧ allN k (adAt ns) = true ∧ Below wo.heap.size wo wr) (fun i _ => m - (intOf i).toNat)
      case atStart => exact ⟨0, Nat.zero_le _, rfl, rfl, Below.refl _ _⟩
      case round =>
        obtain ⟨k, hk, rfl, hall, hb⟩ := hrel
        have HA := Lib.hid hall; clear hall
        by_cases hlt : k < m
        · obtain ⟨g, off, rfl, hc⟩ := ((Y0.out.below HBo.out).below hb).pos hlt
          obtain ⟨x0, x1⟩ := hc k hlt
          obtain ⟨f0, f1⟩ := Y0.out.fit k
          have xp : 0 < k → wr.cell? ⟨g, off + (k - 1) * 2, none⟩ = some (.string (nthA ns (k - 1)).name) := fun _ => (hc (k - 1) (by omega)).1
          have d1 : wr.cell? ⟨w.heap.size, 2, none⟩ = some (.slice (some ⟨g, off, none⟩) m d) := (hb.cell l0.out).trans d2
          have l1 : w.heap.size < wr.heap.size := Nat.lt_of_lt_of_le l0.out hb.size
          have l2 : w.heap.size ≠ wr.heap.size := by omega
          have l3 : g < wr.heap.size := World.block_lt_of_cell? wr _ x0
          have l4 : g ≠ wr.heap.size := by omega
          have next : adAt ns k = true → Hid (allN (k + 1) (adAt ns) = true) := fun h => allN_step HA.out h
          have stop : adAt ns k = false → Hid (docOk id n fs m ns = false) := fun h => docOk_a hlt h
          have HB := Lib.hid hb
          have F0 := Lib.hid f0
          clear hc hb f0 f1
          cases hf : wordOk (nthA ns k).name
          · have N := stop (by simp [adAt, hf]); clear next stop xp
            go_wp2_with fail
            go_quiet (first | (go_at_call 49; first | exact quiet_d (l1WordOk_any _ F0.out _) | exact quiet_ad (l1WordOk_any _ F0.out _)) | (go_at_call 51; first | exact quiet_l (l1In_num _ _) | exact quiet_al (l1In_num _ _)))
            go_wp2_with fail
            go_ret
            exact ⟨ret_bool N.out.symm, BW.out.trans ((HBo.out.mono BW.out.size).trans ((below_drewN HB.out _).mono (Nat.le_trans BW.out.size HBo.out.size)))⟩
          · cases ht : numOk (nthA ns k).num
            · have N := stop (by simp [adAt, hf, ht]); clear next stop xp
              go_wp2_with fail
              go_quiet (first | (go_at_call 49; first | exact quiet_d (l1WordOk_any _ F0.out _) | exact quiet_ad (l1WordOk_any _ F0.out _)) | (go_at_call 51; first | exact quiet_l (l1In_num _ _) | exact quiet_al (l1In_num _ _)))
              go_wp2_with fail
              go_ret
              exact ⟨ret_bool N.out.symm, BW.out.trans ((HBo.out.mono BW.out.size).trans ((below_drewN HB.out _).mono (Nat.le_trans BW.out.size HBo.out.size)))⟩
            · by_cases h0 : k = 0
              · subst h0
                rw [Nat.zero_mul, Nat.add_zero] at x0 x1
                have N := next (by simp [adAt, hf, ht]); clear next stop xp
                go_wp2_with fail
                go_quiet (first | (go_at_call 49; first | exact quiet_d (l1WordOk_any _ F0.out _) | exact quiet_ad (l1WordOk_any _ F0.out _)) | (go_at_call 51; first | exact quiet_l (l1In_num _ _) | exact quiet_al (l1In_num _ _)))
                go_wp2_with fail
                go_roundw
                case rel => exact ⟨1, by omega, by go_num, N.out, below_drewN HB.out _⟩
                case measure => simp [intOf]; omega
              · have h0' : 0 < k := by omega
                have xq := xp h0'
                have wk : IntKind.i64.wrap ((k : Int) - 1) = (k : Int) - 1 := IntWalk.i64_in _ (by omega)
                have wp : (0 : Int) ≤ (k : Int) - 1 := by omega
                have wq : ((k : Int) - 1).toNat = k - 1 := by omega
                have wl : (k : Int) - 1 < (m : Int) := by omega
                have w1 : (1 : Int) ≤ (k : Int) := by omega
                have w2 : (k : Int) ≤ (m : Int) := by omega
                have g1 : decide (0 < k) = true := by simp; omega
                clear xp h0
                have hmm := lessS_not (nthA ns (k - 1)).name (nthA ns k).name
                unfold lessS at hmm
                cases hl : Op.bytesLess (nthA ns (k - 1)).name.toList (nthA ns k).name.toList
                · have N := stop (by simp [adAt, lessS, hf, ht, hl]; omega); clear next stop
                  rw [hl] at hmm
                  go_wp2_with fail
                  go_quiet (first | (go_at_call 49; first | exact quiet_d (l1WordOk_any _ F0.out _) | exact quiet_ad (l1WordOk_any _ F0.out _)) | (go_at_call 51; first | exact quiet_l (l1In_num _ _) | exact quiet_al (l1In_num _ _)))
                  go_wp2_with fail
                  go_ret
                  exact ⟨ret_bool N.out.symm, BW.out.trans ((HBo.out.mono BW.out.size).trans ((below_drewN HB.out _).mono (Nat.le_trans BW.out.size HBo.out.size)))⟩
                · have N := next (by simp [adAt, lessS, hf, ht, hl]); clear next stop
                  rw [hl] at hmm
                  go_wp2_with fail
                  go_quiet (first | (go_at_call 49; first | exact quiet_d (l1WordOk_any _ F0.out _) | exact quiet_ad (l1WordOk_any _ F0.out _)) | (go_at_call 51; first | exact quiet_l (l1In_num _ _) | exact quiet_al (l1In_num _ _)))
                  go_wp2_with fail
                  go_roundw
                  case rel => exact ⟨k + 1, by omega, by go_num, N.out, below_drewN HB.out _⟩
                  case measure => simp [intOf]; omega
        · obtain rfl : k = m := by omega
          have e1 : wr.cell? ⟨w.heap.size, 1, none⟩ = some (.slice a n c) := (hb.cell l0.out).trans D1.out
          have e2 : wr.cell? ⟨w.heap.size, 2, none⟩ = some (.slice b k d) := (hb.cell l0.out).trans d2
          have e0 : wr.cell? ⟨w.heap.size, 0, none⟩ = some (.int .i64 id) := (hb.cell l0.out).trans D0.out
          have HB := Lib.hid hb; clear hb
          have BB : Hid (Below w.heap.size w wr) := BW.out.trans ((HBo.out.mono BW.out.size).trans (HB.out.mono (Nat.le_trans BW.out.size HBo.out.size)))
          cases hi : idOk id <;> have hi' := hi <;> unfold idOk at hi'
          · go_wp2_with (go_at_call 51; refine (l1In_any _ _ _ _).mono ?_; rintro e w2 ⟨rfl, rfl⟩)
            go_ret
            exact ⟨ret_bool (docOk_i hi).symm, BB.out⟩
          · by_cases h3 : n ≤ 3
            · have h3' : decide ((0 : Int) ≤ (n : Int) ∧ (n : Int) ≤ 3) = true := by simp; omega
              go_wp2_with (go_at_call 51; refine (l1In_any _ _ _ _).mono ?_; rintro e w2 ⟨rfl, rfl⟩)
              go_ret
              exact ⟨ret_bool (by rw [docOk, AF.out, HA.out, hi]; simp [h3]; try omega), BB.out⟩
            · have h3' : decide ((0 : Int) ≤ (n : Int) ∧ (n : Int) ≤ 3) = false := by simp; omega
              go_wp2_with (go_at_call 51; refine (l1In_any _ _ _ _).mono ?_; rintro e w2 ⟨rfl, rfl⟩)
              go_ret
              exact ⟨ret_bool (docOk_n h3).symm, BB.out⟩

end Go.Proofs.YtlbopihffpodkaaDoor
