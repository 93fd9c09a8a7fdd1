/- The walks of what tells whether words can be read so. Conditions: what is read fits the model's sizes. -/
import Derived.Test.YtejooloflcldiaaSynT
import Derived.Test.YtejooloflcldiaaStem
import Derived.Test.YtejooloflcldiaaWordsUp
import Derived.Test.YtejooloflcldiaaText
namespace Go.Proofs.Ytejooloflcldiaa
open Go.RowKit Go.Sort
theorem eqF {a b : ByteArray} (h : a ≠ b) : (a.toList == b.toList) = false := by
  simp only [beq_eq_false_iff_ne, ne_eq, ByteArray.toList_eq]
  intro e
  exact h (ByteArray.ext (Array.ext' e))
/-- A text is among others. -/
def hasS (n : Nat) (ss : List ByteArray) (t : ByteArray) : Bool := !(allN n fun j => !((nthS ss j).toList == t.toList))
theorem hasS_at {n k : Nat} {ss : List ByteArray} {t : ByteArray} (hk : k < n) (h : ((nthS ss k).toList == t.toList) = true) : hasS n ss t = true := by
  rw [hasS, allN_fail hk (by rw [h]; rfl)]; rfl
theorem hasS_no {n : Nat} {ss : List ByteArray} {t : ByteArray} (h : allN n (fun j => !((nthS ss j).toList == t.toList)) = true) : hasS n ss t = false := by rw [hasS, h]; rfl
/-- What Index answers. -/
def IdxPost (n : Nat) (ss : List ByteArray) (t : ByteArray) (w : World) (e : Ending) (w' : World) : Prop := ∃ r : Int, e = .returned (.int .i64 r) ∧ decide (0 ≤ r) = hasS n ss t ∧ w = w'
theorem IndexS_any (a : Option Addr) (n c : Nat) (ss : List ByteArray) (t : ByteArray) (w : World) (hx : Strs w a n ss) (hn : n ≤ maxLen) :
    Calls Try.prog 62 #[.slice a n c, .string t] w (IdxPost n ss t w) := by
  have HX := Lib.hid hx; clear hx
  unfold maxLen at hn
  go_enter Try.func62, Try.ntmps62
  go_wp2_with fail
  go_loop [8] (fun i => ∃ k : Nat, k ≤ n ∧ i = .int .i64 k ∧ allN k (fun j => !((nthS ss j).toList == t.toList)) = true) (fun i => n - (intOf i).toNat)
  case atStart => exact ⟨0, Nat.zero_le _, rfl, rfl⟩
  case round =>
    obtain ⟨k, hk, rfl, hall⟩ := hrel
    have HA := Lib.hid hall; clear hall
    by_cases hlt : k < n
    · obtain ⟨b, off, rfl, hc⟩ := HX.out.rd.pos hlt
      have hck := hc k hlt
      clear hc
      cases he : ((nthS ss k).toList == t.toList)
      · have N := Lib.hid (allN_step (p := fun j => !((nthS ss j).toList == t.toList)) HA.out (by rw [he]; rfl))
        have he2 : (t.toList == (nthS ss k).toList) = false := by rw [← he, Bool.beq_comm]
        go_wp2_with fail
        go_round
        case rel => exact ⟨k + 1, by omega, by go_num, N.out⟩
        case measure => simp [intOf]; omega
      · have N := Lib.hid (hasS_at hlt he)
        have he2 : (t.toList == (nthS ss k).toList) = true := by rw [← he, Bool.beq_comm]
        go_wp2_with fail
        go_ret
        exact ⟨(k : Int), rfl, by rw [N.out]; simp, rfl⟩
    · obtain rfl : k = n := by omega
      go_wp2_with fail
      go_ret
      exact ⟨-1, rfl, by rw [hasS_no HA.out]; rfl, rfl⟩
theorem ContainsS_any (a : Option Addr) (n c : Nat) (ss : List ByteArray) (t : ByteArray) (w : World) (hx : Strs w a n ss) (hn : n ≤ maxLen) :
    Calls Try.prog 39 #[.slice a n c, .string t] w fun e w' => e = .returned (.bool (hasS n ss t)) ∧ w = w' := by
  have C := Lib.hid (IndexS_any a n c ss t w hx hn)
  clear hx
  go_enter Try.func39, Try.ntmps39
  go_wp2_with fail
  refine C.out.mono ?_
  rintro e w' ⟨r, rfl, hr, rfl⟩
  have HR := Lib.hid hr; clear hr
  go_wp2_with fail
  go_ret
  exact ⟨ret_bool HR.out, rfl⟩
theorem l2Has_any (a : Option Addr) (n c : Nat) (ss : List ByteArray) (t : ByteArray) (w : World) (hx : Strs w a n ss) (hn : n ≤ maxLen) :
    Calls Try.prog 59 #[.slice a n c, .string t] w fun e w' => e = .returned (.bool (hasS n ss t)) ∧ w = w' := by
  have HX := Lib.hid hx; clear hx
  unfold maxLen at hn
  go_enter Try.func59, Try.ntmps59
  go_wp2_with fail
  go_loop [5] (fun i => ∃ k : Nat, k ≤ n ∧ i = .int .i64 k ∧ allN k (fun j => !((nthS ss j).toList == t.toList)) = true) (fun i => n - (intOf i).toNat)
  case atStart => exact ⟨0, Nat.zero_le _, rfl, rfl⟩
  case round =>
    obtain ⟨k, hk, rfl, hall⟩ := hrel
    have HA := Lib.hid hall; clear hall
    by_cases hlt : k < n
    · obtain ⟨b, off, rfl, hc⟩ := HX.out.rd.pos hlt
      have hck := hc k hlt
      clear hc
      cases he : ((nthS ss k).toList == t.toList)
      · have N := Lib.hid (allN_step (p := fun j => !((nthS ss j).toList == t.toList)) HA.out (by rw [he]; rfl))
        go_wp2_with fail
        go_round
        case rel => exact ⟨k + 1, by omega, by go_num, N.out⟩
        case measure => simp [intOf]; omega
      · have N := Lib.hid (hasS_at hlt he)
        go_wp2_with fail
        go_ret
        exact ⟨ret_bool N.out.symm, rfl⟩
    · obtain rfl : k = n := by omega
      go_wp2_with fail
      go_ret
      exact ⟨ret_bool (hasS_no HA.out).symm, rfl⟩
def stemSame (f : ByteArray) : Bool := (stemB f).toList == f.toList
def wAt (n : Nat) (ss : List ByteArray) (f : ByteArray) : Bool := wordOk f && stemSame f && !hasS n ss f
def inSyn (n : Nat) : Bool := decide (1 ≤ (n : Int) ∧ (n : Int) ≤ 3)
def synAt (n : Nat) (ss : List ByteArray) (x : SynA) : Bool := inSyn x.n && wordOk x.to && stemSame x.to && allN x.n fun j => wAt n ss (nthS x.fs j)
/-- Words can be read so. -/
def confOk (x : ConfA) : Bool := decide (x.n ≤ 6) && wordsAsc x.n x.ss && decide (x.m ≤ 4) && allN x.m fun j => synAt x.n x.ss (nthY x.ys j)
theorem confOk_syn {x : ConfA} {k : Nat} (hk : k < x.m) (h : synAt x.n x.ss (nthY x.ys k) = false) : confOk x = false := by
  rw [confOk, allN_fail (p := fun j => synAt x.n x.ss (nthY x.ys j)) hk h]; simp
theorem stem_eq {f : ByteArray} (h : wordOk f = true) : stemOf f = stemB f := by rw [stemOf, h]; rfl
theorem stem_bne {a b : ByteArray} {c : Bool} (h : (a.toList == b.toList) = c) : (a.toList != b.toList) = !c := by rw [bne, h]
set_option maxHeartbeats 4000000 in
theorem ConfOk_any (x : ConfA) (w : World) (hx : x.In w) :
    Calls Try.prog 13 #[x.v] w fun e w' => e = .returned (.bool (confOk x)) ∧ Below w.heap.size w w' := by
  have HX := Lib.hid hx
  have hn := hx.hn
  have hm := hx.hm
  clear hx
  unfold maxLen at hn hm
  have k2 : Try.prog.cellsOf 53 = 2 := by kernel_rfl
  unfold ConfA.v
  by_cases h6 : 6 < x.n
  · have N := Lib.hid (show confOk x = false by rw [confOk, decide_eq_false (by omega : ¬ x.n ≤ 6)]; simp)
    go_enter Try.func13, Try.ntmps13
    go_wp2_with fail
    go_ret
    exact ⟨ret_bool N.out.symm, (Below.refl _ _).alloc (Nat.le_refl _) _⟩
  go_enter Try.func13, Try.ntmps13
  go_wp2_with fail
  have BW : Hid (Below w.heap.size w (w.alloc (.cells #[.slice x.a x.n x.c, .slice x.b x.m x.d] 30))) := (Below.refl _ _).alloc (Nat.le_refl _) _
  have c0 : Hid ((w.alloc (.cells #[.slice x.a x.n x.c, .slice x.b x.m x.d] 30)).cell? ⟨w.heap.size, 0, none⟩ = some (.slice x.a x.n x.c)) := World.cell?_alloc_at _ _ _ _ rfl
  have c1 : Hid ((w.alloc (.cells #[.slice x.a x.n x.c, .slice x.b x.m x.d] 30)).cell? ⟨w.heap.size, 1, none⟩ = some (.slice x.b x.m x.d)) := World.cell?_alloc_at _ _ _ _ rfl
  have hsz : Hid (w.heap.size < (w.alloc (.cells #[.slice x.a x.n x.c, .slice x.b x.m x.d] 30)).heap.size) := by show _ < _; simp
  have X0 := Lib.hid (HX.out.below BW.out)
  generalize w.alloc (.cells #[.slice x.a x.n x.c, .slice x.b x.m x.d] 30) = W0 at *
  refine (wordsAscend_any _ _ _ _ X0.out.s HX.out.hn).mono ?_
  rintro e w' ⟨rfl, rfl⟩
  cases has : wordsAsc x.n x.ss
  · have N := Lib.hid (show confOk x = false by rw [confOk, has]; simp)
    go_wp2_with fail
    go_ret
    exact ⟨ret_bool N.out.symm, BW.out⟩
  have HAS := Lib.hid has; clear has
  have d1 := c1.out
  have d0 := c0.out
  by_cases h4 : 4 < x.m
  · have N := Lib.hid (show confOk x = false by rw [confOk, decide_eq_false (by omega : ¬ x.m ≤ 4)]; simp)
    go_wp2_with fail
    go_ret
    exact ⟨ret_bool N.out.symm, BW.out⟩
  go_wp2_with fail
  clear d0 d1
  go_loopw [26] (fun i wr => ∃ k : Nat, k ≤ x.m ∧ i = .int .i64 k ∧ allN k (fun j => synAt x.n x.ss (nthY x.ys j)) = true ∧ Below W0.heap.size W0 wr) (fun i _ => x.m - (intOf i).toNat)
  case atStart => exact ⟨0, Nat.zero_le _, rfl, rfl, Below.refl _ _⟩
  case round =>
    obtain ⟨k, hk, rfl, hall, hb⟩ := hrel
    have HA := Lib.hid hall; clear hall
    by_cases hlt : k < x.m
    · obtain ⟨g, off, hg, hc⟩ := (X0.out.y.below hb).pos hlt
      have HG := Lib.hid hg; clear hg
      obtain ⟨x0, x1⟩ := hc k hlt
      have E := Lib.hid ((X0.out.y.each k hlt).below hb)
      have next : synAt x.n x.ss (nthY x.ys k) = true → Hid (allN (k + 1) (fun j => synAt x.n x.ss (nthY x.ys j)) = true) := fun h => allN_step (p := fun j => synAt x.n x.ss (nthY x.ys j)) HA.out h
      have stop : synAt x.n x.ss (nthY x.ys k) = false → Hid (confOk x = false) := fun h => confOk_syn hlt h
      obtain ⟨y, hy⟩ : ∃ y, y = nthY x.ys k := ⟨_, rfl⟩
      rw [← hy] at x0 x1 E next stop
      clear hy
      have HB := Lib.hid hb; clear hb hc
      have hyn := E.out.hn
      unfold maxLen at hyn
      have STP := Lib.hid (fun j (hj : j < y.n) (h : wAt x.n x.ss (nthS y.fs j) = false) => stop (by rw [synAt, allN_fail (p := fun j => wAt x.n x.ss (nthS y.fs j)) hj h]; simp))
      rw [HG.out]
      go_wp2_with fail
      have BD := Lib.hid ((Below.refl wr.heap.size wr).alloc (Nat.le_refl _) (.cells #[.slice y.a y.n y.c, .string y.to] 53))
      have z0 : (wr.alloc (.cells #[.slice y.a y.n y.c, .string y.to] 53)).cell? ⟨wr.heap.size, 0, none⟩ = some (.slice y.a y.n y.c) := World.cell?_alloc_at _ _ _ _ rfl
      have z1 : (wr.alloc (.cells #[.slice y.a y.n y.c, .string y.to] 53)).cell? ⟨wr.heap.size, 1, none⟩ = some (.string y.to) := World.cell?_alloc_at _ _ _ _ rfl
      have lz : Hid (wr.heap.size < (wr.alloc (.cells #[.slice y.a y.n y.c, .string y.to] 53)).heap.size) := by show _ < _; simp
      generalize wr.alloc (.cells #[.slice y.a y.n y.c, .string y.to] 53) = Wd at *
      have q0 := cell_regrown z0
      have q1 := cell_regrown z1
      have CI : Hid (∀ w, Calls Try.prog 38 #[.int .i64 (y.n : Int), .int .i64 1, .int .i64 3] w fun e w' => e = .returned (.bool (inSyn y.n)) ∧ w = w') := fun w => within_any (y.n : Int) 1 3 w
      cases hi : inSyn y.n
      · have N := stop (by rw [synAt, hi]; rfl); clear next stop
        refine wp_region_quiet_below (by kernel_rfl) (by kernel_rfl) ?_
        repeat (go_big_quiet_step ((first | (go_at_call 38; exact quiet_bs fun w1 _ => CI.out w1) | (go_at_call 18; exact quiet_bs fun w1 _ => WordOk_any _ E.out.ht w1) | (go_at_call 25; exact quiet_b fun w1 _ => StemOf_any _ E.out.ht w1))))
        refine wpQuiet_nil ?_
        intro wq hqq
        have BQ := Lib.hid (quiet_out hqq)
        clear hqq
        clear q0 q1
        have BE := Lib.hid (HB.out.trans ((BD.out.trans (BQ.out.mono BD.out.size)).mono HB.out.size))
        go_wp2_with fail
        go_ret
        exact ⟨ret_bool N.out.symm, BW.out.trans (BE.out.mono BW.out.size)⟩
      · cases hw : wordOk y.to
        · have N := stop (by rw [synAt, hw]; simp); clear next stop
          refine wp_region_quiet_below (by kernel_rfl) (by kernel_rfl) ?_
          repeat (go_big_quiet_step ((first | (go_at_call 38; exact quiet_bs fun w1 _ => CI.out w1) | (go_at_call 18; exact quiet_bs fun w1 _ => WordOk_any _ E.out.ht w1) | (go_at_call 25; exact quiet_b fun w1 _ => StemOf_any _ E.out.ht w1))))
          refine wpQuiet_nil ?_
          intro wq hqq
          have BQ := Lib.hid (quiet_out hqq)
          clear hqq
          clear q0 q1
          have BE := Lib.hid (HB.out.trans ((BD.out.trans (BQ.out.mono BD.out.size)).mono HB.out.size))
          go_wp2_with fail
          go_ret
          exact ⟨ret_bool N.out.symm, BW.out.trans (BE.out.mono BW.out.size)⟩
        · have SE := Lib.hid (stem_eq hw)
          cases hst : stemSame y.to
          · have N := stop (by rw [synAt, hst]; simp); clear next stop
            have be : ((stemOf y.to).toList == y.to.toList) = false := by rw [SE.out]; exact hst
            have bn : ((stemOf y.to).toList != y.to.toList) = true := stem_bne be
            refine wp_region_quiet_below (by kernel_rfl) (by kernel_rfl) ?_
            repeat (go_big_quiet_step ((first | (go_at_call 38; exact quiet_bs fun w1 _ => CI.out w1) | (go_at_call 18; exact quiet_bs fun w1 _ => WordOk_any _ E.out.ht w1) | (go_at_call 25; exact quiet_b fun w1 _ => StemOf_any _ E.out.ht w1))))
            refine wpQuiet_nil ?_
            intro wq hqq
            have BQ := Lib.hid (quiet_out hqq)
            clear hqq
            clear q0 q1
            have BE := Lib.hid (HB.out.trans ((BD.out.trans (BQ.out.mono BD.out.size)).mono HB.out.size))
            go_wp2_with fail
            go_ret
            exact ⟨ret_bool N.out.symm, BW.out.trans (BE.out.mono BW.out.size)⟩
          · have be : ((stemOf y.to).toList == y.to.toList) = true := by rw [SE.out]; exact hst
            have bn : ((stemOf y.to).toList != y.to.toList) = false := stem_bne be
            have NXT := Lib.hid (fun (h : allN y.n (fun j => wAt x.n x.ss (nthS y.fs j)) = true) => next (by rw [synAt, hi, hw, hst, h]; rfl))
            clear next stop
            refine wp_region_quiet_below (by kernel_rfl) (by kernel_rfl) ?_
            repeat (go_big_quiet_step ((first | (go_at_call 38; exact quiet_bs fun w1 _ => CI.out w1) | (go_at_call 18; exact quiet_bs fun w1 _ => WordOk_any _ E.out.ht w1) | (go_at_call 25; exact quiet_b fun w1 _ => StemOf_any _ E.out.ht w1))))
            refine wpQuiet_nil ?_
            intro wq hqq
            have BQ := Lib.hid (quiet_out hqq)
            clear hqq
            clear q0 q1
            have BE := Lib.hid (HB.out.trans ((BD.out.trans (BQ.out.mono BD.out.size)).mono HB.out.size))
            have z0' := (BQ.out.cell lz.out).trans z0
            clear z0 z1 be bn hi hw hst
            go_wp2_with fail
            obtain ⟨wo, hwo⟩ : ∃ wo : World, wo = wq := ⟨_, rfl⟩
            rw [← hwo] at BE BQ z0' ⊢
            clear hwo
            go_loopw [52] (fun i wi => ∃ j : Nat, j ≤ y.n ∧ i = .int .i64 j ∧ allN j (fun j => wAt x.n x.ss (nthS y.fs j)) = true ∧ Below wo.heap.size wo wi) (fun i _ => y.n - (intOf i).toNat)
            case atStart => exact ⟨0, Nat.zero_le _, rfl, rfl, Below.refl _ _⟩
            case round =>
              obtain ⟨j, hj, rfl, hallj, hbj⟩ := hrel
              have HAJ := Lib.hid hallj; clear hallj
              have BI := Lib.hid (BE.out.trans (hbj.mono BE.out.size))
              have HBJ := Lib.hid hbj; clear hbj
              by_cases hlj : j < y.n
              · obtain ⟨gy, oy, hgy, hcy⟩ := (E.out.f.below (BD.out.trans ((BQ.out.trans (HBJ.out.mono BQ.out.size)).mono BD.out.size))).rd.pos hlj
                have HGY := Lib.hid hgy; clear hgy
                have hck := hcy j hlj
                clear hcy
                have hfz := E.out.f.fit j
                have FZ := Lib.hid hfz; clear hfz
                have e0 := (BI.out.cell hsz.out).trans c0.out
                obtain ⟨f, hf⟩ : ∃ f, f = nthS y.fs j := ⟨_, rfl⟩
                have STJ := Lib.hid (STP.out j hlj)
                have NXJ := Lib.hid (fun h => allN_step (p := fun j => wAt x.n x.ss (nthS y.fs j)) HAJ.out (k := j) h)
                rw [← hf] at hck FZ STJ NXJ
                clear hf
                rw [HGY.out]
                cases hw : wordOk f
                · have N := STJ.out (by rw [wAt, hw]; rfl)
                  go_wp2_with fail
                  refine (WordOk_any _ FZ.out _).mono ?_
                  rintro e w' ⟨rfl, rfl⟩
                  rw [hw]
                  go_wp2_with fail
                  go_ret
                  exact ⟨ret_bool N.out.symm, BW.out.trans (BI.out.mono BW.out.size)⟩
                · have SE := Lib.hid (stem_eq hw)
                  go_wp2_with fail
                  refine (WordOk_any _ FZ.out _).mono ?_
                  rintro e w' ⟨rfl, rfl⟩
                  rw [hw]
                  go_wp2_with fail
                  refine (StemOf_any _ FZ.out _).mono ?_
                  rintro e w5 ⟨rfl, hb5⟩
                  have B5 := Lib.hid (BI.out.trans (hb5.mono BI.out.size))
                  have HB5 := Lib.hid (HBJ.out.trans (hb5.mono HBJ.out.size))
                  clear hb5 e0
                  have e0 := (B5.out.cell hsz.out).trans c0.out
                  cases hst : stemSame f
                  · have N := STJ.out (by rw [wAt, hst]; simp)
                    have be : ((stemOf f).toList == f.toList) = false := by rw [SE.out]; exact hst
                    have bn : ((stemOf f).toList != f.toList) = true := stem_bne be
                    go_wp2_with fail
                    go_ret
                    exact ⟨ret_bool N.out.symm, BW.out.trans (B5.out.mono BW.out.size)⟩
                  · have be : ((stemOf f).toList == f.toList) = true := by rw [SE.out]; exact hst
                    have bn : ((stemOf f).toList != f.toList) = false := stem_bne be
                    go_wp2_with fail
                    refine (ContainsS_any _ _ _ _ _ _ (X0.out.s.below B5.out) HX.out.hn).mono ?_
                    rintro e w' ⟨rfl, rfl⟩
                    cases hh : hasS x.n x.ss f
                    · have N := Lib.hid (NXJ.out (by rw [wAt, hw, hst, hh]; rfl))
                      go_wp2_with fail
                      go_roundw
                      case rel => exact ⟨j + 1, by omega, by go_num, N.out, HB5.out⟩
                      case measure => simp [intOf]; omega
                    · have N := STJ.out (by rw [wAt, hh]; simp)
                      go_wp2_with fail
                      go_ret
                      exact ⟨ret_bool N.out.symm, BW.out.trans (B5.out.mono BW.out.size)⟩
              · obtain rfl : j = y.n := by omega
                have N := NXT.out HAJ.out
                go_wp2_with fail
                go_roundw
                case rel => exact ⟨k + 1, by omega, by go_num, N.out, BI.out⟩
                case measure => simp [intOf]; omega
    · obtain rfl : k = x.m := by omega
      have HB := Lib.hid hb; clear hb
      have N := Lib.hid (show confOk x = true by rw [confOk, HAS.out, HA.out, decide_eq_true (by omega : x.n ≤ 6), decide_eq_true (by omega : x.m ≤ 4)]; rfl)
      go_wp2_with fail
      go_ret
      exact ⟨ret_bool N.out.symm, BW.out.trans (HB.out.mono BW.out.size)⟩
end Go.Proofs.Ytejooloflcldiaa
