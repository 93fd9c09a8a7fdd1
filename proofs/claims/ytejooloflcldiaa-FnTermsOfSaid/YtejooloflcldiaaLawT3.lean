/- The law on where terms stand. Conditions: what is read fits the model's sizes. -/
import Derived.Test.YtejooloflcldiaaLawT2
import Derived.Deep.DeepCutAuto
import Derived.Deep.RegionHeld3
namespace Go.Proofs.Ytejooloflcldiaa
open Go.RowKit Go.Sort
theorem foHas_any (a : Option Addr) (n c : Nat) (ss : List ByteArray) (t : ByteArray) (w : World) (hx : Strs w a n ss) (hn : n ≤ maxLen) :
    Calls Try.prog 27 #[.slice a n c, .string t] w fun e w' => e = .returned (.bool (hasS n ss t)) ∧ w = w' := by
  have HX := Lib.hid hx; clear hx
  unfold maxLen at hn
  go_enter Try.func27, Try.ntmps27
  go_wp2_with fail
  go_loop [5] (fun i => ∃ k : Nat, k ≤ n ∧ i = .int .i64 k ∧ allN k (fun j => !((nthS ss j).toList == t.toList)) = true) (fun i => n - (intOf i).toNat)
  case atStart => exact ⟨0, Nat.zero_le _, rfl, rfl⟩
  case round =>
    obtain ⟨k, hk, rfl, hall⟩ := hrel
    have HA := Lib.hid hall; clear hall
    by_cases hlt : k < n
    · obtain ⟨b, off, rfl, hc⟩ := HX.out.rd.pos hlt
      have hck := hc k hlt
      clear hc
      cases he : ((nthS ss k).toList == t.toList)
      · have N := Lib.hid (allN_step (p := fun j => !((nthS ss j).toList == t.toList)) HA.out (by rw [he]; rfl))
        go_wp2_with fail
        go_round
        case rel => exact ⟨k + 1, by omega, by go_num, N.out⟩
        case measure => simp [intOf]; omega
      · have N := Lib.hid (hasS_at hlt he)
        go_wp2_with fail
        go_ret
        exact ⟨ret_bool N.out.symm, rfl⟩
    · obtain rfl : k = n := by omega
      go_wp2_with fail
      go_ret
      exact ⟨ret_bool (hasS_no HA.out).symm, rfl⟩
theorem sTermsOf_not (x : ConfA) (s : ByteArray) (h : confOk x = false) (w : World) (hx : x.In w) :
    Calls Try.prog 22 #[x.v, .string s] w fun e w' => e = .returned (.slice none 0 0) ∧ Below w.heap.size w w' := by
  have HX := Lib.hid hx
  clear hx
  unfold ConfA.v
  have BW : Hid (Below w.heap.size w (w.alloc (.cells #[.slice x.a x.n x.c, .slice x.b x.m x.d] 30))) := (Below.refl _ _).alloc (Nat.le_refl _) _
  have c0 : Hid ((w.alloc (.cells #[.slice x.a x.n x.c, .slice x.b x.m x.d] 30)).cell? ⟨w.heap.size, 0, none⟩ = some (.slice x.a x.n x.c)) := World.cell?_alloc_at _ _ _ _ rfl
  have c1 : Hid ((w.alloc (.cells #[.slice x.a x.n x.c, .slice x.b x.m x.d] 30)).cell? ⟨w.heap.size, 1, none⟩ = some (.slice x.b x.m x.d)) := World.cell?_alloc_at _ _ _ _ rfl
  have X0 := Lib.hid (HX.out.below BW.out)
  go_enter Try.func22, Try.ntmps22
  go_wp2_with fail
  generalize w.alloc (.cells #[.slice x.a x.n x.c, .slice x.b x.m x.d] 30) = W0 at *
  have CO := Lib.hid (l2Ok_any x W0 X0.out)
  unfold ConfA.v at CO
  rw [h] at CO
  clear h
  have d0 := c0.out
  have d1 := c1.out
  refine CO.out.mono ?_
  clear CO
  rintro e w1 ⟨rfl, hb⟩
  have B1 := Lib.hid (BW.out.trans (hb.mono BW.out.size))
  clear hb d0 d1
  go_wp2_with fail
  go_ret
  exact ⟨rfl, B1.out⟩
theorem tms_nil (w : World) : Tms w none 0 [] := ⟨rfl, fun j => by simp [nthT], Rd.zero⟩
def anyY (ys : List SynA) (t : ByteArray) : Nat → Bool
  | 0 => false
  | k + 1 => anyY ys t k || ((nthY ys k).to.toList == t.toList)
theorem anyY_yes {ys : List SynA} {t : ByteArray} : ∀ {m k : Nat}, k < m → (nthY ys k).to = t → anyY ys t m = true := by
  intro m
  induction m with
  | zero => intro k h _; omega
  | succ m ih =>
    intro k h e
    rw [anyY]
    rcases Nat.lt_or_ge k m with h1 | h1
    · rw [ih h1 e]; rfl
    · obtain rfl : k = m := by omega
      rw [e]; simp
set_option maxRecDepth 100000 in
set_option maxHeartbeats 2000000 in
theorem FnTermsOf_any {w : World} (a : Option Addr) (n cap : Nat) (xs : List Int) (hx : Byts w a n cap xs) (hn : n ≤ maxLen) :
    Calls Try.prog 7 #[.slice a n cap] w fun e w' => e = .returned (.bool true) ∧ Below w.heap.size w w' := by
  have HX := Lib.hid hx; clear hx
  unfold maxLen at hn
  by_cases hlt : (1048576 : Int) < (n : Int)
  · go_enter Try.func7, Try.ntmps7
    go_wp2_with fail
    go_ret
    exact ⟨rfl, Below.refl _ _⟩
  have c4 := cells_word
  have c2 := cells_term
  have c3 : Try.prog.cellsOf 53 = 2 := by kernel_rfl
  go_enter Try.func7, Try.ntmps7
  go_wp2_with fail
  refine (DrawTermsOf_any _ _ _ _ HX.out (by omega)).mono ?_
  rintro e w1 ⟨x, s, rfl, hs, ho, hb⟩
  have XI := Lib.hid ho.in; clear ho
  have B1 := Lib.hid hb; clear hb
  have SM := Lib.hid (show s.size ≤ maxLen by unfold maxLen; omega)
  unfold ConfA.v
  have BA := Lib.hid ((Below.refl w1.heap.size w1).alloc (Nat.le_refl _) (.cells #[.slice x.a x.n x.c, .slice x.b x.m x.d] 30))
  have c0 := Lib.hid (show (w1.alloc (.cells #[.slice x.a x.n x.c, .slice x.b x.m x.d] 30)).cell? ⟨w1.heap.size, 0, none⟩ = some (.slice x.a x.n x.c) from World.cell?_alloc_at _ _ _ _ rfl)
  have c1 := Lib.hid (show (w1.alloc (.cells #[.slice x.a x.n x.c, .slice x.b x.m x.d] 30)).cell? ⟨w1.heap.size, 1, none⟩ = some (.slice x.b x.m x.d) from World.cell?_alloc_at _ _ _ _ rfl)
  have lz : Hid (w1.heap.size < (w1.alloc (.cells #[.slice x.a x.n x.c, .slice x.b x.m x.d] 30)).heap.size) := by show _ < _; simp
  have X2 := Lib.hid (XI.out.below BA.out)
  have B2 := Lib.hid (B1.out.trans (BA.out.mono B1.out.size))
  go_wp2_with fail
  generalize w1.alloc (.cells #[.slice x.a x.n x.c, .slice x.b x.m x.d] 30) = W2 at *
  obtain ⟨D, hD⟩ : ∃ D, D = w1.heap.size := ⟨_, rfl⟩
  rw [← hD] at c0 c1 lz ⊢
  clear hD BA XI B1
  have CI : Hid (∀ w', Below W2.heap.size W2 w' → Calls Try.prog 19 #[.agg #[.slice x.a x.n x.c, .slice x.b x.m x.d], .string s] w' fun e w'' => TermsPost x s w' e w'') := fun w' hb => (TermsOf_any x s SM.out w' (X2.out.below hb)).mono fun e w'' h => terms_told h
  have CS : Hid (∀ w', Below W2.heap.size W2 w' → Calls Try.prog 22 #[.agg #[.slice x.a x.n x.c, .slice x.b x.m x.d], .string s] w' fun e w'' => TermsPost x s w' e w'') := fun w' hb => (sTermsOf_any x s SM.out w' (X2.out.below hb)).mono fun e w'' h => terms_told h
  have CO : Hid (∀ w', Below W2.heap.size W2 w' → Calls Try.prog 13 #[.agg #[.slice x.a x.n x.c, .slice x.b x.m x.d]] w' fun e w'' => e = .returned (.bool (confOk x)) ∧ Below w'.heap.size w' w'') := fun w' hb => ConfOk_any x w' (X2.out.below hb)
  have CP : Hid (∀ w', Below W2.heap.size W2 w' → Calls Try.prog 11 #[.agg #[.slice x.a x.n x.c, .slice x.b x.m x.d]] w' fun e w'' => e = .returned (.bool (confOk x)) ∧ Below w'.heap.size w' w'') := fun w' hb => sConfOk_any x w' (X2.out.below hb)
  have CX : Hid (∀ w', Calls Try.prog 23 #[.string s] w' fun e w'' => e = .returned (.bool (textOk s)) ∧ w' = w'') := fun w' => TextOk_any s w' SM.out
  unfold TermsPost at CI CS
  have NA := termsOf_len x s
  have LA : (termsOf x s).length ≤ maxLen := by unfold maxLen; omega
  have TGD := Lib.hid (fun h h1 i hi => term_good (x := x) (s := s) h h1 (i := i) hi)
  have FEW := Lib.hid (terms_fewer (x := x) (s := s))
  have T0 := Lib.hid (fun (h : confOk x = false) => show termsOf x s = [] by unfold termsOf; rw [h]; rfl)
  obtain ⟨ts, hts⟩ : ∃ ts, ts = termsOf x s := ⟨_, rfl⟩
  rw [← hts] at CI CS NA LA TGD FEW T0
  clear hts
  have e0 := c0.out
  have e1 := c1.out
  refine (CI.out _ (Below.refl _ _)).mono ?_
  rintro e w3 ⟨a3, c3', rfl, ho, hb⟩
  have O3 := Lib.hid ho.tms; clear ho
  have GG := Lib.hid (Below.drew hb)
  have G3 := Lib.hid hb; clear hb e0 e1
  have OO := Lib.hid (O3.out.below (Below.drew (Below.refl _ w3)))
  have f0 := (G3.out.cell lz.out).trans c0.out
  have f1 := (G3.out.cell lz.out).trans c1.out
  cases hok : confOk x
  · have CN : Hid (∀ w', Below W2.heap.size W2 w' → Calls Try.prog 22 #[.agg #[.slice x.a x.n x.c, .slice x.b x.m x.d], .string s] w' fun e w'' => e = .returned (.slice none 0 0) ∧ Below w'.heap.size w' w'') := fun w' hb => sTermsOf_not x s hok w' (X2.out.below hb)
    rw [hok] at CO CP
    have h0 := T0.out hok
    subst h0
    clear hok T0 TGD FEW
    simp only [List.length_nil] at O3 ⊢
    have CF : Hid (∀ w', Below w3.heap.size w3 w' → Calls Try.prog 21 #[.slice a3 0 c3', .slice none 0 0] w' fun e w'' => e = .returned (.bool true) ∧ Drw w' w'') := fun w' hb => foTerms_same a3 0 c3' [] none 0 w' (O3.out.below hb) (tms_nil w') (Nat.zero_le _)
    have GX := Lib.hid G3.out
    have BX := Lib.hid (Below.refl w3.heap.size w3)
    have q0 := cell_regrown f0
    have q1 := cell_regrown f1
    go_wp2_with fail
    refine wp_region_quiet_below (by kernel_rfl) (by kernel_rfl) ?_
    repeat (go_big_quiet_step ((first | (go_at_call 22; exact quiet_b fun w1 hb => CN.out w1 (GX.out.trans (hb.mono GX.out.size))) | (go_at_call 21; exact quiet_bd fun w1 hb => CF.out w1 (BX.out.trans (hb.mono BX.out.size))) | (go_at_call 13; exact quiet_b fun w1 hb => CO.out w1 (GX.out.trans (hb.mono GX.out.size))) | (go_at_call 11; exact quiet_b fun w1 hb => CP.out w1 (GX.out.trans (hb.mono GX.out.size))))))
    refine wpQuiet_nil ?_
    intro wq hqq
    have BQ := Lib.hid (quiet_out hqq)
    clear hqq
    have GX := Lib.hid (G3.out.trans (BQ.out.mono G3.out.size))
    have BX := Lib.hid BQ.out
    have f0 := (GX.out.cell lz.out).trans c0.out
    have f1 := (GX.out.cell lz.out).trans c1.out
    clear q0 q1
    have q0 := cell_regrown f0
    have q1 := cell_regrown f1
    go_wp2_with fail
    refine wp_region_quiet_below (by kernel_rfl) (by kernel_rfl) ?_
    repeat (go_big_quiet_step ((first | (go_at_call 22; exact quiet_b fun w1 hb => CN.out w1 (GX.out.trans (hb.mono GX.out.size))) | (go_at_call 21; exact quiet_bd fun w1 hb => CF.out w1 (BX.out.trans (hb.mono BX.out.size))) | (go_at_call 13; exact quiet_b fun w1 hb => CO.out w1 (GX.out.trans (hb.mono GX.out.size))) | (go_at_call 11; exact quiet_b fun w1 hb => CP.out w1 (GX.out.trans (hb.mono GX.out.size))))))
    refine wpQuiet_nil ?_
    intro wz hqq
    have BZ := Lib.hid (quiet_out hqq)
    clear hqq
    have GZ := Lib.hid (GX.out.trans (BZ.out.mono GX.out.size))
    go_wp2_with fail
    go_ret
    exact ⟨rfl, B2.out.trans (GZ.out.mono B2.out.size)⟩
  rw [hok] at CO CP
  cases htx : textOk s
  · rw [htx] at CX
    clear hok htx
    go_wp2_with fail
    first
      | go_region_held3 (fun w' => w'.cell? ⟨D, 0, none⟩ = some (.slice x.a x.n x.c) ∧ w'.cell? ⟨D, 1, none⟩ = some (.slice x.b x.m x.d)) (first | exact ⟨f0, f1⟩ | exact ⟨by assumption, by assumption⟩)
          (first
          | (go_at_call 22; refine (CS.out _ GG.out).mono ?_; rintro e w5 ⟨a5, c5, rfl, ho, hb⟩; have PP := Lib.hid ho.tms; have OO := Lib.hid (OO.out.below hb); have GG := Lib.hid (GG.out.trans (hb.mono GG.out.size)); have f0 := (GG.out.cell lz.out).trans c0.out; have f1 := (GG.out.cell lz.out).trans c1.out; clear ho hb)
          | (go_at_call 21; refine (foTerms_same _ _ _ _ _ _ _ OO.out PP.out LA).mono ?_; rintro e w6 ⟨rfl, q6, rfl⟩; have OO := Lib.hid (OO.out.drewN q6); have GG := Lib.hid (below_drewN GG.out q6); have f0 := (GG.out.cell lz.out).trans c0.out; have f1 := (GG.out.cell lz.out).trans c1.out)
          | (go_at_call 13; refine (CO.out _ GG.out).mono ?_; rintro e w7 ⟨rfl, hb⟩; have OO := Lib.hid (OO.out.below hb); have GG := Lib.hid (GG.out.trans (hb.mono GG.out.size)); have f0 := (GG.out.cell lz.out).trans c0.out; have f1 := (GG.out.cell lz.out).trans c1.out; clear hb)
          | (go_at_call 11; refine (CP.out _ GG.out).mono ?_; rintro e w8 ⟨rfl, hb⟩; have OO := Lib.hid (OO.out.below hb); have GG := Lib.hid (GG.out.trans (hb.mono GG.out.size)); have f0 := (GG.out.cell lz.out).trans c0.out; have f1 := (GG.out.cell lz.out).trans c1.out; clear hb)
          | (go_at_call 23; refine (CX.out _).mono ?_; rintro e w9 ⟨rfl, rfl⟩))
      | fail
    all_goals
      have GG := Lib.hid (Below.drew GG.out)
      have OO := Lib.hid (OO.out.below (Below.drew (Below.refl _ _)))
      go_simp
      go_wp2_with fail
      first
        | go_region_held3 (fun w' => w'.cell? ⟨D, 0, none⟩ = some (.slice x.a x.n x.c) ∧ w'.cell? ⟨D, 1, none⟩ = some (.slice x.b x.m x.d)) (first | exact ⟨f0, f1⟩ | exact ⟨by assumption, by assumption⟩)
            (first
            | (go_at_call 22; refine (CS.out _ GG.out).mono ?_; rintro e w5 ⟨a5, c5, rfl, ho, hb⟩; have PP := Lib.hid ho.tms; have OO := Lib.hid (OO.out.below hb); have GG := Lib.hid (GG.out.trans (hb.mono GG.out.size)); have f0 := (GG.out.cell lz.out).trans c0.out; have f1 := (GG.out.cell lz.out).trans c1.out; clear ho hb)
            | (go_at_call 21; refine (foTerms_same _ _ _ _ _ _ _ OO.out PP.out LA).mono ?_; rintro e w6 ⟨rfl, q6, rfl⟩; have OO := Lib.hid (OO.out.drewN q6); have GG := Lib.hid (below_drewN GG.out q6); have f0 := (GG.out.cell lz.out).trans c0.out; have f1 := (GG.out.cell lz.out).trans c1.out)
            | (go_at_call 13; refine (CO.out _ GG.out).mono ?_; rintro e w7 ⟨rfl, hb⟩; have OO := Lib.hid (OO.out.below hb); have GG := Lib.hid (GG.out.trans (hb.mono GG.out.size)); have f0 := (GG.out.cell lz.out).trans c0.out; have f1 := (GG.out.cell lz.out).trans c1.out; clear hb)
            | (go_at_call 11; refine (CP.out _ GG.out).mono ?_; rintro e w8 ⟨rfl, hb⟩; have OO := Lib.hid (OO.out.below hb); have GG := Lib.hid (GG.out.trans (hb.mono GG.out.size)); have f0 := (GG.out.cell lz.out).trans c0.out; have f1 := (GG.out.cell lz.out).trans c1.out; clear hb)
            | (go_at_call 23; refine (CX.out _).mono ?_; rintro e w9 ⟨rfl, rfl⟩))
        | fail
      all_goals
        go_wp2_with fail
        go_ret
        exact ⟨rfl, B2.out.trans (GG.out.mono B2.out.size)⟩
  rw [htx] at CX
  have TG := Lib.hid (fun i hi => TGD.out hok htx i hi)
  clear TGD
  have HOK := Lib.hid hok
  clear hok htx
  go_wp2_with fail
  first
    | go_region_held3 (fun w' => w'.cell? ⟨D, 0, none⟩ = some (.slice x.a x.n x.c) ∧ w'.cell? ⟨D, 1, none⟩ = some (.slice x.b x.m x.d)) (first | exact ⟨f0, f1⟩ | exact ⟨by assumption, by assumption⟩)
        (first
        | (go_at_call 22; refine (CS.out _ GG.out).mono ?_; rintro e w5 ⟨a5, c5, rfl, ho, hb⟩; have PP := Lib.hid ho.tms; have OO := Lib.hid (OO.out.below hb); have GG := Lib.hid (GG.out.trans (hb.mono GG.out.size)); have f0 := (GG.out.cell lz.out).trans c0.out; have f1 := (GG.out.cell lz.out).trans c1.out; clear ho hb)
        | (go_at_call 21; refine (foTerms_same _ _ _ _ _ _ _ OO.out PP.out LA).mono ?_; rintro e w6 ⟨rfl, q6, rfl⟩; have OO := Lib.hid (OO.out.drewN q6); have GG := Lib.hid (below_drewN GG.out q6); have f0 := (GG.out.cell lz.out).trans c0.out; have f1 := (GG.out.cell lz.out).trans c1.out)
        | (go_at_call 13; refine (CO.out _ GG.out).mono ?_; rintro e w7 ⟨rfl, hb⟩; have OO := Lib.hid (OO.out.below hb); have GG := Lib.hid (GG.out.trans (hb.mono GG.out.size)); have f0 := (GG.out.cell lz.out).trans c0.out; have f1 := (GG.out.cell lz.out).trans c1.out; clear hb)
        | (go_at_call 11; refine (CP.out _ GG.out).mono ?_; rintro e w8 ⟨rfl, hb⟩; have OO := Lib.hid (OO.out.below hb); have GG := Lib.hid (GG.out.trans (hb.mono GG.out.size)); have f0 := (GG.out.cell lz.out).trans c0.out; have f1 := (GG.out.cell lz.out).trans c1.out; clear hb)
        | (go_at_call 23; refine (CX.out _).mono ?_; rintro e w9 ⟨rfl, rfl⟩))
    | fail
  have WF := Lib.hid (fun j => nthW_fit (wordsOf_fit s) j)
  have NW := wordsOf_len s
  obtain ⟨ws, hws⟩ : ∃ ws, ws = wordsOf s := ⟨_, rfl⟩
  have CW : Hid (∀ w', Calls Try.prog 24 #[.string s] w' fun e w'' => ∃ a' c', e = .returned (.slice a' ws.length c') ∧ OwnWds w'' w'.heap.size a' ws.length c' ws ∧ Below w'.heap.size w' w'') := fun w' => by rw [hws]; exact WordsOf_any s SM.out w'
  rw [← hws] at TG WF NW FEW
  clear hws
  obtain ⟨N, hN⟩ : ∃ N, N = ts.length := ⟨_, rfl⟩
  rw [← hN] at OO NA FEW TG ⊢
  clear hN
  go_simp
  go_wp2_with fail
  refine (CW.out _).mono ?_
  rintro e w10 ⟨aW, cW, rfl, ho, hb⟩
  have W10 := Lib.hid ho.wds; clear ho
  have O10 := Lib.hid (OO.out.below hb)
  have G10 := Lib.hid (GG.out.trans (hb.mono GG.out.size)); clear hb
  clear f0 f1
  go_wp2_with fail
  go_loopw [7] (fun i wr => ∃ k : Nat, k ≤ N ∧ i = .int .i64 k ∧ Below w10.heap.size w10 wr) (fun i _ => N - (intOf i).toNat)
  case atStart => exact ⟨0, Nat.zero_le _, rfl, Below.refl _ _⟩
  case round =>
    obtain ⟨k, hk, rfl, hb⟩ := hrel
    have HB := Lib.hid hb; clear hb
    by_cases hlk : k < N
    · obtain ⟨b1, o1, hb1, hc1⟩ := (O10.out.below HB.out).pos hlk
      obtain ⟨x0, x1⟩ := hc1 k hlk
      have xp : 0 < k → wr.cell? ⟨b1, o1 + (k - 1) * 2 + 1, none⟩ = some (.int .i64 (nthT ts (k - 1)).at_) := fun h => (hc1 (k - 1) (by omega)).2
      obtain ⟨b2, o2, hb2, hc2⟩ := (W10.out.below HB.out).pos (TG.out k hlk).1
      obtain ⟨y0, -, -, -⟩ := hc2 _ (TG.out k hlk).1
      rw [hb1, hb2]
      have H1 := Lib.hid hb1; have H2 := Lib.hid hb2
      clear hc1 hc2 hb1 hb2
      obtain ⟨t1, t2, -, t4, t5⟩ := TG.out k hlk
      have T5 := Lib.hid t5; clear t5
      have FT := Lib.hid ((O10.out.fit k).1)
      have f1 := (O10.out.fit k).2
      have pz : 0 < k → (nthT ts (k - 1)).at_ < (nthT ts k).at_ := fun h => t2 (k - 1) (by omega)
      clear t2
      obtain ⟨A, hA⟩ : ∃ A, A = (nthT ts k).at_ := ⟨_, rfl⟩
      obtain ⟨Z, hZ⟩ : ∃ Z, Z = (nthT ts (k - 1)).at_ := ⟨_, rfl⟩
      obtain ⟨T, hT⟩ : ∃ T, T = (nthT ts k).text := ⟨_, rfl⟩
      rw [← hA] at x1 t1 y0 T5 f1 pz
      rw [← hZ] at xp pz
      rw [← hT] at x0 t4 T5 FT
      clear hA hZ hT
      have FW := Lib.hid (show (nthW ws A).text.size ≤ maxLen by have := WF.out A; unfold maxLen; omega)
      obtain ⟨U, hU⟩ : ∃ U, U = (nthW ws A).text := ⟨_, rfl⟩
      rw [← hU] at y0 T5 FW
      clear hU
      have CST : Hid (∀ w1, Calls Try.prog 25 #[.string T] w1 fun e w' => e = .returned (.string T) ∧ Below w1.heap.size w1 w') := fun w1 => by have := StemOf_any T FT.out w1; rwa [t4] at this
      clear t4
      have v1 : (0 : Int) ≤ (k : Int) := by omega
      have v2 : (k : Int) < (N : Int) := by omega
      go_wp2_with fail
      have BD := Lib.hid ((Below.refl wr.heap.size wr).alloc (Nat.le_refl _) (.cells #[.string T, .int .i64 (A : Int)] 42))
      have d0 := show (wr.alloc (.cells #[.string T, .int .i64 (A : Int)] 42)).cell? ⟨wr.heap.size, 0, none⟩ = some (.string T) from World.cell?_alloc_at _ _ _ _ rfl
      have d1 := show (wr.alloc (.cells #[.string T, .int .i64 (A : Int)] 42)).cell? ⟨wr.heap.size, 1, none⟩ = some (.int .i64 (A : Int)) from World.cell?_alloc_at _ _ _ _ rfl
      have ld : Hid (wr.heap.size < (wr.alloc (.cells #[.string T, .int .i64 (A : Int)] 42)).heap.size) := by show _ < _; simp
      have y0' := (BD.out.cell (World.block_lt_of_cell? wr _ y0)).trans y0
      have xp' := fun h => (BD.out.cell (World.block_lt_of_cell? wr _ (xp h))).trans (xp h)
      generalize wr.alloc (.cells #[.string T, .int .i64 (A : Int)] 42) = Wd at *
      have HBd := Lib.hid (HB.out.trans (BD.out.mono HB.out.size))
      obtain ⟨D2, hD2⟩ : ∃ D2, D2 = wr.heap.size := ⟨_, rfl⟩
      rw [← hD2] at d0 d1 ld ⊢
      have Y0 := Lib.hid y0'
      clear hD2 x0 x1 y0 y0' xp
      have q0 := cell_regrown d0
      have q1 := cell_regrown d1
      have g1 : decide ((A : Int) < 0) = false := decide_eq_false (by omega)
      have g2 : decide (ws.length ≤ A) = false := decide_eq_false (by omega)
      have hns : (T.toList != T.toList) = false := by simp
      have CONT : ∀ wq, Hid (Below Wd.heap.size Wd wq) → Hid (Below w10.heap.size w10 wq ∧ wq.cell? ⟨D2, 0, none⟩ = some (.string T) ∧ wq.cell? ⟨D2, 1, none⟩ = some (.int .i64 (A : Int))) := fun wq hb => ⟨HBd.out.trans (hb.out.mono HBd.out.size), (hb.out.cell ld.out).trans d0, (hb.out.cell ld.out).trans d1⟩
      have G12 := Lib.hid (G10.out.trans (HBd.out.mono G10.out.size))
      go_upto_region 12 with fail
      go_cut [101] (fun v wx => v = .bool false ∧ Below Wd.heap.size Wd wx)
      case first =>
        by_cases h0 : k = 0
        · subst h0
          have g3 : decide ((0 : Int) < ((0 : Nat) : Int)) = false := rfl
          refine wp_region_quiet_below (by kernel_rfl) (by kernel_rfl) ?_
          repeat (go_big_quiet_step ((go_at_call 25; exact quiet_b fun w1 _ => CST.out w1)))
          refine wpQuiet_nil ?_
          intro wq hqq
          have BQ := Lib.hid (quiet_out hqq)
          clear hqq
          go_wp2_with fail
          go_meet
          exact ⟨rfl, BQ.out⟩
        · have h0' : 0 < k := by omega
          have q3 := cell_regrown (xp' h0')
          have g3 : decide (0 < k) = true := decide_eq_true h0'
          have g4 : decide (A ≤ Z) = false := decide_eq_false (by have := pz h0'; omega)
          have wk : IntKind.i64.wrap ((k : Int) - 1) = (k : Int) - 1 := IntWalk.i64_in _ (by omega)
          have wp : (0 : Int) ≤ (k : Int) - 1 := by omega
          have wq' : ((k : Int) - 1).toNat = k - 1 := by omega
          have wl : (k : Int) - 1 < (N : Int) := by omega
          have w1' : (1 : Int) ≤ (k : Int) := by omega
          have w2' : (k : Int) ≤ (N : Int) := by omega
          clear h0 pz xp'
          refine wp_region_quiet_below (by kernel_rfl) (by kernel_rfl) ?_
          repeat (go_big_quiet_step ((go_at_call 25; exact quiet_b fun w1 _ => CST.out w1)))
          refine wpQuiet_nil ?_
          intro wq hqq
          have BQ := Lib.hid (quiet_out hqq)
          clear hqq
          go_wp2_with fail
          go_meet
          exact ⟨rfl, BQ.out⟩
      case rest =>
        obtain ⟨rfl, hbw⟩ := hcut
        have HCC := Lib.hid (CONT _ (Lib.hid hbw)).out
        have BQ := Lib.hid hbw
        clear hbw q0 q1 d0 d1 xp' pz g1 g2 CONT
        obtain ⟨wo, hwo⟩ : ∃ wo : World, wo = wc := ⟨_, rfl⟩
        rw [← hwo] at HCC BQ ⊢
        clear hwo
        have GO := Lib.hid (G10.out.trans (HCC.out.1.mono G10.out.size))
        have lo := Lib.hid (World.block_lt_of_cell? wo _ HCC.out.2.1)
        have hxm := X2.out.hm
        unfold maxLen at hxm
        go_wp2_with fail
        go_loopw [9, 10] (fun v i wi => ∃ j : Nat, j ≤ x.m ∧ i = .int .i64 j ∧ v = .bool (anyY x.ys T j) ∧ Below wo.heap.size wo wi) (fun _ i _ => x.m - (intOf i).toNat)
        case atStart => exact ⟨0, Nat.zero_le _, rfl, rfl, Below.refl _ _⟩
        case round =>
          obtain ⟨j, hj, rfl, rfl, hbj⟩ := hrel
          have HJ := Lib.hid hbj; clear hbj
          have GJ := Lib.hid (GO.out.trans (HJ.out.mono GO.out.size))
          have e1 := (GJ.out.cell lz.out).trans c1.out
          have d0 := (HJ.out.cell lo.out).trans HCC.out.2.1
          by_cases hlj : j < x.m
          · obtain ⟨gy, oy, hgy, hcy⟩ := (X2.out.y.below GJ.out).pos hlj
            obtain ⟨-, y1⟩ := hcy j hlj
            rw [hgy] at e1
            clear hcy hgy
            have q0 := cell_regrown d0
            have q1 := cell_regrown e1
            have q2 := cell_regrown y1
            have u1 : (0 : Int) ≤ (j : Int) := by omega
            have u2 : (j : Int) < (x.m : Int) := by omega
            have ST := Lib.hid (show anyY x.ys T (j + 1) = (anyY x.ys T j || ((nthY x.ys j).to.toList == T.toList)) from rfl)
            obtain ⟨P, hP⟩ : ∃ P, P = anyY x.ys T j := ⟨_, rfl⟩
            rw [← hP] at ST ⊢
            clear hP
            cases P
            · cases he : ((nthY x.ys j).to.toList == T.toList)
              · have NX := Lib.hid (show false = anyY x.ys T (j + 1) by rw [ST.out, he]; rfl)
                go_wp2_with fail
                refine wp_region_quiet_below (by kernel_rfl) (by kernel_rfl) ?_
                repeat (go_big_quiet_step (fail))
                refine wpQuiet_nil ?_
                intro wq hqq
                have BJ := Lib.hid (quiet_out hqq)
                clear hqq
                have BK := Lib.hid (HJ.out.trans (BJ.out.mono HJ.out.size))
                go_wp2_with fail
                go_roundw
                case rel => exact ⟨j + 1, by omega, by go_num, by rw [← NX.out], BK.out⟩
                case measure => simp [intOf]; omega
              · have NX := Lib.hid (show true = anyY x.ys T (j + 1) by rw [ST.out, he]; rfl)
                go_wp2_with fail
                refine wp_region_quiet_below (by kernel_rfl) (by kernel_rfl) ?_
                repeat (go_big_quiet_step (fail))
                refine wpQuiet_nil ?_
                intro wq hqq
                have BJ := Lib.hid (quiet_out hqq)
                clear hqq
                have BK := Lib.hid (HJ.out.trans (BJ.out.mono HJ.out.size))
                go_wp2_with fail
                go_roundw
                case rel => exact ⟨j + 1, by omega, by go_num, by rw [← NX.out], BK.out⟩
                case measure => simp [intOf]; omega
            · have NX := Lib.hid (show true = anyY x.ys T (j + 1) by rw [ST.out]; rfl)
              go_wp2_with fail
              refine wp_region_quiet_below (by kernel_rfl) (by kernel_rfl) ?_
              repeat (go_big_quiet_step (fail))
              refine wpQuiet_nil ?_
              intro wq hqq
              have BJ := Lib.hid (quiet_out hqq)
              clear hqq
              have BK := Lib.hid (HJ.out.trans (BJ.out.mono HJ.out.size))
              go_wp2_with fail
              go_roundw
              case rel => exact ⟨j + 1, by omega, by go_num, by rw [← NX.out], BK.out⟩
              case measure => simp [intOf]; omega
          · obtain rfl : j = x.m := by omega
            have e0 := (GJ.out.cell lz.out).trans c0.out
            have y0 := (HJ.out.cell (World.block_lt_of_cell? wo _ ((BQ.out.cell (World.block_lt_of_cell? Wd _ Y0.out)).trans Y0.out))).trans ((BQ.out.cell (World.block_lt_of_cell? Wd _ Y0.out)).trans Y0.out)
            have d1 := (HJ.out.cell lo.out).trans HCC.out.2.2
            have q0 := cell_regrown d0
            have q1 := cell_regrown d1
            have q2 := cell_regrown e0
            have q3 := cell_regrown y0
            have u1 : (0 : Int) ≤ (A : Int) := by omega
            have u2 : (A : Int) < (ws.length : Int) := by omega
            have WJ := Lib.hid (HCC.out.1.trans (HJ.out.mono HCC.out.1.size))
            cases hP : anyY x.ys T x.m
            · have hsec : hasS x.n x.ss T = false ∧ stemOf U = T := by
                rcases T5.out with ⟨k', hk', e'⟩ | h
                · rw [anyY_yes hk' e'] at hP; cases hP
                · exact h
              have CU : Hid (∀ w1, Calls Try.prog 25 #[.string U] w1 fun e w' => e = .returned (.string T) ∧ Below w1.heap.size w1 w') := fun w1 => by have := StemOf_any U FW.out w1; rwa [hsec.2] at this
              have CF : Hid (∀ w1, Below W2.heap.size W2 w1 → Calls Try.prog 27 #[.slice x.a x.n x.c, .string T] w1 fun e w' => e = .returned (.bool false) ∧ w1 = w') := fun w1 hb => by have := foHas_any x.a x.n x.c x.ss T w1 (X2.out.s.below hb) X2.out.hn; rwa [hsec.1] at this
              clear hsec
              go_wp2_with fail
              refine wp_region_quiet_below (by kernel_rfl) (by kernel_rfl) ?_
              repeat (go_big_quiet_step ((first | (go_at_call 25; exact quiet_b fun w1 _ => CU.out w1) | (go_at_call 27; exact quiet_bs fun w1 hb => CF.out _ (GJ.out.trans (hb.mono GJ.out.size))))))
              refine wpQuiet_nil ?_
              intro wq hqq
              have BF := Lib.hid (quiet_out hqq)
              clear hqq
              have BK := Lib.hid (WJ.out.trans (BF.out.mono WJ.out.size))
              go_wp2_with fail
              go_roundw
              case rel => exact ⟨k + 1, by omega, by go_num, BK.out⟩
              case measure => simp [intOf]; omega
            · go_wp2_with fail
              refine wp_region_quiet_below (by kernel_rfl) (by kernel_rfl) ?_
              repeat (go_big_quiet_step (fail))
              refine wpQuiet_nil ?_
              intro wq hqq
              have BF := Lib.hid (quiet_out hqq)
              clear hqq
              have BK := Lib.hid (WJ.out.trans (BF.out.mono WJ.out.size))
              go_wp2_with fail
              go_roundw
              case rel => exact ⟨k + 1, by omega, by go_num, BK.out⟩
              case measure => simp [intOf]; omega
    · have hle : (N : Int) ≤ (ws.length : Int) := by have := FEW.out; omega
      go_wp2_with fail
      go_ret
      exact ⟨rfl, B2.out.trans ((G10.out.trans (HB.out.mono G10.out.size)).mono B2.out.size)⟩
end Go.Proofs.Ytejooloflcldiaa
