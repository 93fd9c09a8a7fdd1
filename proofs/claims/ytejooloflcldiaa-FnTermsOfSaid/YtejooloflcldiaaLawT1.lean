/- The laws on the term of a word, and on terms where no words are passed over and none stand for others. Conditions: what is read fits the model's sizes. -/
import Derived.Test.YtejooloflcldiaaTermLaw
import Derived.Test.YtejooloflcldiaaTermH
import Derived.Test.YtejooloflcldiaaConfG
import Derived.Test.YtejooloflcldiaaQuiet
namespace Go.Proofs.Ytejooloflcldiaa
open Go.RowKit Go.Sort
theorem foTerms_same (a : Option Addr) (n c : Nat) (ts : List Tm) (b : Option Addr) (d : Nat) (w : World) (hx : Tms w a n ts) (hy : Tms w b n ts) (hn : n ≤ maxLen) :
    Calls Try.prog 21 #[.slice a n c, .slice b n d] w fun e w' => e = .returned (.bool true) ∧ Drw w w' := by
  have HX := Lib.hid hx; clear hx
  have HY := Lib.hid hy; clear hy
  unfold maxLen at hn
  have c4 := cells_term
  go_enter Try.func21, Try.ntmps21
  go_wp2_with fail
  go_loopw [5] (fun i wr => ∃ k : Nat, k ≤ n ∧ i = .int .i64 k ∧ Drw w wr) (fun i _ => n - (intOf i).toNat)
  case atStart => exact ⟨0, Nat.zero_le _, rfl, Drw.refl _⟩
  case round =>
    obtain ⟨k, hk, rfl, q, rfl⟩ := hrel
    by_cases hlt : k < n
    · obtain ⟨b1, o1, rfl, hc1⟩ := HX.out.pos hlt
      obtain ⟨x0, x1⟩ := hc1 k hlt
      obtain ⟨b2, o2, rfl, hc2⟩ := HY.out.pos hlt
      obtain ⟨y0, y1⟩ := hc2 k hlt
      clear hc1 hc2
      go_wp2_with fail
      go_quiet (fail)
      go_wp2_with fail
      go_roundw
      case rel => exact ⟨k + 1, by omega, by go_num, (by first | exact Drw.refl _ | exact Drw.mk _ _ | exact (Drw.mk _ _).trans (Drw.mk _ _) | exact ((Drw.mk _ _).trans (Drw.mk _ _)).trans (Drw.mk _ _))⟩
      case measure => simp [intOf]; omega
    · go_wp2_with fail
      go_ret
      exact ⟨rfl, (by first | exact Drw.refl _ | exact Drw.mk _ _ | exact (Drw.mk _ _).trans (Drw.mk _ _) | exact ((Drw.mk _ _).trans (Drw.mk _ _)).trans (Drw.mk _ _))⟩
theorem Tms.drewN {w : World} {a : Option Addr} {n : Nat} {ts : List Tm} (h : Tms w a n ts) (q : Nat) : Tms (w.drewN q) a n ts := ⟨h.len, h.fit, h.rd⟩
theorem bareC_in (w : World) : bareC.In w := ⟨⟨rfl, fun j => by simp [nthS, bareC], Rd.zero⟩, ⟨rfl, fun j hj => by simp [bareC] at hj, Rd.zero⟩, Nat.zero_le _, Nat.zero_le _⟩
set_option maxRecDepth 100000 in
set_option maxHeartbeats 2000000 in
theorem FnTermOf_any {w : World} (a : Option Addr) (n cap : Nat) (xs : List Int) (hx : Byts w a n cap xs) (hn : n ≤ maxLen) :
    Calls Try.prog 4 #[.slice a n cap] w fun e w' => e = .returned (.bool true) ∧ Below w.heap.size w w' := by
  have HX := Lib.hid hx; clear hx
  unfold maxLen at hn
  by_cases hlt : (1048576 : Int) < (n : Int)
  · go_enter Try.func4, Try.ntmps4
    go_wp2_with fail
    go_ret
    exact ⟨rfl, Below.refl _ _⟩
  go_enter Try.func4, Try.ntmps4
  go_wp2_with fail
  refine (DrawTermOf_any _ _ _ _ HX.out (by omega)).mono ?_
  rintro e w1 ⟨x, s, rfl, hs, ho, hb⟩
  have XI := Lib.hid ho.in; clear ho
  have B1 := Lib.hid hb; clear hb
  have SM := Lib.hid (show s.size ≤ maxLen by unfold maxLen; omega)
  unfold ConfA.v
  go_wp2_with fail
  have BA := Lib.hid ((Below.refl w1.heap.size w1).alloc (Nat.le_refl _) (.cells #[.slice x.a x.n x.c, .slice x.b x.m x.d] 30))
  have c0 := Lib.hid (show (w1.alloc (.cells #[.slice x.a x.n x.c, .slice x.b x.m x.d] 30)).cell? ⟨w1.heap.size, 0, none⟩ = some (.slice x.a x.n x.c) from World.cell?_alloc_at _ _ _ _ rfl)
  have c1 := Lib.hid (show (w1.alloc (.cells #[.slice x.a x.n x.c, .slice x.b x.m x.d] 30)).cell? ⟨w1.heap.size, 1, none⟩ = some (.slice x.b x.m x.d) from World.cell?_alloc_at _ _ _ _ rfl)
  have lz : Hid (w1.heap.size < (w1.alloc (.cells #[.slice x.a x.n x.c, .slice x.b x.m x.d] 30)).heap.size) := by show _ < _; simp
  have X2 := Lib.hid (XI.out.below BA.out)
  have B2 := Lib.hid (B1.out.trans (BA.out.mono B1.out.size))
  generalize w1.alloc (.cells #[.slice x.a x.n x.c, .slice x.b x.m x.d] 30) = W2 at *
  obtain ⟨D, hD⟩ : ∃ D, D = w1.heap.size := ⟨_, rfl⟩
  rw [← hD] at c0 c1 lz ⊢
  clear hD BA XI B1
  have CT : Hid (∀ w', Below W2.heap.size W2 w' → Calls Try.prog 16 #[.agg #[.slice x.a x.n x.c, .slice x.b x.m x.d], .string s] w' fun e w'' => e = .returned (.string (termOf x s)) ∧ Below w'.heap.size w' w'') := fun w' hb => TermOf_any x s SM.out w' (X2.out.below hb)
  have CS : Hid (∀ w', Below W2.heap.size W2 w' → Calls Try.prog 17 #[.agg #[.slice x.a x.n x.c, .slice x.b x.m x.d], .string s] w' fun e w'' => e = .returned (.string (termOf x s)) ∧ Below w'.heap.size w' w'') := fun w' hb => sTermOf_any x s SM.out w' (X2.out.below hb)
  have CO : Hid (∀ w', Below W2.heap.size W2 w' → Calls Try.prog 13 #[.agg #[.slice x.a x.n x.c, .slice x.b x.m x.d]] w' fun e w'' => e = .returned (.bool (confOk x)) ∧ Below w'.heap.size w' w'') := fun w' hb => ConfOk_any x w' (X2.out.below hb)
  have CL : Hid (∀ w', Below W2.heap.size W2 w' → Calls Try.prog 19 #[.agg #[.slice x.a x.n x.c, .slice x.b x.m x.d], .string s] w' fun e w'' => TermsPost x s w' e w'') := fun w' hb => (TermsOf_any x s SM.out w' (X2.out.below hb)).mono fun e w'' h => terms_told h
  have TW := Lib.hid (fun h h1 => termOf_word (x := x) (s := s) h h1)
  have TG := Lib.hid (fun h h1 => term_good (x := x) (s := s) h (word_textOk h1) (i := 0))
  obtain ⟨T, hT⟩ : ∃ T, T = termOf x s := ⟨_, rfl⟩
  rw [← hT] at CT CS TW
  clear hT
  have hne : (T.toList != T.toList) = false := by simp
  have heq : (T.toList == T.toList) = true := by simp
  have e0 := c0.out
  have e1 := c1.out
  go_wp2_with fail
  refine (CT.out _ (Below.refl _ _)).mono ?_
  rintro e w3 ⟨rfl, hb⟩
  have G3 := Lib.hid hb; clear hb
  have e0 := (G3.out.cell lz.out).trans c0.out
  have e1 := (G3.out.cell lz.out).trans c1.out
  go_wp2_with fail
  refine (CS.out _ G3.out).mono ?_
  rintro e w4 ⟨rfl, hb⟩
  have G4 := Lib.hid (G3.out.trans (hb.mono G3.out.size)); clear hb
  have e0 := (G4.out.cell lz.out).trans c0.out
  have e1 := (G4.out.cell lz.out).trans c1.out
  go_wp2_with fail
  refine (CO.out _ G4.out).mono ?_
  rintro e w5 ⟨rfl, hb⟩
  have G5 := Lib.hid (G4.out.trans (hb.mono G4.out.size)); clear hb
  have e0 := (G5.out.cell lz.out).trans c0.out
  have e1 := (G5.out.cell lz.out).trans c1.out
  cases hok : confOk x
  · go_wp2_with fail
    refine (CS.out _ G5.out).mono ?_
    rintro e w6 ⟨rfl, hb⟩
    have G6 := Lib.hid (G5.out.trans (hb.mono G5.out.size)); clear hb
    go_wp2_with fail
    go_ret
    exact ⟨rfl, B2.out.trans (G6.out.mono B2.out.size)⟩
  · go_wp2_with fail
    refine (WordOk_any _ SM.out _).mono ?_
    rintro e w6 ⟨rfl, rfl⟩
    cases hwo : wordOk s
    · go_wp2_with fail
      refine (CS.out _ G5.out).mono ?_
      rintro e w6 ⟨rfl, hb⟩
      have G6 := Lib.hid (G5.out.trans (hb.mono G5.out.size)); clear hb
      go_wp2_with fail
      go_ret
      exact ⟨rfl, B2.out.trans (G6.out.mono B2.out.size)⟩
    · have hcase := TW.out hok hwo
      have TG2 := Lib.hid (TG.out hok hwo)
      clear hok hwo TW TG
      have HC := Lib.hid hcase; clear hcase
      go_wp2_with fail
      refine (CL.out _ G5.out).mono ?_
      rintro e w6 ⟨a', c', rfl, ho, hb⟩
      have G6 := Lib.hid (G5.out.trans (hb.mono G5.out.size)); clear hb
      have O6 := Lib.hid ho; clear ho
      rcases HC.out with ⟨h1, h2⟩ | h1
      · subst h2
        rw [h1] at O6 ⊢
        have t1 : ByteArray.empty.toList = [] := by rw [ByteArray.toList_eq]; rfl
        clear h1
        go_wp2_with fail
        go_ret
        exact ⟨rfl, B2.out.trans (G6.out.mono B2.out.size)⟩
      · rw [h1] at O6 TG2 ⊢
        have hpos := (word_bytes (TG2.out Nat.one_pos).2.2.1).2.1
        obtain ⟨t1, t2⟩ := str_nonempty (show 0 < T.size from hpos)
        obtain ⟨b, off, rfl, hc⟩ := O6.out.tms.pos (show 0 < [(⟨T, 0⟩ : Tm)].length from Nat.one_pos)
        obtain ⟨y0, y1⟩ := hc 0 Nat.one_pos
        rw [Nat.zero_mul, Nat.add_zero] at y0 y1
        have y0 : w6.cell? ⟨b, off, none⟩ = some (.string T) := y0
        have y1 : w6.cell? ⟨b, off + 1, none⟩ = some (.int .i64 0) := y1
        clear hc h1 hpos
        go_wp2_with fail
        go_ret
        exact ⟨rfl, B2.out.trans (G6.out.mono B2.out.size)⟩
set_option maxRecDepth 100000 in
set_option maxHeartbeats 2000000 in
theorem FnTermsBare_any {w : World} (a : Option Addr) (n cap : Nat) (xs : List Int) (hx : Byts w a n cap xs) (hn : n ≤ maxLen) :
    Calls Try.prog 5 #[.slice a n cap] w fun e w' => e = .returned (.bool true) ∧ Below w.heap.size w w' := by
  have HX := Lib.hid hx; clear hx
  unfold maxLen at hn
  by_cases hlt : (1048576 : Int) < (n : Int)
  · go_enter Try.func5, Try.ntmps5
    go_wp2_with fail
    go_ret
    exact ⟨rfl, Below.refl _ _⟩
  have c4 := cells_word
  have c2 := cells_term
  go_enter Try.func5, Try.ntmps5
  go_wp2_with fail
  refine (DrawTermsOf_any _ _ _ _ HX.out (by omega)).mono ?_
  rintro e w1 ⟨x, s, rfl, hs, ho, hb⟩
  have B1 := Lib.hid hb; clear hb ho
  have SM := Lib.hid (show s.size ≤ maxLen by unfold maxLen; omega)
  unfold ConfA.v
  go_wp2_with fail
  have B2 := Lib.hid (B1.out.alloc B1.out.size (.cells #[.slice x.a x.n x.c, .slice x.b x.m x.d] 30))
  generalize w1.alloc (.cells #[.slice x.a x.n x.c, .slice x.b x.m x.d] 30) = W2 at *
  have NL := termsOf_len bareC s
  have BT := Lib.hid (fun h => bare_terms (s := s) h)
  have CI : Hid (∀ w', Calls Try.prog 19 #[.agg #[.slice none 0 0, .slice none 0 0], .string s] w' fun e w'' => TermsPost bareC s w' e w'') := fun w' => (TermsOf_any bareC s SM.out w' (bareC_in _)).mono fun e w'' h => terms_told h
  have CS : Hid (∀ w', Calls Try.prog 22 #[.agg #[.slice none 0 0, .slice none 0 0], .string s] w' fun e w'' => TermsPost bareC s w' e w'') := fun w' => (sTermsOf_any bareC s SM.out w' (bareC_in _)).mono fun e w'' h => terms_told h
  unfold TermsPost at CI CS
  obtain ⟨ts, hts⟩ : ∃ ts, ts = termsOf bareC s := ⟨_, rfl⟩
  rw [← hts] at NL BT CI CS
  clear hts
  have L3 : ts.length ≤ maxLen := by unfold maxLen; omega
  refine (CI.out _).mono ?_
  rintro e w3 ⟨a3, c3, rfl, ho, hb⟩
  have O3 := Lib.hid ho; clear ho
  have B3 := Lib.hid (B2.out.trans (hb.mono B2.out.size)); clear hb
  go_wp2_with fail
  refine (CS.out _).mono ?_
  rintro e w4 ⟨a4, c4', rfl, ho, hb⟩
  have P4 := Lib.hid ho; clear ho
  have O4 := Lib.hid (O3.out.below hb)
  have B4 := Lib.hid (B3.out.trans (hb.mono B3.out.size)); clear hb
  go_wp2_with fail
  refine (foTerms_same _ _ _ _ _ _ _ O4.out.tms P4.out.tms L3).mono ?_
  rintro e w5 ⟨rfl, q, rfl⟩
  have B5 := Lib.hid (below_drewN B4.out q)
  have O5 := Lib.hid (O4.out.tms.drewN q)
  go_wp2_with fail
  refine (TextOk_any _ _ SM.out).mono ?_
  rintro e w' ⟨rfl, rfl⟩
  cases htx : textOk s
  · go_wp2_with fail
    refine (CS.out _).mono ?_
    rintro e w6 ⟨a6, c6, rfl, ho, hb⟩
    have P6 := Lib.hid ho; clear ho
    have O6 := Lib.hid (O5.out.below hb)
    have B6 := Lib.hid (B5.out.trans (hb.mono B5.out.size)); clear hb
    go_wp2_with fail
    refine (foTerms_same _ _ _ _ _ _ _ O6.out P6.out.tms L3).mono ?_
    rintro e w7 ⟨rfl, q7, rfl⟩
    go_wp2_with fail
    go_ret
    exact ⟨rfl, below_drewN B6.out q7⟩
  · obtain ⟨hl, hall⟩ := BT.out htx
    have AL := Lib.hid hall; clear hall
    have WF := Lib.hid (fun j => nthW_fit (wordsOf_fit s) j)
    obtain ⟨ws, hws⟩ : ∃ ws, ws = wordsOf s := ⟨_, rfl⟩
    have CW : Hid (∀ w', Calls Try.prog 24 #[.string s] w' fun e w'' => ∃ a' c', e = .returned (.slice a' ws.length c') ∧ OwnWds w'' w'.heap.size a' ws.length c' ws ∧ Below w'.heap.size w' w'') := fun w' => by rw [hws]; exact WordsOf_any s SM.out w'
    rw [← hws] at hl AL WF
    clear hws htx
    obtain ⟨N, hN⟩ : ∃ N, N = ts.length := ⟨_, rfl⟩
    rw [← hN] at O5 hl NL ⊢
    rw [← hl] at CW AL
    clear hN hl
    go_wp2_with fail
    refine (CW.out _).mono ?_
    rintro e w6 ⟨a6, c6, rfl, ho, hb⟩
    have W6 := Lib.hid ho.wds; clear ho
    have O6 := Lib.hid (O5.out.below hb)
    have B6 := Lib.hid (B5.out.trans (hb.mono B5.out.size)); clear hb
    go_wp2_with fail
    go_loopw [7] (fun i wr => ∃ k : Nat, k ≤ N ∧ i = .int .i64 k ∧ Below w6.heap.size w6 wr) (fun i _ => N - (intOf i).toNat)
    case atStart => exact ⟨0, Nat.zero_le _, rfl, Below.refl _ _⟩
    case round =>
      obtain ⟨k, hk, rfl, hb⟩ := hrel
      have HB := Lib.hid hb; clear hb
      by_cases hlk : k < N
      · obtain ⟨b1, o1, hb1, hc1⟩ := (O6.out.below HB.out).pos hlk
        obtain ⟨x0, x1⟩ := hc1 k hlk
        obtain ⟨b2, o2, hb2, hc2⟩ := (W6.out.below HB.out).pos hlk
        obtain ⟨y0, -, -, -⟩ := hc2 k hlk
        rw [hb1, hb2]
        have H1 := Lib.hid hb1; have H2 := Lib.hid hb2
        clear hc1 hc2 hb1 hb2
        obtain ⟨a1, a2⟩ := AL.out k hlk
        have FT := Lib.hid (show (nthW ws k).text.size ≤ maxLen by have := WF.out k; unfold maxLen; omega)
        obtain ⟨t, ht⟩ : ∃ t, t = (nthW ws k).text := ⟨_, rfl⟩
        rw [← ht] at y0 a2 FT
        rw [a1] at x1
        rw [a2] at x0
        clear ht a1 a2
        have q0 := cell_regrown x0
        have q1 := cell_regrown x1
        have q2 := cell_regrown y0
        have v1 : (0 : Int) ≤ (k : Int) := by omega
        have v2 : (k : Int) < (N : Int) := by omega
        have hns : ((stemOf t).toList != (stemOf t).toList) = false := by simp
        go_wp2_with fail
        refine wp_region_quiet_below (by kernel_rfl) (by kernel_rfl) ?_
        repeat (go_big_quiet_step ((go_at_call 25; exact quiet_b fun w1 _ => StemOf_any _ FT.out w1)))
        refine wpQuiet_nil ?_
        intro wq hqq
        have BQ := Lib.hid (quiet_out hqq)
        clear hqq
        have BE := Lib.hid (HB.out.trans (BQ.out.mono HB.out.size))
        go_wp2_with fail
        go_roundw
        case rel => exact ⟨k + 1, by omega, by go_num, BE.out⟩
        case measure => simp [intOf]; omega
      · go_wp2_with fail
        go_ret
        exact ⟨rfl, B6.out.trans (HB.out.mono B6.out.size)⟩
end Go.Proofs.Ytejooloflcldiaa
