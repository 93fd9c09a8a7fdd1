/- The law on terms of two texts. Conditions: what is read fits the model's sizes. -/
import Derived.Test.YtejooloflcldiaaLawT1
import Derived.Deep.RegionLaw
import Derived.StillTailTactics
namespace Go.Proofs.Ytejooloflcldiaa
open Go.RowKit Go.Sort
theorem conf_stop {x : ConfA} (h : confOk x = true) (h0 : 0 < x.n) : wordOk (nthS x.ss 0) = true ∧ hasS x.n x.ss (nthS x.ss 0) = true := by
  refine ⟨?_, hasS_at h0 (by simp)⟩
  simp only [confOk, Bool.and_eq_true] at h
  have := (allN_iff.1 h.1.1.2) 0 h0
  simp only [ascAt, Bool.and_eq_true] at this
  exact this.1
/-- What lies between B and the heap's end is as it was. -/
theorem OwnTms.keep {w w' : World} {B : Nat} {a : Option Addr} {n cap : Nat} {ts : List Tm} (h : OwnTms w B a n cap ts) (hk : ∀ i, B ≤ i → i < w.heap.size → w'.heap[i]? = w.heap[i]?) : OwnTms w' B a n cap ts := by
  refine ⟨h.len, h.fit, h.own.1, ?_⟩
  rcases h.own.2 with hn | ⟨g, cap', cur, hv, hg, hh, r⟩
  · exact .inl hn
  · exact .inr ⟨g, cap', cur, hv, hg, by rw [hk g hg (Array.getElem?_eq_some_iff.1 hh).1]; exact hh, r⟩
theorem shiftT_take (c : Nat) (ts : List Tm) {k : Nat} (hk : k < ts.length) : shiftT c (ts.take (k + 1)) = shiftT c (ts.take k) ++ [⟨(nthT ts k).text, (nthT ts k).at_ + c⟩] := by
  rw [List.take_succ_eq_append_getElem hk, shiftT, List.map_append, ← nthT_eq hk]; rfl
theorem terms_fit (x : ConfA) (s : ByteArray) (hc : confOk x = true) (hs : textOk s = true) {i : Nat} (hi : i < (termsOf x s).length) : (nthT (termsOf x s) i).text.size ≤ 12 ∧ (nthT (termsOf x s) i).at_ ≤ 160 := by
  obtain ⟨h1, -, h3, -⟩ := term_good hc hs hi
  exact ⟨wordOk_le12 h3, by have := wordsOf_len s; omega⟩
set_option maxRecDepth 100000 in
set_option maxHeartbeats 2000000 in
theorem FnTermsCut_any {w : World} (a : Option Addr) (n cap : Nat) (xs : List Int) (hx : Byts w a n cap xs) (hn : n ≤ maxLen) (b : Option Addr) (m capb : Nat) (ys : List Int) (hy : Byts w b m capb ys) (hm : m ≤ maxLen) :
    Calls Try.prog 6 #[.slice a n cap, .slice b m capb] w fun e w' => e = .returned (.bool true) ∧ Below w.heap.size w w' := by
  have HX := Lib.hid hx; clear hx
  have HY := Lib.hid hy; clear hy
  unfold maxLen at hn hm
  by_cases hlt : (1048576 : Int) < (n : Int)
  · go_enter Try.func6, Try.ntmps6
    go_wp2_with fail
    go_ret
    exact ⟨rfl, Below.refl _ _⟩
  by_cases hlt2 : (1048576 : Int) < (m : Int)
  · go_enter Try.func6, Try.ntmps6
    go_wp2_with fail
    go_ret
    exact ⟨rfl, Below.refl _ _⟩
  have c4 := cells_term
  obtain ⟨i0, hi, hz0, hz1, hz2⟩ := info_parts info_tm
  go_enter Try.func6, Try.ntmps6
  go_wp2_with fail
  refine (DrawTermsOf_any _ _ _ _ HX.out (by omega)).mono ?_
  rintro e w1 ⟨x, s, rfl, hs, ho, hb⟩
  have XI := Lib.hid ho.in; clear ho
  have B1 := Lib.hid hb
  have HY1 : Hid (Byts w1 b m capb ys) := ⟨⟨HY.out.ints.len, HY.out.ints.fit, HY.out.ints.rd.below hb⟩, HY.out.cap⟩
  clear hb
  have SM := Lib.hid (show s.size ≤ maxLen by unfold maxLen; omega)
  unfold ConfA.v
  obtain ⟨aS, hAS⟩ : ∃ aS, aS = x.a := ⟨_, rfl⟩
  rw [← hAS]
  have HAS := Lib.hid hAS; clear hAS
  have BA := Lib.hid ((Below.refl w1.heap.size w1).alloc (Nat.le_refl _) (.cells #[.slice aS x.n x.c, .slice x.b x.m x.d] 30))
  have c0 := Lib.hid (show (w1.alloc (.cells #[.slice aS x.n x.c, .slice x.b x.m x.d] 30)).cell? ⟨w1.heap.size, 0, none⟩ = some (.slice aS x.n x.c) from World.cell?_alloc_at _ _ _ _ rfl)
  have c1 := Lib.hid (show (w1.alloc (.cells #[.slice aS x.n x.c, .slice x.b x.m x.d] 30)).cell? ⟨w1.heap.size, 1, none⟩ = some (.slice x.b x.m x.d) from World.cell?_alloc_at _ _ _ _ rfl)
  have lz : Hid (w1.heap.size < (w1.alloc (.cells #[.slice aS x.n x.c, .slice x.b x.m x.d] 30)).heap.size) := by show _ < _; simp
  have X2 := Lib.hid (XI.out.below BA.out)
  have B2 := Lib.hid (B1.out.trans (BA.out.mono B1.out.size))
  have HY2 : Hid (Byts (w1.alloc (.cells #[.slice aS x.n x.c, .slice x.b x.m x.d] 30)) b m capb ys) := ⟨⟨HY1.out.ints.len, HY1.out.ints.fit, HY1.out.ints.rd.alloc _⟩, HY1.out.cap⟩
  go_wp2_with fail
  generalize w1.alloc (.cells #[.slice aS x.n x.c, .slice x.b x.m x.d] 30) = W2 at *
  obtain ⟨D, hD⟩ : ∃ D, D = w1.heap.size := ⟨_, rfl⟩
  rw [← hD] at c0 c1 lz ⊢
  clear hD BA XI B1
  refine (DrawTermsOf_any _ _ _ _ HY2.out (by omega)).mono ?_
  rintro e w3 ⟨y, t, rfl, ht, ho, hb⟩
  have G3 := Lib.hid hb; clear hb ho
  have TM := Lib.hid (show t.size ≤ maxLen by unfold maxLen; omega)
  unfold ConfA.v
  have G4 := Lib.hid (G3.out.alloc G3.out.size (.cells #[.slice y.a y.n y.c, .slice y.b y.m y.d] 30))
  have CI : Hid (∀ (u : ByteArray) w', u.size ≤ maxLen → Below W2.heap.size W2 w' → Calls Try.prog 19 #[.agg #[.slice aS x.n x.c, .slice x.b x.m x.d], .string u] w' fun e w'' => TermsPost x u w' e w'') := fun u w' hu hb => by rw [HAS.out]; exact (TermsOf_any x u hu w' (X2.out.below hb)).mono fun e w'' h => terms_told h
  have CS : Hid (∀ w', Below W2.heap.size W2 w' → Calls Try.prog 22 #[.agg #[.slice aS x.n x.c, .slice x.b x.m x.d], .string s] w' fun e w'' => TermsPost x s w' e w'') := fun w' hb => by rw [HAS.out]; exact (sTermsOf_any x s SM.out w' (X2.out.below hb)).mono fun e w'' h => terms_told h
  have CO : Hid (∀ w', Below W2.heap.size W2 w' → Calls Try.prog 13 #[.agg #[.slice aS x.n x.c, .slice x.b x.m x.d]] w' fun e w'' => e = .returned (.bool (confOk x)) ∧ Below w'.heap.size w' w'') := fun w' hb => by rw [HAS.out]; exact ConfOk_any x w' (X2.out.below hb)
  unfold TermsPost at CI CS
  have NA := termsOf_len x s
  have LA : (termsOf x s).length ≤ maxLen := by unfold maxLen; omega
  have e0 := (G4.out.cell lz.out).trans c0.out
  have e1 := (G4.out.cell lz.out).trans c1.out
  go_wp2_with fail
  generalize w3.alloc (.cells #[.slice y.a y.n y.c, .slice y.b y.m y.d] 30) = W4 at *
  refine (CI.out s _ SM.out G4.out).mono ?_
  rintro e w5 ⟨a5, c5, rfl, ho, hb⟩
  have O5 := Lib.hid (ho.base (show W2.heap.size ≤ _ from G4.out.size)); clear ho
  have G5 := Lib.hid (G4.out.trans (hb.mono G4.out.size)); clear hb
  clear e0 e1
  have e0 := (G5.out.cell lz.out).trans c0.out
  have e1 := (G5.out.cell lz.out).trans c1.out
  go_wp2_with fail
  refine (CS.out _ G5.out).mono ?_
  rintro e w6 ⟨a6, c6, rfl, ho, hb⟩
  have P6 := Lib.hid ho; clear ho
  have O6 := Lib.hid (O5.out.below hb)
  have S56 := Lib.hid hb.size
  have G6 := Lib.hid (G5.out.trans (hb.mono G5.out.size)); clear hb
  clear e0 e1
  have e0 := (G6.out.cell lz.out).trans c0.out
  have e1 := (G6.out.cell lz.out).trans c1.out
  go_wp2_with fail
  refine (foTerms_same _ _ _ _ _ _ _ O6.out.tms P6.out.tms LA).mono ?_
  rintro e w7 ⟨rfl, q, rfl⟩
  have G7 := Lib.hid (below_drewN G6.out q)
  have O7 := Lib.hid (show OwnTms (w6.drewN q) W2.heap.size a5 (termsOf x s).length c5 (termsOf x s) from ⟨O6.out.len, O6.out.fit, O6.out.own⟩)
  have S57 := Lib.hid (show w5.heap.size ≤ (w6.drewN q).heap.size from S56.out)
  generalize w6.drewN q = W7 at *
  clear e0 e1
  have e0 := (G7.out.cell lz.out).trans c0.out
  have e1 := (G7.out.cell lz.out).trans c1.out
  have BACK : Hid (∀ w', Below W7.heap.size W7 w' → Below W2.heap.size W2 w') := fun w' hb => G7.out.trans (hb.mono G7.out.size)
  go_wp2_with fail
  refine (CO.out _ G7.out).mono ?_
  rintro e w8 ⟨rfl, hb⟩
  have H8 := Lib.hid hb; clear hb
  have G8 := Lib.hid (BACK.out _ H8.out)
  clear e0 e1
  have e0 := (G8.out.cell lz.out).trans c0.out
  have e1 := (G8.out.cell lz.out).trans c1.out
  cases hok : confOk x
  · go_wp2_with fail
    refine (CS.out _ G8.out).mono ?_
    rintro e w9 ⟨a9, c9, rfl, ho, hb⟩
    have P9 := Lib.hid ho; clear ho
    have O9 := Lib.hid ((O7.out.below H8.out).below hb)
    have G9 := Lib.hid (G8.out.trans (hb.mono G8.out.size)); clear hb
    go_wp2_with fail
    refine (foTerms_same _ _ _ _ _ _ _ O9.out.tms P9.out.tms LA).mono ?_
    rintro e w10 ⟨rfl, q10, rfl⟩
    go_wp2_with fail
    go_ret
    exact ⟨rfl, below_drewN (B2.out.trans (G9.out.mono B2.out.size)) q10⟩
  by_cases hx0 : x.n = 0
  · have b0 : ((x.n : Int) == 0) = true := beq_t (by omega)
    clear hx0
    go_wp2_with fail
    refine (CS.out _ G8.out).mono ?_
    rintro e w9 ⟨a9, c9, rfl, ho, hb⟩
    have P9 := Lib.hid ho; clear ho
    have O9 := Lib.hid ((O7.out.below H8.out).below hb)
    have G9 := Lib.hid (G8.out.trans (hb.mono G8.out.size)); clear hb
    go_wp2_with fail
    refine (foTerms_same _ _ _ _ _ _ _ O9.out.tms P9.out.tms LA).mono ?_
    rintro e w10 ⟨rfl, q10, rfl⟩
    go_wp2_with fail
    go_ret
    exact ⟨rfl, below_drewN (B2.out.trans (G9.out.mono B2.out.size)) q10⟩
  have b0 : ((x.n : Int) == 0) = false := beq_f (by omega)
  have hxp : (0 : Int) < (x.n : Int) := by omega
  obtain ⟨st1, st2⟩ := conf_stop hok (show 0 < x.n by omega)
  have OK := Lib.hid hok; clear hok
  have HX0 := Lib.hid hx0; clear hx0
  go_wp2_with fail
  refine (TextOk_any _ _ SM.out).mono ?_
  rintro e w' ⟨rfl, rfl⟩
  cases htx : textOk s
  · go_wp2_with fail
    refine (CS.out _ G8.out).mono ?_
    rintro e w9 ⟨a9, c9, rfl, ho, hb⟩
    have P9 := Lib.hid ho; clear ho
    have O9 := Lib.hid ((O7.out.below H8.out).below hb)
    have G9 := Lib.hid (G8.out.trans (hb.mono G8.out.size)); clear hb
    go_wp2_with fail
    refine (foTerms_same _ _ _ _ _ _ _ O9.out.tms P9.out.tms LA).mono ?_
    rintro e w10 ⟨rfl, q10, rfl⟩
    go_wp2_with fail
    go_ret
    exact ⟨rfl, below_drewN (B2.out.trans (G9.out.mono B2.out.size)) q10⟩
  obtain ⟨gS, oS, hgS, hcS⟩ := (X2.out.s).rd.pos (show 0 < x.n by have := HX0.out; omega)
  obtain rfl : aS = some ⟨gS, oS, none⟩ := HAS.out.trans hgS
  have y00 := hcS 0 (by have := HX0.out; omega)
  rw [Nat.add_zero] at y00
  have LY := Lib.hid (World.block_lt_of_cell? W2 _ y00)
  obtain ⟨p, hp⟩ : ∃ p, p = nthS x.ss 0 := ⟨_, rfl⟩
  rw [← hp] at y00 st1 st2
  have Y00 := Lib.hid y00
  clear hp hcS hgS y00
  have PS := (word_bytes st1).2.2
  have y0 := (G8.out.cell LY.out).trans Y00.out
  have z1 : s.size + (⟨#[32]⟩ : ByteArray).size ≤ 9223372036854775807 := by show s.size + 1 ≤ _; omega
  have z2 : (s ++ (⟨#[32]⟩ : ByteArray)).size + p.size ≤ 9223372036854775807 := by rw [ByteArray.size_append]; show s.size + 1 + p.size ≤ _; omega
  have z3 : (s ++ (⟨#[32]⟩ : ByteArray) ++ p).size + (⟨#[32]⟩ : ByteArray).size ≤ 9223372036854775807 := by rw [ByteArray.size_append, ByteArray.size_append]; show s.size + 1 + p.size + 1 ≤ _; omega
  have z4 : (s ++ (⟨#[32]⟩ : ByteArray) ++ p ++ (⟨#[32]⟩ : ByteArray)).size + t.size ≤ 9223372036854775807 := by rw [ByteArray.size_append, ByteArray.size_append, ByteArray.size_append]; show s.size + 1 + p.size + 1 + t.size ≤ _; omega
  have UM := Lib.hid (show (s ++ blankS ++ p ++ blankS ++ t).size ≤ maxLen by rw [ByteArray.size_append, ByteArray.size_append, ByteArray.size_append, ByteArray.size_append]; show s.size + 1 + p.size + 1 + t.size ≤ _; unfold maxLen; omega)
  have UT := Lib.hid (fun w => TextOk_any (s ++ blankS ++ p ++ blankS ++ t) w UM.out)
  have HTX := Lib.hid htx; clear htx
  have ST1 := Lib.hid st1; have ST2 := Lib.hid st2
  clear st1 st2
  go_wp2_with fail
  refine (UT.out _).mono ?_
  rintro e w' ⟨rfl, rfl⟩
  clear UT
  cases hok2 : textOk (s ++ blankS ++ p ++ blankS ++ t)
  · go_wp2_with fail
    refine (CS.out _ G8.out).mono ?_
    rintro e w9 ⟨a9, c9, rfl, ho, hb⟩
    have P9 := Lib.hid ho; clear ho
    have O9 := Lib.hid ((O7.out.below H8.out).below hb)
    have G9 := Lib.hid (G8.out.trans (hb.mono G8.out.size)); clear hb
    go_wp2_with fail
    refine (foTerms_same _ _ _ _ _ _ _ O9.out.tms P9.out.tms LA).mono ?_
    rintro e w10 ⟨rfl, q10, rfl⟩
    go_wp2_with fail
    go_ret
    exact ⟨rfl, below_drewN (B2.out.trans (G9.out.mono B2.out.size)) q10⟩
  have TC := Lib.hid (terms_cut OK.out ST1.out ST2.out hok2)
  have TB := Lib.hid (text_tail hok2).1
  have FB := Lib.hid (fun i hi => terms_fit x t OK.out TB.out (i := i) hi)
  have WM := Lib.hid (show wordsMany s = ((wordsOf s).length : Int) by rw [wordsMany, HTX.out]; rfl)
  have hM := wordsOf_len s
  have NB := termsOf_len x t
  have CU := Lib.hid (fun w' hb => CI.out (s ++ blankS ++ p ++ blankS ++ t) w' UM.out hb)
  rw [TC.out, List.length_append, shiftT_len] at CU
  clear hok2
  obtain ⟨A, hA⟩ : ∃ A, A = termsOf x s := ⟨_, rfl⟩
  obtain ⟨Bt, hB⟩ : ∃ Bt, Bt = termsOf x t := ⟨_, rfl⟩
  obtain ⟨M, hMM⟩ : ∃ M, M = (wordsOf s).length := ⟨_, rfl⟩
  have CB := Lib.hid (fun w' hb => CI.out t w' TM.out hb)
  rw [← hA] at O5 O7 LA NA CU TC
  rw [← hB] at CU FB NB CB
  rw [← hMM] at CU WM hM
  rw [← hA]
  clear hA hB hMM
  clear CI CS CO e0 e1 y0
  have O8 := Lib.hid (O7.out.below H8.out)
  have e0 := (G8.out.cell lz.out).trans c0.out
  have e1 := (G8.out.cell lz.out).trans c1.out
  go_wp2_with fail
  refine (CB.out _ G8.out).mono ?_
  rintro e w9 ⟨aB, cB, rfl, ho, hb⟩
  have OB9 := Lib.hid ho; clear ho
  have O9 := Lib.hid (O8.out.below hb)
  have G9 := Lib.hid (G8.out.trans (hb.mono G8.out.size))
  have S89 := Lib.hid (Nat.le_trans H8.out.size hb.size); clear hb
  clear e0 e1
  have e0 := (G9.out.cell lz.out).trans c0.out
  have e1 := (G9.out.cell lz.out).trans c1.out
  have y0 := (G9.out.cell LY.out).trans Y00.out
  go_wp2_with fail
  refine wp_region_still_tail 11 (by kernel_rfl) (by kernel_rfl) ?_
  change wpStill Try.prog _ w9.drew (fun a' => wpList Try.prog _ _ _ a' w9.drew) _ _
  have GD := Lib.hid (Below.drew G9.out)
  have OB10 := Lib.hid (show OwnTms w9.drew w8.heap.size aB Bt.length cB Bt from ⟨OB9.out.len, OB9.out.fit, OB9.out.own⟩)
  have O10 := Lib.hid (show OwnTms w9.drew W2.heap.size a5 A.length c5 A from ⟨O9.out.len, O9.out.fit, O9.out.own⟩)
  have e0' := show w9.drew.cell? ⟨D, 0, none⟩ = _ from e0
  have e1' := show w9.drew.cell? ⟨D, 1, none⟩ = _ from e1
  have y0' := show w9.drew.cell? ⟨gS, oS, none⟩ = _ from y0
  have SD := Lib.hid (show w9.heap.size = w9.drew.heap.size from rfl)
  generalize w9.drew = WD at *
  clear e0 e1 y0
  have xn0 : 0 < x.n := by have := HX0.out; omega
  have n1 : ¬ 9223372036854775807 < s.size + 1 := by omega
  have n2 : ¬ 9223372036854775807 < s.size + 1 + p.size := by omega
  have n3 : ¬ 9223372036854775807 < s.size + 1 + p.size + 1 := by omega
  have n4 : ¬ 9223372036854775807 < s.size + 1 + p.size + 1 + t.size := by omega
  simp only [List.take_succ_cons, List.take_zero, List.drop_succ_cons, List.drop_zero]
  still_step
  still_step
  still_step
  still_step
  still_step
  still_step
  still_step
  still_step
  still_step
  still_step
  still_step
  refine wpStill_nil ?_
  go_wp2_with fail
  refine (CU.out _ GD.out).mono ?_
  rintro e w10 ⟨aU, cU, rfl, ho, hb⟩
  have OU10 := Lib.hid ho; clear ho
  have OB11 := Lib.hid (OB10.out.below hb)
  have O11 := Lib.hid (O10.out.below hb)
  have G10 := Lib.hid (GD.out.trans (hb.mono GD.out.size))
  have SU := Lib.hid hb.size; clear hb
  clear e0' e1' y0' n1 n2 n3 n4 z1 z2 z3 z4 xn0 CU CB UM
  go_wp2_with fail
  refine (WordsMany_any s SM.out _).mono ?_
  rintro e w12 ⟨rfl, hb⟩
  rw [WM.out]
  have OU := Lib.hid (OU10.out.below hb)
  have OB := Lib.hid (OB11.out.below hb)
  have OA := Lib.hid (O11.out.below hb)
  have G12 := Lib.hid (G10.out.trans (hb.mono G10.out.size))
  have S12 := Lib.hid (Nat.le_trans SU.out hb.size); clear hb
  clear OU10 OB11 O11
  go_wp2_with fail
  have OX : Hid (w12.ownsRow W2.heap.size 42 2 (.slice a5 A.length c5) A.length (tmCells (A ++ shiftT (M + 1) (Bt.take 0)))) := by
    have := OA.out.own
    show w12.ownsRow _ _ _ _ _ (tmCells (A ++ []))
    rw [List.append_nil]; exact this
  have XB0 := Lib.hid (fun j (hj : (Value.slice a5 A.length c5).ownBlock = some j) => (own_block O5.out.own j hj).2)
  have R8 := Lib.hid (show w5.heap.size ≤ w8.heap.size from Nat.le_trans S57.out H8.out.size)
  have RW := Lib.hid (show w5.heap.size ≤ WD.heap.size by have h1 := R8.out; have h2 := S89.out; have h3 := SD.out; have h4 := H8.out.size; have h5 := S57.out; omega)
  go_loopw [9, 13] (fun v i wr => ∃ (k : Nat) (a' : Option Addr) (c' : Nat), k ≤ Bt.length ∧ i = .int .i64 k ∧ v = .slice a' (A.length + k) c' ∧ wr.ownsRow W2.heap.size 42 2 (.slice a' (A.length + k) c') (A.length + k) (tmCells (A ++ shiftT (M + 1) (Bt.take k))) ∧ (∀ j, (Value.slice a' (A.length + k) c').ownBlock = some j → j < w5.heap.size ∨ w12.heap.size ≤ j) ∧ (∀ i, w5.heap.size ≤ i → i < w12.heap.size → wr.heap[i]? = w12.heap[i]?) ∧ w12.heap.size ≤ wr.heap.size ∧ Below W2.heap.size W2 wr) (fun _ i _ => Bt.length - (intOf i).toNat)
  case atStart => exact ⟨0, a5, c5, Nat.zero_le _, rfl, rfl, OX.out, fun j hj => .inl (XB0.out j hj), fun _ _ _ => rfl, Nat.le_refl _, G12.out⟩
  case round =>
    obtain ⟨k, a', c', hk, rfl, rfl, hown, hxb, hkeep, hsz, hb⟩ := hrel
    have HO := Lib.hid hown; clear hown
    have XB := Lib.hid hxb; clear hxb
    have KP := Lib.hid hkeep; clear hkeep
    have HB := Lib.hid hb; clear hb
    have HSZ := Lib.hid hsz; clear hsz
    have OY := Lib.hid (OB.out.keep (w' := wr) (fun i h1 h2 => KP.out i (Nat.le_trans R8.out h1) h2))
    have OV := Lib.hid (OU.out.keep (w' := wr) (fun i h1 h2 => KP.out i (Nat.le_trans RW.out h1) h2))
    by_cases hlk : k < Bt.length
    · obtain ⟨b1, o1, rfl, hc1⟩ := OY.out.tms.pos hlk
      obtain ⟨x0, x1⟩ := hc1 k hlk
      clear hc1
      obtain ⟨g1, g2⟩ := FB.out k hlk
      have ST := Lib.hid (shiftT_take (M + 1) Bt hlk)
      obtain ⟨X, hX⟩ : ∃ X, X = nthT Bt k := ⟨_, rfl⟩
      rw [← hX] at x0 x1 g1 g2 ST
      clear hX
      obtain ⟨tx, at_⟩ := X
      dsimp only at x0 x1 g1 g2 ST
      have v1 : (0 : Int) ≤ (k : Int) := by omega
      have v2 : (k : Int) < (Bt.length : Int) := by omega
      have vw : IntKind.i64.wrap ((at_ : Int) + ((M : Int) + 1)) = (at_ : Int) + ((M : Int) + 1) := IntWalk.i64_in _ (by omega)
      have BE := Lib.hid (Below.drew ((Below.refl wr.heap.size wr).alloc (Nat.le_refl _) (.cells #[.string tx, .int .i64 ((at_ : Int) + ((M : Int) + 1))] 42)))
      have hbs := HB.out.size
      go_wp2_with fail
      go_region_law (first
        | (refine step_append_at (o := ⟨some 115, _, _, _, _, _⟩) rfl _ _ 39 rfl W2.heap.size 42 i0 (.agg #[.string ByteArray.empty, .int .i64 0]) 2 24 Try.underlying39 hi hz0 hz1 hz2 rfl (by decide) _ _ _ rfl (by exact (HO.out.alloc _)) ⟨wr.heap.size, 0, none⟩ 1 1 [.string tx, .int .i64 ((at_ : Int) + ((M : Int) + 1))] rfl rfl (by exact cell_two_at rfl _ _ _) (by intro u hu; simp at hu; rcases hu with rfl | rfl <;> rfl) (by unfold maxLen; omega) (by omega) (by simp; omega) ?_; intro v' w4 hown' hgrow hnn hat'; obtain ⟨a3, c3, hv⟩ := own_form hown'; rw [hv] at hown' hat'; have O4 := Lib.hid hown'; have G4 := Lib.hid hgrow; have AT4 := Lib.hid hat'; clear hown' hgrow hnn hat'; subst hv))
      all_goals
        have hgrow := (show World.grownBy _ w4 (Value.slice a' (A.length + k) c').ownBlock from G4.out)
        have hat' := AT4.out
        have HO4 := Lib.hid (show w4.ownsRow W2.heap.size 42 2 (.slice a3 (A.length + (k + 1)) c3) (A.length + (k + 1)) (tmCells (A ++ shiftT (M + 1) (Bt.take (k + 1)))) by
          rw [ST.out, ← List.append_assoc, tmCells_app, ← Nat.add_assoc]
          have e : tmCells [(⟨tx, at_ + (M + 1)⟩ : Tm)] = [.string tx, .int .i64 ((at_ : Int) + ((M : Int) + 1))] := by
            simp only [tmCells, List.flatMap_cons, List.flatMap_nil, Tm.cells, List.append_nil]
            simp only [Int.natCast_add]; try rfl
          rw [e]; exact O4.out)
        have XB4 : Hid (∀ j, (Value.slice a3 (A.length + (k + 1)) c3).ownBlock = some j → j < w5.heap.size ∨ w12.heap.size ≤ j) := fun j hj => by
          have hj' : (Value.slice a3 (A.length + k + 1) c3).ownBlock = some j := hj
          rcases hat' with h | h
          · exact XB.out j (h.symm.trans hj')
          · have h5 := h.symm.trans hj'
            injection h5 with h5
            right
            have h6 := BE.out.size
            have h7 := HSZ.out
            have h8 : wr.heap.size ≤ j := by rw [← h5]; exact h6
            omega
        have KP4 : Hid (∀ i, w5.heap.size ≤ i → i < w12.heap.size → w4.heap[i]? = w12.heap[i]?) := fun i h1 h2 => by
          have h3 : i < wr.heap.size := Nat.lt_of_lt_of_le h2 HSZ.out
          have h4 := hgrow.block i (Nat.lt_of_lt_of_le h3 BE.out.size) (fun e => by rcases XB.out i e.symm with h | h <;> omega)
          exact h4.trans ((BE.out.block i h3).trans (KP.out i h1 h2))
        have HB4 := Lib.hid ((HB.out.trans (BE.out.mono HB.out.size)).grown hgrow (by have h1 := HB.out.size; have h2 := BE.out.size; omega) (fun j hj => (own_block HO.out j hj).1))
        have HS4 := Lib.hid (show w12.heap.size ≤ w4.heap.size from Nat.le_trans HSZ.out (Nat.le_trans BE.out.size hgrow.size))
        clear hgrow hat' G4 AT4 O4 x0 x1 vw
        go_simp
        go_wp2_with fail
        go_roundw
        case rel => exact ⟨k + 1, a3, c3, by omega, by go_num, rfl, HO4.out, XB4.out, KP4.out, HS4.out, HB4.out⟩
        case measure => simp [intOf]; omega
    · obtain rfl : k = Bt.length := by omega
      have OXX : Hid (Tms wr a' (A.length + Bt.length) (A ++ shiftT (M + 1) Bt)) := by
        refine (show OwnTms wr W2.heap.size a' _ c' _ from ⟨by rw [List.length_append, shiftT_len], OV.out.fit, ?_⟩).tms
        have := HO.out
        rw [List.take_length] at this
        exact this
      have LL : A.length + Bt.length ≤ maxLen := by unfold maxLen; omega
      go_wp2_with fail
      refine (foTerms_same _ _ _ _ _ _ _ OV.out.tms OXX.out LL).mono ?_
      rintro e w13 ⟨rfl, q13, rfl⟩
      go_wp2_with fail
      go_ret
      exact ⟨rfl, below_drewN (B2.out.trans (HB.out.mono B2.out.size)) q13⟩
end Go.Proofs.Ytejooloflcldiaa
