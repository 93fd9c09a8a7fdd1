/- The program's and the reference's term of a word are the same. Conditions: what is read fits the model's sizes. -/
import Derived.Test.YtejooloflcldiaaTermX
namespace Go.Proofs.Ytejooloflcldiaa
open Go.RowKit
/-- The term of a word. -/
def termOf (x : ConfA) (s : ByteArray) : ByteArray := if wordOk s then (nthT (termsOf x s) 0).text else ByteArray.empty
theorem Tms.first {w : World} {a : Option Addr} {n : Nat} {ts : List Tm} (h : Tms w a n ts) (hn : 0 < n) : ∃ b off, a = some ⟨b, off, none⟩ ∧ w.cell? ⟨b, off, none⟩ = some (.string (nthT ts 0).text) := by
  obtain ⟨b, off, rfl, hc⟩ := h.pos hn
  have := (hc 0 hn).1
  rw [Nat.zero_mul, Nat.add_zero] at this
  exact ⟨b, off, rfl, this⟩
set_option maxRecDepth 100000 in
set_option maxHeartbeats 1000000 in
theorem TermOf_any (x : ConfA) (s : ByteArray) (hs : s.size ≤ maxLen) (w : World) (hx : x.In w) :
    Calls Try.prog 16 #[x.v, .string s] w fun e w' => e = .returned (.string (termOf x s)) ∧ Below w.heap.size w w' := by
  have HX := Lib.hid hx; clear hx
  unfold ConfA.v
  have BW : Hid (Below w.heap.size w (w.alloc (.cells #[.slice x.a x.n x.c, .slice x.b x.m x.d] 30))) := (Below.refl _ _).alloc (Nat.le_refl _) _
  have c0 : Hid ((w.alloc (.cells #[.slice x.a x.n x.c, .slice x.b x.m x.d] 30)).cell? ⟨w.heap.size, 0, none⟩ = some (.slice x.a x.n x.c)) := World.cell?_alloc_at _ _ _ _ rfl
  have c1 : Hid ((w.alloc (.cells #[.slice x.a x.n x.c, .slice x.b x.m x.d] 30)).cell? ⟨w.heap.size, 1, none⟩ = some (.slice x.b x.m x.d)) := World.cell?_alloc_at _ _ _ _ rfl
  cases hw : wordOk s
  · have R := Lib.hid (show termOf x s = ⟨#[]⟩ by unfold termOf; rw [hw]; rfl)
    go_enter Try.func16, Try.ntmps16
    go_wp2_with fail
    generalize w.alloc (.cells #[.slice x.a x.n x.c, .slice x.b x.m x.d] 30) = W0 at *
    refine (WordOk_any _ hs _).mono ?_
    rintro e w' ⟨rfl, rfl⟩
    go_wp2_with fail
    go_ret
    exact ⟨ret_str R.out.symm, BW.out⟩
  have R := Lib.hid (show termOf x s = (nthT (termsOf x s) 0).text by unfold termOf; rw [hw]; rfl)
  have X0 := Lib.hid (HX.out.below BW.out)
  go_enter Try.func16, Try.ntmps16
  go_wp2_with fail
  generalize w.alloc (.cells #[.slice x.a x.n x.c, .slice x.b x.m x.d] 30) = W0 at *
  have d0 := c0.out
  have d1 := c1.out
  have CT := Lib.hid (TermsOf_any x s hs W0 X0.out)
  unfold ConfA.v at CT
  refine (WordOk_any _ hs _).mono ?_
  rintro e w' ⟨rfl, rfl⟩
  go_wp2_with fail
  refine CT.out.mono ?_
  rintro e w1 ⟨a', n', c', rfl, ho, hb⟩
  have O1 := Lib.hid ho; clear ho
  have B1 := Lib.hid (BW.out.trans (hb.mono BW.out.size)); clear hb CT d0 d1
  by_cases h0 : n' = 0
  · have E := Lib.hid (show (⟨#[]⟩ : ByteArray) = termOf x s by
      have := O1.out.len
      rw [R.out, List.length_eq_zero_iff.1 (this.trans h0)]; rfl)
    subst h0
    go_wp2_with fail
    go_ret
    exact ⟨ret_str E.out, B1.out⟩
  · obtain ⟨b, off, rfl, hc⟩ := O1.out.tms.first (by omega)
    have b0 : ((n' : Int) == 0) = false := beq_f (by omega)
    have hn1 : (0 : Int) < (n' : Int) := by omega
    rw [← R.out] at hc
    obtain ⟨T, hT⟩ : ∃ T, T = termOf x s := ⟨_, rfl⟩
    rw [← hT] at hc
    have HT := Lib.hid hT; clear hT h0
    go_wp2_with fail
    go_ret
    exact ⟨ret_str HT.out, B1.out⟩
set_option maxRecDepth 100000 in
set_option maxHeartbeats 1000000 in
theorem sTermOf_any (x : ConfA) (s : ByteArray) (hs : s.size ≤ maxLen) (w : World) (hx : x.In w) :
    Calls Try.prog 17 #[x.v, .string s] w fun e w' => e = .returned (.string (termOf x s)) ∧ Below w.heap.size w w' := by
  have HX := Lib.hid hx; clear hx
  unfold ConfA.v
  have BW : Hid (Below w.heap.size w (w.alloc (.cells #[.slice x.a x.n x.c, .slice x.b x.m x.d] 30))) := (Below.refl _ _).alloc (Nat.le_refl _) _
  have c0 : Hid ((w.alloc (.cells #[.slice x.a x.n x.c, .slice x.b x.m x.d] 30)).cell? ⟨w.heap.size, 0, none⟩ = some (.slice x.a x.n x.c)) := World.cell?_alloc_at _ _ _ _ rfl
  have c1 : Hid ((w.alloc (.cells #[.slice x.a x.n x.c, .slice x.b x.m x.d] 30)).cell? ⟨w.heap.size, 1, none⟩ = some (.slice x.b x.m x.d)) := World.cell?_alloc_at _ _ _ _ rfl
  have hsz : Hid (w.heap.size < (w.alloc (.cells #[.slice x.a x.n x.c, .slice x.b x.m x.d] 30)).heap.size) := by show _ < _; simp
  have X0 := Lib.hid (HX.out.below BW.out)
  go_enter Try.func17, Try.ntmps17
  go_wp2_with fail
  generalize w.alloc (.cells #[.slice x.a x.n x.c, .slice x.b x.m x.d] 30) = W0 at *
  have CO := Lib.hid (l2Ok_any x W0 X0.out)
  unfold ConfA.v at CO
  have d0 := c0.out
  have d1 := c1.out
  refine CO.out.mono ?_
  clear CO
  rintro e w1 ⟨rfl, hb⟩
  have B1 := Lib.hid (BW.out.trans (hb.mono BW.out.size))
  have X1 := Lib.hid (X0.out.below hb)
  have S1 := Lib.hid hb.size
  have d0 := (hb.cell hsz.out).trans c0.out
  have d1 := (hb.cell hsz.out).trans c1.out
  have HH := Lib.hid hb; clear hb
  cases hok : confOk x
  · have R := Lib.hid (show termOf x s = ⟨#[]⟩ by unfold termOf termsOf; rw [hok]; split <;> rfl)
    go_wp2_with fail
    go_ret
    exact ⟨ret_str R.out.symm, B1.out⟩
  have OK := Lib.hid hok; clear hok
  go_wp2_with fail
  refine (l1WordOk_any _ hs _).mono ?_
  rintro e w2 ⟨rfl, hd⟩
  obtain ⟨q, rfl⟩ := hd
  cases hw : wordOk s
  · have R := Lib.hid (show termOf x s = ⟨#[]⟩ by unfold termOf; rw [hw]; rfl)
    go_wp2_with fail
    go_ret
    exact ⟨ret_str R.out.symm, below_drewN B1.out q⟩
  have htx := word_textOk hw
  have R := Lib.hid (show termOf x s = (nthT (termsT x (plainT x (wds s 0 0))) 0).text by unfold termOf termsOf; rw [hw, OK.out, htx]; rfl)
  have h160 := textOk_size htx
  have CL := Lib.hid (l2Terms_any x s h160 (w1.drewN q) (X1.out.below (below_drewN (Below.refl _ _) q)) OK.out)
  unfold ConfA.v at CL
  clear htx
  go_wp2_with fail
  refine CL.out.mono ?_
  rintro e w3 ⟨a', n', c', rfl, ho, hb⟩
  have O1 := Lib.hid ho; clear ho
  have B2 := Lib.hid ((below_drewN B1.out q).trans (hb.mono B1.out.size)); clear hb CL d0 d1
  by_cases h0 : n' = 0
  · have E := Lib.hid (show (⟨#[]⟩ : ByteArray) = termOf x s by
      have := O1.out.len
      rw [R.out, List.length_eq_zero_iff.1 (this.trans h0)]; rfl)
    subst h0
    go_wp2_with fail
    go_ret
    exact ⟨ret_str E.out, B2.out⟩
  · obtain ⟨b, off, rfl, hc⟩ := O1.out.tms.first (by omega)
    have b0 : ((n' : Int) == 0) = false := beq_f (by omega)
    have hn1 : (0 : Int) < (n' : Int) := by omega
    rw [← R.out] at hc
    obtain ⟨T, hT⟩ : ∃ T, T = termOf x s := ⟨_, rfl⟩
    rw [← hT] at hc
    have HT := Lib.hid hT; clear hT h0
    go_wp2_with fail
    go_ret
    exact ⟨ret_str HT.out, B2.out⟩
theorem termOf_new {w : World} {B : Nat} {x y : ConfA} (h : CNew w B x y) (s : ByteArray) : termOf y s = termOf x s := by
  unfold termOf; rw [termsOf_new h]
set_option maxRecDepth 100000 in
set_option maxHeartbeats 4000000 in
theorem xTermOf_any (x : ConfA) (s : ByteArray) (hs : s.size ≤ maxLen) {w : World} (hx : x.In w) :
    Calls Try.prog 8 #[x.v, .string s] w fun e w' => e = .returned (.bool true) ∧ Below w.heap.size w w' := by
  have HX := Lib.hid hx
  have FT := Lib.hid hx.fits
  have HSZ := Lib.hid hs
  clear hx
  have BA := Lib.hid ((Below.refl w.heap.size w).alloc (Nat.le_refl _) (.cells #[.slice x.a x.n x.c, .slice x.b x.m x.d] 25))
  have b0 := Lib.hid (show (w.alloc (.cells #[.slice x.a x.n x.c, .slice x.b x.m x.d] 25)).cell? ⟨w.heap.size, 0, none⟩ = some (.slice x.a x.n x.c) from World.cell?_alloc_at _ _ _ _ rfl)
  have b1 := Lib.hid (show (w.alloc (.cells #[.slice x.a x.n x.c, .slice x.b x.m x.d] 25)).cell? ⟨w.heap.size, 1, none⟩ = some (.slice x.b x.m x.d) from World.cell?_alloc_at _ _ _ _ rfl)
  have lz : Hid (w.heap.size < (w.alloc (.cells #[.slice x.a x.n x.c, .slice x.b x.m x.d] 25)).heap.size) := by show _ < _; simp
  unfold ConfA.v
  by_cases hlt : (1048576 : Int) < (s.size : Int)
  · go_enter Try.func8, Try.ntmps8
    go_wp2_with fail
    go_ret
    exact ⟨rfl, BA.out⟩
  go_enter Try.func8, Try.ntmps8
  go_wp2_with fail
  generalize w.alloc (.cells #[.slice x.a x.n x.c, .slice x.b x.m x.d] 25) = W0 at *
  have l0 := b0.out
  have l1 := b1.out
  have SZ := Lib.hid (szConf_any x 1048576 W0 (HX.out.below BA.out) (by omega) (by omega))
  unfold ConfA.v at SZ
  go_wp2_with fail
  refine SZ.out.mono ?_
  rintro e w1 ⟨r, rfl, hr0, hr1, hr2, hb⟩
  clear SZ
  have l0 := (hb.cell lz.out).trans b0.out
  have l1 := (hb.cell lz.out).trans b1.out
  have G1 := Lib.hid hb
  have B1 := Lib.hid (BA.out.trans (hb.mono BA.out.size)); clear hb
  have R2 := Lib.hid hr2; clear hr2
  by_cases hneg : r < 0
  · go_wp2_with fail
    go_ret
    exact ⟨rfl, B1.out⟩
  obtain ⟨p1, p2, p3⟩ := R2.out (by omega)
  have hn2 : x.n ≤ 1048576 := by omega
  have hm2 : x.m ≤ 1048576 := by omega
  have P3 := Lib.hid p3; clear p3
  have hnm : x.n ≤ maxLen := by unfold maxLen; omega
  have hmm : x.m ≤ maxLen := by unfold maxLen; omega
  have TC : ∀ w', Below w.heap.size w w' → Hid (Calls Try.prog 12 #[.agg #[.slice x.a x.n x.c, .slice x.b x.m x.d]] w' fun e w'' => ∃ y : ConfA, e = .returned y.v ∧ CNew w'' w'.heap.size x y ∧ Below w'.heap.size w' w'') := fun w' hb => toConf_any x w' (HX.out.below hb) hn2 hm2 P3.out
  obtain ⟨T, hT⟩ : ∃ T, T = termOf x s := ⟨_, rfl⟩
  have TN : ∀ {w' B y}, CNew w' B x y → termOf y s = T := fun h => (termOf_new h s).trans hT.symm
  clear hT
  have ST : ∀ (y : ConfA) (B : Nat) (w w1 : World), CNew w1 B x y → y.In w → Hid (Calls Try.prog 17 #[y.v, .string s] w fun e w' => e = .returned (.string T) ∧ Below w.heap.size w w') := fun y B w w1 hc hi => (sTermOf_any y s HSZ.out w hi).mono fun e w' h => by rw [TN hc] at h; exact h
  have IT : ∀ (y : ConfA) (B : Nat) (w w1 : World), CNew w1 B x y → y.In w → Hid (Calls Try.prog 16 #[y.v, .string s] w fun e w' => e = .returned (.string T) ∧ Below w.heap.size w w') := fun y B w w1 hc hi => (TermOf_any y s HSZ.out w hi).mono fun e w' h => by rw [TN hc] at h; exact h
  clear p1 p2 hn2 hm2
  have T1 := TC _ B1.out
  go_wp2_with fail
  refine T1.out.mono ?_
  clear T1
  rintro e w2 ⟨y2, rfl, hq2, hb⟩
  have B2 := Lib.hid (B1.out.trans (hb.mono B1.out.size)); have G2 := Lib.hid (G1.out.trans (hb.mono G1.out.size)); clear hb
  have I2 := hq2.in FT.out hnm hmm
  have S2 := ST y2 _ w2 _ hq2 I2
  clear hq2 I2
  have l0 := (G2.out.cell lz.out).trans b0.out
  have l1 := (G2.out.cell lz.out).trans b1.out
  go_wp2_with fail
  refine S2.out.mono ?_
  clear S2
  rintro e w3 ⟨rfl, hb⟩
  have B3 := Lib.hid (B2.out.trans (hb.mono B2.out.size)); have G3 := Lib.hid (G2.out.trans (hb.mono G2.out.size)); clear hb
  have T3 := TC _ B3.out
  have l0 := (G3.out.cell lz.out).trans b0.out
  have l1 := (G3.out.cell lz.out).trans b1.out
  go_wp2_with fail
  refine T3.out.mono ?_
  clear T3
  rintro e w4 ⟨y4, rfl, hq4, hb⟩
  have B4 := Lib.hid (B3.out.trans (hb.mono B3.out.size)); have G4 := Lib.hid (G3.out.trans (hb.mono G3.out.size)); clear hb
  have I4 := Lib.hid (hq4.in FT.out hnm hmm)
  have Q4 := Lib.hid hq4; clear hq4
  have IT4 : Hid (∀ w, Below w4.heap.size w4 w → Calls Try.prog 16 #[y4.v, .string s] w fun e w' => e = .returned (.string T) ∧ Below w.heap.size w w') := fun w hb => (IT y4 _ w _ Q4.out (I4.out.below hb)).out
  obtain ⟨a4, n4, c4, ss4, b4, m4, d4, ys4⟩ := y4
  have BB := Lib.hid ((Below.refl w4.heap.size w4).alloc (Nat.le_refl _) (.cells #[.slice a4 n4 c4, .slice b4 m4 d4] 30))
  have f0 := Lib.hid (show (w4.alloc (.cells #[.slice a4 n4 c4, .slice b4 m4 d4] 30)).cell? ⟨w4.heap.size, 0, none⟩ = some (.slice a4 n4 c4) from World.cell?_alloc_at _ _ _ _ rfl)
  have f1 := Lib.hid (show (w4.alloc (.cells #[.slice a4 n4 c4, .slice b4 m4 d4] 30)).cell? ⟨w4.heap.size, 1, none⟩ = some (.slice b4 m4 d4) from World.cell?_alloc_at _ _ _ _ rfl)
  have lz4 : Hid (w4.heap.size < (w4.alloc (.cells #[.slice a4 n4 c4, .slice b4 m4 d4] 30)).heap.size) := by show _ < _; simp
  have B5 := Lib.hid (B4.out.trans (BB.out.mono B4.out.size))
  have G5 := Lib.hid (G4.out.trans (BB.out.mono G4.out.size))
  unfold ConfA.v
  go_wp2_with fail
  generalize w4.alloc (.cells #[.slice a4 n4 c4, .slice b4 m4 d4] 30) = w5 at *
  have k0 := f0.out
  have k1 := f1.out
  have CO := Lib.hid (IT4.out w5 BB.out)
  unfold ConfA.v at CO
  obtain ⟨D4, hD4⟩ : ∃ D, D = w4.heap.size := ⟨_, rfl⟩
  rw [← hD4] at f0 f1 lz4 k0 k1 ⊢
  have HD4 := Lib.hid hD4; clear hD4
  go_wp2_with fail
  refine CO.out.mono ?_
  clear CO
  rintro e w7 ⟨rfl, hb⟩
  have B7 := Lib.hid (B5.out.trans (hb.mono B5.out.size)); have L7 := Lib.hid (G5.out.trans (hb.mono G5.out.size))
  have H7 := Lib.hid (BB.out.trans (hb.mono BB.out.size))
  have H57 := Lib.hid hb; clear hb
  have I7 := Lib.hid (I4.out.below H7.out)
  have k0 := (H57.out.cell lz4.out).trans f0.out
  have k1 := (H57.out.cell lz4.out).trans f1.out
  have l0 := (L7.out.cell lz.out).trans b0.out
  have l1 := (L7.out.cell lz.out).trans b1.out
  have hne : (T.toList != T.toList) = false := by simp
  go_wp2_with fail
  go_region_with (first
    | (go_at_call 12; refine ((TC _ (Below.drew B7.out)).out).mono ?_; rintro e w8 ⟨y8, rfl, hq8, hb8⟩; have I8 := Lib.hid (hq8.in FT.out hnm hmm); have Q8 := Lib.hid (Q4.out.likes hq8); have X8 := Lib.hid (show Below w7.heap.size w7 w8 from Below.trans ((Below.refl _ w7).drew) hb8); have H8 := Lib.hid (Below.trans (Below.drew H57.out) (hb8.mono (show w5.heap.size ≤ w7.heap.size from H57.out.size))); have z0 := (H8.out.cell lz4.out).trans f0.out; have z1 := (H8.out.cell lz4.out).trans f1.out; have CE := Lib.hid (eqConf_same ⟨a4, n4, c4, ss4, b4, m4, d4, ys4⟩ y8 w8 (I7.out.below (Below.trans ((Below.refl _ _).drew) hb8)) I8.out Q8.out.1 Q8.out.2.1 Q8.out.2.2.1 Q8.out.2.2.2); clear hq8 hb8; unfold ConfA.v at CE; unfold ConfA.v)
    | (go_at_call 14; refine CE.out.mono ?_; rintro e w9 ⟨rfl, hb9⟩; have B9 := Lib.hid (B7.out.trans ((X8.out.trans (hb9.mono X8.out.size)).mono B7.out.size)); clear hb9))
  all_goals
    go_wp2_with fail
    go_ret
    exact ⟨rfl, B9.out⟩
theorem xTermOf_law {w : World} (x : ConfA) (hx : x.In w) (s : ByteArray) (hs : s.size ≤ maxLen) :
    Calls Try.prog 8 #[x.v, .string s] w fun e w' => e = .returned (.bool true) ∧ Below w.heap.size w w' := xTermOf_any x s hs hx
end Go.Proofs.Ytejooloflcldiaa
