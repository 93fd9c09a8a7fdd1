/- The program's and the reference's terms are the same. Conditions: what is read fits the model's sizes. -/
import Derived.Test.YtejooloflcldiaaTermI
import Derived.Test.YtejooloflcldiaaMarkC
import Derived.Test.YtejooloflcldiaaConfX
namespace Go.Proofs.Ytejooloflcldiaa
open Go.RowKit
theorem trm_len (x : ConfA) : ∀ f ts, (trm x f ts).length ≤ ts.length := by
  intro f
  induction f with
  | zero => intro ts; exact Nat.zero_le _
  | succ f ih =>
    intro ts
    match ts with
    | [] => rw [trm_nil]; exact Nat.le_refl _
    | t :: r =>
      rw [trm]
      split
      · rw [List.length_cons, List.length_cons]; exact Nat.succ_le_succ (ih r)
      · rw [List.length_cons, List.length_cons]
        exact Nat.succ_le_succ (Nat.le_trans (ih _) (by rw [List.length_drop]; omega))
theorem termsT_len (x : ConfA) (ts : List Tm) : (termsT x ts).length ≤ ts.length := trm_len x _ ts
theorem termsOf_len (x : ConfA) (s : ByteArray) : (termsOf x s).length ≤ 160 := by
  unfold termsOf
  split
  · rename_i h
    simp only [Bool.and_eq_true] at h
    exact Nat.le_trans (termsT_len x _) (Nat.le_trans (plainT_len x _) (Nat.le_trans (wds_count s _ 0 0 rfl) (by have := textOk_size h.2; omega)))
  · exact Nat.zero_le _
theorem synTo_new {ts : List Tm} {xs ys : List SynA} : ∀ k, (∀ j, j < k → SynLike (nthY xs j) (nthY ys j)) → synTo ts xs k = synTo ts ys k := by
  intro k
  induction k with
  | zero => intro _; rfl
  | succ k ih =>
    intro h
    have h1 := ih fun j hj => h j (by omega)
    have h2 := h k (by omega)
    rw [synTo, synTo, h1, h2.n, h2.fs]
    cases hs : synTo ts ys k with
    | none => rfl
    | some b =>
      have hb := synTo_lt _ _ _ _ hs
      simp only [(h b (by omega)).n]
theorem trm_new {x y : ConfA} (hm : x.m = y.m) (h : ∀ j, j < y.m → SynLike (nthY x.ys j) (nthY y.ys j)) : ∀ f ts, trm x f ts = trm y f ts := by
  intro f
  induction f with
  | zero => intro ts; rfl
  | succ f ih =>
    intro ts
    match ts with
    | [] => rw [trm_nil, trm_nil]
    | t :: r =>
      rw [trm, trm, hm, synTo_new (ts := t :: r) y.m h]
      cases hs : synTo (t :: r) y.ys y.m with
      | none => simp only [ih r]
      | some k =>
        have hk := synTo_lt _ _ _ _ hs
        simp only [(h k hk).n, (h k hk).to, ih]
theorem termsOf_new {w : World} {B : Nat} {x y : ConfA} (h : CNew w B x y) (s : ByteArray) : termsOf y s = termsOf x s := by
  unfold termsOf
  rw [confOk_new h]
  have hk : plainT y (wds s 0 0) = plainT x (wds s 0 0) := by
    unfold plainT keepT
    rw [h.n, h.ss]
  rw [hk]
  unfold termsT
  rw [trm_new h.m fun j hj => (h.each j hj).like]
set_option maxRecDepth 100000 in
set_option maxHeartbeats 1000000 in
theorem sTermsOf_any (x : ConfA) (s : ByteArray) (hs : s.size ≤ maxLen) (w : World) (hx : x.In w) :
    Calls Try.prog 22 #[x.v, .string s] w fun e w' => ∃ a' n' c', e = .returned (.slice a' n' c') ∧ OwnTms w' w.heap.size a' n' c' (termsOf x s) ∧ Below w.heap.size w w' := by
  have HX := Lib.hid hx
  clear hx
  unfold ConfA.v
  have BW : Hid (Below w.heap.size w (w.alloc (.cells #[.slice x.a x.n x.c, .slice x.b x.m x.d] 30))) := (Below.refl _ _).alloc (Nat.le_refl _) _
  have c0 : Hid ((w.alloc (.cells #[.slice x.a x.n x.c, .slice x.b x.m x.d] 30)).cell? ⟨w.heap.size, 0, none⟩ = some (.slice x.a x.n x.c)) := World.cell?_alloc_at _ _ _ _ rfl
  have c1 : Hid ((w.alloc (.cells #[.slice x.a x.n x.c, .slice x.b x.m x.d] 30)).cell? ⟨w.heap.size, 1, none⟩ = some (.slice x.b x.m x.d)) := World.cell?_alloc_at _ _ _ _ rfl
  have hsz : Hid (w.heap.size < (w.alloc (.cells #[.slice x.a x.n x.c, .slice x.b x.m x.d] 30)).heap.size) := by show _ < _; simp
  have X0 := Lib.hid (HX.out.below BW.out)
  go_enter Try.func22, Try.ntmps22
  go_wp2_with fail
  generalize w.alloc (.cells #[.slice x.a x.n x.c, .slice x.b x.m x.d] 30) = W0 at *
  have CO := Lib.hid (l2Ok_any x W0 X0.out)
  unfold ConfA.v at CO
  have d0 := c0.out
  have d1 := c1.out
  refine CO.out.mono ?_
  clear CO
  rintro e w1 ⟨rfl, hb⟩
  have B1 := Lib.hid (BW.out.trans (hb.mono BW.out.size))
  have X1 := Lib.hid (X0.out.below hb)
  have S1 := Lib.hid hb.size
  have d0 := (hb.cell hsz.out).trans c0.out
  have d1 := (hb.cell hsz.out).trans c1.out
  clear hb
  cases hok : confOk x
  · have R := Lib.hid (show termsOf x s = [] by unfold termsOf; rw [hok]; rfl)
    go_wp2_with fail
    go_ret
    rw [R.out]
    exact ⟨_, _, _, rfl, ⟨rfl, (fun t ht => by cases ht), World.ownsRow_nil _ _ _ _⟩, B1.out⟩
  have OK := Lib.hid hok; clear hok
  go_wp2_with fail
  refine (l1Text_any _ _ hs).mono ?_
  rintro e w' ⟨rfl, rfl⟩
  cases htx : textOk s
  · have R := Lib.hid (show termsOf x s = [] by unfold termsOf; rw [htx, Bool.and_false]; rfl)
    go_wp2_with fail
    go_ret
    rw [R.out]
    exact ⟨_, _, _, rfl, ⟨rfl, (fun t ht => by cases ht), World.ownsRow_nil _ _ _ _⟩, B1.out⟩
  have h160 := textOk_size htx
  have RES := Lib.hid (show termsOf x s = termsT x (plainT x (wds s 0 0)) by unfold termsOf; rw [htx, OK.out]; rfl)
  have CL := Lib.hid (l2Terms_any x s h160 w1 X1.out OK.out)
  unfold ConfA.v at CL
  clear htx
  go_wp2_with fail
  refine CL.out.mono ?_
  clear CL
  rintro e w2 ⟨a', n', c', rfl, ho, hb⟩
  have O2 := Lib.hid (ho.base (show w.heap.size ≤ _ by have h1 := S1.out; have h2 := hsz.out; omega)); clear ho
  have B2 := Lib.hid (B1.out.trans (hb.mono B1.out.size)); clear hb
  go_wp2_with fail
  go_ret
  rw [RES.out]
  exact ⟨_, _, _, rfl, O2.out, B2.out⟩
/-- What both of them answer, with its length told. -/
def TermsPost (x : ConfA) (s : ByteArray) (w : World) (e : Ending) (w' : World) : Prop := ∃ a' c', e = .returned (.slice a' (termsOf x s).length c') ∧ OwnTms w' w.heap.size a' (termsOf x s).length c' (termsOf x s) ∧ Below w.heap.size w w'
theorem terms_told {x : ConfA} {s : ByteArray} {w : World} {e : Ending} {w' : World} (h : ∃ a' n' c', e = .returned (.slice a' n' c') ∧ OwnTms w' w.heap.size a' n' c' (termsOf x s) ∧ Below w.heap.size w w') : TermsPost x s w e w' := by
  obtain ⟨a', n', c', rfl, ho, hb⟩ := h
  obtain rfl := ho.len
  exact ⟨a', c', rfl, ho, hb⟩
/-- A row of terms that is elder than what turns. -/
theorem OwnTms.elder {w0 w w' : World} {B B0 C : Nat} {a : Option Addr} {n cap : Nat} {ts : List Tm} (h : OwnTms w B0 a n cap ts) (h0 : OwnTms w0 B0 a n cap ts) (hB : w0.heap.size ≤ B) (hw : Within B C w w') : OwnTms w' B0 a n cap ts := by
  refine ⟨h.len, h.fit, h.own.1, ?_⟩
  rcases h.own.2 with hn | ⟨g, cap', cur, hv, hg, hh, r⟩
  · exact .inl hn
  · have h1 := (own_block h0.own g (by rw [hv]; rfl)).2
    exact .inr ⟨g, cap', cur, hv, hg, by rw [hw.lo.block g (by omega)]; exact hh, r⟩
theorem OwnTms.younger {w w' : World} {B B0 C : Nat} {a : Option Addr} {n cap : Nat} {ts : List Tm} (h : OwnTms w B0 a n cap ts) (hw : Within B C w w') (hC : C ≤ B0) : OwnTms w' B0 a n cap ts := ⟨h.len, h.fit, own_within h.own hw hC⟩
set_option maxRecDepth 100000 in
set_option maxHeartbeats 4000000 in
theorem xTermsOf_any (x : ConfA) (s : ByteArray) (hs : s.size ≤ maxLen) {w : World} (hx : x.In w) :
    Calls Try.prog 9 #[x.v, .string s] w fun e w' => e = .returned (.bool true) ∧ Below w.heap.size w w' := by
  have HX := Lib.hid hx
  have FT := Lib.hid hx.fits
  have HSZ := Lib.hid hs
  clear hx
  have BA := Lib.hid ((Below.refl w.heap.size w).alloc (Nat.le_refl _) (.cells #[.slice x.a x.n x.c, .slice x.b x.m x.d] 25))
  have b0 := Lib.hid (show (w.alloc (.cells #[.slice x.a x.n x.c, .slice x.b x.m x.d] 25)).cell? ⟨w.heap.size, 0, none⟩ = some (.slice x.a x.n x.c) from World.cell?_alloc_at _ _ _ _ rfl)
  have b1 := Lib.hid (show (w.alloc (.cells #[.slice x.a x.n x.c, .slice x.b x.m x.d] 25)).cell? ⟨w.heap.size, 1, none⟩ = some (.slice x.b x.m x.d) from World.cell?_alloc_at _ _ _ _ rfl)
  have lz : Hid (w.heap.size < (w.alloc (.cells #[.slice x.a x.n x.c, .slice x.b x.m x.d] 25)).heap.size) := by show _ < _; simp
  unfold ConfA.v
  by_cases hlt : (1048576 : Int) < (s.size : Int)
  · go_enter Try.func9, Try.ntmps9
    go_wp2_with fail
    go_ret
    exact ⟨rfl, BA.out⟩
  go_enter Try.func9, Try.ntmps9
  go_wp2_with fail
  generalize w.alloc (.cells #[.slice x.a x.n x.c, .slice x.b x.m x.d] 25) = W0 at *
  have l0 := b0.out
  have l1 := b1.out
  have SZ := Lib.hid (szConf_any x 1048576 W0 (HX.out.below BA.out) (by omega) (by omega))
  unfold ConfA.v at SZ
  go_wp2_with fail
  refine SZ.out.mono ?_
  rintro e w1 ⟨r, rfl, hr0, hr1, hr2, hb⟩
  clear SZ
  have l0 := (hb.cell lz.out).trans b0.out
  have l1 := (hb.cell lz.out).trans b1.out
  have G1 := Lib.hid hb
  have B1 := Lib.hid (BA.out.trans (hb.mono BA.out.size)); clear hb
  have R2 := Lib.hid hr2; clear hr2
  by_cases hneg : r < 0
  · go_wp2_with fail
    go_ret
    exact ⟨rfl, B1.out⟩
  obtain ⟨p1, p2, p3⟩ := R2.out (by omega)
  have hn2 : x.n ≤ 1048576 := by omega
  have hm2 : x.m ≤ 1048576 := by omega
  have P3 := Lib.hid p3; clear p3
  have hnm : x.n ≤ maxLen := by unfold maxLen; omega
  have hmm : x.m ≤ maxLen := by unfold maxLen; omega
  have TC : ∀ w', Below w.heap.size w w' → Hid (Calls Try.prog 12 #[.agg #[.slice x.a x.n x.c, .slice x.b x.m x.d]] w' fun e w'' => ∃ y : ConfA, e = .returned y.v ∧ CNew w'' w'.heap.size x y ∧ Below w'.heap.size w' w'') := fun w' hb => toConf_any x w' (HX.out.below hb) hn2 hm2 P3.out
  have MC : ∀ (y : ConfA) (B : Nat) (w0 w : World), CNew w0 B x y → CNew w B x y → w0.heap.size ≤ w.heap.size → B ≤ w0.heap.size → Hid (Calls Try.prog 29 #[y.v, .int .i64 1] w fun e w' => ∃ r : Nat, e = .returned (.int .i64 r) ∧ Within B w0.heap.size w w') := fun y B w0 w hx hy hl hB => markConf_any x y B w0 w hx hy hl hB hn2 hm2 P3.out
  have NL := termsOf_len x s
  obtain ⟨ts, hts⟩ : ∃ ts, ts = termsOf x s := ⟨_, rfl⟩
  rw [← hts] at NL
  have TN : ∀ {w' B y}, CNew w' B x y → termsOf y s = ts := fun h => (termsOf_new h s).trans hts.symm
  obtain ⟨N, hN⟩ : ∃ N, N = ts.length := ⟨_, rfl⟩
  rw [← hN] at NL
  have L3 : N ≤ maxLen := by unfold maxLen; omega
  have HN := Lib.hid hN; clear hN hts
  have ST : ∀ (y : ConfA) (B : Nat) (w w1 : World), CNew w1 B x y → y.In w → Hid (Calls Try.prog 22 #[y.v, .string s] w fun e w' => ∃ a' c', e = .returned (.slice a' N c') ∧ OwnTms w' w.heap.size a' N c' ts ∧ Below w.heap.size w w') := fun y B w w1 hc hi => (sTermsOf_any y s HSZ.out w hi).mono fun e w' h => by
    have := terms_told h
    unfold TermsPost at this
    rw [TN hc, ← HN.out] at this
    exact this
  have IT : ∀ (y : ConfA) (B : Nat) (w w1 : World), CNew w1 B x y → y.In w → Hid (Calls Try.prog 19 #[y.v, .string s] w fun e w' => ∃ a' c', e = .returned (.slice a' N c') ∧ OwnTms w' w.heap.size a' N c' ts ∧ Below w.heap.size w w') := fun y B w w1 hc hi => (TermsOf_any y s HSZ.out w hi).mono fun e w' h => by
    have := terms_told h
    unfold TermsPost at this
    rw [TN hc, ← HN.out] at this
    exact this
  clear p1 p2 hn2 hm2
  have T1 := TC _ B1.out
  go_wp2_with fail
  refine T1.out.mono ?_
  clear T1
  rintro e w2 ⟨y2, rfl, hq2, hb⟩
  have B2 := Lib.hid (B1.out.trans (hb.mono B1.out.size)); have G2 := Lib.hid (G1.out.trans (hb.mono G1.out.size)); clear hb
  have I2 := hq2.in FT.out hnm hmm
  have S2 := ST y2 _ w2 _ hq2 I2
  clear hq2 I2
  have l0 := (G2.out.cell lz.out).trans b0.out
  have l1 := (G2.out.cell lz.out).trans b1.out
  go_wp2_with fail
  refine S2.out.mono ?_
  clear S2
  rintro e w3 ⟨aW, cW, rfl, hW3, hb⟩
  have W3 := Lib.hid hW3; clear hW3
  have B3 := Lib.hid (B2.out.trans (hb.mono B2.out.size)); have G3 := Lib.hid (G2.out.trans (hb.mono G2.out.size)); clear hb
  have T3 := TC _ B3.out
  have l0 := (G3.out.cell lz.out).trans b0.out
  have l1 := (G3.out.cell lz.out).trans b1.out
  go_wp2_with fail
  refine T3.out.mono ?_
  clear T3
  rintro e w4 ⟨y4, rfl, hq4, hb⟩
  have W4 := Lib.hid (W3.out.below hb)
  have S34 := Lib.hid hb.size
  have B4 := Lib.hid (B3.out.trans (hb.mono B3.out.size)); have G4 := Lib.hid (G3.out.trans (hb.mono G3.out.size)); clear hb
  have I4 := Lib.hid (hq4.in FT.out hnm hmm)
  have Q4 := Lib.hid hq4; clear hq4
  have MK4 : Hid (∀ w, Below w4.heap.size w4 w → Calls Try.prog 29 #[y4.v, .int .i64 1] w fun e w' => ∃ r : Nat, e = .returned (.int .i64 r) ∧ Within w3.heap.size w4.heap.size w w') := fun w hb => (MC y4 _ w4 w Q4.out (Q4.out.below hb) hb.size S34.out).out
  have IT4 : Hid (∀ w, Below w4.heap.size w4 w → Calls Try.prog 19 #[y4.v, .string s] w fun e w' => ∃ a' c', e = .returned (.slice a' N c') ∧ OwnTms w' w.heap.size a' N c' ts ∧ Below w.heap.size w w') := fun w hb => (IT y4 _ w _ Q4.out (I4.out.below hb)).out
  obtain ⟨a4, n4, c4, ss4, b4, m4, d4, ys4⟩ := y4
  have BB := Lib.hid ((Below.refl w4.heap.size w4).alloc (Nat.le_refl _) (.cells #[.slice a4 n4 c4, .slice b4 m4 d4] 30))
  have f0 := Lib.hid (show (w4.alloc (.cells #[.slice a4 n4 c4, .slice b4 m4 d4] 30)).cell? ⟨w4.heap.size, 0, none⟩ = some (.slice a4 n4 c4) from World.cell?_alloc_at _ _ _ _ rfl)
  have f1 := Lib.hid (show (w4.alloc (.cells #[.slice a4 n4 c4, .slice b4 m4 d4] 30)).cell? ⟨w4.heap.size, 1, none⟩ = some (.slice b4 m4 d4) from World.cell?_alloc_at _ _ _ _ rfl)
  have lz4 : Hid (w4.heap.size < (w4.alloc (.cells #[.slice a4 n4 c4, .slice b4 m4 d4] 30)).heap.size) := by show _ < _; simp
  have B5 := Lib.hid (B4.out.trans (BB.out.mono B4.out.size))
  have G5 := Lib.hid (G4.out.trans (BB.out.mono G4.out.size))
  have W5 := Lib.hid (W4.out.below BB.out)
  unfold ConfA.v
  go_wp2_with fail
  generalize w4.alloc (.cells #[.slice a4 n4 c4, .slice b4 m4 d4] 30) = w5 at *
  have k0 := f0.out
  have k1 := f1.out
  have CO := Lib.hid (IT4.out w5 BB.out)
  unfold ConfA.v at CO
  obtain ⟨D4, hD4⟩ : ∃ D, D = w4.heap.size := ⟨_, rfl⟩
  rw [← hD4] at f0 f1 lz4 k0 k1 ⊢
  have HD4 := Lib.hid hD4; clear hD4
  go_wp2_with fail
  refine CO.out.mono ?_
  clear CO
  rintro e w6 ⟨aG, cG, rfl, hG, hb⟩
  have G6 := Lib.hid (hG.base (show w4.heap.size ≤ _ from BB.out.size)); clear hG
  have W6 := Lib.hid (W5.out.below hb)
  have B6 := Lib.hid (B5.out.trans (hb.mono B5.out.size)); have L6 := Lib.hid (G5.out.trans (hb.mono G5.out.size))
  have H6 := Lib.hid (BB.out.trans (hb.mono BB.out.size))
  have H56 := Lib.hid hb; clear hb
  go_wp2_with fail
  refine (eqTermS_same _ _ _ _ _ _ _ G6.out.tms W6.out.tms L3).mono ?_
  rintro e w7 ⟨rfl, hb⟩
  have G7 := Lib.hid (G6.out.below hb)
  have W7 := Lib.hid (W6.out.below hb)
  have B7 := Lib.hid (B6.out.trans (hb.mono B6.out.size)); have L7 := Lib.hid (L6.out.trans (hb.mono L6.out.size))
  have H7 := Lib.hid (H6.out.trans (hb.mono H6.out.size))
  have H57 := Lib.hid (H56.out.trans (hb.mono H56.out.size)); clear hb
  have I7 := Lib.hid (I4.out.below H7.out)
  have k0 := (H57.out.cell lz4.out).trans f0.out
  have k1 := (H57.out.cell lz4.out).trans f1.out
  have l0 := (L7.out.cell lz.out).trans b0.out
  have l1 := (L7.out.cell lz.out).trans b1.out
  have q0 := cell_regrown k0
  have q1 := cell_regrown k1
  have q2 := cell_regrown l0
  have q3 := cell_regrown l1
  go_wp2_with fail
  go_region_with (first
    | (go_at_call 12; refine ((TC _ (Below.drew B7.out)).out).mono ?_; rintro e w8 ⟨y8, rfl, hq8, hb8⟩; have I8 := Lib.hid (hq8.in FT.out hnm hmm); have Q8 := Lib.hid (Q4.out.likes hq8); have X8 := Lib.hid (show Below w7.heap.size w7 w8 from Below.trans ((Below.refl _ w7).drew) hb8); have H8 := Lib.hid (Below.trans (Below.drew H57.out) (hb8.mono (show w5.heap.size ≤ w7.heap.size from H57.out.size))); have z0 := (H8.out.cell lz4.out).trans f0.out; have z1 := (H8.out.cell lz4.out).trans f1.out; have CE := Lib.hid (eqConf_same ⟨a4, n4, c4, ss4, b4, m4, d4, ys4⟩ y8 w8 (I7.out.below (Below.trans ((Below.refl _ _).drew) hb8)) I8.out Q8.out.1 Q8.out.2.1 Q8.out.2.2.1 Q8.out.2.2.2); clear hq8 hb8; unfold ConfA.v at CE; unfold ConfA.v)
    | (go_at_call 14; refine CE.out.mono ?_; rintro e w9 ⟨rfl, hb9⟩; have X9 := Lib.hid (X8.out.trans (hb9.mono X8.out.size)); clear hb9))
  all_goals
    have G9 := Lib.hid (G7.out.below X9.out)
    have W9 := Lib.hid (W7.out.below X9.out)
    have B9 := Lib.hid (B7.out.trans (X9.out.mono B7.out.size)); have L9 := Lib.hid (L7.out.trans (X9.out.mono L7.out.size))
    have H9 := Lib.hid (H7.out.trans (X9.out.mono H7.out.size))
    have H59 := Lib.hid (H57.out.trans (X9.out.mono H57.out.size))
    clear X9 CE z0 z1 q0 q1 q2 q3 k0 k1 l0 l1
    have k0 := (H59.out.cell lz4.out).trans f0.out
    have k1 := (H59.out.cell lz4.out).trans f1.out
    have CM := Lib.hid (MK4.out w9 H9.out)
    unfold ConfA.v at CM
    go_wp2_with fail
    refine CM.out.mono ?_
    clear CM k0 k1
    rintro e w10 ⟨r10, rfl, hw⟩
    have W10 := Lib.hid (W9.out.elder W3.out (Nat.le_refl _) hw)
    have G10 := Lib.hid (G9.out.younger hw (Nat.le_refl _))
    have B10 := Lib.hid (B9.out.trans (hw.lo.mono B3.out.size)); have L10 := Lib.hid (L9.out.trans (hw.lo.mono G3.out.size)); clear hw
    have gr : decide ((r10 : Int) < 0) = false := decide_eq_false (by omega)
    go_wp2_with fail
    refine (eqTermS_same _ _ _ _ _ _ _ G10.out.tms W10.out.tms L3).mono ?_
    rintro e w11 ⟨rfl, hb⟩
    have G11 := Lib.hid (G10.out.below hb)
    have W11 := Lib.hid (W10.out.below hb)
    have B11 := Lib.hid (B10.out.trans (hb.mono B10.out.size)); have L11 := Lib.hid (L10.out.trans (hb.mono L10.out.size)); clear hb gr
    go_wp2_with fail
    refine (markTermS_any aG N cG 1 w4.heap.size (tmC ts) w11 (by have h := G11.out.own; rw [tmCells_tab, ← HN.out] at h; exact h) (by omega) (by omega)).mono ?_
    rintro e w12 ⟨rfl, ho, hg⟩
    have W12 : Hid (OwnTms w12 w2.heap.size aW N cW ts) := ⟨W11.out.len, W11.out.fit, W11.out.own.kept hg (own_apart W3.out.own G6.out.own S34.out)⟩
    have G12 := Lib.hid ho
    have B12 := Lib.hid (B11.out.grown hg B11.out.size (fun k hk => Nat.le_trans B4.out.size (own_block ho k hk).1))
    have L12 := Lib.hid (L11.out.grown hg L11.out.size (fun k hk => Nat.le_trans G4.out.size (own_block ho k hk).1)); clear ho hg
    go_wp2_with fail
    refine (heldTermS_any _ _ _ 1 _ (Rd.of_own G12.out) (by omega) (by omega)).mono ?_
    rintro e w13 ⟨rfl, hb⟩
    have G13 := Lib.hid (own_below G12.out hb (Nat.le_refl _))
    have W13 := Lib.hid (W12.out.below hb)
    have B13 := Lib.hid (B12.out.trans (hb.mono B12.out.size)); have L13 := Lib.hid (L12.out.trans (hb.mono L12.out.size)); clear hb
    have T13 := TC _ B13.out
    have l0 := (L13.out.cell lz.out).trans b0.out
    have l1 := (L13.out.cell lz.out).trans b1.out
    go_wp2_with fail
    refine T13.out.mono ?_
    clear T13 l0 l1
    rintro e w14 ⟨y14, rfl, hq14, hb⟩
    have G14 := Lib.hid (own_below G13.out hb (Nat.le_refl _))
    have W14 := Lib.hid (W13.out.below hb)
    have B14 := Lib.hid (B13.out.trans (hb.mono B13.out.size)); clear hb
    have S14 := IT y14 _ w14 _ hq14 (hq14.in FT.out hnm hmm)
    clear hq14
    go_wp2_with fail
    refine S14.out.mono ?_
    clear S14
    rintro e w15 ⟨aH, cH, rfl, hH, hb⟩
    have H15 := Lib.hid hH; clear hH
    have G15 := Lib.hid (own_below G14.out hb (Nat.le_refl _))
    have W15 := Lib.hid (W14.out.below hb)
    have B15 := Lib.hid (B14.out.trans (hb.mono B14.out.size)); clear hb
    go_wp2_with fail
    refine (eqTermS_same _ _ _ _ _ _ _ H15.out.tms W15.out.tms L3).mono ?_
    rintro e w16 ⟨rfl, hb⟩
    have G16 := Lib.hid (own_below G15.out hb (Nat.le_refl _))
    have B16 := Lib.hid (B15.out.trans (hb.mono B15.out.size)); clear hb
    go_wp2_with fail
    refine (heldTermS_any _ _ _ 1 _ (Rd.of_own G16.out) (by omega) (by omega)).mono ?_
    rintro e w17 ⟨rfl, hb⟩
    have B17 := Lib.hid (B16.out.trans (hb.mono B16.out.size)); clear hb
    go_wp2_with fail
    go_ret
    exact ⟨rfl, B17.out⟩
theorem xTermsOf_law {w : World} (x : ConfA) (hx : x.In w) (s : ByteArray) (hs : s.size ≤ maxLen) :
    Calls Try.prog 9 #[x.v, .string s] w fun e w' => e = .returned (.bool true) ∧ Below w.heap.size w w' := xTermsOf_any x s hs hx
end Go.Proofs.Ytejooloflcldiaa
