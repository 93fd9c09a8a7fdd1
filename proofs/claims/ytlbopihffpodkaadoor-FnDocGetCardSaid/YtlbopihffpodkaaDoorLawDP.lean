/- The laws on documents put into text and read out of it. Conditions: what is read fits the model's sizes; the library's variables hold what they are laid to hold. -/
import Derived.Test.YtlbopihffpodkaaDoorDocY
import Derived.Test.YtlbopihffpodkaaDoorFo
import Derived.Test.YtlbopihffpodkaaDoorDrawD
namespace Go.Proofs.YtlbopihffpodkaaDoor
set_option maxRecDepth 100000
open Go.RowKit Go.Sort
theorem iGet_put {t : St} (h : okSt t = true) : iGet (putSt t) = some t := by
  unfold iGet
  rw [if_neg (put_some t), iRead_put h, if_pos ⟨h, rfl⟩]
theorem iGet_some {s : ByteArray} {t : St} (h : iGet s = some t) : okSt t = true ∧ putSt t = s := by
  unfold iGet at h
  split at h
  · cases h
  · split at h
    · rename_i h2
      injection h with h
      subst h
      exact h2
    · cases h
theorem same_of (x : DocA) {w : World} {B : Nat} (h : DocOwn w B x) : Same x ⟨x.id, x.fs, x.ns⟩ := ⟨rfl, h.lf.symm, rfl, h.lg.symm, rfl⟩
theorem ok_same {x : DocA} {t : St} (h : Same x t) : docOk x.id x.n x.fs x.m x.ns = okSt t := by
  obtain ⟨h1, h2, h3, h4, h5⟩ := h
  rw [h1, h2, h3, h4, h5]; rfl
theorem put_same {x : DocA} {t : St} (h : Same x t) : docPut x.id x.n x.fs x.m x.ns = if okSt t then putSt t else ⟨#[]⟩ := by
  obtain ⟨h1, h2, h3, h4, h5⟩ := h
  rw [h1, h2, h3, h4, h5]; rfl
theorem foDoc_alike (x y : DocA) (w : World) (hx : x.In w) (hy : y.In w) {t : St} (h1 : Same x t) (h2 : Same y t) (hn : x.n ≤ 1000) (hm : x.m ≤ 1000) :
    Calls Tryd.prog 13 #[.agg #[.int .i64 x.id, .slice x.a x.n x.c, .slice x.b x.m x.d], .agg #[.int .i64 y.id, .slice y.a y.n y.c, .slice y.b y.m y.d]] w fun e w' => e = .returned (.bool true) ∧ Below w.heap.size w w' := by
  obtain ⟨a1, a2, a3, a4, a5⟩ := h1
  obtain ⟨b1, b2, b3, b4, b5⟩ := h2
  have hyf := hy.f
  have hyg := hy.g
  have e := foDoc_same x.id x.a x.n x.c x.fs x.b x.m x.d x.ns y.a y.c y.b y.d w hx.f hx.g (by rw [a2, a3, ← b2, ← b3]; exact hyf) (by rw [a4, a5, ← b4, ← b5]; exact hyg) hn hm
  rw [b1, b2, b4, ← a1, ← a2, ← a4]
  exact e
set_option maxRecDepth 100000 in
set_option maxHeartbeats 4000000 in
theorem FnDocPut_any {w : World} (a : Option Addr) (n cap : Nat) (cs : List Int) (hx : Byts w a n cap cs) (hn : n ≤ maxLen) (he : Env w) :
    Calls Tryd.prog 3 #[.slice a n cap] w fun e w' => e = .returned (.bool true) ∧ Below w.heap.size w w' := by
  have HX := Lib.hid hx; clear hx
  have HE := Lib.hid he; clear he
  unfold maxLen at hn
  by_cases hlt : (1048576 : Int) < (n : Int)
  · go_enter Tryd.func3, Tryd.ntmps3
    go_wp2_with fail
    go_ret
    exact ⟨rfl, Below.refl _ _⟩
  go_enter Tryd.func3, Tryd.ntmps3
  go_wp2_with fail
  refine (DrawDocPut_any _ _ _ _ HX.out (by omega)).mono ?_
  rintro e w1 ⟨x, rfl, ho, hb⟩
  have A1 : Below w1.heap.size w1 (w1.alloc (.cells #[.int .i64 x.id, .slice x.a x.n x.c, .slice x.b x.m x.d] 26)) := (Below.refl _ _).alloc (Nat.le_refl _) _
  have BX : Hid (DocObj (w1.alloc (.cells #[.int .i64 x.id, .slice x.a x.n x.c, .slice x.b x.m x.d] 26)) w1.heap.size x) := heap_alloc_new _ _
  have OX := Lib.hid (ho.below A1)
  have B0 := Lib.hid (hb.trans (A1.mono hb.size))
  have lx : Hid (w1.heap.size < (w1.alloc (.cells #[.int .i64 x.id, .slice x.a x.n x.c, .slice x.b x.m x.d] 26)).heap.size) := by show _ < _; simp
  have hz := docPut_small x.id x.n x.fs x.m x.ns
  have SX := Lib.hid (same_of x ho)
  have hn3 := ho.nf
  have hm3 := ho.nm
  clear ho hb A1
  unfold DocA.v docV
  go_wp2_with fail
  generalize hbx : w1.heap.size = bx at *
  generalize w1.alloc (.cells #[.int .i64 x.id, .slice x.a x.n x.c, .slice x.b x.m x.d] 26) = W0 at *
  clear hbx
  have EN := Lib.hid (HE.out.below B0.out)
  have IN := Lib.hid OX.out.in
  obtain ⟨P, hP⟩ : ∃ P, P = docPut x.id x.n x.fs x.m x.ns := ⟨_, rfl⟩
  obtain ⟨ok, hok⟩ : ∃ b, b = docOk x.id x.n x.fs x.m x.ns := ⟨_, rfl⟩
  have C1 : Hid (∀ w', Below W0.heap.size W0 w' → Calls Tryd.prog 8 #[.agg #[.int .i64 x.id, .slice x.a x.n x.c, .slice x.b x.m x.d]] w' fun e w'' => e = .returned (.string P) ∧ Below w'.heap.size w' w'') := by
    intro w' h; rw [hP]; exact DocPut_any _ _ _ _ _ _ _ _ _ w' (IN.out.f.below h) (IN.out.g.below h) IN.out.hn IN.out.hm (EN.out.below h).tab
  have C2 : Hid (∀ w', Below W0.heap.size W0 w' → Calls Tryd.prog 9 #[.agg #[.int .i64 x.id, .slice x.a x.n x.c, .slice x.b x.m x.d]] w' fun e w'' => e = .returned (.string P) ∧ Below w'.heap.size w' w'') := by
    intro w' h; rw [hP]; exact sDocPut_any _ _ _ _ _ _ _ _ _ w' (IN.out.f.below h) (IN.out.g.below h) IN.out.hn IN.out.hm
  have C3 : Hid (∀ w', Below W0.heap.size W0 w' → Calls Tryd.prog 10 #[.agg #[.int .i64 x.id, .slice x.a x.n x.c, .slice x.b x.m x.d]] w' fun e w'' => e = .returned (.bool ok) ∧ Below w'.heap.size w' w'') := by
    intro w' h; rw [hok]; exact DocOk_any _ _ _ _ _ _ _ _ _ w' (IN.out.f.below h) (IN.out.g.below h) IN.out.hn IN.out.hm
  have C4 : Hid (∀ w', Below W0.heap.size W0 w' → Calls Tryd.prog 11 #[.agg #[.int .i64 x.id, .slice x.a x.n x.c, .slice x.b x.m x.d]] w' fun e w'' => e = .returned (.bool ok) ∧ Below w'.heap.size w' w'') := by
    intro w' h; rw [hok]; exact sDocOk_any _ _ _ _ _ _ _ _ _ w' (IN.out.f.below h) (IN.out.g.below h) IN.out.hn IN.out.hm
  have hz2 : P.size ≤ 1000 := by rw [hP]; exact hz
  have HP := Lib.hid hP
  have HO := Lib.hid hok
  clear hP hz hok
  refine (C1.out _ (Below.refl _ _)).mono ?_
  rintro e w2 ⟨rfl, hb2⟩
  have B2 := Lib.hid hb2; clear hb2
  have BX2 := Lib.hid (BX.out.below B2.out)
  obtain ⟨d0, d1, d2, -, -, -⟩ := BX2.out.cells
  have q0 := cell_regrown d0
  have q1 := cell_regrown d1
  have q2 := cell_regrown d2
  have bn : (P.toList != P.toList) = false := by simp
  have bt : (P.toList == P.toList) = true := by simp
  cases ok
  · have PE : P = ⟨#[]⟩ := by rw [HP.out, docPut, ← HO.out]; rfl
    have be : (P.toList == []) = true := by rw [PE, ByteArray.toList_eq]; rfl
    clear PE
    go_wp2_with fail
    refine wp_region_quiet_below (by kernel_rfl) (by kernel_rfl) ?_
    repeat (go_big_quiet_step (first | (go_at_call 9; exact quiet_b fun w1 hb => C2.out _ (B2.out.trans (hb.mono B2.out.size))) | (go_at_call 10; exact quiet_b fun w1 hb => C3.out _ (B2.out.trans (hb.mono B2.out.size))) | (go_at_call 11; exact quiet_b fun w1 hb => C4.out _ (B2.out.trans (hb.mono B2.out.size)))))
    refine wpQuiet_nil ?_
    intro w3 hqq
    have BQ := Lib.hid (quiet_out hqq)
    clear hqq
    clear q0 q1 q2 d0 d1 d2
    have B3 := Lib.hid (B2.out.trans (BQ.out.mono B2.out.size))
    have BX3 := Lib.hid (BX2.out.below BQ.out)
    obtain ⟨d0, d1, d2, -, -, -⟩ := BX3.out.cells
    have q0 := cell_regrown d0
    have q1 := cell_regrown d1
    have q2 := cell_regrown d2
    go_wp2_with fail
    refine wp_region_quiet_below (by kernel_rfl) (by kernel_rfl) ?_
    repeat (go_big_quiet_step (first | (go_at_call 9; exact quiet_b fun w1 hb => C2.out _ (B3.out.trans (hb.mono B3.out.size))) | (go_at_call 10; exact quiet_b fun w1 hb => C3.out _ (B3.out.trans (hb.mono B3.out.size))) | (go_at_call 11; exact quiet_b fun w1 hb => C4.out _ (B3.out.trans (hb.mono B3.out.size)))))
    refine wpQuiet_nil ?_
    intro w4 hqq
    have BR := Lib.hid (quiet_out hqq)
    clear hqq
    clear q0 q1 q2 d0 d1 d2
    have B4 := Lib.hid (B3.out.trans (BR.out.mono B3.out.size))
    go_wp2_with fail
    go_ret
    exact ⟨rfl, B0.out.trans (B4.out.mono B0.out.size)⟩
  · have OT : okSt ⟨x.id, x.fs, x.ns⟩ = true := by rw [← ok_same SX.out]; exact HO.out.symm
    have PE : P = putSt ⟨x.id, x.fs, x.ns⟩ := by rw [HP.out, put_same SX.out, if_pos OT]
    have G : iGet P = some ⟨x.id, x.fs, x.ns⟩ := by rw [PE]; exact iGet_put OT
    have be : (P.toList == []) = false := beq_eq_false_iff_ne.2 (ne_list (l := #[]) (by rw [PE]; exact put_some _))
    have GD : Hid (∀ w', Below W0.heap.size W0 w' → Calls Tryd.prog 12 #[.string P] w' fun e w'' => ∃ y : DocA, e = .returned (.tuple #[y.v, .bool true]) ∧ DocOwn w'' w'.heap.size y ∧ Same y ⟨x.id, x.fs, x.ns⟩ ∧ Below w'.heap.size w' w'') := by
      intro w' h
      have e := iDocGet_one P w' (by omega) (EN.out.below h)
      rw [G] at e
      exact e
    clear PE G OT
    go_wp2_with fail
    refine wp_region_quiet_below (by kernel_rfl) (by kernel_rfl) ?_
    repeat (go_big_quiet_step (first | (go_at_call 9; exact quiet_b fun w1 hb => C2.out _ (B2.out.trans (hb.mono B2.out.size))) | (go_at_call 10; exact quiet_b fun w1 hb => C3.out _ (B2.out.trans (hb.mono B2.out.size))) | (go_at_call 11; exact quiet_b fun w1 hb => C4.out _ (B2.out.trans (hb.mono B2.out.size)))))
    refine wpQuiet_nil ?_
    intro w3 hqq
    have BQ := Lib.hid (quiet_out hqq)
    clear hqq
    clear q0 q1 q2 d0 d1 d2
    have B3 := Lib.hid (B2.out.trans (BQ.out.mono B2.out.size))
    have BX3 := Lib.hid (BX2.out.below BQ.out)
    go_wp2_with fail
    refine (GD.out _ B3.out).mono ?_
    rintro e w4 ⟨y, rfl, hy, hsy, hb4⟩
    have SY := Lib.hid hsy
    have A4 : Below w4.heap.size w4 (w4.alloc (.cells #[.int .i64 y.id, .slice y.a y.n y.c, .slice y.b y.m y.d] 26)) := (Below.refl _ _).alloc (Nat.le_refl _) _
    have OY := Lib.hid (hy.below A4)
    have hyn := hy.nf
    have hym := hy.nm
    have B4 := Lib.hid ((B3.out.trans (hb4.mono B3.out.size)).trans (A4.mono (Nat.le_trans B3.out.size hb4.size)))
    obtain ⟨c0, c1, c2, -, -, -⟩ := (BX3.out.below hb4).cells
    have lb : bx < w4.heap.size := Nat.lt_of_lt_of_le (Nat.lt_of_lt_of_le lx.out B3.out.size) hb4.size
    have ln : bx ≠ w4.heap.size := Nat.ne_of_lt lb
    clear hy hsy hb4 A4
    unfold DocA.v docV
    go_wp2_with fail
    refine (foDoc_alike y x _ OY.out.in ⟨IN.out.f.below B4.out, IN.out.g.below B4.out, IN.out.hn, IN.out.hm⟩ SY.out SX.out (by omega) (by omega)).mono ?_
    rintro e w5 ⟨rfl, hb5⟩
    have B5 := Lib.hid (B4.out.trans (hb5.mono B4.out.size))
    clear hb5 c0 c1 c2 lb ln
    go_wp2_with fail
    go_ret
    exact ⟨rfl, B0.out.trans (B5.out.mono B0.out.size)⟩
set_option maxRecDepth 100000 in
set_option maxHeartbeats 4000000 in
theorem FnDocGet_any {w : World} (a : Option Addr) (n cap : Nat) (cs : List Int) (hx : Byts w a n cap cs) (hn : n ≤ maxLen) (he : Env w) :
    Calls Tryd.prog 4 #[.slice a n cap] w fun e w' => e = .returned (.bool true) ∧ Below w.heap.size w w' := by
  have HX := Lib.hid hx; clear hx
  have HE := Lib.hid he; clear he
  unfold maxLen at hn
  by_cases hlt : (1048576 : Int) < (n : Int)
  · go_enter Tryd.func4, Tryd.ntmps4
    go_wp2_with fail
    go_ret
    exact ⟨rfl, Below.refl _ _⟩
  go_enter Tryd.func4, Tryd.ntmps4
  go_wp2_with fail
  refine (DrawDocGet_any _ _ _ _ HX.out (by omega)).mono ?_
  rintro e w1 ⟨s, rfl, hs, hb⟩
  have B1 := Lib.hid hb; clear hb
  obtain ⟨o, ho⟩ : ∃ o, o = iGet s := ⟨_, rfl⟩
  have HO := Lib.hid ho
  have SD : Hid (∀ w, Calls Tryd.prog 15 #[.string s] w fun e w' => ∃ x : DocA, e = .returned (.tuple #[x.v, .bool o.isSome]) ∧ x.In w' ∧ Same x (stOf o) ∧ Below w.heap.size w w') := by
    intro w; rw [ho]; exact sDocGet_one s w (by omega)
  have ID : Hid (∀ w, Env w → Calls Tryd.prog 12 #[.string s] w fun e w' => ∃ x : DocA, e = .returned (.tuple #[x.v, .bool o.isSome]) ∧ DocOwn w' w.heap.size x ∧ Same x (stOf o) ∧ Below w.heap.size w w') := by
    intro w he; rw [ho]; exact iDocGet_one s w (by omega) he
  clear ho
  obtain ⟨ok, hok⟩ : ∃ b, b = o.isSome := ⟨_, rfl⟩
  obtain ⟨t, ht⟩ : ∃ t, t = stOf o := ⟨_, rfl⟩
  rw [← hok, ← ht] at SD ID
  have TT : Hid (ok = true → okSt t = true ∧ putSt t = s) := by
    intro h
    rw [hok] at h
    cases o with
    | none => cases h
    | some t' => rw [ht]; exact iGet_some HO.out.symm
  clear hok ht HO
  go_wp2_with fail
  refine (ID.out _ (HE.out.below B1.out)).mono ?_
  rintro e w2 ⟨x, rfl, hx, hsx, hb2⟩
  have SX := Lib.hid hsx
  have A2 : Below w2.heap.size w2 (w2.alloc (.cells #[.int .i64 x.id, .slice x.a x.n x.c, .slice x.b x.m x.d] 26)) := (Below.refl _ _).alloc (Nat.le_refl _) _
  have BX : Hid (DocObj (w2.alloc (.cells #[.int .i64 x.id, .slice x.a x.n x.c, .slice x.b x.m x.d] 26)) w2.heap.size x) := heap_alloc_new _ _
  have IX := Lib.hid (hx.below A2).in
  have hn3 := hx.nf
  have hm3 := hx.nm
  have B2 := Lib.hid (B1.out.trans ((hb2.trans (A2.mono hb2.size)).mono B1.out.size))
  have lx : Hid (w2.heap.size < (w2.alloc (.cells #[.int .i64 x.id, .slice x.a x.n x.c, .slice x.b x.m x.d] 26)).heap.size) := by show _ < _; simp
  clear hx hsx hb2 A2
  unfold DocA.v docV
  go_wp2_with fail
  generalize hbx : w2.heap.size = bx at *
  generalize w2.alloc (.cells #[.int .i64 x.id, .slice x.a x.n x.c, .slice x.b x.m x.d] 26) = W2 at *
  clear hbx
  refine (SD.out _).mono ?_
  rintro e w3 ⟨y, rfl, hy, hsy, hb3⟩
  have SY := Lib.hid hsy
  have A3 : Below w3.heap.size w3 (w3.alloc (.cells #[.int .i64 y.id, .slice y.a y.n y.c, .slice y.b y.m y.d] 26)) := (Below.refl _ _).alloc (Nat.le_refl _) _
  have BY : Hid (DocObj (w3.alloc (.cells #[.int .i64 y.id, .slice y.a y.n y.c, .slice y.b y.m y.d] 26)) w3.heap.size y) := heap_alloc_new _ _
  have IY := Lib.hid (hy.below A3)
  have B3 := Lib.hid (hb3.trans (A3.mono hb3.size))
  have BX3 := Lib.hid (BX.out.below B3.out)
  obtain ⟨c0, c1, c2, -, -, -⟩ := (BX.out.below hb3).cells
  have lb : bx < w3.heap.size := Nat.lt_of_lt_of_le lx.out hb3.size
  have ln : bx ≠ w3.heap.size := Nat.ne_of_lt lb
  clear hy hsy hb3 A3
  have FO : Hid (∀ w', Below W2.heap.size W2 w' → y.In w' → Calls Tryd.prog 13 #[.agg #[.int .i64 x.id, .slice x.a x.n x.c, .slice x.b x.m x.d], .agg #[.int .i64 y.id, .slice y.a y.n y.c, .slice y.b y.m y.d]] w' fun e w'' => e = .returned (.bool true) ∧ Below w'.heap.size w' w'') := by
    intro w' h1 h2
    exact foDoc_alike x y w' ⟨IX.out.f.below h1, IX.out.g.below h1, IX.out.hn, IX.out.hm⟩ h2 SX.out SY.out (by omega) (by omega)
  unfold DocA.v docV
  go_wp2_with fail
  clear c0 c1 c2 lb ln
  have ly : Hid (w3.heap.size < (w3.alloc (.cells #[.int .i64 y.id, .slice y.a y.n y.c, .slice y.b y.m y.d] 26)).heap.size) := by show _ < _; simp
  generalize hby : w3.heap.size = bY at *
  generalize w3.alloc (.cells #[.int .i64 y.id, .slice y.a y.n y.c, .slice y.b y.m y.d] 26) = W3 at *
  clear hby
  refine (FO.out _ B3.out IY.out).mono ?_
  rintro e w4 ⟨rfl, hb4⟩
  have BX4 := Lib.hid (BX3.out.below hb4)
  have BY4 := Lib.hid (BY.out.below hb4)
  have IY4 : Hid (y.In w4) := ⟨IY.out.f.below hb4, IY.out.g.below hb4, IY.out.hn, IY.out.hm⟩
  have B4 := Lib.hid (B3.out.trans (hb4.mono B3.out.size))
  obtain ⟨d0, d1, d2, -, -, -⟩ := BX4.out.cells
  obtain ⟨e0, e1, e2, -, -, -⟩ := BY4.out.cells
  clear hb4
  cases ok
  · go_wp2_with fail
    refine (FO.out _ B4.out IY4.out).mono ?_
    rintro e w5 ⟨rfl, hb5⟩
    have B5 := Lib.hid (B4.out.trans (hb5.mono B4.out.size))
    clear hb5 d0 d1 d2 e0 e1 e2
    go_wp2_with fail
    go_ret
    exact ⟨rfl, B2.out.trans (B5.out.mono B2.out.size)⟩
  · obtain ⟨T1, T2⟩ := TT.out rfl
    have EN := Lib.hid (HE.out.below B2.out)
    have C1 : Hid (∀ w', Below W2.heap.size W2 w' → Calls Tryd.prog 8 #[.agg #[.int .i64 x.id, .slice x.a x.n x.c, .slice x.b x.m x.d]] w' fun e w'' => e = .returned (.string s) ∧ Below w'.heap.size w' w'') := by
      intro w' h
      have e := DocPut_any x.id x.a x.n x.c x.fs x.b x.m x.d x.ns w' (IX.out.f.below h) (IX.out.g.below h) IX.out.hn IX.out.hm (EN.out.below h).tab
      rw [put_same SX.out, if_pos T1, T2] at e
      exact e
    have C3 : Hid (∀ w', Below W2.heap.size W2 w' → Calls Tryd.prog 10 #[.agg #[.int .i64 x.id, .slice x.a x.n x.c, .slice x.b x.m x.d]] w' fun e w'' => e = .returned (.bool true) ∧ Below w'.heap.size w' w'') := by
      intro w' h
      have e := DocOk_any x.id x.a x.n x.c x.fs x.b x.m x.d x.ns w' (IX.out.f.below h) (IX.out.g.below h) IX.out.hn IX.out.hm
      rw [ok_same SX.out, T1] at e
      exact e
    have bt : (s.toList == s.toList) = true := by simp
    clear T1 T2 e0 e1 e2
    go_wp2_with fail
    refine (C1.out _ B4.out).mono ?_
    rintro e w5 ⟨rfl, hb5⟩
    have BX5 := Lib.hid (BX4.out.below hb5)
    have B5 := Lib.hid (B4.out.trans (hb5.mono B4.out.size))
    clear hb5 d0 d1 d2
    obtain ⟨d0, d1, d2, -, -, -⟩ := BX5.out.cells
    go_wp2_with fail
    refine (C3.out _ B5.out).mono ?_
    rintro e w6 ⟨rfl, hb6⟩
    have B6 := Lib.hid (B5.out.trans (hb6.mono B5.out.size))
    clear hb6 d0 d1 d2
    go_wp2_with fail
    go_ret
    exact ⟨rfl, B2.out.trans (B6.out.mono B2.out.size)⟩
end Go.Proofs.YtlbopihffpodkaaDoor
