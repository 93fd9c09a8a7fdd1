/- The law that tells that the program reads documents out of text as the reference does. Condition: the library's variables hold what they are laid to hold. -/
import Derived.Test.YtlbopihffpodkaaDoorDocY
namespace Go.Proofs.YtlbopihffpodkaaDoor
set_option maxRecDepth 100000
open Go.RowKit
set_option maxRecDepth 100000 in
set_option maxHeartbeats 4000000 in
theorem xDocGet_any (s : ByteArray) (_hz : s.size ≤ maxLen) {w : World} (he : Env w) :
    Calls Tryd.prog 5 #[.string s] w fun e w' => e = .returned (.bool true) ∧ Below w.heap.size w w' := by
  have HE := Lib.hid he; clear he
  by_cases hpl : (1048576 : Int) < (s.size : Int)
  · go_enter Tryd.func5, Tryd.ntmps5
    go_wp2_with fail
    go_ret
    exact ⟨rfl, Below.refl _ _⟩
  have hs : s.size ≤ 1048576 := by omega
  obtain ⟨t, ht⟩ : ∃ t, t = stOf (iGet s) := ⟨_, rfl⟩
  obtain ⟨ok, hok⟩ : ∃ b, b = (iGet s).isSome := ⟨_, rfl⟩
  have SD : Hid (∀ w, Calls Tryd.prog 15 #[.string s] w fun e w' => ∃ x : DocA, e = .returned (.tuple #[x.v, .bool ok]) ∧ x.In w' ∧ Same x t ∧ Below w.heap.size w w') := by
    intro w; rw [ht, hok]; exact sDocGet_one s w (by omega)
  have ID : Hid (∀ w, Env w → Calls Tryd.prog 12 #[.string s] w fun e w' => ∃ x : DocA, e = .returned (.tuple #[x.v, .bool ok]) ∧ DocOwn w' w.heap.size x ∧ Same x t ∧ Below w.heap.size w w') := by
    intro w he; rw [ht, hok]; exact iDocGet_one s w (by omega) he
  clear ht hok
  go_enter Tryd.func5, Tryd.ntmps5
  go_wp2_with fail
  refine (SD.out _).mono ?_
  rintro e w1 ⟨x, rfl, hx, hsx, hb1⟩
  have SX := Lib.hid hsx
  have A1 : Below w1.heap.size w1 (w1.alloc (.cells #[.int .i64 x.id, .slice x.a x.n x.c, .slice x.b x.m x.d] 26)) := (Below.refl _ _).alloc (Nat.le_refl _) _
  have BX : Hid (DocObj (w1.alloc (.cells #[.int .i64 x.id, .slice x.a x.n x.c, .slice x.b x.m x.d] 26)) w1.heap.size x) := heap_alloc_new _ _
  have IX := Lib.hid (hx.below A1)
  have B1 := Lib.hid (hb1.trans (A1.mono hb1.size))
  have lx : Hid (w1.heap.size < (w1.alloc (.cells #[.int .i64 x.id, .slice x.a x.n x.c, .slice x.b x.m x.d] 26)).heap.size) := by show _ < _; simp
  clear hx hsx hb1 A1
  unfold DocA.v docV
  go_wp2_with fail
  generalize hbx : w1.heap.size = bx at *
  generalize w1.alloc (.cells #[.int .i64 x.id, .slice x.a x.n x.c, .slice x.b x.m x.d] 26) = W1 at *
  clear hbx
  refine (ID.out _ (HE.out.below B1.out)).mono ?_
  rintro e w2 ⟨y, rfl, hy, hsy, hb2⟩
  have SY := Lib.hid hsy
  have A2 : Below w2.heap.size w2 (w2.alloc (.cells #[.int .i64 y.id, .slice y.a y.n y.c, .slice y.b y.m y.d] 26)) := (Below.refl _ _).alloc (Nat.le_refl _) _
  have BY : Hid (DocObj (w2.alloc (.cells #[.int .i64 y.id, .slice y.a y.n y.c, .slice y.b y.m y.d] 26)) w2.heap.size y) := heap_alloc_new _ _
  have OY := Lib.hid (hy.below A2)
  have B2 := Lib.hid (hb2.trans (A2.mono hb2.size))
  have BX2 := Lib.hid (BX.out.below B2.out)
  have IX2 := Lib.hid (IX.out.below B2.out)
  have hn := hy.nf
  have hm := hy.nm
  obtain ⟨c0, c1, c2, -, -, -⟩ := (BX.out.below hb2).cells
  have lb : bx < w2.heap.size := Nat.lt_of_lt_of_le lx.out hb2.size
  clear hy hsy hb2 A2
  unfold DocA.v docV
  go_wp2_with fail
  obtain ⟨q, hq⟩ : ∃ q : Nat, q = 1 + y.n * 2 + y.m * 2 := ⟨_, rfl⟩
  have MD : Hid (∀ (B : Nat) (w : World), DocOwn w B y → B ≤ w.heap.size → Calls Tryd.prog 17 #[.agg #[.int .i64 y.id, .slice y.a y.n y.c, .slice y.b y.m y.d], .int .i64 1] w fun e w' => e = .returned (.int .i64 (q : Int)) ∧ MarkD w' B y 1 ∧ Below B w w' ∧ DocsKept w w') := by
    intro B w h1 h2; rw [hq]; exact markDoc_any y 1 B w h1 h2 (by omega) (by omega)
  have HD : Hid (∀ (B : Nat) (w : World), MarkD w B y 1 → Calls Tryd.prog 18 #[.agg #[.int .i64 y.id, .slice y.a y.n y.c, .slice y.b y.m y.d], .int .i64 1] w fun e w' => e = .returned (.int .i64 (q : Int)) ∧ Below w.heap.size w w') := by
    intro B w h1; rw [hq]; exact heldDoc_any y 1 B w h1 hn hm (by omega) (by omega)
  have hneg : ¬ (q : Int) < 0 := by omega
  clear hq hn hm c0 c1 c2 lb
  have ly : Hid (w2.heap.size < (w2.alloc (.cells #[.int .i64 y.id, .slice y.a y.n y.c, .slice y.b y.m y.d] 26)).heap.size) := by show _ < _; simp
  generalize hby : w2.heap.size = bY at *
  generalize w2.alloc (.cells #[.int .i64 y.id, .slice y.a y.n y.c, .slice y.b y.m y.d] 26) = W2 at *
  clear hby
  refine (eqDoc_alike y x _ OY.out.in IX2.out SY.out SX.out).mono ?_
  rintro e w3 ⟨rfl, hb3⟩
  have BX3 := Lib.hid (BX2.out.below hb3)
  have BY3 := Lib.hid (BY.out.below hb3)
  have OY3 := Lib.hid (OY.out.below hb3)
  have B3 := Lib.hid (B2.out.trans (hb3.mono B2.out.size))
  obtain ⟨d0, d1, d2, -, -, -⟩ := BY3.out.cells
  clear hb3
  go_wp2_with fail
  refine (MD.out _ _ OY3.out B3.out.size).mono ?_
  rintro e w4 ⟨rfl, hm4, hb4, hk4⟩
  have BX4 : Hid (DocObj w4 bx x) := hk4 _ _ BX3.out
  have BY4 : Hid (DocObj w4 bY y) := hk4 _ _ BY3.out
  have M4 := Lib.hid hm4
  have B4 := Lib.hid (B3.out.trans hb4)
  clear hm4 hb4 hk4 d0 d1 d2
  obtain ⟨d0, d1, d2, -, -, -⟩ := BY4.out.cells
  go_wp2_with fail
  refine (HD.out _ _ M4.out).mono ?_
  rintro e w5 ⟨rfl, hb5⟩
  have BX5 := Lib.hid (BX4.out.below hb5)
  have BY5 := Lib.hid (BY4.out.below hb5)
  have M5 := Lib.hid (M4.out.below hb5)
  have B5 := Lib.hid (B4.out.trans (hb5.mono B4.out.size))
  clear hb5 d0 d1 d2
  go_wp2_with fail
  refine (ID.out _ (HE.out.below (B1.out.trans (B5.out.mono B1.out.size)))).mono ?_
  rintro e w6 ⟨z, rfl, hz, hsz, hb6⟩
  have SZ := Lib.hid hsz
  have A6 : Below w6.heap.size w6 (w6.alloc (.cells #[.int .i64 z.id, .slice z.a z.n z.c, .slice z.b z.m z.d] 26)) := (Below.refl _ _).alloc (Nat.le_refl _) _
  have OZ := Lib.hid (hz.below A6)
  have BX6 := Lib.hid ((BX5.out.below hb6).below A6)
  have BY6 := Lib.hid ((BY5.out.below hb6).below A6)
  have M6 := Lib.hid ((M5.out.below hb6).below A6)
  have B6 := Lib.hid ((B5.out.trans (hb6.mono B5.out.size)).trans (A6.mono (Nat.le_trans B5.out.size hb6.size)))
  obtain ⟨c0, c1, c2, -, -, -⟩ := (BX5.out.below hb6).cells
  have lb : bx < w6.heap.size := Nat.lt_of_lt_of_le (Nat.lt_of_lt_of_le lx.out B5.out.size) hb6.size
  have ln : bx ≠ w6.heap.size := Nat.ne_of_lt lb
  clear hz hsz hb6 A6
  unfold DocA.v docV
  go_wp2_with fail
  clear c0 c1 c2 lb ln
  generalize w6.alloc (.cells #[.int .i64 z.id, .slice z.a z.n z.c, .slice z.b z.m z.d] 26) = W6 at *
  refine (eqDoc_alike z x _ OZ.out.in (IX.out.below B6.out) SZ.out SX.out).mono ?_
  rintro e w7 ⟨rfl, hb7⟩
  have BY7 := Lib.hid (BY6.out.below hb7)
  have M7 := Lib.hid (M6.out.below hb7)
  have B7 := Lib.hid (B6.out.trans (hb7.mono B6.out.size))
  clear hb7
  obtain ⟨d0, d1, d2, -, -, -⟩ := BY7.out.cells
  go_wp2_with fail
  refine (HD.out _ _ M7.out).mono ?_
  rintro e w8 ⟨rfl, hb8⟩
  have B8 := Lib.hid (B7.out.trans (hb8.mono B7.out.size))
  clear hb8 d0 d1 d2
  go_wp2_with fail
  go_ret
  exact ⟨rfl, B1.out.trans (B8.out.mono B1.out.size)⟩
end Go.Proofs.YtlbopihffpodkaaDoor
