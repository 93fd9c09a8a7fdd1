/- The law on one gap more. Conditions: what is read fits the model's sizes. -/
import Derived.Test.YtoljjhhomklcbaaLawV2
import Derived.Test.YtoljjhhomklcbaaQuiet
import Derived.Deep.RegionLaw
namespace Go.Proofs.Ytoljjhhomklcbaa
open Go.RowKit Go.Sort
/-- append to a row of the call's own, as one step of a region that draws. -/
theorem step_append_own {P : Program} {ops : Array Oper} {o : Oper} {a : Act} {w : World} {K : Act → World → Prop} {Q : Exit → Act → World → Prop} {E : Prop} (hg : o.guard = none) (s x : Operand) (t : TypeId)
    (ho : o.op = .call { callee := .builtin .append, args := #[s, x], argTypes := #[t, t] })
    (base : Nat) (e : TypeId) (i : TypeInfo) (z : Value) (size bytes : Nat) (ht : P.underlying t = some (.slice e)) (hi : P.info? e = some i) (hz : i.zero = some z)
    (hsize : i.size = size) (hby : i.bytes = bytes) (hzs : z.cells.size = size) (hsz : 0 < size)
    (v : Value) (n : Nat) (xs : List Value) (hs : a.eval s = v) (hown : w.ownsRow base e size v n xs)
    (ad : Addr) (m c : Nat) (news : List Value) (hx : a.eval x = .slice (some ad) m c) (hl : news.length = m * size) (hnews : ∀ j u, news[j]? = some u → w.cell? (ad.add j) = some u) (h1 : ∀ u ∈ news, u.oneCell' = true)
    (h63 : n + m ≤ maxLen) (hbytes : (n + m) * bytes ≤ 140737488355328) (hbase : base ≤ w.heap.size)
    (h : ∀ v' w', w'.ownsRow base e size v' (n + m) (xs ++ news) → w.grownBy w' v.ownBlock → (v' = .slice none 0 0 ↔ v = .slice none 0 0 ∧ m = 0) → K (a.put o.dst v') w') :
    if Region.wanted o (yielded ops a.tmps) = true then Oper.wp P o a w K Q else E := by
  rw [if_pos (by simp [Region.wanted, hg])]
  exact wp_append_own w s x t ho base e i z size bytes ht hi hz hsize hby hzs hsz v n xs hs hown ad m c news hx hl hnews h1 h63 hbytes hbase h

theorem own_nextI (w : World) (o : Obj) : ((w.alloc o).alloc (.cells #[] 3)).ownsRow w.heap.size 3 1 (.slice (some ⟨w.heap.size + 1, 0, none⟩) 0 0) 0 [] := by
  have h := World.ownsRow_made (e := 3) (size := 1) (w.alloc o) #[] 0 (Nat.le_refl _) (Nat.zero_le _) rfl
  rw [World.size_alloc] at h
  exact own_base h (by omega)
theorem int_second (w : World) (o o' : Obj) : ((w.alloc o).alloc o').heap[w.heap.size + 1]? = some o' := by
  have h := heap_alloc_new (w.alloc o) o'
  rw [World.size_alloc] at h; exact h
theorem int_first (w : World) (o o' : Obj) : ((w.alloc o).alloc o').heap[w.heap.size]? = some o := by
  rw [Below.heap_alloc _ _ _ (by simp)]; exact heap_alloc_new w o
theorem int_kept {w w' : World} {b : Nat} {o : Obj} {row : Option Nat} (h : w.heap[b]? = some o) (hg : w.grownBy w' row) (hr : row ≠ some b) : w'.heap[b]? = some o := (hg.block b (Array.getElem?_eq_some_iff.1 h).1 (fun e => hr e.symm)).trans h
theorem int_cells {w : World} {b : Nat} {u : Value} {e : TypeId} (h : w.heap[b]? = some (.cells #[u] e (0, 0))) : ∀ j x, [u][j]? = some x → w.cell? ((⟨b, 0, none⟩ : Addr).add j) = some x := by
  intro j x hj
  match j, hj with
  | 0, hj => simp at hj; subst hj; simp [Addr.add, World.cell?, h]
theorem src_ints {w : World} {B g n cap : Nat} {xs : List Int} (h : OwnInts w B (some ⟨g, 0, none⟩) n cap xs) : ∀ j u, (tab n fun j => Value.int .i64 (nthI xs j))[j]? = some u → w.cell? ((⟨g, 0, none⟩ : Addr).add j) = some u := by
  intro j u hj
  by_cases hjn : j < n
  · rw [tab_get _ _ _ hjn] at hj
    have := h.ints.cell hjn
    rw [Nat.zero_add] at this
    have e1 : (⟨g, 0, none⟩ : Addr).add j = ⟨g, j, none⟩ := by unfold Addr.add; split <;> simp_all
    rw [e1, this]; exact hj
  · rw [tab_get_none _ _ _ (by omega)] at hj; cases hj
theorem one_ints (n : Nat) (xs : List Int) : ∀ u ∈ tab n (fun j => Value.int .i64 (nthI xs j)), u.oneCell' = true := by
  intro u hu
  simp only [tab, List.mem_map] at hu
  obtain ⟨j, _, rfl⟩ := hu
  rfl
theorem ints_more {w : World} {B n c : Nat} {a : Option Addr} {xs : List Int} {x : Int} (hl : xs.length = n) (hf : ∀ j, (Lit.int .i64 (nthI xs j)).wf = true) (hx : (Lit.int .i64 x).wf = true)
    (h : w.ownsRow B 3 1 (.slice a (n + 1) c) (n + 1) ((tab n fun j => Value.int .i64 (nthI xs j)) ++ [.int .i64 x])) : OwnInts w B a (n + 1) c (xs ++ [x]) := by
  refine ⟨by simp [hl], fun j => ?_, ?_⟩
  · by_cases hj : j < xs.length
    · rw [nthI_app hj]; exact hf j
    · by_cases hj2 : j = xs.length
      · rw [hj2, nthI_last]; exact hx
      · have : nthI (xs ++ [x]) j = 0 := by simp [nthI, List.getElem?_eq_none (show (xs ++ [x]).length ≤ j by simp; omega)]
        rw [this]; decide
  · have e : ((tab n fun j => Value.int .i64 (nthI xs j)) ++ [.int .i64 x]) = tab (n + 1) fun j => Value.int .i64 (nthI (xs ++ [x]) j) := by
      refine tab_ext (by rw [List.length_append, tab_length]; rfl) fun j hj => ?_
      by_cases hjn : j < n
      · rw [List.getElem?_append_left (by rw [tab_length]; exact hjn), tab_get _ _ _ hjn, nthI_app (by omega)]
      · obtain rfl : j = n := by omega
        rw [List.getElem?_append_right (by rw [tab_length]; omega), tab_length, ← hl, nthI_last]; simp
    rw [← e]; exact h
theorem gapPut_var {n : Nat} {xs : List Int} (h : upOk n xs = true) (hl : xs.length = n) : (varPut (n : Int)).size ≤ (gapPut n xs).size := by
  obtain ⟨e, hu, h60⟩ := gapPut_ok h
  rw [varPut_nat (by omega), e, gapTo_gaps, ByteArray.size_append]; omega
theorem gapPut_le {n : Nat} {xs : List Int} (h : upOk n xs = true) : (gapPut n xs).size ≤ 400 := by
  obtain ⟨e, hu, h60⟩ := gapPut_ok h
  have := gapTo_size hu h60 n (Nat.le_refl _)
  rw [e]; omega
set_option maxHeartbeats 2000000 in
theorem FnGapMore_any {w : World} (a : Option Addr) (n cap : Nat) (xs : List Int) (hx : Byts w a n cap xs) (hn : n ≤ maxLen) (b : Option Addr) (m capb : Nat) (ys : List Int) (hy : Byts w b m capb ys) (hm : m ≤ maxLen) :
    Calls Try.prog 4 #[.slice a n cap, .slice b m capb] w fun e w' => e = .returned (.bool true) ∧ Below w.heap.size w w' := by
  have HX := Lib.hid hx; clear hx
  have HY := Lib.hid hy; clear hy
  unfold maxLen at hn hm
  by_cases hlt : (1048576 : Int) < (n : Int)
  · go_enter Try.func4, Try.ntmps4
    go_wp2_with fail
    go_ret
    exact ⟨rfl, Below.refl _ _⟩
  by_cases hlt2 : (1048576 : Int) < (m : Int)
  · go_enter Try.func4, Try.ntmps4
    go_wp2_with fail
    go_ret
    exact ⟨rfl, Below.refl _ _⟩
  obtain ⟨i0, hi, hz0, hz1, hz2⟩ := info_parts info_int
  go_enter Try.func4, Try.ntmps4
  go_wp2_with fail
  refine (DrawGapPut_any _ _ _ _ HX.out (by omega)).mono ?_
  rintro e w1 ⟨a1, n1, c1, zs, rfl, hn1, hall, ho, hb⟩
  have AL := Lib.hid hall
  have O1 := Lib.hid ho; clear ho hall
  have B1 := Lib.hid hb; clear hb
  have L3 : n1 ≤ maxLen := by unfold maxLen; omega
  have HL3 := Lib.hid L3; clear L3
  go_wp2_with fail
  refine (GapPut_any _ _ _ _ _ O1.out.ints HL3.out).mono ?_
  rintro e w2 ⟨rfl, hb⟩
  have O2 := Lib.hid (O1.out.below hb)
  have B2 := Lib.hid (B1.out.trans (hb.mono B1.out.size)); clear hb
  go_wp2_with fail
  refine (sGapPut_any _ _ _ _ _ O2.out.ints HL3.out).mono ?_
  rintro e w3 ⟨rfl, hb⟩
  have O3 := Lib.hid (O2.out.below hb)
  have B3 := Lib.hid (B2.out.trans (hb.mono B2.out.size)); clear hb
  go_wp2_with fail
  refine (UpOk_any _ _ _ _ O3.out.ints HL3.out).mono ?_
  rintro e w' ⟨rfl, rfl⟩
  cases hup : upOk n1 zs
  · go_wp2_with fail
    refine (sGapPut_any _ _ _ _ _ O3.out.ints HL3.out).mono ?_
    rintro e w4 ⟨rfl, hb⟩
    have B4 := Lib.hid (B3.out.trans (hb.mono B3.out.size)); clear hb
    go_wp2_with fail
    go_ret
    exact ⟨rfl, B4.out⟩
  by_cases hn0 : n1 = 0
  · have b0 : ((n1 : Int) == 0) = true := beq_t (by omega)
    clear hn0
    go_wp2_with fail
    refine (sGapPut_any _ _ _ _ _ O3.out.ints HL3.out).mono ?_
    rintro e w4 ⟨rfl, hb⟩
    have B4 := Lib.hid (B3.out.trans (hb.mono B3.out.size)); clear hb
    go_wp2_with fail
    go_ret
    exact ⟨rfl, B4.out⟩
  have b0 : ((n1 : Int) == 0) = false := beq_f (by omega)
  by_cases h60 : 60 ≤ n1
  · have h60' : (60 : Int) ≤ (n1 : Int) := by omega
    clear hn0
    go_wp2_with fail
    refine (sGapPut_any _ _ _ _ _ O3.out.ints HL3.out).mono ?_
    rintro e w4 ⟨rfl, hb⟩
    have B4 := Lib.hid (B3.out.trans (hb.mono B3.out.size)); clear hb
    go_wp2_with fail
    go_ret
    exact ⟨rfl, B4.out⟩
  obtain ⟨g1, rfl, hgB, hgs⟩ := own_pos O3.out.own (by omega)
  have hck := O3.out.ints.cell (show n1 - 1 < n1 by omega)
  rw [Nat.zero_add] at hck
  have hlb := nthI_all AL.out (show n1 - 1 < zs.length by rw [O1.out.len]; omega)
  obtain ⟨hl0, hl1⟩ := hlb
  have v1 : IntKind.i64.wrap ((n1 : Int) - 1) = (n1 : Int) - 1 := IntWalk.i64_in _ (by omega)
  have v2 : ((n1 : Int) - 1).toNat = n1 - 1 := by omega
  have v3 : (0 : Int) ≤ (n1 : Int) - 1 := by omega
  obtain ⟨l, hl⟩ : ∃ l, l = nthI zs (n1 - 1) := ⟨_, rfl⟩
  rw [← hl] at hck hl0 hl1
  have HLL := Lib.hid hl; clear hl
  by_cases hbig : 999999999 < l + (m : Int) + 1
  · go_wp2_with fail
    refine (sGapPut_any _ _ _ _ _ O3.out.ints HL3.out).mono ?_
    rintro e w4 ⟨rfl, hb⟩
    have B4 := Lib.hid (B3.out.trans (hb.mono B3.out.size)); clear hb
    go_wp2_with fail
    go_ret
    exact ⟨rfl, B4.out⟩
  · go_wp2_with fail
    have hd : m % 1000 ≤ 999 := by omega
    obtain ⟨d, hdd⟩ : ∃ d, d = m % 1000 := ⟨_, rfl⟩
    have dm : Int.tmod (m : Int) 1000 = (d : Int) := by rw [hdd]; exact Int.ofNat_tmod m 1000 |>.symm
    have dw : IntKind.i64.wrap (d : Int) = (d : Int) := IntWalk.i64_in _ (by omega)
    have dv1 : IntKind.i64.wrap (l + (d : Int)) = l + (d : Int) := IntWalk.i64_in _ (by omega)
    have dv2 : IntKind.i64.wrap (l + (d : Int) + 1) = l + (d : Int) + 1 := IntWalk.i64_in _ (by omega)
    have DLE := Lib.hid (show d ≤ 999 by omega)
    have hgn : g1 ≠ w3.heap.size := by omega
    have GSZ := Lib.hid (gapPut_le hup)
    have VSZ := Lib.hid (gapPut_var hup O3.out.len)
    have GP := Lib.hid (gapPut_more O3.out.len hup (by omega) (by omega) (v := d) (by rw [← HLL.out]; omega))
    rw [← HLL.out] at GP
    have GQ := Lib.hid (show gapPut (n1 + 1) (zs ++ [l + (d : Int) + 1]) = varPut ((n1 : Int) + 1) ++ (gapPut n1 zs).extract (varPut (n1 : Int)).size (gapPut n1 zs).size ++ varPut (d : Int) by
      rw [GP.out, show ((n1 : Int) + 1) = ((n1 + 1 : Nat) : Int) from rfl, varPut_nat (by omega), varPut_nat (by omega), varPut_nat (by omega)])
    clear GP
    obtain ⟨L1, hL1⟩ : ∃ L1, L1 = tab n1 fun j => Value.int .i64 (nthI zs j) := ⟨_, rfl⟩
    have T1 := Lib.hid (show L1.length = n1 ∧ L1 = tab n1 fun j => Value.int .i64 (nthI zs j) from ⟨by rw [hL1, tab_length], hL1⟩)
    clear hL1
    have EN1 := Lib.hid (show 0 + n1 = n1 by omega)
    have ON := Lib.hid (World.ownsRow_made (e := 3) (size := 1) w3 #[] 0 (Nat.le_refl _) (Nat.zero_le _) rfl)
    have BA := Lib.hid (Below.drew ((Below.refl w3.heap.size w3).alloc (Nat.le_refl _) (.cells #[] 3)))
    have BB := Lib.hid (Below.drew (((Below.refl w3.heap.size w3).alloc (Nat.le_refl _) (.cells #[] 3)).alloc (by simp) (.cells #[.int .i64 (l + (d : Int) + 1)] 3)))
    have BC := Lib.hid (Below.drew (((Below.refl w3.heap.size w3).alloc (Nat.le_refl _) (.cells #[.int .i64 (l + (d : Int) + 1)] 3)).alloc (by simp) (.cells #[] 3)))
    have ONX := Lib.hid (own_nextI w3 (.cells #[.int .i64 (l + (d : Int) + 1)] 3))
    have XB2 := Lib.hid (show (((w3.alloc (.cells #[] 3)).alloc (.cells #[.int .i64 (l + (d : Int) + 1)] 3)).drew).heap[w3.heap.size + 1]? = some (.cells #[.int .i64 (l + (d : Int) + 1)] 3) from int_second w3 (.cells #[] 3) (.cells #[.int .i64 (l + (d : Int) + 1)] 3))
    have XB3 := Lib.hid (show (((w3.alloc (.cells #[.int .i64 (l + (d : Int) + 1)] 3)).alloc (.cells #[] 3)).drew).heap[w3.heap.size]? = some (.cells #[.int .i64 (l + (d : Int) + 1)] 3) from int_first w3 (.cells #[.int .i64 (l + (d : Int) + 1)] 3) (.cells #[] 3))
    clear hdd
    go_region_law (first
      | (refine step_append_own (o := ⟨some 58, _, _, _, _, _⟩) rfl _ _ 28 rfl w3.heap.size 3 i0 (.int .i64 0) 1 8 Try.underlying28 hi hz0 hz1 hz2 rfl (by decide) _ _ _ rfl (by exact ON.out) ⟨g1, 0, none⟩ n1 _ L1 rfl (by rw [T1.out.1, Nat.mul_one]) (by rw [T1.out.2]; exact src_ints (O3.out.below BA.out)) (by rw [T1.out.2]; exact one_ints _ _) (by unfold maxLen; omega) (by omega) (by exact (BA.out).size) ?_; intro v5 w5 hown5 hgrow5 hnn5; obtain ⟨a5, c5, hv5⟩ := own_form hown5; rw [hv5] at hown5; rw [EN1.out] at hv5 hown5; have O5 := Lib.hid (show w5.ownsRow w3.heap.size 3 1 (.slice a5 n1 c5) n1 L1 from hown5); have B5 := Lib.hid ((BA.out).grown hgrow5 (BA.out).size (fun j hj => (own_block (ON.out) j hj).1)); have hck5 := (B5.out.cell hgs).trans hck; clear hown5 hgrow5 hnn5; subst hv5)
      | (refine step_append_own (o := ⟨some 58, _, _, _, _, _⟩) rfl _ _ 28 rfl w3.heap.size 3 i0 (.int .i64 0) 1 8 Try.underlying28 hi hz0 hz1 hz2 rfl (by decide) _ _ _ rfl (by exact (ON.out.alloc (.cells #[.int .i64 (l + (d : Int) + 1)] 3))) ⟨g1, 0, none⟩ n1 _ L1 rfl (by rw [T1.out.1, Nat.mul_one]) (by rw [T1.out.2]; exact src_ints (O3.out.below BB.out)) (by rw [T1.out.2]; exact one_ints _ _) (by unfold maxLen; omega) (by omega) (by exact (BB.out).size) ?_; intro v5 w5 hown5 hgrow5 hnn5; obtain ⟨a5, c5, hv5⟩ := own_form hown5; rw [hv5] at hown5; rw [EN1.out] at hv5 hown5; have O5 := Lib.hid (show w5.ownsRow w3.heap.size 3 1 (.slice a5 n1 c5) n1 L1 from hown5); have B5 := Lib.hid ((BB.out).grown hgrow5 (BB.out).size (fun j hj => (own_block ((ON.out.alloc (.cells #[.int .i64 (l + (d : Int) + 1)] 3))) j hj).1)); have XC := Lib.hid (int_kept XB2.out hgrow5 (fun e => by injection e with e; have : w3.heap.size = w3.heap.size + 1 := e; omega)); have hck5 := (B5.out.cell hgs).trans hck; clear hown5 hgrow5 hnn5; subst hv5)
      | (refine step_append_own (o := ⟨some 58, _, _, _, _, _⟩) rfl _ _ 28 rfl w3.heap.size 3 i0 (.int .i64 0) 1 8 Try.underlying28 hi hz0 hz1 hz2 rfl (by decide) _ _ _ rfl (by exact ONX.out) ⟨g1, 0, none⟩ n1 _ L1 rfl (by rw [T1.out.1, Nat.mul_one]) (by rw [T1.out.2]; exact src_ints (O3.out.below BC.out)) (by rw [T1.out.2]; exact one_ints _ _) (by unfold maxLen; omega) (by omega) (by exact (BC.out).size) ?_; intro v5 w5 hown5 hgrow5 hnn5; obtain ⟨a5, c5, hv5⟩ := own_form hown5; rw [hv5] at hown5; rw [EN1.out] at hv5 hown5; have O5 := Lib.hid (show w5.ownsRow w3.heap.size 3 1 (.slice a5 n1 c5) n1 L1 from hown5); have B5 := Lib.hid ((BC.out).grown hgrow5 (BC.out).size (fun j hj => (own_block (ONX.out) j hj).1)); have XC := Lib.hid (int_kept XB3.out hgrow5 (fun e => by injection e with e; have : w3.heap.size + 1 = w3.heap.size := e; omega)); have hck5 := (B5.out.cell hgs).trans hck; clear hown5 hgrow5 hnn5; subst hv5)
      | (refine step_append_own (o := ⟨some 71, _, _, _, _, _⟩) rfl _ _ 28 rfl w3.heap.size 3 i0 (.int .i64 0) 1 8 Try.underlying28 hi hz0 hz1 hz2 rfl (by decide) _ _ _ rfl (by exact (O5.out.alloc _)) ⟨w5.heap.size, 0, none⟩ 1 1 [.int .i64 (l + (d : Int) + 1)] rfl rfl (by exact int_cells (heap_alloc_new w5 _)) (by intro u hu; simp at hu; subst hu; rfl) (by unfold maxLen; omega) (by omega) (by exact (by have := B5.out.size; simp; omega)) ?_; intro v9 w9 hown9 hgrow9 hnn9; obtain ⟨a9, c9, hv9⟩ := own_form hown9; rw [hv9] at hown9; have O9 := Lib.hid hown9; have B9 := Lib.hid (((B5.out.alloc B5.out.size _)).grown hgrow9 ((by have := B5.out.size; simp; omega)) (fun j hj => (own_block O5.out j hj).1)); clear hown9 hgrow9 hnn9; subst hv9)
      | (refine step_append_own (o := ⟨some 71, _, _, _, _, _⟩) rfl _ _ 28 rfl w3.heap.size 3 i0 (.int .i64 0) 1 8 Try.underlying28 hi hz0 hz1 hz2 rfl (by decide) _ _ _ rfl (by exact O5.out) ⟨w3.heap.size + 1, 0, none⟩ 1 1 [.int .i64 (l + (d : Int) + 1)] rfl rfl (by exact int_cells XC.out) (by intro u hu; simp at hu; subst hu; rfl) (by unfold maxLen; omega) (by omega) (by exact B5.out.size) ?_; intro v9 w9 hown9 hgrow9 hnn9; obtain ⟨a9, c9, hv9⟩ := own_form hown9; rw [hv9] at hown9; have O9 := Lib.hid hown9; have B9 := Lib.hid ((B5.out).grown hgrow9 (B5.out.size) (fun j hj => (own_block O5.out j hj).1)); clear hown9 hgrow9 hnn9; subst hv9)
      | (refine step_append_own (o := ⟨some 71, _, _, _, _, _⟩) rfl _ _ 28 rfl w3.heap.size 3 i0 (.int .i64 0) 1 8 Try.underlying28 hi hz0 hz1 hz2 rfl (by decide) _ _ _ rfl (by exact O5.out) ⟨w3.heap.size, 0, none⟩ 1 1 [.int .i64 (l + (d : Int) + 1)] rfl rfl (by exact int_cells XC.out) (by intro u hu; simp at hu; subst hu; rfl) (by unfold maxLen; omega) (by omega) (by exact B5.out.size) ?_; intro v9 w9 hown9 hgrow9 hnn9; obtain ⟨a9, c9, hv9⟩ := own_form hown9; rw [hv9] at hown9; have O9 := Lib.hid hown9; have B9 := Lib.hid ((B5.out).grown hgrow9 (B5.out.size) (fun j hj => (own_block O5.out j hj).1)); clear hown9 hgrow9 hnn9; subst hv9))
    all_goals
      have P9 := Lib.hid (ints_more O3.out.len O3.out.fit (x := l + (d : Int) + 1) (WalkArith.wf_i64 (by have := DLE.out; omega)) (by have := O9.out; rw [T1.out.2] at this; exact this))
      have BE := Lib.hid (B3.out.trans (B9.out.mono B3.out.size))
      have HM9 := Lib.hid (show n1 + 1 ≤ maxLen by unfold maxLen; omega)
      have vs0 : (0 : Int) ≤ ((varPut (n1 : Int)).size : Int) := by omega
      have vs1 : ((varPut (n1 : Int)).size : Int) ≤ ((gapPut n1 zs).size : Int) := by have := VSZ.out; omega
      have zA : (varPut ((n1 + 1 : Nat) : Int)).size ≤ 5 := by rw [varPut_nat (by omega)]; exact varS_le (by omega)
      have zA' : (varPut ((n1 : Int) + 1)).size ≤ 5 := zA
      have zB : (gapPut n1 zs).size ≤ 400 := GSZ.out
      have zC : ((gapPut n1 zs).extract (varPut (n1 : Int)).size (gapPut n1 zs).size).size ≤ 400 := by rw [ByteArray.size_extract]; omega
      have zD : (varPut (d : Int)).size ≤ 5 := by have := DLE.out; rw [varPut_nat (by omega)]; exact varS_le (by omega)
      clear O9 O5 B5 B9 hck5
      go_simp
      go_wp2_with fail
      refine wp_region_quiet_below (by kernel_rfl) (by kernel_rfl) ?_
      repeat (go_big_quiet_step ((first | (go_at_call 18; exact quiet_b fun w1 hb => GapPut_any _ _ _ _ w1 (P9.out.below hb).ints HM9.out) | (go_at_call 21; exact quiet_b fun w1 _ => VarPut_any _ w1))))
      refine wpQuiet_nil ?_
      intro wq hqq
      have BQ := Lib.hid (quiet_out hqq)
      clear hqq
      have BF := Lib.hid (BE.out.trans (BQ.out.mono BE.out.size))
      go_wp2_with fail
      go_ret
      exact ⟨ret_bool (by rw [GQ.out]; simp), BF.out⟩
end Go.Proofs.Ytoljjhhomklcbaa
