/- The law on slices of documents. Conditions: what is read fits the model's sizes. -/
import Derived.Test.YtlbopihffpodkaaDocH
import Derived.Test.YtlbopihffpodkaaDocsX
namespace Go.Proofs.Ytlbopihffpodkaa
open Go.RowKit
theorem docsOk_parts {n : Nat} {xs : List DocA} (h : docsOk n xs = true) : n ≤ 16 ∧ ∀ j, j < n → dcAt xs j = true := by
  simp only [docsOk, Bool.and_eq_true, decide_eq_true_eq] at h
  exact ⟨h.2, allN_iff.1 h.1⟩
theorem ids_asc {n : Nat} {xs : List DocA} (h : docsOk n xs = true) : ∀ j i, i < j → j < n → (nthX xs i).id < (nthX xs j).id := by
  have h2 := (docsOk_parts h).2
  have step : ∀ j, 0 < j → j < n → (nthX xs (j - 1)).id < (nthX xs j).id := by
    intro j h0 hj
    have := h2 j hj
    simp only [dcAt, Bool.and_eq_true, Bool.or_eq_true, decide_eq_true_eq] at this
    omega
  intro j
  induction j with
  | zero => intro i hi; omega
  | succ j ih =>
    intro i hi hj
    have s := step (j + 1) (by omega) hj
    rw [show j + 1 - 1 = j from rfl] at s
    rcases Nat.lt_or_ge i j with h3 | h3
    · have := ih i h3 (by omega); omega
    · obtain rfl : i = j := by omega
      exact s
theorem nthX_less {n i j : Nat} {xs : List DocA} (hl : xs.length = n) (hi : i < n) : nthX (xs.take i ++ xs.drop (i + 1)) j = if j < i then nthX xs j else nthX xs (j + 1) := by
  have ht : (xs.take i).length = i := by rw [List.length_take]; omega
  unfold nthX
  by_cases h : j < i
  · rw [if_pos h, List.getElem?_append_left (by rw [ht]; exact h), List.getElem?_take, if_pos h]
  · rw [if_neg h, List.getElem?_append_right (by rw [ht]; omega), ht, List.getElem?_drop, show i + 1 + (j - i) = j + 1 by omega]
theorem docs_less {n i : Nat} {xs : List DocA} (h : docsOk n xs = true) (hl : xs.length = n) (hi : i < n) : docsOk (n - 1) (xs.take i ++ xs.drop (i + 1)) = true := by
  obtain ⟨h16, h2⟩ := docsOk_parts h
  simp only [docsOk, Bool.and_eq_true, decide_eq_true_eq]
  refine ⟨allN_iff.2 fun j hj => ?_, by omega⟩
  have ok : ∀ m, m < n → docOk (nthX xs m).id (nthX xs m).n (nthX xs m).fs (nthX xs m).m (nthX xs m).ns = true := fun m hm => by
    have := h2 m hm
    simp only [dcAt, Bool.and_eq_true] at this
    exact this.1
  unfold dcAt
  rw [nthX_less hl hi]
  rw [Bool.and_eq_true]
  refine ⟨by split; exact ok _ (by omega); exact ok _ (by omega), ?_⟩
  rw [Bool.or_eq_true, decide_eq_true_eq, decide_eq_true_eq]
  rcases Nat.eq_zero_or_pos j with h0 | h0
  · exact .inl h0
  · right
    rw [nthX_less hl hi]
    by_cases c1 : j < i
    · rw [if_pos c1, if_pos (by omega)]; exact ids_asc h _ _ (by omega) (by omega)
    · by_cases c2 : j - 1 < i
      · rw [if_neg c1, if_pos c2]; exact ids_asc h _ _ (by omega) (by omega)
      · rw [if_neg c1, if_neg c2]; exact ids_asc h _ _ (by omega) (by omega)
theorem docs_twice {n i : Nat} {xs : List DocA} (h : docsOk n xs = true) (hl : xs.length = n) (hi : i < n) : docsOk (n + 1) (xs ++ [nthX xs i]) = false := by
  refine docsOk_stop (k := n) (Nat.lt_succ_self n) ?_
  have e1 : nthX (xs ++ [nthX xs i]) n = nthX xs i := by rw [← hl]; exact nthX_app_r
  have e2 : nthX (xs ++ [nthX xs i]) (n - 1) = nthX xs (n - 1) := nthX_app_l (by omega)
  unfold dcAt
  rw [e1, e2]
  have hle : (nthX xs i).id ≤ (nthX xs (n - 1)).id := by
    rcases Nat.lt_or_ge i (n - 1) with h3 | h3
    · have := ids_asc h (n - 1) i h3 (by omega); omega
    · obtain rfl : i = n - 1 := by omega
      exact Int.le_refl _
  have d1 : decide (n = 0) = false := decide_eq_false (by omega)
  have d2 : decide ((nthX xs (n - 1)).id < (nthX xs i).id) = false := decide_eq_false (by omega)
  rw [d1, d2]; simp
theorem one_dcs (N : Nat) (xs : List DocA) : ∀ u ∈ tab N (dcC xs), u.oneCell' = true := by
  intro u hu
  simp only [tab, List.mem_map] at hu
  obtain ⟨j, _, rfl⟩ := hu
  unfold dcC
  split
  · rfl
  · split <;> rfl
theorem docs_cell {w : World} {g n : Nat} {xs : List DocA} (h : Docs w (some ⟨g, 0, none⟩) n xs) {j : Nat} (hj : j < n * 3) : w.cell? ⟨g, j, none⟩ = some (dcC xs j) := by
  obtain ⟨b, off, he, hc⟩ := h.rd.pos hj
  injection he with he; injection he with h1 h2
  subst h1; subst h2
  rw [← hc j hj, Nat.zero_add]
theorem src_dcs {w : World} {g n m o : Nat} {xs : List DocA} (h : Docs w (some ⟨g, 0, none⟩) n xs) (hm : o + m ≤ n * 3) : ∀ j u, (tab m fun j => dcC xs (o + j))[j]? = some u → w.cell? ⟨g, o + j, none⟩ = some u := by
  intro j u hj
  by_cases hjm : j < m
  · rw [tab_get _ _ _ hjm] at hj
    rw [docs_cell h (by omega), hj]
  · rw [tab_get_none _ _ _ (by omega)] at hj; cases hj
theorem one_dcs2 (N o : Nat) (xs : List DocA) : ∀ u ∈ tab N (fun j => dcC xs (o + j)), u.oneCell' = true := by
  intro u hu
  simp only [tab, List.mem_map] at hu
  obtain ⟨j, _, rfl⟩ := hu
  unfold dcC
  split
  · rfl
  · split <;> rfl
theorem less_tab {n i : Nat} {xs : List DocA} (hl : xs.length = n) (hi : i < n) : (tab (i * 3) fun j => dcC xs (0 + j)) ++ (tab ((n - (i + 1)) * 3) fun j => dcC xs ((i + 1) * 3 + j)) = tab ((n - 1) * 3) (dcC (xs.take i ++ xs.drop (i + 1))) := by
  refine tab_ext (by rw [List.length_append, tab_length, tab_length]; omega) fun j hj => ?_
  by_cases h : j < i * 3
  · rw [List.getElem?_append_left (by rw [tab_length]; exact h), tab_get _ _ _ h]
    have e : nthX (xs.take i ++ xs.drop (i + 1)) (j / 3) = nthX xs (j / 3) := by rw [nthX_less hl hi, if_pos (by omega)]
    unfold dcC
    rw [Nat.zero_add, e]
  · rw [List.getElem?_append_right (by rw [tab_length]; omega), tab_length, tab_get _ _ _ (by omega)]
    have e : nthX (xs.take i ++ xs.drop (i + 1)) (j / 3) = nthX xs (j / 3 + 1) := by rw [nthX_less hl hi, if_neg (by omega)]
    unfold dcC
    rw [e, show (i + 1) * 3 + (j - i * 3) = j + 3 by omega, show (j + 3) / 3 = j / 3 + 1 by omega, show (j + 3) % 3 = j % 3 by omega]
theorem Docs.drewN {w : World} {a : Option Addr} {n : Nat} {xs : List DocA} (h : Docs w a n xs) (k : Nat) : Docs (w.drewN k) a n xs := ⟨h.len, fun j hj => ⟨(h.each j hj).f.drewN k, (h.each j hj).g.drewN k, (h.each j hj).hn, (h.each j hj).hm⟩, h.rd.drewN k⟩
theorem docs_of {w : World} {B n c : Nat} {a : Option Addr} {ys : List DocA} (hl : ys.length = n) (ho : w.ownsRow B 26 3 (.slice a n c) n (tab (n * 3) (dcC ys))) (he : ∀ j, j < n → (nthX ys j).In w) : Docs w a n ys := ⟨hl, he, Rd.of_own ho⟩
theorem made_next (w : World) (o : Obj) : ((w.alloc o).alloc (.cells #[] 26)).ownsRow w.heap.size 26 3 (.slice (some ⟨w.heap.size + 1, 0, none⟩) 0 0) 0 [] := by
  have h := World.ownsRow_made (e := 26) (size := 3) (w.alloc o) #[] 0 (Nat.le_refl _) (Nat.zero_le _) rfl
  rw [World.size_alloc] at h
  exact own_base h (by omega)
theorem blk_second (w : World) (o o' : Obj) : ((w.alloc o).alloc o').heap[w.heap.size + 1]? = some o' := by
  have h := heap_alloc_new (w.alloc o) o'
  rw [World.size_alloc] at h; exact h
theorem blk_first (w : World) (o o' : Obj) : ((w.alloc o).alloc o').heap[w.heap.size]? = some o := by
  rw [Below.heap_alloc _ _ _ (by simp)]; exact heap_alloc_new w o
theorem blk_kept {w w' : World} {b : Nat} {o : Obj} {row : Option Nat} (hg : w.grownBy w' row) (h : w.heap[b]? = some o) (hr : row ≠ some b) : w'.heap[b]? = some o := res_kept h hg hr
theorem blk_cells {w : World} {b : Nat} {u v t : Value} {e : TypeId} (h : w.heap[b]? = some (.cells #[u, v, t] e (0, 0))) : ∀ j x, [u, v, t][j]? = some x → w.cell? ((⟨b, 0, none⟩ : Addr).add j) = some x := by
  intro j x hj
  match j, hj with
  | 0, hj => simp at hj; subst hj; simp [Addr.add, World.cell?, h]
  | 1, hj => simp at hj; subst hj; simp [Addr.add, World.cell?, h]
  | 2, hj => simp at hj; subst hj; simp [Addr.add, World.cell?, h]
theorem twice_docs {w w' : World} {B n k g c : Nat} {a : Option Addr} {xs : List DocA} {X : DocA} {L : List Value} (hd : Docs w (some ⟨g, 0, none⟩) n xs) (hk : k < n) (hX : X = nthX xs k) (hb : Below w.heap.size w w')
    (ho : w'.ownsRow B 26 3 (.slice a (n + 1) c) (n + 1) (L ++ [.int .i64 X.id, .slice X.a X.n X.c, .slice X.b X.m X.d])) (hL : L = tab (n * 3) fun j => dcC xs (0 + j)) : Docs w' a (n + 1) (xs ++ [X]) := by
  have e : (fun j => dcC xs (0 + j)) = dcC xs := by funext j; rw [Nat.zero_add]
  rw [hL, e, dc_snoc hd.len] at ho
  refine docs_of (by rw [List.length_append, hd.len]; rfl) ho (fun j hj => ?_)
  by_cases hjn : j < n
  · rw [nthX_app_l (by rw [hd.len]; exact hjn)]; exact (hd.each j hjn).below hb
  · obtain rfl : j = n := by omega
    rw [show j = xs.length from hd.len.symm, nthX_app_r, hX]; exact (hd.each k hk).below hb
theorem step_append_want {P : Program} {ops : Array Oper} {o : Oper} {a : Act} {w : World} {K : Act → World → Prop} {Q : Exit → Act → World → Prop} {E : Prop} (hg : Region.wanted o (yielded ops a.tmps) = true) (s x : Operand) (t : TypeId)
    (ho : o.op = .call { callee := .builtin .append, args := #[s, x], argTypes := #[t, t] })
    (base : Nat) (e : TypeId) (i : TypeInfo) (z : Value) (size bytes : Nat) (ht : P.underlying t = some (.slice e)) (hi : P.info? e = some i) (hz : i.zero = some z)
    (hsize : i.size = size) (hby : i.bytes = bytes) (hzs : z.cells.size = size) (hsz : 0 < size)
    (v : Value) (n : Nat) (xs : List Value) (hs : a.eval s = v) (hown : w.ownsRow base e size v n xs)
    (ad : Addr) (m c : Nat) (news : List Value) (hx : a.eval x = .slice (some ad) m c) (hl : news.length = m * size) (hnews : ∀ j u, news[j]? = some u → w.cell? (ad.add j) = some u) (h1 : ∀ u ∈ news, u.oneCell' = true)
    (h63 : n + m ≤ maxLen) (hbytes : (n + m) * bytes ≤ 140737488355328) (hbase : base ≤ w.heap.size)
    (h : ∀ v' w', w'.ownsRow base e size v' (n + m) (xs ++ news) → w.grownBy w' v.ownBlock → (v' = .slice none 0 0 ↔ v = .slice none 0 0 ∧ m = 0) → K (a.put o.dst v') w') :
    if Region.wanted o (yielded ops a.tmps) = true then Oper.wp P o a w K Q else E := by
  rw [if_pos hg]
  exact wp_append_own w s x t ho base e i z size bytes ht hi hz hsize hby hzs hsz v n xs hs hown ad m c news hx hl hnews h1 h63 hbytes hbase h
set_option maxRecDepth 20000 in
set_option maxHeartbeats 4000000 in
theorem FnDocsOk_any {w : World} (a : Option Addr) (n cap : Nat) (cs : List Int) (hx : Byts w a n cap cs) (hn : n ≤ maxLen) :
    Calls Try.prog 5 #[.slice a n cap] w fun e w' => e = .returned (.bool true) ∧ Below w.heap.size w w' := by
  have HX := Lib.hid hx; clear hx
  unfold maxLen at hn
  by_cases hlt : (1048576 : Int) < (n : Int)
  · go_enter Try.func5, Try.ntmps5
    go_wp2_with fail
    go_ret
    exact ⟨rfl, Below.refl _ _⟩
  obtain ⟨i0, hi, hz0, hz1, hz2⟩ := info_parts info_Dc
  have k3 : Try.prog.cellsOf 26 = 3 := by kernel_rfl
  go_enter Try.func5, Try.ntmps5
  go_wp2_with fail
  refine (DrawDocsOk_any _ _ _ _ HX.out (by omega)).mono ?_
  rintro e w1 ⟨g, m, c, xs, rfl, hm, hmc, ho, hb⟩
  have D1 := Lib.hid ho; clear ho
  have B1 := Lib.hid hb; clear hb
  have HM := Lib.hid (show m ≤ maxLen by unfold maxLen; omega)
  have HL := Lib.hid D1.out.len
  go_wp2_with fail
  refine (DocsOk_any _ _ _ _ _ D1.out HM.out).mono ?_
  rintro e w2 ⟨rfl, hb⟩
  have D2 := Lib.hid (D1.out.below hb)
  have B2 := Lib.hid (B1.out.trans (hb.mono B1.out.size)); clear hb
  go_wp2_with fail
  refine (sDocsOk_any _ _ _ _ _ D2.out HM.out).mono ?_
  rintro e w3 ⟨rfl, hb⟩
  have D3 := Lib.hid (D2.out.below hb)
  have B3 := Lib.hid (B2.out.trans (hb.mono B2.out.size)); clear hb
  cases hok : docsOk m xs
  · go_wp2_with fail
    refine (sDocsOk_any _ _ _ _ _ D3.out HM.out).mono ?_
    rintro e w4 ⟨rfl, hb⟩
    rw [hok]
    have B4 := Lib.hid (B3.out.trans (hb.mono B3.out.size)); clear hb
    go_wp2_with fail
    go_ret
    exact ⟨rfl, B4.out⟩
  have HOK := Lib.hid hok; clear hok
  go_wp2_with fail
  go_loopw [5] (fun i wr => ∃ k : Nat, k ≤ m ∧ i = .int .i64 k ∧ Below w3.heap.size w3 wr) (fun i _ => m - (intOf i).toNat)
  case atStart => exact ⟨0, Nat.zero_le _, rfl, Below.refl _ _⟩
  case round =>
    obtain ⟨k, hk, rfl, hb⟩ := hrel
    have HB := Lib.hid hb; clear hb
    by_cases hlk : k < m
    · have D4 := Lib.hid (D3.out.below HB.out)
      have LESS := Lib.hid (docs_less HOK.out HL.out hlk)
      have TWICE := Lib.hid (docs_twice HOK.out HL.out hlk)
      have HM1 := Lib.hid (show m - 1 ≤ maxLen by unfold maxLen; omega)
      have HM2 := Lib.hid (show m + 1 ≤ maxLen by unfold maxLen; omega)
      obtain ⟨x0, x1, x2⟩ : wr.cell? ⟨g, k * 3, none⟩ = some (.int .i64 (nthX xs k).id) ∧ wr.cell? ⟨g, k * 3 + 1, none⟩ = some (.slice (nthX xs k).a (nthX xs k).n (nthX xs k).c) ∧ wr.cell? ⟨g, k * 3 + 2, none⟩ = some (.slice (nthX xs k).b (nthX xs k).m (nthX xs k).d) := by
        obtain ⟨b, off, he, hc⟩ := D4.out.pos hlk
        injection he with he; injection he with h1 h2
        subst h1; subst h2
        have := hc k hlk
        rw [Nat.zero_add] at this
        exact this
      have lg : g < wr.heap.size := World.block_lt_of_cell? wr _ x0
      obtain ⟨L1, hL1⟩ : ∃ L1, L1 = tab (k * 3) fun j => dcC xs (0 + j) := ⟨_, rfl⟩
      have T1 := Lib.hid (show L1.length = k * 3 ∧ L1 = tab (k * 3) fun j => dcC xs (0 + j) from ⟨by rw [hL1, tab_length], hL1⟩)
      clear hL1
      have ON := Lib.hid (World.ownsRow_made (e := 26) (size := 3) wr #[] 0 (Nat.le_refl _) (Nat.zero_le _) rfl)
      have v1 : IntKind.i64.wrap ((k : Int) + 1) = (k : Int) + 1 := IntWalk.i64_in _ (by omega)
      have v2 : (0 : Int) ≤ (k : Int) + 1 := by omega
      have v3 : ((k : Int) + 1).toNat = k + 1 := by omega
      have v4 : (k : Int) + 1 ≤ (m : Int) := by omega
      have v5 : (0 : Int) ≤ (k : Int) := by omega
      have v6 : (k : Int) ≤ (c : Int) := by omega
      have v7 : (m : Int) ≤ (c : Int) := by omega
      have v8 : (k : Int) ≤ (m : Int) := by omega
      go_wp2_with fail
      obtain ⟨ad, had⟩ : ∃ ad : Addr, (if c = k + 1 then some (⟨g, 0, none⟩ : Addr) else some ⟨g, (k + 1) * 3, none⟩) = some ad ∧ (m - (k + 1) = 0 ∨ ad = ⟨g, (k + 1) * 3, none⟩) := by
        by_cases hc : c = k + 1
        · exact ⟨_, if_pos hc, .inl (by omega)⟩
        · exact ⟨_, if_neg hc, .inr rfl⟩
      have AD := Lib.hid had; clear had
      obtain ⟨L2, hL2⟩ : ∃ L2, L2 = tab ((m - (k + 1)) * 3) fun j => dcC xs ((k + 1) * 3 + j) := ⟨_, rfl⟩
      have T2 := Lib.hid (show L2.length = (m - (k + 1)) * 3 ∧ L2 = tab ((m - (k + 1)) * 3) fun j => dcC xs ((k + 1) * 3 + j) from ⟨by rw [hL2, tab_length], hL2⟩)
      clear hL2
      have BA := Lib.hid (Below.drew ((Below.refl wr.heap.size wr).alloc (Nat.le_refl _) (.cells #[] 26)))
      have SRC2 : Hid (∀ w', Below wr.heap.size wr w' → ∀ j u, L2[j]? = some u → w'.cell? (ad.add j) = some u) := by
        intro w' hb' j u hj
        rcases AD.out.2 with h0 | h0
        · rw [T2.out.2, h0] at hj; simp [tab] at hj
        · have := src_dcs (D4.out.below hb') (o := (k + 1) * 3) (m := (m - (k + 1)) * 3) (by omega) j u (by rw [← T2.out.2]; exact hj)
          rw [h0, add_none]; exact this
      have EN1 := Lib.hid (show 0 + k = k by omega)
      have EN2 := Lib.hid (show k + (m - (k + 1)) = m - 1 by omega)
      go_region_law (first
        | (refine step_append_own (o := ⟨some 36, _, _, _, _, _⟩) rfl _ _ 37 rfl wr.heap.size 26 i0 (.agg #[.int .i64 0, .slice none 0 0, .slice none 0 0]) 3 56 Try.underlying37 hi hz0 hz1 hz2 rfl (by decide) _ _ _ rfl (by exact ON.out) ⟨g, 0, none⟩ k _ L1 rfl (by exact T1.out.1) (by intro j u hj; have := src_dcs (D4.out.below BA.out) (o := 0) (m := k * 3) (by omega) j u (by rw [← T1.out.2]; exact hj); rw [add_none]; exact this) (by rw [T1.out.2]; exact one_dcs2 _ _ _) (by unfold maxLen; omega) (by omega) (by simp) ?_; intro v5 w5 hown5 hgrow5 hnn5; obtain ⟨a5, c5, hv5⟩ := own_form hown5; rw [hv5] at hown5; rw [EN1.out] at hv5 hown5; have O5 := Lib.hid (show w5.ownsRow wr.heap.size 26 3 (.slice a5 k c5) k L1 from hown5); have B5 := Lib.hid (BA.out.grown hgrow5 BA.out.size (fun j hj => (own_block ON.out j hj).1)); clear hown5 hgrow5 hnn5; subst hv5)
        | (refine step_append_own (o := ⟨some 41, _, _, _, _, _⟩) rfl _ _ 37 rfl wr.heap.size 26 i0 (.agg #[.int .i64 0, .slice none 0 0, .slice none 0 0]) 3 56 Try.underlying37 hi hz0 hz1 hz2 rfl (by decide) _ _ _ rfl (by exact O5.out) ad (m - (k + 1)) _ L2 (by show Value.slice (if c = k + 1 then some (⟨g, 0, none⟩ : Addr) else some ⟨g, (k + 1) * 3, none⟩) _ _ = _; rw [AD.out.1]) (by exact T2.out.1) (by exact SRC2.out _ B5.out) (by rw [T2.out.2]; exact one_dcs2 _ _ _) (by unfold maxLen; omega) (by omega) B5.out.size ?_; intro v6 w6 hown6 hgrow6 hnn6; obtain ⟨a6, c6, hv6⟩ := own_form hown6; rw [hv6] at hown6; rw [EN2.out] at hv6 hown6; have O6 := Lib.hid (show w6.ownsRow wr.heap.size 26 3 (.slice a6 (m - 1) c6) (m - 1) (L1 ++ L2) from hown6); have B6 := Lib.hid (B5.out.grown hgrow6 B5.out.size (fun j hj => (own_block O5.out j hj).1)); clear hown6 hgrow6 hnn6; subst hv6))
      generalize (if c = k + 1 then some (⟨g, 0, none⟩ : Addr) else some ⟨g, (k + 1) * 3, none⟩) = QQ
      clear v1 v2 v3 v4 v5 v6 v7 v8
      have F6 : Hid (Docs w6 a6 (m - 1) (xs.take k ++ xs.drop (k + 1))) := by
        refine docs_of (by rw [List.length_append, List.length_take, List.length_drop, HL.out]; omega) (by have := O6.out; rw [T1.out.2, T2.out.2, less_tab HL.out hlk] at this; exact this) (fun j hj => ?_)
        rw [nthX_less HL.out hlk]
        split
        · exact ((D4.out.below B6.out).each j (by omega))
        · exact ((D4.out.below B6.out).each (j + 1) (by omega))
      have y0 := (B6.out.cell lg).trans x0
      have y1 := (B6.out.cell lg).trans x1
      have y2 := (B6.out.cell lg).trans x2
      clear x0 x1 x2
      have v5 : (0 : Int) ≤ (k : Int) := by omega
      have v4 : (k : Int) < (m : Int) := by omega
      obtain ⟨L3, hL3⟩ : ∃ L3, L3 = tab (m * 3) fun j => dcC xs (0 + j) := ⟨_, rfl⟩
      have T3 := Lib.hid (show L3.length = m * 3 ∧ L3 = tab (m * 3) fun j => dcC xs (0 + j) from ⟨by rw [hL3, tab_length], hL3⟩)
      clear hL3
      have EN3 := Lib.hid (show 0 + m = m by omega)
      have SRC3 : Hid (∀ w', Below w6.heap.size w6 w' → ∀ j u, L3[j]? = some u → w'.cell? ((⟨g, 0, none⟩ : Addr).add j) = some u) := by
        intro w' hb' j u hj
        have := src_dcs ((D4.out.below B6.out).below hb') (o := 0) (m := m * 3) (by omega) j u (by rw [← T3.out.2]; exact hj)
        rw [add_none]; exact this
      obtain ⟨X, hX⟩ : ∃ X, X = nthX xs k := ⟨_, rfl⟩
      rw [← hX] at y0 y1 y2
      have HXX := Lib.hid hX; clear hX
      go_wp2_with fail
      go_region_law (first
        | (refine step_append_want (o := ⟨some 48, _, _, _, _, _⟩) rfl _ _ 37 rfl w7.heap.size 26 i0 (.agg #[.int .i64 0, .slice none 0 0, .slice none 0 0]) 3 56 Try.underlying37 hi hz0 hz1 hz2 rfl (by decide) _ _ _ rfl (by exact ON7.out) ⟨g, 0, none⟩ m _ L3 rfl (by exact T3.out.1) (by exact SRC3.out _ B7A.out) (by rw [T3.out.2]; exact one_dcs2 _ _ _) (by unfold maxLen; omega) (by omega) (by exact B78.out.size) ?_; intro v8 w8 hown8 hgrow8 hnn8; obtain ⟨a8, c8, hv8⟩ := own_form hown8; rw [hv8] at hown8; rw [EN3.out] at hv8 hown8; have O8 := Lib.hid (show w8.ownsRow w7.heap.size 26 3 (.slice a8 m c8) m L3 from hown8); have B8 := Lib.hid (B7.out.trans ((B78.out.grown hgrow8 B78.out.size (fun j hj => (own_block ON7.out j hj).1)).mono B7.out.size)); have S8 : w7.heap.size ≤ w8.heap.size := Nat.le_trans B78.out.size hgrow8.size; have u0 := (B8.out.cell (Nat.lt_of_lt_of_le lg B6.out.size)).trans y0; have u1 := (B8.out.cell (Nat.lt_of_lt_of_le lg B6.out.size)).trans y1; have u2 := (B8.out.cell (Nat.lt_of_lt_of_le lg B6.out.size)).trans y2; have ll8 : g < w8.heap.size := World.block_lt_of_cell? w8 _ u0; have ln8 := Nat.ne_of_lt ll8; clear hown8 hgrow8 hnn8; subst hv8)
        | (refine step_append_want (o := ⟨some 48, _, _, _, _, _⟩) rfl _ _ 37 rfl w7.heap.size 26 i0 (.agg #[.int .i64 0, .slice none 0 0, .slice none 0 0]) 3 56 Try.underlying37 hi hz0 hz1 hz2 rfl (by decide) _ _ _ rfl (by exact (ON7.out.alloc (.cells #[.int .i64 X.id, .slice X.a X.n X.c, .slice X.b X.m X.d] 26))) ⟨g, 0, none⟩ m _ L3 rfl (by exact T3.out.1) (by exact SRC3.out _ B7C.out) (by rw [T3.out.2]; exact one_dcs2 _ _ _) (by unfold maxLen; omega) (by omega) (by exact B7B.out.size) ?_; intro v8 w8 hown8 hgrow8 hnn8; obtain ⟨a8, c8, hv8⟩ := own_form hown8; rw [hv8] at hown8; rw [EN3.out] at hv8 hown8; have O8 := Lib.hid (show w8.ownsRow w7.heap.size 26 3 (.slice a8 m c8) m L3 from hown8); have B8 := Lib.hid (B7.out.trans ((B7B.out.grown hgrow8 B7B.out.size (fun j hj => (own_block (ON7.out.alloc (.cells #[.int .i64 X.id, .slice X.a X.n X.c, .slice X.b X.m X.d] 26)) j hj).1)).mono B7.out.size)); have S8 : w7.heap.size ≤ w8.heap.size := Nat.le_trans B7B.out.size hgrow8.size; have XC8 := Lib.hid (blk_kept hgrow8 XB2.out (fun e => by injection e with e; have : w7.heap.size = w7.heap.size + 1 := e; omega)); have u0 := (B8.out.cell (Nat.lt_of_lt_of_le lg B6.out.size)).trans y0; have u1 := (B8.out.cell (Nat.lt_of_lt_of_le lg B6.out.size)).trans y1; have u2 := (B8.out.cell (Nat.lt_of_lt_of_le lg B6.out.size)).trans y2; have ll8 : g < w8.heap.size := World.block_lt_of_cell? w8 _ u0; have ln8 := Nat.ne_of_lt ll8; clear hown8 hgrow8 hnn8; subst hv8)
        | (refine step_append_want (o := ⟨some 48, _, _, _, _, _⟩) rfl _ _ 37 rfl w7.heap.size 26 i0 (.agg #[.int .i64 0, .slice none 0 0, .slice none 0 0]) 3 56 Try.underlying37 hi hz0 hz1 hz2 rfl (by decide) _ _ _ rfl (by exact ONX.out) ⟨g, 0, none⟩ m _ L3 rfl (by exact T3.out.1) (by exact SRC3.out _ B7E.out) (by rw [T3.out.2]; exact one_dcs2 _ _ _) (by unfold maxLen; omega) (by omega) (by exact B7D.out.size) ?_; intro v8 w8 hown8 hgrow8 hnn8; obtain ⟨a8, c8, hv8⟩ := own_form hown8; rw [hv8] at hown8; rw [EN3.out] at hv8 hown8; have O8 := Lib.hid (show w8.ownsRow w7.heap.size 26 3 (.slice a8 m c8) m L3 from hown8); have B8 := Lib.hid (B7.out.trans ((B7D.out.grown hgrow8 B7D.out.size (fun j hj => (own_block ONX.out j hj).1)).mono B7.out.size)); have S8 : w7.heap.size ≤ w8.heap.size := Nat.le_trans B7D.out.size hgrow8.size; have XC8 := Lib.hid (blk_kept hgrow8 XB3.out (fun e => by injection e with e; have : w7.heap.size + 1 = w7.heap.size := e; omega)); have u0 := (B8.out.cell (Nat.lt_of_lt_of_le lg B6.out.size)).trans y0; have u1 := (B8.out.cell (Nat.lt_of_lt_of_le lg B6.out.size)).trans y1; have u2 := (B8.out.cell (Nat.lt_of_lt_of_le lg B6.out.size)).trans y2; have ll8 : g < w8.heap.size := World.block_lt_of_cell? w8 _ u0; have ln8 := Nat.ne_of_lt ll8; clear hown8 hgrow8 hnn8; subst hv8)
        | (refine step_append_want (o := ⟨some 54, _, _, _, _, _⟩) rfl _ _ 37 rfl w7.heap.size 26 i0 (.agg #[.int .i64 0, .slice none 0 0, .slice none 0 0]) 3 56 Try.underlying37 hi hz0 hz1 hz2 rfl (by decide) _ _ _ rfl (by exact (O8.out.alloc _)) ⟨w8.heap.size, 0, none⟩ 1 1 [.int .i64 X.id, .slice X.a X.n X.c, .slice X.b X.m X.d] rfl rfl (dc_cells _ _ _ _) (by intro u hu; simp at hu; rcases hu with rfl | rfl | rfl <;> rfl) (by unfold maxLen; omega) (by omega) (by simp; omega) ?_; intro v9 w9 hown9 hgrow9 hnn9; obtain ⟨a9, c9, hv9⟩ := own_form hown9; rw [hv9] at hown9; have O9 := Lib.hid hown9; have B9 := Lib.hid ((B8.out.alloc B8.out.size _).grown hgrow9 (by have := B8.out.size; simp; omega) (fun j hj => Nat.le_trans B7.out.size (own_block O8.out j hj).1)); have F9 := Lib.hid (twice_docs (D4.out.below B6.out) hlk HXX.out B9.out O9.out T3.out.2); clear hown9 hgrow9 hnn9; subst hv9)
        | (refine step_append_want (o := ⟨some 54, _, _, _, _, _⟩) rfl _ _ 37 rfl w7.heap.size 26 i0 (.agg #[.int .i64 0, .slice none 0 0, .slice none 0 0]) 3 56 Try.underlying37 hi hz0 hz1 hz2 rfl (by decide) _ _ _ rfl (by exact O8.out) ⟨w7.heap.size + 1, 0, none⟩ 1 1 [.int .i64 X.id, .slice X.a X.n X.c, .slice X.b X.m X.d] rfl rfl (by exact blk_cells XC8.out) (by intro u hu; simp at hu; rcases hu with rfl | rfl | rfl <;> rfl) (by unfold maxLen; omega) (by omega) (by exact S8) ?_; intro v9 w9 hown9 hgrow9 hnn9; obtain ⟨a9, c9, hv9⟩ := own_form hown9; rw [hv9] at hown9; have O9 := Lib.hid hown9; have B9 := Lib.hid (B8.out.grown hgrow9 (B8.out.size) (fun j hj => Nat.le_trans B7.out.size (own_block O8.out j hj).1)); have F9 := Lib.hid (twice_docs (D4.out.below B6.out) hlk HXX.out B9.out O9.out T3.out.2); clear hown9 hgrow9 hnn9; subst hv9)
        | (refine step_append_want (o := ⟨some 54, _, _, _, _, _⟩) rfl _ _ 37 rfl w7.heap.size 26 i0 (.agg #[.int .i64 0, .slice none 0 0, .slice none 0 0]) 3 56 Try.underlying37 hi hz0 hz1 hz2 rfl (by decide) _ _ _ rfl (by exact O8.out) ⟨w7.heap.size, 0, none⟩ 1 1 [.int .i64 X.id, .slice X.a X.n X.c, .slice X.b X.m X.d] rfl rfl (by exact blk_cells XC8.out) (by intro u hu; simp at hu; rcases hu with rfl | rfl | rfl <;> rfl) (by unfold maxLen; omega) (by omega) (by exact S8) ?_; intro v9 w9 hown9 hgrow9 hnn9; obtain ⟨a9, c9, hv9⟩ := own_form hown9; rw [hv9] at hown9; have O9 := Lib.hid hown9; have B9 := Lib.hid (B8.out.grown hgrow9 (B8.out.size) (fun j hj => Nat.le_trans B7.out.size (own_block O8.out j hj).1)); have F9 := Lib.hid (twice_docs (D4.out.below B6.out) hlk HXX.out B9.out O9.out T3.out.2); clear hown9 hgrow9 hnn9; subst hv9)
        | (go_simp; go_at_call 18; first | ((with_reducible refine (DocsOk_any _ _ _ _ _ F9.out HM2.out).mono ?_); rintro e w10 ⟨rfl, hb10⟩; rw [HXX.out, TWICE.out]; have B10 := Lib.hid (B9.out.trans (hb10.mono B9.out.size)); clear hb10) | ((with_reducible refine (DocsOk_any _ _ _ _ _ (F6.out.below (Below.drew (Below.refl _ _))) HM1.out).mono ?_); rintro e w7 ⟨rfl, hb7⟩; rw [LESS.out]; have B7 := Lib.hid (Below.trans (Below.drew (Below.refl w6.heap.size w6)) hb7); have s0 := (B7.out.cell (Nat.lt_of_lt_of_le lg B6.out.size)).trans y0; have s1 := (B7.out.cell (Nat.lt_of_lt_of_le lg B6.out.size)).trans y1; have s2 := (B7.out.cell (Nat.lt_of_lt_of_le lg B6.out.size)).trans y2; have ll7 : g < w7.heap.size := World.block_lt_of_cell? w7 _ s0; have ln7 := Nat.ne_of_lt ll7; have ON7 := Lib.hid (World.ownsRow_made (e := 26) (size := 3) w7 #[] 0 (Nat.le_refl _) (Nat.zero_le _) rfl); have B78 := Lib.hid ((Below.refl w7.heap.size w7).alloc (Nat.le_refl _) (.cells #[] 26)); have B7A := Lib.hid (B7.out.alloc B7.out.size (.cells #[] 26)); have B7B := Lib.hid (B78.out.alloc B78.out.size (.cells #[.int .i64 X.id, .slice X.a X.n X.c, .slice X.b X.m X.d] 26)); have B7C := Lib.hid (B7A.out.alloc B7A.out.size (.cells #[.int .i64 X.id, .slice X.a X.n X.c, .slice X.b X.m X.d] 26)); have B7D := Lib.hid (((Below.refl w7.heap.size w7).alloc (Nat.le_refl _) (.cells #[.int .i64 X.id, .slice X.a X.n X.c, .slice X.b X.m X.d] 26)).alloc (by simp) (.cells #[] 26)); have B7E := Lib.hid ((B7.out.alloc B7.out.size (.cells #[.int .i64 X.id, .slice X.a X.n X.c, .slice X.b X.m X.d] 26)).alloc (by have := B7.out.size; simp; omega) (.cells #[] 26)); have ONX := Lib.hid (own_base (made_next w7 (.cells #[.int .i64 X.id, .slice X.a X.n X.c, .slice X.b X.m X.d] 26)) (Nat.le_refl _)); have XB2 := Lib.hid (blk_second w7 (.cells #[] 26) (.cells #[.int .i64 X.id, .slice X.a X.n X.c, .slice X.b X.m X.d] 26)); have XB3 := Lib.hid (blk_first w7 (.cells #[.int .i64 X.id, .slice X.a X.n X.c, .slice X.b X.m X.d] 26) (.cells #[] 26)); clear hb7)))
      all_goals
        have BE := Lib.hid (HB.out.trans (B6.out.trans (B10.out.mono B6.out.size) |>.mono HB.out.size))
        go_wp2_with fail
        go_roundw
        case rel => exact ⟨k + 1, by omega, by go_num, BE.out⟩
        case measure => simp [intOf]; omega
    · obtain rfl : k = m := by omega
      have HB' := Lib.hid (B3.out.trans (HB.out.mono B3.out.size))
      go_wp2_with fail
      go_ret
      exact ⟨rfl, HB'.out⟩
end Go.Proofs.Ytlbopihffpodkaa
