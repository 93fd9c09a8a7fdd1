/- The terms of a text ahead of what stands for others. Conditions: what is read fits the model's sizes. -/
import Derived.Test.YtejooloflcldiaaWordsOf
import Derived.Test.YtejooloflcldiaaTerm
namespace Go.Proofs.Ytejooloflcldiaa
open Go.RowKit Go.Sort
def Tm.cells (x : Tm) : List Value := [.string x.text, .int .i64 x.at_]
def tmCells (ts : List Tm) : List Value := ts.flatMap Tm.cells
theorem tmCells_app (xs ys : List Tm) : tmCells (xs ++ ys) = tmCells xs ++ tmCells ys := by simp [tmCells]
theorem tmCells_len (ts : List Tm) : (tmCells ts).length = ts.length * 2 := by
  induction ts with
  | nil => rfl
  | cons x xs ih => show (x.cells ++ tmCells xs).length = _; rw [List.length_append, ih, List.length_cons]; simp [Tm.cells]; omega
theorem tmCells_tab (ts : List Tm) : tmCells ts = tab (ts.length * 2) (tmC ts) := by
  refine tab_ext (tmCells_len ts) fun j hj => ?_
  induction ts generalizing j with
  | nil => simp at hj
  | cons x xs ih =>
    show (x.cells ++ tmCells xs)[j]? = _
    match j, hj with
    | 0, _ => rfl
    | 1, _ => rfl
    | j + 2, hj =>
      rw [List.getElem?_append_right (by simp [Tm.cells]), show j + 2 - x.cells.length = j by simp [Tm.cells], ih j (by simp at hj; omega)]
      unfold tmC nthT
      rw [show (j + 2) / 2 = j / 2 + 1 by omega, show (j + 2) % 2 = j % 2 by omega]; rfl
theorem own_kind {w : World} {B : Nat} {e : TypeId} {size n : Nat} {v : Value} {xs : List Value} (h : w.ownsRow B e size v n xs) {k : Nat} (hk : v.ownBlock = some k) : ∃ cur, w.heap[k]? = some (.cells cur e (0, 0)) := by
  rcases h.2 with ⟨rfl, _⟩ | ⟨g, cap, cur, rfl, _, hh, _⟩
  · cases hk
  · injection hk with hk
    subst hk
    exact ⟨cur, hh⟩
/-- A row of another kind has grown. -/
theorem own_other {w w' : World} {B : Nat} {e : TypeId} {size n : Nat} {v : Value} {xs : List Value} {row : Option Nat} (h : w.ownsRow B e size v n xs) (hg : w.grownBy w' row) (hr : ∀ k, row = some k → ∃ cur e', e' ≠ e ∧ w.heap[k]? = some (.cells cur e' (0, 0))) : w'.ownsRow B e size v n xs := by
  refine h.kept hg ?_
  cases hv : v.ownBlock with
  | none => exact .inl rfl
  | some k =>
    right
    intro he
    obtain ⟨cur, h1⟩ := own_kind h hv
    obtain ⟨cur', e', h2, h3⟩ := hr k (by rw [← he])
    rw [h1] at h3
    injection h3 with h3
    injection h3 with _ h4
    exact h2 h4.symm
/-- Terms that the call itself made. -/
structure OwnTms (w : World) (B : Nat) (a : Option Addr) (n cap : Nat) (ts : List Tm) : Prop where
  len : ts.length = n
  fit : ∀ x ∈ ts, x.text.size ≤ 1000 ∧ x.at_ ≤ 1000000
  own : w.ownsRow B 42 2 (.slice a n cap) n (tmCells ts)
theorem nthT_fit {ts : List Tm} (h : ∀ x ∈ ts, x.text.size ≤ 1000 ∧ x.at_ ≤ 1000000) (j : Nat) : (nthT ts j).text.size ≤ maxLen ∧ (nthT ts j).at_ ≤ 1000000 := by
  unfold nthT
  cases hj : ts[j]? with
  | none => exact ⟨Nat.zero_le _, Nat.zero_le _⟩
  | some x => have := h x (List.mem_of_getElem? hj); exact ⟨by show x.text.size ≤ _; unfold maxLen; omega, this.2⟩
theorem OwnTms.tms {w : World} {B : Nat} {a : Option Addr} {n cap : Nat} {ts : List Tm} (h : OwnTms w B a n cap ts) : Tms w a n ts :=
  ⟨h.len, nthT_fit h.fit, Rd.of_own (B := B) (e := 42) (cap := cap) (by have h1 := h.own; rw [tmCells_tab, h.len] at h1; exact h1)⟩
theorem OwnTms.below {w w' : World} {B : Nat} {a : Option Addr} {n cap : Nat} {ts : List Tm} (h : OwnTms w B a n cap ts) (hb : Below w.heap.size w w') : OwnTms w' B a n cap ts := ⟨h.len, h.fit, own_below h.own hb (Nat.le_refl _)⟩
theorem OwnTms.base {w : World} {B B' : Nat} {a : Option Addr} {n cap : Nat} {ts : List Tm} (h : OwnTms w B a n cap ts) (hB : B' ≤ B) : OwnTms w B' a n cap ts := ⟨h.len, h.fit, own_base h.own hB⟩
theorem info_tm : (Try.prog.info? 42).map (fun i => (i.zero, i.size, i.bytes)) = some (some (.agg #[.string ByteArray.empty, .int .i64 0]), 2, 24) := by kernel_rfl
theorem tms_nil_made (w : World) : (w.alloc (.cells #[] 42)).ownsRow w.heap.size 42 2 (.slice (some ⟨w.heap.size, 0, none⟩) 0 0) 0 (tmCells []) :=
  World.ownsRow_made w #[] 0 (Nat.le_refl _) (Nat.zero_le _) rfl
theorem cell_two_at {w : World} {g : Nat} (hg : g = w.heap.size) (a b : Value) (t : TypeId) : ∀ j u, [a, b][j]? = some u → (w.alloc (.cells #[a, b] t)).cell? ((⟨g, 0, none⟩ : Addr).add j) = some u := by
  subst hg
  intro j x hj
  match j, hj with
  | 0, hj => simp at hj; subst hj; simp [Addr.add]
  | 1, hj => simp at hj; subst hj; simp [Addr.add]
theorem wds_at (s : ByteArray) : ∀ n k c, s.size - k = n → ∀ i, i < (wds s k c).length → (nthW (wds s k c) i).at_ = c + i := by
  intro n
  induction n using Nat.strongRecOn with
  | ind n ih =>
    intro k c hn i hi
    by_cases hk : k < s.size
    · cases hw : inW s k
      · rw [wds_skip hw] at hi ⊢
        exact ih (s.size - (k + 1)) (by omega) _ _ rfl i hi
      · rw [wds_word hw] at hi ⊢
        have h1 := wEnd_gt hw
        match i, hi with
        | 0, _ => rfl
        | i + 1, hi =>
          have := ih (s.size - wEnd s k) (by omega) (wEnd s k) (c + 1) rfl i (by simpa using hi)
          show (nthW (wds s (wEnd s k) (c + 1)) i).at_ = _
          rw [this]; omega
    · rw [wds_end (by omega)] at hi; simp at hi
theorem cutFrom_le (s : ByteArray) : ∀ n j, (cutFrom s n j).size ≤ s.size := by
  intro n
  induction n with
  | zero => intro j; exact Nat.le_refl _
  | succ n ih =>
    intro j
    rw [cutFrom]
    by_cases h : canCut s j = true
    · rw [if_pos h, cutAt_size]; omega
    · rw [if_neg h]; exact ih _
theorem stemN_le : ∀ n (s : ByteArray), (stemN n s).size ≤ s.size := by
  intro n
  induction n with
  | zero => intro s; exact Nat.le_refl _
  | succ n ih => intro s; exact Nat.le_trans (ih (onceB s)) (cutFrom_le s 5 0)
theorem stemB_le (s : ByteArray) : (stemB s).size ≤ s.size := stemN_le _ s
def keepT (x : ConfA) (d : Wd) : Bool := !hasS x.n x.ss d.text && !hasS x.n x.ss (stemB d.text)
def termT (d : Wd) : Tm := ⟨stemB d.text, d.at_⟩
def plainT (x : ConfA) (ws : List Wd) : List Tm := (ws.filter (keepT x)).map termT
theorem take_nthW {ws : List Wd} {k : Nat} (h : k < ws.length) : ws.take (k + 1) = ws.take k ++ [nthW ws k] := by
  rw [nthW_eq h, List.take_add_one, List.getElem?_eq_getElem h]; rfl
theorem plainT_yes {x : ConfA} {ws : List Wd} {k : Nat} (h : k < ws.length) (hk : keepT x (nthW ws k) = true) : plainT x (ws.take (k + 1)) = plainT x (ws.take k) ++ [termT (nthW ws k)] := by
  rw [take_nthW h]; simp [plainT, hk]
theorem plainT_no {x : ConfA} {ws : List Wd} {k : Nat} (h : k < ws.length) (hk : keepT x (nthW ws k) = false) : plainT x (ws.take (k + 1)) = plainT x (ws.take k) := by
  rw [take_nthW h]; simp [plainT, hk]
theorem plainT_len (x : ConfA) (ws : List Wd) : (plainT x ws).length ≤ ws.length := by
  rw [plainT, List.length_map]; exact List.length_filter_le _ _
theorem plainT_fit {x : ConfA} {s : ByteArray} (hs : s.size ≤ 160) (k : Nat) : ∀ t ∈ plainT x ((wds s 0 0).take k), t.text.size ≤ 1000 ∧ t.at_ ≤ 1000000 := by
  intro t ht
  simp only [plainT, List.mem_map, List.mem_filter] at ht
  obtain ⟨d, ⟨hd, _⟩, rfl⟩ := ht
  have hd := List.mem_of_mem_take hd
  have h1 := wds_fit s 0 0 d hd
  obtain ⟨i, hi, he⟩ := List.mem_iff_getElem.1 hd
  have h2 := wds_at s _ 0 0 rfl i hi
  rw [nthW_eq hi, he] at h2
  have h3 := wds_count s _ 0 0 rfl
  have h4 := stemB_le d.text
  exact ⟨by show (stemB d.text).size ≤ _; omega, by show d.at_ ≤ _; omega⟩
set_option maxRecDepth 100000 in
set_option maxHeartbeats 4000000 in
theorem l2Plain_any (x : ConfA) (s : ByteArray) (hs : s.size ≤ 160) (w : World) (hx : x.In w) :
    Calls Try.prog 67 #[x.v, .string s] w fun e w' => ∃ a' c', e = .returned (.slice a' (plainT x (wds s 0 0)).length c') ∧ OwnTms w' w.heap.size a' (plainT x (wds s 0 0)).length c' (plainT x (wds s 0 0)) ∧ Below w.heap.size w w' := by
  have HX := Lib.hid hx
  have HF := Lib.hid (fun k => plainT_fit (x := x) hs k)
  have hn := hx.hn
  clear hx
  unfold maxLen at hn
  obtain ⟨i0, hi, hz0, hz1, hz2⟩ := info_parts info_tm
  unfold ConfA.v
  have BW : Hid (Below w.heap.size w (w.alloc (.cells #[.slice x.a x.n x.c, .slice x.b x.m x.d] 30))) := (Below.refl _ _).alloc (Nat.le_refl _) _
  have c0 : Hid ((w.alloc (.cells #[.slice x.a x.n x.c, .slice x.b x.m x.d] 30)).cell? ⟨w.heap.size, 0, none⟩ = some (.slice x.a x.n x.c)) := World.cell?_alloc_at _ _ _ _ rfl
  have hsz : Hid (w.heap.size < (w.alloc (.cells #[.slice x.a x.n x.c, .slice x.b x.m x.d] 30)).heap.size) := by show _ < _; simp
  have X0 := Lib.hid (HX.out.below BW.out)
  obtain ⟨W0, hW0⟩ : ∃ W0, W0 = w.alloc (.cells #[.slice x.a x.n x.c, .slice x.b x.m x.d] 30) := ⟨_, rfl⟩
  have HS := Lib.hid (show W0.heap.size = w.heap.size + 1 by rw [hW0]; simp)
  have ON : Hid ((W0.alloc (.cells #[] 42)).ownsRow (w.heap.size + 1) 42 2 (.slice (some ⟨w.heap.size + 1, 0, none⟩) 0 0) 0 (tmCells [])) := by
    have h := tms_nil_made W0
    rw [HS.out] at h
    exact h
  have BA := Lib.hid ((Below.refl W0.heap.size W0).alloc (Nat.le_refl _) (.cells #[] 42))
  rw [← hW0] at c0 hsz X0 BW
  go_enter Try.func67, Try.ntmps67
  go_wp2_with fail
  rw [← hW0]
  clear hW0
  refine (l1Words_any s hs _).mono ?_
  rintro e w1 ⟨a1, c1, rfl, ho, hb⟩
  have LN := wds_count s _ 0 0 rfl
  have FX := Lib.hid (fun j => nthW_fit (wds_fit s 0 0) j)
  obtain ⟨ws, hws⟩ : ∃ ws, ws = wds s 0 0 := ⟨_, rfl⟩
  rw [← hws] at ho LN HF FX ⊢
  have HWS := Lib.hid hws; clear hws
  have OW := Lib.hid (ho.base (show w.heap.size ≤ _ by have := HS.out; simp; omega)); clear ho
  have B1 := Lib.hid (BA.out.trans (hb.mono BA.out.size))
  have O1 := Lib.hid (own_below ON.out hb (Nat.le_refl _)); clear hb
  go_wp2_with fail
  go_loopw [5, 7] (fun o i wr => ∃ (k : Nat) (a' : Option Addr) (c' : Nat) (ts : List Tm), k ≤ ws.length ∧ i = .int .i64 k ∧ o = .slice a' ts.length c' ∧ ts = plainT x (ws.take k) ∧ wr.ownsRow (w.heap.size + 1) 42 2 (.slice a' ts.length c') ts.length (tmCells ts) ∧ OwnWds wr w.heap.size a1 ws.length c1 ws ∧ Below W0.heap.size W0 wr) (fun _ i _ => ws.length - (intOf i).toNat)
  case atStart => exact ⟨0, _, _, [], Nat.zero_le _, rfl, rfl, rfl, O1.out, OW.out, B1.out⟩
  case round =>
    obtain ⟨k, a', c', ts, hk, rfl, rfl, hts, hown, how, hb⟩ := hrel
    have HO := Lib.hid hown; clear hown
    have HW := Lib.hid how; clear how
    have HB := Lib.hid hb; clear hb
    have HTS := Lib.hid hts
    by_cases hlt : k < ws.length
    · have hl1 : ts.length ≤ k := by rw [hts]; exact Nat.le_trans (plainT_len _ _) (by rw [List.length_take]; omega)
      clear hts
      have e0 := (HB.out.cell hsz.out).trans c0.out
      obtain ⟨g, off, hga, hc⟩ := HW.out.wds.pos hlt
      rw [hga]
      have HGA := Lib.hid hga; clear hga
      obtain ⟨x0, x1, -, -⟩ := hc k hlt
      clear hc
      have fx := FX.out k
      have YES := Lib.hid (fun h => plainT_yes (x := x) hlt h)
      have NO := Lib.hid (fun h => plainT_no (x := x) hlt h)
      obtain ⟨d, hd⟩ : ∃ d, d = nthW ws k := ⟨_, rfl⟩
      rw [← hd] at x0 x1 fx YES NO
      clear hd
      have v1 : (0 : Int) ≤ (k : Int) := by omega
      have v2 : (k : Int) < (ws.length : Int) := by omega
      have FD := Lib.hid (show d.text.size ≤ maxLen by unfold maxLen; omega)
      have lb := World.block_lt_of_cell? wr _ x0
      go_wp2_with fail
      refine (l2Stem_any d.text FD.out _).mono ?_
      rintro e w2 ⟨rfl, hb2⟩
      have x0 := (hb2.cell lb).trans x0
      have x1 := (hb2.cell lb).trans x1
      have B2 := Lib.hid (HB.out.trans (hb2.mono HB.out.size))
      have HO2 := Lib.hid (own_below HO.out hb2 (Nat.le_refl _))
      have HW2 := Lib.hid (HW.out.below hb2)
      clear hb2 e0
      have e0 := (B2.out.cell hsz.out).trans c0.out
      have q0 := cell_regrown x0
      have q1 := cell_regrown e0
      have HI : Hid (∀ t w1, Below w2.heap.size w2 w1 → Calls Try.prog 59 #[.slice x.a x.n x.c, .string t] w1 fun e w' => e = .returned (.bool (hasS x.n x.ss t)) ∧ w1 = w') := fun t w1 hb => l2Has_any _ _ _ _ t w1 ((X0.out.s.below B2.out).below hb) HX.out.hn
      have KE := Lib.hid (show keepT x d = (!hasS x.n x.ss d.text && !hasS x.n x.ss (stemB d.text)) from rfl)
      cases h1 : hasS x.n x.ss d.text
      · cases h2 : hasS x.n x.ss (stemB d.text)
        · have N := Lib.hid (YES.out (by rw [KE.out, h1, h2]; rfl))
          go_wp2_with fail
          refine wp_region_quiet_below (by kernel_rfl) (by kernel_rfl) ?_
          repeat (go_big_quiet_step ((go_at_call 59; exact quiet_bs fun w1 hb => HI.out _ w1 hb)))
          refine wpQuiet_nil ?_
          intro wq hqq
          have BQ := Lib.hid (quiet_out hqq)
          clear hqq
          have BQ2 := Lib.hid (B2.out.trans (BQ.out.mono B2.out.size))
          have x1q := (BQ.out.cell (World.block_lt_of_cell? w2 _ x1)).trans x1
          have HO3 := Lib.hid (own_below HO2.out BQ.out (Nat.le_refl _))
          have HW3 := Lib.hid (HW2.out.below BQ.out)
          clear q0 q1 x0 x1 e0 BQ
          have FIN := Lib.hid (show ts ++ [termT d] = plainT x (ws.take (k + 1)) by rw [N.out, HTS.out])
          go_wp2_with (at_builtin; refine wpList_append_own _ rfl _ _ 39 rfl (w.heap.size + 1) 42 i0 (.agg #[.string ByteArray.empty, .int .i64 0]) 2 24 Try.underlying39 hi hz0 hz1 hz2 rfl (by decide) _ _ _ rfl (HO3.out.alloc _) ⟨wq.heap.size, 0, none⟩ 1 1 [.string (stemB d.text), .int .i64 (d.at_ : Int)] rfl rfl ?gb1 ?gb2 ?gb3 ?gb4 ?gb5 ?_)
          case gb1 => exact cell_two_at rfl _ _ _
          case gb2 => intro u hu; simp at hu; rcases hu with rfl | rfl <;> rfl
          case gb3 => unfold maxLen; omega
          case gb4 => omega
          case gb5 => have h1 := BQ2.out.size; have h2 := HS.out; simp; omega
          · intro v' w4 hown' hgrow _
            obtain ⟨a3, c3, hv⟩ := own_form hown'
            rw [hv] at hown'
            have HO4 := Lib.hid (show w4.ownsRow (w.heap.size + 1) 42 2 (.slice a3 (ts ++ [termT d]).length c3) (ts ++ [termT d]).length (tmCells (ts ++ [termT d])) by
              rw [tmCells_app, List.length_append]; exact hown')
            have ha : Below wq.heap.size wq (wq.alloc (.cells #[.string (stemB d.text), .int .i64 (d.at_ : Int)] 42)) := (Below.refl _ _).alloc (Nat.le_refl _) _
            have HW4 := Lib.hid (show OwnWds w4 w.heap.size a1 ws.length c1 ws from ⟨HW3.out.len, HW3.out.fit, own_other (HW3.out.below ha).own hgrow (fun q hq => by obtain ⟨cur, hcur⟩ := own_kind (HO3.out.alloc _) hq; exact ⟨cur, _, by decide, hcur⟩)⟩)
            have HB4 := Lib.hid ((BQ2.out.alloc BQ2.out.size _).grown hgrow (by have := BQ2.out.size; simp; omega) (fun q hq => by have h3 := (own_block HO3.out q hq).1; have h4 := HS.out; omega))
            clear hgrow hown'
            rw [hv]
            clear hv
            go_wp2_with fail
            go_roundw
            case rel => exact ⟨k + 1, a3, c3, ts ++ [termT d], by omega, by go_num, by simp, FIN.out, HO4.out, by rw [← HGA.out]; exact HW4.out, HB4.out⟩
            case measure => simp [intOf]; omega
        · have N := Lib.hid (NO.out (by rw [KE.out, h1, h2]; rfl))
          go_wp2_with fail
          refine wp_region_quiet_below (by kernel_rfl) (by kernel_rfl) ?_
          repeat (go_big_quiet_step ((go_at_call 59; exact quiet_bs fun w1 hb => HI.out _ w1 hb)))
          refine wpQuiet_nil ?_
          intro wq hqq
          have BQ := Lib.hid (quiet_out hqq)
          clear hqq
          have BE := Lib.hid (B2.out.trans (BQ.out.mono B2.out.size))
          have HO3 := Lib.hid (own_below HO2.out BQ.out (Nat.le_refl _))
          have HW3 := Lib.hid (HW2.out.below BQ.out)
          go_wp2_with fail
          go_roundw
          case rel => exact ⟨k + 1, a', c', ts, by omega, by go_num, rfl, HTS.out.trans N.out.symm, HO3.out, by rw [← HGA.out]; exact HW3.out, BE.out⟩
          case measure => simp [intOf]; omega
      · have N := Lib.hid (NO.out (by rw [KE.out, h1]; rfl))
        go_wp2_with fail
        refine wp_region_quiet_below (by kernel_rfl) (by kernel_rfl) ?_
        repeat (go_big_quiet_step ((go_at_call 59; exact quiet_bs fun w1 hb => HI.out _ w1 hb)))
        refine wpQuiet_nil ?_
        intro wq hqq
        have BQ := Lib.hid (quiet_out hqq)
        clear hqq
        have BE := Lib.hid (B2.out.trans (BQ.out.mono B2.out.size))
        have HO3 := Lib.hid (own_below HO2.out BQ.out (Nat.le_refl _))
        have HW3 := Lib.hid (HW2.out.below BQ.out)
        go_wp2_with fail
        go_roundw
        case rel => exact ⟨k + 1, a', c', ts, by omega, by go_num, rfl, HTS.out.trans N.out.symm, HO3.out, by rw [← HGA.out]; exact HW3.out, BE.out⟩
        case measure => simp [intOf]; omega
    · obtain rfl : k = ws.length := by omega
      have HE := Lib.hid (show ts = plainT x ws by rw [hts, List.take_length])
      clear hts
      have FF := Lib.hid (fun t (ht : t ∈ ts) => HF.out ws.length t (by rw [List.take_length, ← HE.out]; exact ht))
      go_wp2_with fail
      go_ret
      rw [← HWS.out, ← HE.out]
      exact ⟨_, _, rfl, ⟨rfl, FF.out, own_base HO.out (Nat.le_succ _)⟩, BW.out.trans (HB.out.mono BW.out.size)⟩
end Go.Proofs.Ytejooloflcldiaa
