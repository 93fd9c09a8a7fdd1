/- The terms of a text, as the program finds them. Conditions: what is read fits the model's sizes. -/
import Derived.Test.YtejooloflcldiaaRule
import Derived.Test.YtejooloflcldiaaTerms
namespace Go.Proofs.Ytejooloflcldiaa
open Go.RowKit Go.Sort
/-- The terms of a text, of how words are read. -/
def termsOf (x : ConfA) (s : ByteArray) : List Tm := if confOk x && textOk s then termsT x (plainT x (wds s 0 0)) else []
set_option maxRecDepth 100000 in
set_option maxHeartbeats 4000000 in
theorem TermsOf_any (x : ConfA) (s : ByteArray) (hs : s.size ≤ maxLen) (w : World) (hx : x.In w) :
    Calls Try.prog 19 #[x.v, .string s] w fun e w' => ∃ a' n' c', e = .returned (.slice a' n' c') ∧ OwnTms w' w.heap.size a' n' c' (termsOf x s) ∧ Below w.heap.size w w' := by
  have HX := Lib.hid hx
  have HSZ := Lib.hid hs
  have hn := hx.hn
  have hm := hx.hm
  clear hx
  unfold maxLen at hn hm
  obtain ⟨i0, hi, hz0, hz1, hz2⟩ := info_parts info_tm
  have k2 : Try.prog.cellsOf 53 = 2 := by kernel_rfl
  have k3 : Try.prog.cellsOf 42 = 2 := by kernel_rfl
  have k4 : Try.prog.cellsOf 49 = 4 := by kernel_rfl
  unfold ConfA.v
  have BW : Hid (Below w.heap.size w (w.alloc (.cells #[.slice x.a x.n x.c, .slice x.b x.m x.d] 30))) := (Below.refl _ _).alloc (Nat.le_refl _) _
  have c0 : Hid ((w.alloc (.cells #[.slice x.a x.n x.c, .slice x.b x.m x.d] 30)).cell? ⟨w.heap.size, 0, none⟩ = some (.slice x.a x.n x.c)) := World.cell?_alloc_at _ _ _ _ rfl
  have c1 : Hid ((w.alloc (.cells #[.slice x.a x.n x.c, .slice x.b x.m x.d] 30)).cell? ⟨w.heap.size, 1, none⟩ = some (.slice x.b x.m x.d)) := World.cell?_alloc_at _ _ _ _ rfl
  have hsz : Hid (w.heap.size < (w.alloc (.cells #[.slice x.a x.n x.c, .slice x.b x.m x.d] 30)).heap.size) := by show _ < _; simp
  have X0 := Lib.hid (HX.out.below BW.out)
  obtain ⟨W0, hW0⟩ : ∃ W0, W0 = w.alloc (.cells #[.slice x.a x.n x.c, .slice x.b x.m x.d] 30) := ⟨_, rfl⟩
  have HS := Lib.hid (show W0.heap.size = w.heap.size + 1 by rw [hW0]; simp)
  have ON : Hid ((W0.alloc (.cells #[] 42)).ownsRow (w.heap.size + 1) 42 2 (.slice (some ⟨w.heap.size + 1, 0, none⟩) 0 0) 0 (tmCells [])) := by
    have h := tms_nil_made W0
    rw [HS.out] at h
    exact h
  have BA := Lib.hid ((Below.refl W0.heap.size W0).alloc (Nat.le_refl _) (.cells #[] 42))
  rw [← hW0] at c0 c1 hsz X0 BW
  have a0 := ((BA.out.cell hsz.out).trans c0.out)
  have a1 := ((BA.out.cell hsz.out).trans c1.out)
  have CO := Lib.hid (ConfOk_any x (W0.alloc (.cells #[] 42)) (X0.out.below BA.out))
  unfold ConfA.v at CO
  go_enter Try.func19, Try.ntmps19
  go_wp2_with fail
  rw [← hW0]
  clear hW0
  have HSA := Lib.hid (show (W0.alloc (.cells #[] 42)).heap.size = w.heap.size + 2 by have := HS.out; simp; omega)
  generalize W0.alloc (.cells #[] 42) = WA at *
  go_wp2_with fail
  refine CO.out.mono ?_
  clear CO a0 a1
  rintro e w1 ⟨rfl, hb⟩
  have B1 := Lib.hid (BA.out.trans (hb.mono BA.out.size))
  have O1 := Lib.hid (own_below ON.out hb (Nat.le_refl _))
  have S1 := Lib.hid (show w.heap.size + 2 ≤ w1.heap.size by have h1 := hb.size; have h2 := HSA.out; omega)
  clear hb
  cases hok : confOk x
  · have R := Lib.hid (show termsOf x s = [] by unfold termsOf; rw [hok]; rfl)
    go_wp2_with fail
    go_ret
    rw [R.out]
    exact ⟨_, _, _, rfl, ⟨rfl, (fun t ht => by cases ht), own_base O1.out (Nat.le_succ _)⟩, BW.out.trans (B1.out.mono BW.out.size)⟩
  have OK := Lib.hid hok; clear hok
  go_wp2_with fail
  refine (TextOk_any _ _ HSZ.out).mono ?_
  rintro e w' ⟨rfl, rfl⟩
  cases htx : textOk s
  · have R := Lib.hid (show termsOf x s = [] by unfold termsOf; rw [htx, Bool.and_false]; rfl)
    go_wp2_with fail
    go_ret
    rw [R.out]
    exact ⟨_, _, _, rfl, ⟨rfl, (fun t ht => by cases ht), own_base O1.out (Nat.le_succ _)⟩, BW.out.trans (B1.out.mono BW.out.size)⟩
  have h160 := textOk_size htx
  have RES := Lib.hid (show termsOf x s = termsT x (plainT x (wds s 0 0)) by unfold termsOf; rw [htx, OK.out]; rfl)
  have HWO := Lib.hid (show wordsOf s = wds s 0 0 by rw [wordsOf, htx]; rfl)
  have HF := Lib.hid (fun k => plainT_fit (x := x) h160 k)
  clear htx
  have ONT : Hid ((w1.alloc (.cells #[] 42)).ownsRow (w.heap.size + 2) 42 2 (.slice (some ⟨w1.heap.size, 0, none⟩) 0 0) 0 (tmCells [])) := own_base (tms_nil_made w1) S1.out
  have B2 := Lib.hid (B1.out.alloc B1.out.size (.cells #[] 42))
  have O2 := Lib.hid (O1.out.alloc (.cells #[] 42))
  have S2 := Lib.hid (show w.heap.size + 2 ≤ (w1.alloc (.cells #[] 42)).heap.size by have h1 := S1.out; simp; omega)
  go_wp2_with fail
  generalize w1.alloc (.cells #[] 42) = W2 at *
  refine (WordsOf_any s HSZ.out _).mono ?_
  rintro e w2 ⟨aw, cw, rfl, ho, hb⟩
  rw [HWO.out] at ho ⊢
  have LN := wds_count s _ 0 0 rfl
  have FX := Lib.hid (fun j => nthW_fit (wds_fit s 0 0) j)
  have WK : Hid (∀ j, j < (wds s 0 0).length → wordOk (nthW (wds s 0 0) j).text = true) := fun j hj => (wGood_at _ 0 0 j (wds_good s _ 0 0 0 rfl (.inl (Nat.le_refl _))) hj).2.2.2.1
  obtain ⟨ws, hws⟩ : ∃ ws, ws = wds s 0 0 := ⟨_, rfl⟩
  rw [← hws] at ho LN HF FX WK RES ⊢
  have HWS := Lib.hid hws; clear hws
  have OW := Lib.hid (ho.base (show w.heap.size ≤ _ by have := S2.out; omega)); clear ho
  have B3 := Lib.hid (B2.out.trans (hb.mono B2.out.size))
  have O3 := Lib.hid (own_below O2.out hb (Nat.le_refl _))
  have T3 := Lib.hid (own_below ONT.out hb (Nat.le_refl _))
  clear hb
  go_wp2_with fail
  go_loopw [6, 26] (fun o i wr => ∃ (k : Nat) (a' : Option Addr) (c' : Nat) (ts : List Tm), k ≤ ws.length ∧ i = .int .i64 k ∧ o = .slice a' ts.length c' ∧ ts = plainT x (ws.take k) ∧ wr.ownsRow (w.heap.size + 1) 42 2 (.slice (some ⟨w.heap.size + 1, 0, none⟩) 0 0) 0 (tmCells []) ∧ wr.ownsRow (w.heap.size + 2) 42 2 (.slice a' ts.length c') ts.length (tmCells ts) ∧ OwnWds wr w.heap.size aw ws.length cw ws ∧ Below W0.heap.size W0 wr) (fun _ i _ => ws.length - (intOf i).toNat)
  case atStart => exact ⟨0, _, _, [], Nat.zero_le _, rfl, rfl, rfl, O3.out, T3.out, OW.out, B3.out⟩
  case round =>
    obtain ⟨k, a', c', ts, hk, rfl, rfl, hts, hown, hownt, how, hb⟩ := hrel
    have HO := Lib.hid hown; clear hown
    have HT := Lib.hid hownt; clear hownt
    have HW := Lib.hid how; clear how
    have HB := Lib.hid hb; clear hb
    have HTS := Lib.hid hts
    by_cases hlt : k < ws.length
    · have hl1 : ts.length ≤ k := by rw [hts]; exact Nat.le_trans (plainT_len _ _) (by rw [List.length_take]; omega)
      clear hts
      obtain ⟨g, off, hga, hc⟩ := HW.out.wds.pos hlt
      rw [hga]
      have HGA := Lib.hid hga; clear hga
      obtain ⟨x0, x1, x2, x3⟩ := hc k hlt
      clear hc
      have fx := FX.out k
      have wk1 := WK.out k hlt
      have YES := Lib.hid (fun h => plainT_yes (x := x) hlt h)
      have NO := Lib.hid (fun h => plainT_no (x := x) hlt h)
      obtain ⟨d, hd⟩ : ∃ d, d = nthW ws k := ⟨_, rfl⟩
      rw [← hd] at x0 x1 x2 x3 fx wk1 YES NO
      clear hd
      have v1 : (0 : Int) ≤ (k : Int) := by omega
      have v2 : (k : Int) < (ws.length : Int) := by omega
      have FD := Lib.hid (show d.text.size ≤ maxLen by unfold maxLen; omega)
      have SE := Lib.hid (stem_eq wk1); clear wk1
      go_wp2_with fail
      have BD := Lib.hid ((Below.refl wr.heap.size wr).alloc (Nat.le_refl _) (.cells #[.string d.text, .int .i64 (d.at_ : Int), .int .i64 (d.from_ : Int), .int .i64 (d.to_ : Int)] 49))
      have y0 := Lib.hid (show (wr.alloc (.cells #[.string d.text, .int .i64 (d.at_ : Int), .int .i64 (d.from_ : Int), .int .i64 (d.to_ : Int)] 49)).cell? ⟨wr.heap.size, 0, none⟩ = some (.string d.text) from World.cell?_alloc_at _ _ _ _ rfl)
      have y1 := Lib.hid (show (wr.alloc (.cells #[.string d.text, .int .i64 (d.at_ : Int), .int .i64 (d.from_ : Int), .int .i64 (d.to_ : Int)] 49)).cell? ⟨wr.heap.size, 1, none⟩ = some (.int .i64 (d.at_ : Int)) from World.cell?_alloc_at _ _ _ _ rfl)
      have dl : Hid (wr.heap.size < (wr.alloc (.cells #[.string d.text, .int .i64 (d.at_ : Int), .int .i64 (d.from_ : Int), .int .i64 (d.to_ : Int)] 49)).heap.size) := by show _ < _; simp
      generalize wr.alloc (.cells #[.string d.text, .int .i64 (d.at_ : Int), .int .i64 (d.from_ : Int), .int .i64 (d.to_ : Int)] 49) = Wd at *
      have HBd := Lib.hid (HB.out.trans (BD.out.mono HB.out.size))
      have HOd := Lib.hid (own_below HO.out BD.out (Nat.le_refl _))
      have HTd := Lib.hid (own_below HT.out BD.out (Nat.le_refl _))
      have HWd := Lib.hid (HW.out.below BD.out)
      obtain ⟨D, hD⟩ : ∃ D, D = wr.heap.size := ⟨_, rfl⟩
      rw [← hD] at y0 y1 dl ⊢
      clear hD x0 x1 x2 x3 BD HB HO HT HW
      refine (StemOf_any d.text FD.out _).mono ?_
      rintro e w4 ⟨rfl, hb⟩
      rw [SE.out]
      have B4 := Lib.hid (HBd.out.trans (hb.mono HBd.out.size))
      have O4 := Lib.hid (own_below HOd.out hb (Nat.le_refl _))
      have T4 := Lib.hid (own_below HTd.out hb (Nat.le_refl _))
      have W4 := Lib.hid (HWd.out.below hb)
      have S4 := Lib.hid (show w.heap.size + 2 ≤ w4.heap.size by have h1 := (own_block O4.out (w.heap.size + 1) rfl).2; omega)
      have z0 := (hb.cell dl.out).trans y0.out
      have z1 := (hb.cell dl.out).trans y1.out
      clear hb HBd HOd HTd HWd y0 y1 dl
      have e0 := (B4.out.cell hsz.out).trans c0.out
      have CT : Hid (∀ t, Calls Try.prog 39 #[.slice x.a x.n x.c, .string t] w4 fun e w' => e = .returned (.bool (hasS x.n x.ss t)) ∧ w4 = w') := fun t => ContainsS_any _ _ _ _ t w4 (X0.out.s.below B4.out) HX.out.hn
      have KE := Lib.hid (show keepT x d = (!hasS x.n x.ss d.text && !hasS x.n x.ss (stemB d.text)) from rfl)
      go_wp2_with fail
      refine (CT.out _).mono ?_
      rintro e w' ⟨rfl, rfl⟩
      cases h1 : hasS x.n x.ss d.text
      · go_wp2_with fail
        refine (CT.out _).mono ?_
        rintro e w' ⟨rfl, rfl⟩
        cases h2 : hasS x.n x.ss (stemB d.text)
        · have N := Lib.hid (YES.out (by rw [KE.out, h1, h2]; rfl))
          have FIN := Lib.hid (show ts ++ [termT d] = plainT x (ws.take (k + 1)) by rw [N.out, HTS.out])
          go_wp2_with (at_builtin; refine wpList_append_own _ rfl _ _ 39 rfl (w.heap.size + 2) 42 i0 (.agg #[.string ByteArray.empty, .int .i64 0]) 2 24 Try.underlying39 hi hz0 hz1 hz2 rfl (by decide) _ _ _ rfl (T4.out.alloc _) ⟨w4.heap.size, 0, none⟩ 1 1 [.string (stemB d.text), .int .i64 (d.at_ : Int)] rfl rfl ?gb1 ?gb2 ?gb3 ?gb4 ?gb5 ?_)
          case gb1 => exact cell_two_at rfl _ _ _
          case gb2 => intro u hu; simp at hu; rcases hu with rfl | rfl <;> rfl
          case gb3 => unfold maxLen; omega
          case gb4 => omega
          case gb5 => have h1 := B4.out.size; have h2 := HS.out; have h3 := S4.out; simp; omega
          · intro v' w6 hown' hgrow _
            obtain ⟨a3, c3, hv⟩ := own_form hown'
            rw [hv] at hown'
            have T6 := Lib.hid (show w6.ownsRow (w.heap.size + 2) 42 2 (.slice a3 (ts ++ [termT d]).length c3) (ts ++ [termT d]).length (tmCells (ts ++ [termT d])) by
              rw [tmCells_app, List.length_append]; exact hown')
            have ha : Below w4.heap.size w4 (w4.alloc (.cells #[.string (stemB d.text), .int .i64 (d.at_ : Int)] 42)) := (Below.refl _ _).alloc (Nat.le_refl _) _
            have W6 := Lib.hid (show OwnWds w6 w.heap.size aw ws.length cw ws from ⟨W4.out.len, W4.out.fit, own_other (W4.out.below ha).own hgrow (fun q hq => by obtain ⟨cur, hcur⟩ := own_kind (T4.out.alloc _) hq; exact ⟨cur, _, by decide, hcur⟩)⟩)
            have O6 := Lib.hid (show w6.ownsRow (w.heap.size + 1) 42 2 (.slice (some ⟨w.heap.size + 1, 0, none⟩) 0 0) 0 (tmCells []) from (O4.out.alloc _).kept hgrow (.inr fun e => by have h1 := (own_block T4.out (w.heap.size + 1) e.symm).1; omega))
            have B6 := Lib.hid ((B4.out.alloc B4.out.size _).grown hgrow (by have := B4.out.size; simp; omega) (fun q hq => by have h3 := (own_block T4.out q hq).1; have h4 := HS.out; omega))
            clear hgrow hown'
            rw [hv]
            clear hv
            go_wp2_with fail
            go_roundw
            case rel => exact ⟨k + 1, a3, c3, ts ++ [termT d], by omega, by go_num, by simp, FIN.out, O6.out, T6.out, by first | exact W6.out | (rw [← HGA.out]; exact W6.out), B6.out⟩
            case measure => simp [intOf]; omega
        · have N := Lib.hid (NO.out (by rw [KE.out, h1, h2]; rfl))
          go_wp2_with fail
          go_roundw
          case rel => exact ⟨k + 1, a', c', ts, by omega, by go_num, rfl, HTS.out.trans N.out.symm, O4.out, T4.out, by first | exact W4.out | (rw [← HGA.out]; exact W4.out), B4.out⟩
          case measure => simp [intOf]; omega
      · have N := Lib.hid (NO.out (by rw [KE.out, h1]; rfl))
        go_wp2_with fail
        go_roundw
        case rel => exact ⟨k + 1, a', c', ts, by omega, by go_num, rfl, HTS.out.trans N.out.symm, O4.out, T4.out, by first | exact W4.out | (rw [← HGA.out]; exact W4.out), B4.out⟩
        case measure => simp [intOf]; omega
    · obtain rfl : k = ws.length := by omega
      have HE := Lib.hid (show ts = plainT x ws by rw [hts, List.take_length])
      have FF := Lib.hid (fun t (ht : t ∈ ts) => HF.out ws.length t (by rw [List.take_length, ← HE.out]; exact ht))
      have LL : ts.length ≤ 160 := by rw [hts]; exact Nat.le_trans (plainT_len _ _) (by rw [List.take_length]; omega)
      clear hts
      obtain ⟨n, hn'⟩ : ∃ n, n = ts.length := ⟨_, rfl⟩
      rw [← hn'] at HT LL ⊢
      have HN := Lib.hid hn'; clear hn'
      obtain ⟨g, hg0, hg1⟩ : ∃ g, (0 < n → a' = some ⟨g, 0, none⟩) ∧ w.heap.size + 2 ≤ g := by
        rcases Nat.eq_zero_or_pos n with h0 | h0
        · exact ⟨w.heap.size + 2, fun h => by omega, Nat.le_refl _⟩
        · obtain ⟨g, h1, h2, h3⟩ := own_pos HT.out h0
          exact ⟨g, fun _ => h1, h2⟩
      have HG0 := Lib.hid hg0; clear hg0
      have TL : Hid (OwnTms wr (w.heap.size + 2) a' n c' ts) := ⟨HN.out.symm, FF.out, HT.out⟩
      have cL' : n ≤ c' := by
        rcases Nat.eq_zero_or_pos n with h0 | h0
        · omega
        · exact own_cap HT.out h0
      obtain ⟨wo, hwo⟩ : ∃ wo : World, wo = wr := ⟨_, rfl⟩
      rw [← hwo] at HO TL HB ⊢
      clear hwo HT HW
      go_wp2_with fail
      go_loopw [5, 10] (fun o i wi => ∃ (p : Nat) (ao : Option Addr) (co : Nat) (os : List Tm), p ≤ n ∧ i = .int .i64 p ∧ o = .slice ao os.length co ∧ os.length ≤ p ∧ os ++ termsT x (ts.drop p) = termsT x ts ∧ (∀ t ∈ os, t.text.size ≤ 1000 ∧ t.at_ ≤ 1000000) ∧ wi.ownsRow (w.heap.size + 1) 42 2 (.slice ao os.length co) os.length (tmCells os) ∧ OwnTms wi (w.heap.size + 2) a' n c' ts ∧ (Value.slice ao os.length co).ownBlock ≠ some g ∧ Below W0.heap.size W0 wi) (fun _ i _ => n - (intOf i).toNat)
      case atStart => exact ⟨0, _, _, [], Nat.zero_le _, rfl, rfl, Nat.le_refl _, rfl, (fun t ht => by cases ht), HO.out, TL.out, (fun e => by (injection e with e; have h2 : w.heap.size + 1 = g := e; omega)), HB.out⟩
      case round =>
        obtain ⟨p, ao, co, os, hp, rfl, rfl, hol, hos, hfit, hown, htl, hne, hb⟩ := hrel
        have HO := Lib.hid hown; clear hown
        have HTL := Lib.hid htl; clear htl
        have NE := Lib.hid hne; clear hne
        have HB := Lib.hid hb; clear hb
        have HOS := Lib.hid hos; clear hos
        have FIT := Lib.hid hfit; clear hfit
        by_cases hlt : p < n
        · obtain rfl := HG0.out (by omega)
          have CS := Lib.hid (ruleAt_any x (some ⟨g, 0, none⟩) n c' ts p wr (X0.out.below HB.out) HTL.out.tms (by omega) hlt)
          unfold ConfA.v at CS
          have e0 := (HB.out.cell hsz.out).trans c0.out
          have e1 := (HB.out.cell hsz.out).trans c1.out
          go_wp2_with fail
          refine CS.out.mono ?_
          clear CS
          rintro e w2 ⟨rfl, hb2⟩
          have B2 := Lib.hid (HB.out.trans (hb2.mono HB.out.size))
          have HO2 := Lib.hid (own_below HO.out hb2 (Nat.le_refl _))
          have HTL2 := Lib.hid (HTL.out.below hb2)
          clear hb2 e0 e1
          have T2 := Lib.hid (show Tms w2 (some ⟨g, 0, none⟩) n ts from HTL2.out.tms)
          obtain ⟨x0, x1⟩ := T2.out.cells' hlt
          have lg := World.block_lt_of_cell? w2 _ x0
          have f1 := T2.out.fit p
          cases hs : synTo (ts.drop p) x.ys x.m with
          | none =>
            have o1 : ptrOf x.b none = none := by cases x.b <;> rfl
            rw [o1]
            have N := Lib.hid (termsT_none (x := x) (by rw [← HN.out]; exact hlt) hs)
            have FA0 := Lib.hid (show (nthT ts p).text.size ≤ 1000 ∧ (nthT ts p).at_ ≤ 1000000 from HTL2.out.fit _ (by rw [show nthT ts p = ts[p]'(by rw [← HN.out]; exact hlt) by simp [nthT, show p < ts.length by rw [← HN.out]; exact hlt]]; exact List.getElem_mem _))
            obtain ⟨A, hA⟩ : ∃ A, A = nthT ts p := ⟨_, rfl⟩
            rw [← hA] at x0 x1 f1 N FA0
            clear hA
            have FIN := Lib.hid (show (os ++ [A]) ++ termsT x (ts.drop (p + 1)) = termsT x ts by rw [← HOS.out, N.out, List.append_assoc]; rfl)
            have v1 : (0 : Int) ≤ (p : Int) := by omega
            have v2 : (p : Int) < (n : Int) := by omega
            go_wp2_with (at_builtin; refine wpList_append_own_at _ rfl _ _ 39 rfl (w.heap.size + 1) 42 i0 (.agg #[.string ByteArray.empty, .int .i64 0]) 2 24 Try.underlying39 hi hz0 hz1 hz2 rfl (by decide) _ _ _ rfl (HO2.out.alloc _) ⟨w2.heap.size, 0, none⟩ 1 1 [.string A.text, .int .i64 (A.at_ : Int)] rfl rfl ?gb1 ?gb2 ?gb3 ?gb4 ?gb5 ?_)
            case gb1 => exact cell_two_at rfl _ _ _
            case gb2 => intro u hu; simp at hu; rcases hu with rfl | rfl <;> rfl
            case gb3 => unfold maxLen; omega
            case gb4 => omega
            case gb5 => have h1 := B2.out.size; have h2 := HS.out; simp; omega
            · intro v' w4 hown' hgrow _ hat'
              obtain ⟨a3, c3, hv⟩ := own_form hown'
              rw [hv] at hown' hat'
              have HO4 := Lib.hid (show w4.ownsRow (w.heap.size + 1) 42 2 (.slice a3 (os ++ [A]).length c3) (os ++ [A]).length (tmCells (os ++ [A])) by
                rw [tmCells_app, List.length_append]; exact hown')
              have ha : Below w2.heap.size w2 (w2.alloc (.cells #[.string A.text, .int .i64 (A.at_ : Int)] 42)) := (Below.refl _ _).alloc (Nat.le_refl _) _
              have HT4 := Lib.hid (show OwnTms w4 (w.heap.size + 2) (some ⟨g, 0, none⟩) n c' ts from ⟨HTL2.out.len, HTL2.out.fit, (HTL2.out.below ha).own.kept hgrow (.inr fun e => NE.out (by rw [← e]; rfl))⟩)
              have HB4 := Lib.hid ((B2.out.alloc B2.out.size _).grown hgrow (by have := B2.out.size; simp; omega) (fun q hq => by have h3 := (own_block HO2.out q hq).1; have h4 := HS.out; omega))
              have NE4 : Hid ((Value.slice a3 (os ++ [A]).length c3).ownBlock ≠ some g) := by
                intro e
                have e' : (Value.slice a3 (os.length + 1) c3).ownBlock = some g := by rw [List.length_append] at e; exact e
                rcases hat' with h | h
                · exact NE.out (h.symm.trans e')
                · rw [h] at e'; injection e' with e'; have h5 : w2.heap.size + 1 = g := e'; omega
              have FIT4 : Hid (∀ t ∈ os ++ [A], t.text.size ≤ 1000 ∧ t.at_ ≤ 1000000) := by
                intro t ht
                rcases List.mem_append.1 ht with h | h
                · exact FIT.out t h
                · rw [List.mem_singleton.1 h]; exact FA0.out
              have LO := Lib.hid (show (os ++ [A]).length = os.length + 1 by simp)
              clear hgrow hown' hat'
              rw [hv]
              clear hv
              go_wp2_with fail
              go_roundw
              case rel => exact ⟨p + 1, a3, c3, os ++ [A], by omega, by go_num, by rw [LO.out], by have := LO.out; omega, FIN.out, FIT4.out, HO4.out, HT4.out, NE4.out, HB4.out⟩
              case measure => simp [intOf]; omega
          | some k =>
            have hk := synTo_lt _ _ _ _ hs
            have hbg := begins_len (synTo_begins _ _ _ _ hs)
            rw [List.length_drop, ← HN.out] at hbg
            obtain ⟨ho1, ho2⟩ := confOk_each OK.out hk
            have fy := wordOk_le12 ho2
            have N := Lib.hid (termsT_some (x := x) (by rw [← HN.out]; exact hlt) hs ho1)
            obtain ⟨gb, ob, hgb, hcb⟩ := (X0.out.y.below B2.out).pos hk
            obtain ⟨y0, y1⟩ := hcb k hk
            have o1 : ptrOf x.b (some k) = some ⟨gb, ob + k * 2, none⟩ := by rw [hgb]; rfl
            rw [o1]
            have HGB := Lib.hid hgb; clear hgb hcb ho2
            obtain ⟨Y, hY⟩ : ∃ Y, Y = nthY x.ys k := ⟨_, rfl⟩
            rw [← hY] at y0 y1 N fy ho1 hbg
            have HYY := Lib.hid hY; clear hY
            obtain ⟨A, hA⟩ : ∃ A, A = nthT ts p := ⟨_, rfl⟩
            rw [← hA] at x0 x1 f1 N
            clear hA
            have f2 := f1.2
            have FIN := Lib.hid (show (os ++ [⟨Y.to, A.at_⟩]) ++ termsT x (ts.drop (p + Y.n)) = termsT x ts by rw [← HOS.out, N.out, List.append_assoc]; rfl)
            have v1 : (0 : Int) ≤ (p : Int) := by omega
            have v2 : (p : Int) < (n : Int) := by omega
            have BE := Lib.hid (Below.drew ((Below.refl w2.heap.size w2).alloc (Nat.le_refl _) (.cells #[.string Y.to, .int .i64 (A.at_ : Int)] 42)))
            have LB := Lib.hid (World.block_lt_of_cell? w2 _ y0)
            go_wp2_with fail
            go_region_law (first
              | (refine step_append_at (o := ⟨some 85, _, _, _, _, _⟩) rfl _ _ 39 rfl (w.heap.size + 1) 42 i0 (.agg #[.string ByteArray.empty, .int .i64 0]) 2 24 Try.underlying39 hi hz0 hz1 hz2 rfl (by decide) _ _ _ rfl (by exact (HO2.out.alloc _)) ⟨w2.heap.size, 0, none⟩ 1 1 [.string Y.to, .int .i64 (A.at_ : Int)] rfl rfl (by exact cell_two_at rfl _ _ _) (by intro u hu; simp at hu; rcases hu with rfl | rfl <;> rfl) (by unfold maxLen; omega) (by omega) (by have h1 := B2.out.size; have h2 := HS.out; simp; omega) ?_; intro v' w4 hown' hgrow hnn hat'; obtain ⟨a3, c3, hv⟩ := own_form hown'; rw [hv] at hown' hat'; have O4 := Lib.hid hown'; have G4 := Lib.hid hgrow; have AT4 := Lib.hid hat'; clear hown' hgrow hnn hat'; subst hv))
            all_goals
              have hgrow := (show World.grownBy _ w4 (Value.slice ao os.length co).ownBlock from G4.out)
              have hat' := AT4.out
              have HO4 := Lib.hid (show w4.ownsRow (w.heap.size + 1) 42 2 (.slice a3 (os ++ [(⟨Y.to, A.at_⟩ : Tm)]).length c3) (os ++ [(⟨Y.to, A.at_⟩ : Tm)]).length (tmCells (os ++ [⟨Y.to, A.at_⟩])) by
                rw [tmCells_app, List.length_append]; exact O4.out)
              have HT4 := Lib.hid (show OwnTms w4 (w.heap.size + 2) (some ⟨g, 0, none⟩) n c' ts from ⟨HTL2.out.len, HTL2.out.fit, (HTL2.out.below BE.out).own.kept hgrow (.inr fun e => NE.out (by rw [← e]; rfl))⟩)
              have HB4 := Lib.hid ((B2.out.trans (BE.out.mono B2.out.size)).grown hgrow (by have h1 := B2.out.size; have h2 := BE.out.size; omega) (fun q hq => by have h3 := (own_block HO2.out q hq).1; have h4 := HS.out; omega))
              have NE4 : Hid ((Value.slice a3 (os ++ [(⟨Y.to, A.at_⟩ : Tm)]).length c3).ownBlock ≠ some g) := by
                intro e
                have e' : (Value.slice a3 (os.length + 1) c3).ownBlock = some g := by rw [List.length_append] at e; exact e
                rcases hat' with h | h
                · exact NE.out (h.symm.trans e')
                · rw [h] at e'; injection e' with e'; have h5 : w2.heap.size + 1 = g := (World.size_alloc _ _).symm.trans e'; omega
              have FIT4 : Hid (∀ t ∈ os ++ [(⟨Y.to, A.at_⟩ : Tm)], t.text.size ≤ 1000 ∧ t.at_ ≤ 1000000) := by
                intro t ht
                rcases List.mem_append.1 ht with h | h
                · exact FIT.out t h
                · rw [List.mem_singleton.1 h]; exact ⟨Nat.le_trans fy (by omega), f2⟩
              have LO := Lib.hid (show (os ++ [(⟨Y.to, A.at_⟩ : Tm)]).length = os.length + 1 by simp)
              clear hgrow hat' G4 AT4 O4 y0 y1 x0 x1
              obtain ⟨gc, oc, hgc, hcc⟩ := (X0.out.y.below HB4.out).pos hk
              rw [HGB.out] at hgc
              injection hgc with hgc; injection hgc with hgc1 hgc2
              subst hgc1; subst hgc2
              obtain ⟨y0, -⟩ := hcc k hk
              rw [← HYY.out] at y0
              clear hcc
              go_simp
              go_wp2_with fail
              go_roundw
              case rel => exact ⟨p + Y.n, a3, c3, os ++ [⟨Y.to, A.at_⟩], by omega, by go_num, by rw [LO.out], by have := LO.out; omega, FIN.out, FIT4.out, HO4.out, HT4.out, NE4.out, HB4.out⟩
              case measure => simp [intOf]; omega
        · obtain rfl : p = n := by omega
          have EQ := Lib.hid (show os = termsT x ts by
            have h := HOS.out
            rw [List.drop_eq_nil_of_le (by rw [← HN.out]; omega)] at h
            rw [← h]; simp [termsT, trm])
          go_wp2_with fail
          go_ret
          rw [RES.out, ← HE.out, ← EQ.out]
          exact ⟨_, _, _, rfl, ⟨rfl, FIT.out, own_base HO.out (Nat.le_succ _)⟩, BW.out.trans (HB.out.mono BW.out.size)⟩
end Go.Proofs.Ytejooloflcldiaa
