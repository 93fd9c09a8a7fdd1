/- The walks of the words of a text. Conditions: the strings fit the model's sizes. -/
import Derived.Test.YtejooloflcldiaaWdsLaw
import Derived.Test.YtejooloflcldiaaVar
import Derived.Laws.OwnMore
import Derived.Deep.RegionWith
import Derived.StillTailTactics
import Derived.Laws.Rows
namespace Go.Proofs.Ytejooloflcldiaa
open Go.RowKit

theorem wds_nil_made (w : World) : (w.alloc (.cells #[] 49)).ownsRow w.heap.size 49 4 (.slice (some ⟨w.heap.size, 0, none⟩) 0 0) 0 (wdCells []) :=
  World.ownsRow_made w #[] 0 (Nat.le_refl _) (Nat.zero_le _) rfl
theorem u8_nil_made (w : World) (B : Nat) (hB : B ≤ w.heap.size) : (w.alloc (.cells #[] 5)).ownsRow B 5 1 (.slice (some ⟨w.heap.size, 0, none⟩) 0 0) 0 (([] : List Int).map (Value.int .u8)) :=
  World.ownsRow_made w #[] 0 hB (Nat.zero_le _) rfl
theorem lowI_grow {s : ByteArray} {k m : Nat} (h : m < 12) : lowI s k (min 12 (m + 1)) = lowI s k (min 12 m) ++ [foldB (byW s (k + m))] := by
  rw [Nat.min_eq_right (by omega), Nat.min_eq_right (by omega), lowI_succ]
theorem lowI_full {s : ByteArray} {k m : Nat} (h : 12 ≤ m) : lowI s k (min 12 (m + 1)) = lowI s k (min 12 m) := by
  rw [Nat.min_eq_left (by omega), Nat.min_eq_left (by omega)]
theorem grown_set (w : World) (g j : Nat) (v : Value) : w.grownBy (w.setCell ⟨g, j, none⟩ v) (some g) :=
  ⟨rfl, rfl, rfl, by simp [World.setCell], fun i _ hne => Below.heap_setCell w _ _ i (fun e => hne (by subst e; rfl))⟩
/-- A store into another block leaves a row as it was. -/
theorem own_set {w : World} {B : Nat} {e : TypeId} {size n : Nat} {v : Value} {xs : List Value} (h : w.ownsRow B e size v n xs) {g : Nat} (hg : ∀ k, v.ownBlock = some k → k < g) (j : Nat) (u : Value) : (w.setCell ⟨g, j, none⟩ u).ownsRow B e size v n xs :=
  h.kept (grown_set w g j u) (by
    cases hv : v.ownBlock with
    | none => exact .inl rfl
    | some k => right; intro e; injection e with e; have := hg k hv; omega)
theorem cell_four_at {w : World} {g : Nat} (hg : g = w.heap.size) (a b c d : Value) (t : TypeId) : ∀ j u, [a, b, c, d][j]? = some u → (w.alloc (.cells #[a, b, c, d] t)).cell? ((⟨g, 0, none⟩ : Addr).add j) = some u := by
  subst hg; exact cell_four_new w a b c d t
set_option maxRecDepth 20000 in
set_option maxHeartbeats 2000000 in
theorem WordsOf_any (s : ByteArray) (hs : s.size ≤ maxLen) (w : World) :
    Calls Try.prog 24 #[.string s] w fun e w' => ∃ a' c', e = .returned (.slice a' (wordsOf s).length c') ∧ OwnWds w' w.heap.size a' (wordsOf s).length c' (wordsOf s) ∧ Below w.heap.size w w' := by
  have HA := Lib.hid ((Below.refl w.heap.size w).alloc (Nat.le_refl _) (.cells #[] 49))
  have ON := Lib.hid (wds_nil_made w)
  cases h1 : textOk s
  · rw [show wordsOf s = [] by rw [wordsOf, h1]; rfl]
    go_enter Try.func24, Try.ntmps24
    go_wp2_with fail
    refine (TextOk_any _ _ hs).mono ?_
    rintro e w' ⟨rfl, rfl⟩
    go_wp2_with fail
    go_ret
    exact ⟨_, _, rfl, ⟨rfl, fun j => by simp [nthW], ON.out⟩, HA.out⟩
  · have HW := Lib.hid (show wordsOf s = wds s 0 0 by rw [wordsOf, h1]; rfl)
    have h160 := textOk_size h1
    have HF := Lib.hid (wordsOf_fit s)
    obtain ⟨i0, hi, hz0, hz1, hz2⟩ := info_parts info_word
    obtain ⟨i1, hi1, hy0, hy1, hy2⟩ := info_parts info_u8
    go_enter Try.func24, Try.ntmps24
    go_wp2_with fail
    refine (TextOk_any _ _ hs).mono ?_
    rintro e w' ⟨rfl, rfl⟩
    go_wp2_with fail
    clear h1
    go_loopw [3, 4] (fun o t wr => ∃ (k : Nat) (a' : Option Addr) (c' : Nat) (ws : List Wd), k ≤ s.size ∧ t = .int .i64 k ∧ o = .slice a' ws.length c' ∧ ws.length ≤ k ∧ ws ++ wds s k ws.length = wds s 0 0 ∧ wr.ownsRow w.heap.size 49 4 (.slice a' ws.length c') ws.length (wdCells ws) ∧ Below w.heap.size w wr) (fun _ t _ => s.size - (intOf t).toNat)
    case atStart => exact ⟨0, _, _, [], Nat.zero_le _, rfl, rfl, Nat.le_refl _, rfl, ON.out, HA.out⟩
    case round =>
      obtain ⟨k, a', c', ws, hk, rfl, rfl, hwl, hws, hown, hb⟩ := hrel
      have HWS := Lib.hid hws; clear hws
      have HO := Lib.hid hown; clear hown
      have HB := Lib.hid hb; clear hb
      by_cases hlt : k < s.size
      · obtain ⟨c, hc⟩ : ∃ c, c = byW s k := ⟨_, rfl⟩
        have hcb := byW_bd s k hlt
        rw [← hc] at hcb
        obtain ⟨hc0, hc1⟩ := hcb
        have hg : ((s[k]'hlt).toNat : Int) = c := by rw [byW_get s k hlt, hc]
        have hw : wordB (lowB c) = inW s k := by rw [hc]; exact inW_word hlt
        have HC := Lib.hid hc; clear hc
        cases hin : inW s k
        · rw [hin] at hw
          have F := Lib.hid (show ws ++ wds s (k + 1) ws.length = wds s 0 0 by rw [← wds_skip hin]; exact HWS.out)
          clear hin
          go_wp2_with fail
          refine (lower_any _ hc0 hc1 _).mono ?_
          rintro e w' ⟨rfl, rfl⟩
          go_wp2_with fail
          refine (wordByte_any _ _).mono ?_
          rintro e w' ⟨rfl, rfl⟩
          go_wp2_with fail
          go_roundw
          case rel => exact ⟨k + 1, a', c', ws, by omega, by go_num, rfl, by omega, F.out, HO.out, HB.out⟩
          case measure => simp [intOf]; omega
        · rw [hin] at hw
          have HIN := Lib.hid hin
          clear hin
          go_wp2_with fail
          refine (lower_any _ hc0 hc1 _).mono ?_
          rintro e w' ⟨rfl, rfl⟩
          go_wp2_with fail
          refine (wordByte_any _ _).mono ?_
          rintro e w' ⟨rfl, rfl⟩
          have hz0' : wr.heap.size ≤ (wr.alloc (.cells #[.string ⟨#[]⟩, .int .i64 (ws.length : Int), .int .i64 (k : Int), .int .i64 0] 49)).heap.size := by simp
          have BB := Lib.hid (((Below.refl wr.heap.size wr).alloc (Nat.le_refl _) (.cells #[.string ⟨#[]⟩, .int .i64 (ws.length : Int), .int .i64 (k : Int), .int .i64 0] 49)).alloc hz0' (.cells #[] 5))
          have G0 := Lib.hid (show ((wr.alloc (.cells #[.string ⟨#[]⟩, .int .i64 (ws.length : Int), .int .i64 (k : Int), .int .i64 0] 49)).alloc (.cells #[] 5)).heap[wr.heap.size]? = some (.cells #[.string ⟨#[]⟩, .int .i64 (ws.length : Int), .int .i64 (k : Int), .int .i64 0] 49 (0, 0)) from
            (Below.heap_alloc _ _ _ (by simp)).trans (heap_alloc_new wr _))
          have U0 := Lib.hid (u8_nil_made (wr.alloc (.cells #[.string ⟨#[]⟩, .int .i64 (ws.length : Int), .int .i64 (k : Int), .int .i64 0] 49)) (wr.heap.size + 1) (by simp))
          clear hz0'
          go_wp2_with fail
          obtain ⟨wo, rfl⟩ : ∃ wo : World, wo = wr := ⟨_, rfl⟩
          go_loopw [4, 6] (fun t x wq => ∃ (m : Nat) (a2 : Option Addr) (c2 : Nat) (L : List Int), k + m ≤ s.size ∧ t = .int .i64 ((k + m : Nat) : Int) ∧ x = .slice a2 L.length c2 ∧ L.length ≤ 12 ∧ L.length ≤ m ∧ (12 ≤ m ∨ m ≤ L.length) ∧ L = lowI s k (min 12 m) ∧ (∀ j, k ≤ j → j < k + m → inW s j = true) ∧ wq.ownsRow (wo.heap.size + 1) 5 1 (.slice a2 L.length c2) L.length (L.map (Value.int .u8)) ∧ wq.heap[wo.heap.size]? = some (.cells #[.string ⟨#[]⟩, .int .i64 (ws.length : Int), .int .i64 (k : Int), .int .i64 0] 49 (0, 0)) ∧ Below wo.heap.size wo wq) (fun t _ _ => s.size - (intOf t).toNat)
          case atStart => exact ⟨0, _, _, [], hk, rfl, rfl, Nat.zero_le _, Nat.zero_le _, .inr (Nat.le_refl _), rfl, fun j h1 h2 => by omega, by have := U0.out; simpa using this, G0.out, BB.out⟩
          case round =>
            obtain ⟨m, a2, c2, L, hkm, rfl, rfl, hl12, hlm, hlor, hL, hall, hown2, hg0, hbq⟩ := hrel
            have HL := Lib.hid hL; clear hL
            have HALL := Lib.hid hall; clear hall
            have HO2 := Lib.hid hown2; clear hown2
            have HG0 := Lib.hid hg0; clear hg0
            have hsq := hbq.size
            have HBQ := Lib.hid hbq; clear hbq
            obtain ⟨i, hi'⟩ : ∃ i, i = k + m := ⟨_, rfl⟩
            rw [← hi'] at hkm ⊢
            have hib : k + m ≤ i := by omega
            have hib2 : i ≤ k + m := by omega
            have HI := Lib.hid hi'; clear hi'
            cases hin : inW s i
            · have hlen : 0 < L.length := by
                have h1 : 0 < m := by
                  rcases Nat.eq_zero_or_pos m with h0 | h0
                  · have : i = k := by omega
                    rw [this, HIN.out] at hin; cases hin
                  · exact h0
                rw [HL.out, lowI_len]; omega
              have HE := Lib.hid (wEnd_is (s := s) (k := k) (e := i) (by omega) (fun j h1 h2 => HALL.out j h1 (by omega)) hin)
              have hcv := cv_own HO2.out rfl hlen
              have hb0 : wr.cell? ⟨wo.heap.size, 0, none⟩ = some (.string ⟨#[]⟩) := by simp [World.cell?, HG0.out]
              have hb1 : wr.cell? ⟨wo.heap.size, 1, none⟩ = some (.int .i64 (ws.length : Int)) := by simp [World.cell?, HG0.out]
              have hb2 : wr.cell? ⟨wo.heap.size, 2, none⟩ = some (.int .i64 (k : Int)) := by simp [World.cell?, HG0.out]
              have hb3 : wr.cell? ⟨wo.heap.size, 3, none⟩ = some (.int .i64 0) := by simp [World.cell?, HG0.out]
              have hf0 : wr.frozen? ⟨wo.heap.size, 0, none⟩ = false := by simp [World.frozen?, HG0.out]
              have hf3 : wr.frozen? ⟨wo.heap.size, 3, none⟩ = false := by simp [World.frozen?, HG0.out]
              have hglt := (Array.getElem?_eq_some_iff.1 HG0.out).1
              have hrow : ∀ q, (Value.slice a' ws.length c').ownBlock = some q → q < wo.heap.size := fun q hq => (own_block HO.out q hq).2
              have HW2 := Lib.hid (own_set (own_set (own_below HO.out HBQ.out (Nat.le_refl _)) hrow 0 (.string (strOfNums L))) hrow 3 (.int .i64 (i : Int)))
              have HB2 := Lib.hid (((HB.out.trans (HBQ.out.mono HB.out.size)).setCell (p := ⟨wo.heap.size, 0, none⟩) HB.out.size (.string (strOfNums L))).setCell (p := ⟨wo.heap.size, 3, none⟩) HB.out.size (.int .i64 (i : Int)))
              have TX := Lib.hid (show strOfNums L = wText s k by rw [wText, HE.out, HL.out, show i - k = m by omega])
              have FIN := Lib.hid (show (ws ++ [⟨wText s k, ws.length, k, i⟩]) ++ wds s i (ws ++ [(⟨wText s k, ws.length, k, i⟩ : Wd)]).length = wds s 0 0 by
                have h := HWS.out
                rw [wds_word HIN.out, HE.out] at h
                rw [List.append_assoc, List.length_append]; exact h)
              have hki : k < i := by have := inW_lt HIN.out; have h1 := wEnd_gt HIN.out; rw [HE.out] at h1; exact h1
              have hsB := HB.out.size
              clear hrow
              by_cases hlt2 : i < s.size
              · obtain ⟨d, hd⟩ : ∃ d, d = byW s i := ⟨_, rfl⟩
                have hdb := byW_bd s i hlt2
                rw [← hd] at hdb
                obtain ⟨hd0, hd1⟩ := hdb
                have hg2 : ((s[i]'hlt2).toNat : Int) = d := by rw [byW_get s i hlt2, hd]
                have hw2 : wordB (lowB d) = false := by rw [hd, inW_word hlt2, hin]
                clear hin hd
                go_wp2_with fail
                refine (lower_any _ hd0 hd1 _).mono ?_
                rintro e w' ⟨rfl, rfl⟩
                go_wp2_with fail
                refine (wordByte_any _ _).mono ?_
                rintro e w' ⟨rfl, rfl⟩
                go_wp2_with (at_builtin; refine wpList_append_own _ rfl _ _ 45 rfl w.heap.size 49 i0 (.agg #[.string ByteArray.empty, .int .i64 0, .int .i64 0, .int .i64 0]) 4 40 Try.underlying45 hi hz0 hz1 hz2 rfl (by decide) _ _ _ rfl (HW2.out.alloc _) ⟨wr.heap.size, 0, none⟩ 1 1 [.string (strOfNums L), .int .i64 (ws.length : Int), .int .i64 (k : Int), .int .i64 (i : Int)] rfl rfl ?e1 ?e2 ?e3 ?e4 ?e5 ?_)
                case e1 => exact cell_four_at (by simp [World.setCell]) _ _ _ _ _
                case e2 => intro u hu; simp at hu; rcases hu with rfl | rfl | rfl | rfl <;> rfl
                case e3 => unfold maxLen; omega
                case e4 => omega
                case e5 => simp [World.setCell]; omega
                · intro v' w1 hown' hgrow _
                  obtain ⟨a3, c3, hv⟩ := own_form hown'
                  rw [hv] at hown'
                  have HO3 := Lib.hid (show w1.ownsRow w.heap.size 49 4 (.slice a3 (ws ++ [(⟨wText s k, ws.length, k, i⟩ : Wd)]).length c3) (ws ++ [(⟨wText s k, ws.length, k, i⟩ : Wd)]).length (wdCells (ws ++ [⟨wText s k, ws.length, k, i⟩])) by
                    rw [wdCells_app, List.length_append, ← TX.out]; exact hown')
                  have HB3 := Lib.hid ((HB2.out.alloc (by simp [World.setCell]; omega) _).grown hgrow (by simp [World.setCell]; omega) (fun q hq => (own_block HO.out q hq).1))
                  clear hgrow hown'
                  rw [hv]
                  clear hv
                  go_wp2_with fail
                  go_roundw
                  case rel => exact ⟨i, a3, c3, ws ++ [⟨wText s k, ws.length, k, i⟩], hkm, rfl, by simp, by simp; omega, FIN.out, HO3.out, HB3.out⟩
                  case measure => simp [intOf]; omega
              · clear hin
                go_wp2_with (at_builtin; refine wpList_append_own _ rfl _ _ 45 rfl w.heap.size 49 i0 (.agg #[.string ByteArray.empty, .int .i64 0, .int .i64 0, .int .i64 0]) 4 40 Try.underlying45 hi hz0 hz1 hz2 rfl (by decide) _ _ _ rfl (HW2.out.alloc _) ⟨wr.heap.size, 0, none⟩ 1 1 [.string (strOfNums L), .int .i64 (ws.length : Int), .int .i64 (k : Int), .int .i64 (i : Int)] rfl rfl ?f1 ?f2 ?f3 ?f4 ?f5 ?_)
                case f1 => exact cell_four_at (by simp [World.setCell]) _ _ _ _ _
                case f2 => intro u hu; simp at hu; rcases hu with rfl | rfl | rfl | rfl <;> rfl
                case f3 => unfold maxLen; omega
                case f4 => omega
                case f5 => simp [World.setCell]; omega
                · intro v' w1 hown' hgrow _
                  obtain ⟨a3, c3, hv⟩ := own_form hown'
                  rw [hv] at hown'
                  have HO3 := Lib.hid (show w1.ownsRow w.heap.size 49 4 (.slice a3 (ws ++ [(⟨wText s k, ws.length, k, i⟩ : Wd)]).length c3) (ws ++ [(⟨wText s k, ws.length, k, i⟩ : Wd)]).length (wdCells (ws ++ [⟨wText s k, ws.length, k, i⟩])) by
                    rw [wdCells_app, List.length_append, ← TX.out]; exact hown')
                  have HB3 := Lib.hid ((HB2.out.alloc (by simp [World.setCell]; omega) _).grown hgrow (by simp [World.setCell]; omega) (fun q hq => (own_block HO.out q hq).1))
                  clear hgrow hown'
                  rw [hv]
                  clear hv
                  go_wp2_with fail
                  go_roundw
                  case rel => exact ⟨i, a3, c3, ws ++ [⟨wText s k, ws.length, k, i⟩], hkm, rfl, by simp, by simp; omega, FIN.out, HO3.out, HB3.out⟩
                  case measure => simp [intOf]; omega
            · have hlt2 := inW_lt hin
              obtain ⟨d, hd⟩ : ∃ d, d = byW s i := ⟨_, rfl⟩
              have hdb := byW_bd s i hlt2
              rw [← hd] at hdb
              obtain ⟨hd0, hd1⟩ := hdb
              have hg2 : ((s[i]'hlt2).toNat : Int) = d := by rw [byW_get s i hlt2, hd]
              have hw2 : wordB (lowB d) = true := by rw [hd, inW_word hlt2, hin]
              have HD := Lib.hid (show lowB d = foldB (byW s i) by rw [hd]; exact low_fold hin)
              have HNX := Lib.hid (show ∀ j, k ≤ j → j < k + (m + 1) → inW s j = true from fun j h1 h2 => by
                rcases Nat.lt_or_ge j (k + m) with h3 | h3
                · exact HALL.out j h1 h3
                · obtain rfl : j = i := by omega
                  exact hin)
              have HIN2 := Lib.hid hin
              clear hin hd
              by_cases h12 : m < 12
              · have hlen : L.length < 12 := by rw [HL.out, lowI_len]; omega
                go_wp2_with fail
                refine (lower_any _ hd0 hd1 _).mono ?_
                rintro e w' ⟨rfl, rfl⟩
                go_wp2_with fail
                refine (wordByte_any _ _).mono ?_
                rintro e w' ⟨rfl, rfl⟩
                go_wp2_with fail
                refine (lower_any _ hd0 hd1 _).mono ?_
                rintro e w' ⟨rfl, rfl⟩
                go_wp2_with (at_builtin; refine wpList_append_own _ rfl _ _ 34 rfl (wo.heap.size + 1) 5 i1 (.int .u8 0) 1 1 Try.underlying34 hi1 hy0 hy1 hy2 rfl (by decide) _ _ _ rfl (HO2.out.alloc _) ⟨wr.heap.size, 0, none⟩ 1 1 [.int .u8 (lowB d)] rfl rfl ?c1 ?c2 ?c3 ?c4 ?c5 ?_)
                case c1 => exact cells_new1 wr _ _
                case c2 => intro u hu; simp at hu; subst hu; rfl
                case c3 => unfold maxLen; omega
                case c4 => omega
                case c5 => have := HG0.out; have := (Array.getElem?_eq_some_iff.1 this).1; simp; omega
                · intro v' w1 hown' hgrow _
                  obtain ⟨a3, c3, hv⟩ := own_form hown'
                  rw [hv] at hown'
                  have hglt := (Array.getElem?_eq_some_iff.1 HG0.out).1
                  have HG1 := Lib.hid (show w1.heap[wo.heap.size]? = some (.cells #[.string ⟨#[]⟩, .int .i64 (ws.length : Int), .int .i64 (k : Int), .int .i64 0] 49 (0, 0)) from
                    (hgrow.block wo.heap.size (by simp; omega) (fun e => by have := (own_block HO2.out _ e.symm).1; omega)).trans ((Below.heap_alloc _ _ _ hglt).trans HG0.out))
                  have HO3 := Lib.hid hown'
                  have HBQ3 := Lib.hid (((HBQ.out.alloc HBQ.out.size _).grown hgrow (by have := HBQ.out.size; simp; omega) (fun k hk => by have := (own_block HO2.out k hk).1; omega)))
                  clear hgrow hown'
                  rw [hv]
                  clear hv hglt
                  have HLG := Lib.hid (lowI_grow (s := s) (k := k) h12)
                  go_wp2_with fail
                  go_roundw
                  case rel => exact ⟨m + 1, a3, c3, L ++ [lowB d], by omega, vint (by omega), by simp, by simp; omega, by simp; omega, (by
                    have := congrArg List.length HL.out
                    rw [lowI_len] at this
                    simp; omega), by rw [HLG.out, HL.out, HD.out, ← HI.out], HNX.out, by have := HO3.out; simpa using this, HG1.out, HBQ3.out⟩
                  case measure => simp [intOf]; omega
              · have hlen : 12 ≤ L.length := by rw [HL.out, lowI_len]; omega
                go_wp2_with fail
                refine (lower_any _ hd0 hd1 _).mono ?_
                rintro e w' ⟨rfl, rfl⟩
                go_wp2_with fail
                refine (wordByte_any _ _).mono ?_
                rintro e w' ⟨rfl, rfl⟩
                go_wp2_with fail
                go_roundw
                case rel => exact ⟨m + 1, a2, c2, L, by omega, vint (by omega), rfl, hl12, by omega, .inl (by omega), by rw [lowI_full (by omega)]; exact HL.out, HNX.out, HO2.out, HG0.out, HBQ.out⟩
                case measure => simp [intOf]; omega
      · obtain rfl : k = s.size := by omega
        have E := Lib.hid (show ws = wordsOf s by rw [HW.out, ← HWS.out, wds_end (Nat.le_refl _), List.append_nil])
        go_wp2_with fail
        go_ret
        rw [← E.out]
        exact ⟨_, _, rfl, ⟨rfl, fun j => Nat.le_trans (nthW_fit (by rw [E.out]; exact HF.out) j) (by decide), HO.out⟩, HB.out⟩
/-- A row cut short. -/
theorem own_cut {w : World} {B : Nat} {e : TypeId} {n m cap : Nat} {a : Option Addr} {xs : List Value} (h : w.ownsRow B e 1 (.slice a n cap) n xs) (hm : m ≤ n) : w.ownsRow B e 1 (.slice a m cap) m (xs.take m) := by
  have hl := h.1
  rcases h.2 with ⟨hv, h0⟩ | ⟨g, cap', cur, hv, hB, hh, hn, hc, hs, ht⟩
  · injection hv with h1 h2 h3
    subst h1; subst h3
    obtain rfl : m = 0 := by omega
    exact ⟨by simp, .inl ⟨rfl, rfl⟩⟩
  · injection hv with h1 h2 h3
    subst h1; subst h3
    refine ⟨by rw [List.length_take]; omega, .inr ⟨g, cap, cur, rfl, hB, hh, by omega, hc, hs, ?_⟩⟩
    rw [← ht, List.take_take]
    congr 1
    omega
theorem own_cap {w : World} {B : Nat} {e : TypeId} {size n cap : Nat} {a : Option Addr} {xs : List Value} (h : w.ownsRow B e size (.slice a n cap) n xs) (h0 : 0 < n) : n ≤ cap := by
  rcases h.2 with ⟨hv, hn⟩ | ⟨g, cap', cur, hv, hB, hh, hn, _⟩
  · omega
  · injection hv with h1 h2 h3
    omega
theorem fold_inW {s : ByteArray} {k : Nat} (h : k < s.size) : (foldB (byW s k) != 0) = inW s k := by
  unfold inW
  rw [decide_eq_true h, Bool.true_and]
  by_cases h0 : foldB (byW s k) = 0
  · simp [h0]
  · simp [h0]
set_option maxRecDepth 20000 in
set_option maxHeartbeats 4000000 in
theorem l1Words_any (s : ByteArray) (hs : s.size ≤ 160) (w : World) :
    Calls Try.prog 72 #[.string s] w fun e w' => ∃ a' c', e = .returned (.slice a' (wds s 0 0).length c') ∧ OwnWds w' w.heap.size a' (wds s 0 0).length c' (wds s 0 0) ∧ Below w.heap.size w w' := by
  have HA := Lib.hid ((Below.refl w.heap.size w).alloc (Nat.le_refl _) (.cells #[] 49))
  have ON := Lib.hid (wds_nil_made w)
  have HF := Lib.hid (wds_fit s 0 0)
  obtain ⟨i0, hi, hz0, hz1, hz2⟩ := info_parts info_word
  obtain ⟨i1, hi1, hy0, hy1, hy2⟩ := info_parts info_u8
  go_enter Try.func72, Try.ntmps72
  go_wp2_with fail
  go_loopw [3, 4] (fun o t wr => ∃ (k : Nat) (a' : Option Addr) (c' : Nat) (ws : List Wd), k ≤ s.size + 1 ∧ t = .int .i64 k ∧ o = .slice a' ws.length c' ∧ ws.length ≤ k ∧ ws ++ wds s k ws.length = wds s 0 0 ∧ wr.ownsRow w.heap.size 49 4 (.slice a' ws.length c') ws.length (wdCells ws) ∧ Below w.heap.size w wr) (fun _ t _ => s.size + 1 - (intOf t).toNat)
  case atStart => exact ⟨0, _, _, [], Nat.zero_le _, rfl, rfl, Nat.le_refl _, rfl, ON.out, HA.out⟩
  case round =>
    obtain ⟨k, a', c', ws, hk, rfl, rfl, hwl, hws, hown, hb⟩ := hrel
    have HWS := Lib.hid hws; clear hws
    have HO := Lib.hid hown; clear hown
    have HB := Lib.hid hb; clear hb
    by_cases hlt : k < s.size
    · have U0 := Lib.hid (u8_nil_made wr wr.heap.size (Nat.le_refl _))
      have BB := Lib.hid ((Below.refl wr.heap.size wr).alloc (Nat.le_refl _) (.cells #[] 5))
      go_wp2_with fail
      obtain ⟨wo, rfl⟩ : ∃ wo : World, wo = wr := ⟨_, rfl⟩
      go_loopw [4, 5] (fun t x wq => ∃ (m : Nat) (a2 : Option Addr) (c2 : Nat) (L : List Int), k + m ≤ s.size ∧ t = .int .i64 ((k + m : Nat) : Int) ∧ x = .slice a2 L.length c2 ∧ L.length ≤ m ∧ m ≤ L.length ∧ L = lowI s k m ∧ (∀ j, k ≤ j → j < k + m → inW s j = true) ∧ wq.ownsRow wo.heap.size 5 1 (.slice a2 L.length c2) L.length (L.map (Value.int .u8)) ∧ Below wo.heap.size wo wq) (fun t _ _ => s.size - (intOf t).toNat)
      case atStart => exact ⟨0, _, _, [], by omega, rfl, rfl, Nat.le_refl _, Nat.le_refl _, rfl, fun j h1 h2 => by omega, U0.out, BB.out⟩
      case round =>
        obtain ⟨m, a2, c2, L, hkm, rfl, rfl, hlm, hml, hL, hall, hown2, hbq⟩ := hrel
        have HL := Lib.hid hL; clear hL
        have HALL := Lib.hid hall; clear hall
        have HO2 := Lib.hid hown2; clear hown2
        have hsq := hbq.size
        have HBQ := Lib.hid hbq; clear hbq
        obtain ⟨i, hi'⟩ : ∃ i, i = k + m := ⟨_, rfl⟩
        rw [← hi'] at hkm ⊢
        have hib : k + m ≤ i := by omega
        have hib2 : i ≤ k + m := by omega
        have HI := Lib.hid hi'; clear hi'
        cases hin : inW s i
        · have HE := Lib.hid (wEnd_is (s := s) (k := k) (e := i) (by omega) (fun j h1 h2 => HALL.out j h1 (by omega)) hin)
          have HW2 := Lib.hid (own_below HO.out HBQ.out (Nat.le_refl _))
          have HB2 := Lib.hid (HB.out.trans (HBQ.out.mono HB.out.size))
          have hsB := HB.out.size
          have hcase : m = 0 ∨ (0 < m ∧ m ≤ 12) ∨ 12 < m := by omega
          by_cases hlt2 : i < s.size
          · obtain ⟨d, hd⟩ : ∃ d, d = byW s i := ⟨_, rfl⟩
            have hdb := byW_bd s i hlt2
            rw [← hd] at hdb
            obtain ⟨hd0, hd1⟩ := hdb
            have hg2 : ((s[i]'hlt2).toNat : Int) = d := by rw [byW_get s i hlt2, hd]
            have hw2 : (foldB d != 0) = false := by rw [hd, fold_inW hlt2, hin]
            have HIN := Lib.hid hin
            clear hin hd
            rcases hcase with h0 | ⟨h0, h1⟩ | h1
            · have FIN := Lib.hid (show ws ++ wds s (i + 1) ws.length = wds s 0 0 by
                have h1 : i = k := by omega
                have h2 := HIN.out
                rw [h1] at h2 ⊢
                rw [← wds_skip h2]; exact HWS.out)
              have hlen : (L.length : Int) ≤ 0 := by omega
              clear h0
              go_wp2_with fail
              refine (l1Fold_any _ hd0 hd1 _).mono ?_
              rintro e w' ⟨rfl, rfl⟩
              go_wp2_with fail
              go_roundw
              case rel => exact ⟨i + 1, a', c', ws, by omega, by go_num, rfl, by omega, FIN.out, HW2.out, HB2.out⟩
              case measure => simp [intOf]; omega
            · have hlen : 0 < L.length := by omega
              have hlen2 : (L.length : Int) ≤ 12 := by omega
              have hlen3 : (0 : Int) < (L.length : Int) := by omega
              have hcv := cv_own HO2.out rfl hlen
              have TX := Lib.hid (show strOfNums L = wText s k by rw [wText, HE.out, HL.out, Nat.min_eq_right (by omega), show i - k = m by omega])
              have hin0 : inW s k = true := HALL.out k (Nat.le_refl _) (by omega)
              have FIN := Lib.hid (show (ws ++ [⟨wText s k, ws.length, k, i⟩]) ++ wds s (i + 1) (ws ++ [(⟨wText s k, ws.length, k, i⟩ : Wd)]).length = wds s 0 0 by
                have h := HWS.out
                rw [wds_word hin0, HE.out, wds_skip HIN.out] at h
                rw [List.append_assoc, List.length_append]; exact h)
              clear hin0
              go_wp2_with fail
              refine (l1Fold_any _ hd0 hd1 _).mono ?_
              rintro e w' ⟨rfl, rfl⟩
              go_wp2_with (at_builtin; refine wpList_append_own _ rfl _ _ 45 rfl w.heap.size 49 i0 (.agg #[.string ByteArray.empty, .int .i64 0, .int .i64 0, .int .i64 0]) 4 40 Try.underlying45 hi hz0 hz1 hz2 rfl (by decide) _ _ _ rfl (HW2.out.alloc _) ⟨wr.heap.size, 0, none⟩ 1 1 [.string (strOfNums L), .int .i64 (ws.length : Int), .int .i64 (k : Int), .int .i64 (i : Int)] rfl rfl ?gb1 ?gb2 ?gb3 ?gb4 ?gb5 ?_)
              case gb1 => exact cell_four_at rfl _ _ _ _ _
              case gb2 => intro u hu; simp at hu; rcases hu with rfl | rfl | rfl | rfl <;> rfl
              case gb3 => unfold maxLen; omega
              case gb4 => omega
              case gb5 => simp; omega
              · intro v' w1 hown' hgrow _
                obtain ⟨a3, c3, hv⟩ := own_form hown'
                rw [hv] at hown'
                have HO3 := Lib.hid (show w1.ownsRow w.heap.size 49 4 (.slice a3 (ws ++ [(⟨wText s k, ws.length, k, i⟩ : Wd)]).length c3) (ws ++ [(⟨wText s k, ws.length, k, i⟩ : Wd)]).length (wdCells (ws ++ [⟨wText s k, ws.length, k, i⟩])) by
                  rw [wdCells_app, List.length_append, ← TX.out]; exact hown')
                have HB3 := Lib.hid ((HB2.out.alloc (by omega) _).grown hgrow (by simp; omega) (fun q hq => (own_block HO.out q hq).1))
                clear hgrow hown'
                rw [hv]
                clear hv
                go_wp2_with fail
                go_roundw
                case rel => exact ⟨i + 1, a3, c3, ws ++ [⟨wText s k, ws.length, k, i⟩], by omega, by go_num, by simp, by simp; omega, FIN.out, HO3.out, HB3.out⟩
                case measure => simp [intOf]; omega
            · have hlen2 : (12 : Int) < (L.length : Int) := by omega
              have hlen3 : 12 < L.length := by omega
              have TX := Lib.hid (show strOfNums (lowI s k 12) = wText s k by rw [wText, HE.out, Nat.min_eq_left (by omega)])
              have hcv : (convert 34 9 (.slice a2 12 c2)).run Try.prog wr = .ok (.string (strOfNums (lowI s k 12))) wr := cv_own (by
                have h := own_cut HO2.out (m := 12) (by omega)
                rw [← List.map_take, HL.out, lowI_take, Nat.min_eq_left (by omega)] at h
                exact h) (lowI_len _ _ _) (by omega)
              have hcap : (12 : Int) ≤ (c2 : Int) := by have := own_cap HO2.out (by omega); omega
              have hin0 : inW s k = true := HALL.out k (Nat.le_refl _) (by omega)
              have FIN := Lib.hid (show (ws ++ [⟨wText s k, ws.length, k, i⟩]) ++ wds s (i + 1) (ws ++ [(⟨wText s k, ws.length, k, i⟩ : Wd)]).length = wds s 0 0 by
                have h := HWS.out
                rw [wds_word hin0, HE.out, wds_skip HIN.out] at h
                rw [List.append_assoc, List.length_append]; exact h)
              clear hin0
              go_wp2_with fail
              refine (l1Fold_any _ hd0 hd1 _).mono ?_
              rintro e w' ⟨rfl, rfl⟩
              go_wp2_with (at_builtin; refine wpList_append_own _ rfl _ _ 45 rfl w.heap.size 49 i0 (.agg #[.string ByteArray.empty, .int .i64 0, .int .i64 0, .int .i64 0]) 4 40 Try.underlying45 hi hz0 hz1 hz2 rfl (by decide) _ _ _ rfl (HW2.out.alloc _) ⟨wr.heap.size, 0, none⟩ 1 1 [.string (strOfNums (lowI s k 12)), .int .i64 (ws.length : Int), .int .i64 (k : Int), .int .i64 (i : Int)] rfl rfl ?gc1 ?gc2 ?gc3 ?gc4 ?gc5 ?_)
              case gc1 => exact cell_four_at rfl _ _ _ _ _
              case gc2 => intro u hu; simp at hu; rcases hu with rfl | rfl | rfl | rfl <;> rfl
              case gc3 => unfold maxLen; omega
              case gc4 => omega
              case gc5 => simp; omega
              · intro v' w1 hown' hgrow _
                obtain ⟨a3, c3, hv⟩ := own_form hown'
                rw [hv] at hown'
                have HO3 := Lib.hid (show w1.ownsRow w.heap.size 49 4 (.slice a3 (ws ++ [(⟨wText s k, ws.length, k, i⟩ : Wd)]).length c3) (ws ++ [(⟨wText s k, ws.length, k, i⟩ : Wd)]).length (wdCells (ws ++ [⟨wText s k, ws.length, k, i⟩])) by
                  rw [wdCells_app, List.length_append, ← TX.out]; exact hown')
                have HB3 := Lib.hid ((HB2.out.alloc (by omega) _).grown hgrow (by simp; omega) (fun q hq => (own_block HO.out q hq).1))
                clear hgrow hown'
                rw [hv]
                clear hv
                go_wp2_with fail
                go_roundw
                case rel => exact ⟨i + 1, a3, c3, ws ++ [⟨wText s k, ws.length, k, i⟩], by omega, by go_num, by simp, by simp; omega, FIN.out, HO3.out, HB3.out⟩
                case measure => simp [intOf]; omega
          · have HIN := Lib.hid hin
            clear hin
            rcases hcase with h0 | ⟨h0, h1⟩ | h1
            · exfalso; omega
            · have hlen : 0 < L.length := by omega
              have hlen2 : (L.length : Int) ≤ 12 := by omega
              have hlen3 : (0 : Int) < (L.length : Int) := by omega
              have hcv := cv_own HO2.out rfl hlen
              have TX := Lib.hid (show strOfNums L = wText s k by rw [wText, HE.out, HL.out, Nat.min_eq_right (by omega), show i - k = m by omega])
              have hin0 : inW s k = true := HALL.out k (Nat.le_refl _) (by omega)
              have FIN := Lib.hid (show (ws ++ [⟨wText s k, ws.length, k, i⟩]) ++ wds s (i + 1) (ws ++ [(⟨wText s k, ws.length, k, i⟩ : Wd)]).length = wds s 0 0 by
                have h := HWS.out
                rw [wds_word hin0, HE.out, wds_skip HIN.out] at h
                rw [List.append_assoc, List.length_append]; exact h)
              clear hin0
              go_wp2_with (at_builtin; refine wpList_append_own _ rfl _ _ 45 rfl w.heap.size 49 i0 (.agg #[.string ByteArray.empty, .int .i64 0, .int .i64 0, .int .i64 0]) 4 40 Try.underlying45 hi hz0 hz1 hz2 rfl (by decide) _ _ _ rfl (HW2.out.alloc _) ⟨wr.heap.size, 0, none⟩ 1 1 [.string (strOfNums L), .int .i64 (ws.length : Int), .int .i64 (k : Int), .int .i64 (i : Int)] rfl rfl ?hb1 ?hb2 ?hb3 ?hb4 ?hb5 ?_)
              case hb1 => exact cell_four_at rfl _ _ _ _ _
              case hb2 => intro u hu; simp at hu; rcases hu with rfl | rfl | rfl | rfl <;> rfl
              case hb3 => unfold maxLen; omega
              case hb4 => omega
              case hb5 => simp; omega
              · intro v' w1 hown' hgrow _
                obtain ⟨a3, c3, hv⟩ := own_form hown'
                rw [hv] at hown'
                have HO3 := Lib.hid (show w1.ownsRow w.heap.size 49 4 (.slice a3 (ws ++ [(⟨wText s k, ws.length, k, i⟩ : Wd)]).length c3) (ws ++ [(⟨wText s k, ws.length, k, i⟩ : Wd)]).length (wdCells (ws ++ [⟨wText s k, ws.length, k, i⟩])) by
                  rw [wdCells_app, List.length_append, ← TX.out]; exact hown')
                have HB3 := Lib.hid ((HB2.out.alloc (by omega) _).grown hgrow (by simp; omega) (fun q hq => (own_block HO.out q hq).1))
                clear hgrow hown'
                rw [hv]
                clear hv
                go_wp2_with fail
                go_roundw
                case rel => exact ⟨i + 1, a3, c3, ws ++ [⟨wText s k, ws.length, k, i⟩], by omega, by go_num, by simp, by simp; omega, FIN.out, HO3.out, HB3.out⟩
                case measure => simp [intOf]; omega
            · have hlen2 : (12 : Int) < (L.length : Int) := by omega
              have hlen3 : 12 < L.length := by omega
              have TX := Lib.hid (show strOfNums (lowI s k 12) = wText s k by rw [wText, HE.out, Nat.min_eq_left (by omega)])
              have hcv : (convert 34 9 (.slice a2 12 c2)).run Try.prog wr = .ok (.string (strOfNums (lowI s k 12))) wr := cv_own (by
                have h := own_cut HO2.out (m := 12) (by omega)
                rw [← List.map_take, HL.out, lowI_take, Nat.min_eq_left (by omega)] at h
                exact h) (lowI_len _ _ _) (by omega)
              have hcap : (12 : Int) ≤ (c2 : Int) := by have := own_cap HO2.out (by omega); omega
              have hin0 : inW s k = true := HALL.out k (Nat.le_refl _) (by omega)
              have FIN := Lib.hid (show (ws ++ [⟨wText s k, ws.length, k, i⟩]) ++ wds s (i + 1) (ws ++ [(⟨wText s k, ws.length, k, i⟩ : Wd)]).length = wds s 0 0 by
                have h := HWS.out
                rw [wds_word hin0, HE.out, wds_skip HIN.out] at h
                rw [List.append_assoc, List.length_append]; exact h)
              clear hin0
              go_wp2_with (at_builtin; refine wpList_append_own _ rfl _ _ 45 rfl w.heap.size 49 i0 (.agg #[.string ByteArray.empty, .int .i64 0, .int .i64 0, .int .i64 0]) 4 40 Try.underlying45 hi hz0 hz1 hz2 rfl (by decide) _ _ _ rfl (HW2.out.alloc _) ⟨wr.heap.size, 0, none⟩ 1 1 [.string (strOfNums (lowI s k 12)), .int .i64 (ws.length : Int), .int .i64 (k : Int), .int .i64 (i : Int)] rfl rfl ?hc1 ?hc2 ?hc3 ?hc4 ?hc5 ?_)
              case hc1 => exact cell_four_at rfl _ _ _ _ _
              case hc2 => intro u hu; simp at hu; rcases hu with rfl | rfl | rfl | rfl <;> rfl
              case hc3 => unfold maxLen; omega
              case hc4 => omega
              case hc5 => simp; omega
              · intro v' w1 hown' hgrow _
                obtain ⟨a3, c3, hv⟩ := own_form hown'
                rw [hv] at hown'
                have HO3 := Lib.hid (show w1.ownsRow w.heap.size 49 4 (.slice a3 (ws ++ [(⟨wText s k, ws.length, k, i⟩ : Wd)]).length c3) (ws ++ [(⟨wText s k, ws.length, k, i⟩ : Wd)]).length (wdCells (ws ++ [⟨wText s k, ws.length, k, i⟩])) by
                  rw [wdCells_app, List.length_append, ← TX.out]; exact hown')
                have HB3 := Lib.hid ((HB2.out.alloc (by omega) _).grown hgrow (by simp; omega) (fun q hq => (own_block HO.out q hq).1))
                clear hgrow hown'
                rw [hv]
                clear hv
                go_wp2_with fail
                go_roundw
                case rel => exact ⟨i + 1, a3, c3, ws ++ [⟨wText s k, ws.length, k, i⟩], by omega, by go_num, by simp, by simp; omega, FIN.out, HO3.out, HB3.out⟩
                case measure => simp [intOf]; omega
        · have hlt2 := inW_lt hin
          obtain ⟨d, hd⟩ : ∃ d, d = byW s i := ⟨_, rfl⟩
          have hdb := byW_bd s i hlt2
          rw [← hd] at hdb
          obtain ⟨hd0, hd1⟩ := hdb
          have hg2 : ((s[i]'hlt2).toNat : Int) = d := by rw [byW_get s i hlt2, hd]
          have hw2 : (foldB d != 0) = true := by rw [hd, fold_inW hlt2, hin]
          have HD := Lib.hid hd
          have HNX := Lib.hid (show ∀ j, k ≤ j → j < k + (m + 1) → inW s j = true from fun j h1 h2 => by
            rcases Nat.lt_or_ge j (k + m) with h3 | h3
            · exact HALL.out j h1 h3
            · obtain rfl : j = i := by omega
              exact hin)
          clear hin hd
          go_wp2_with fail
          refine (l1Fold_any _ hd0 hd1 _).mono ?_
          rintro e w' ⟨rfl, rfl⟩
          go_wp2_with fail
          refine (l1Fold_any _ hd0 hd1 _).mono ?_
          rintro e w' ⟨rfl, rfl⟩
          go_wp2_with (at_builtin; refine wpList_append_own _ rfl _ _ 34 rfl wo.heap.size 5 i1 (.int .u8 0) 1 1 Try.underlying34 hi1 hy0 hy1 hy2 rfl (by decide) _ _ _ rfl (HO2.out.alloc _) ⟨wr.heap.size, 0, none⟩ 1 1 [.int .u8 (foldB d)] rfl rfl ?c1 ?c2 ?c3 ?c4 ?c5 ?_)
          case c1 => exact cells_new1 wr _ _
          case c2 => intro u hu; simp at hu; subst hu; rfl
          case c3 => unfold maxLen; omega
          case c4 => omega
          case c5 => simp; omega
          · intro v' w1 hown' hgrow _
            obtain ⟨a3, c3, hv⟩ := own_form hown'
            rw [hv] at hown'
            have HO3 := Lib.hid hown'
            have HBQ3 := Lib.hid (((HBQ.out.alloc HBQ.out.size _).grown hgrow (by have := HBQ.out.size; simp; omega) (fun k hk => (own_block HO2.out k hk).1)))
            clear hgrow hown'
            rw [hv]
            clear hv
            have HLG := Lib.hid (lowI_succ s k m)
            go_wp2_with fail
            go_roundw
            case rel => exact ⟨m + 1, a3, c3, L ++ [foldB d], by omega, vint (by omega), by simp, by simp; omega, by simp; omega, by rw [HLG.out, HL.out, HD.out, ← HI.out], HNX.out, by have := HO3.out; simpa using this, HBQ3.out⟩
            case measure => simp [intOf]; omega
    · have E := Lib.hid (show ws = wds s 0 0 by rw [← HWS.out, wds_end (by omega), List.append_nil])
      go_wp2_with fail
      go_ret
      rw [← E.out]
      exact ⟨_, _, rfl, ⟨rfl, fun j => Nat.le_trans (nthW_fit (by rw [E.out]; exact HF.out) j) (by decide), HO.out⟩, HB.out⟩
end Go.Proofs.Ytejooloflcldiaa
