/- The law on words of two texts. Conditions: what is read fits the model's sizes. -/
import Derived.Test.YtoljjhhomklcbaaLawS2
import Derived.Maps.AppendAt
namespace Go.Proofs.Ytoljjhhomklcbaa
open Go.RowKit
theorem text_tail {a b : ByteArray} (h : textOk (a ++ blankS ++ b) = true) : textOk b = true ∧ a.size + 1 + b.size ≤ 160 := by
  have hs := textOk_size h
  rw [ByteArray.size_append, ByteArray.size_append] at hs
  have e : blankS.size = 1 := rfl
  rw [e] at hs
  refine ⟨?_, hs⟩
  rw [textOk, Bool.and_eq_true, byWb]
  refine ⟨fun k hk => ?_, by simp; omega⟩
  have h1 := text_of h (a.size + 1 + k) (by rw [ByteArray.size_append, ByteArray.size_append, e]; omega)
  have h2 : byW (a ++ blankS ++ b) ((a ++ blankS).size + k) = byW b k := byW_app_r hk
  rw [ByteArray.size_append, e] at h2
  rw [h2] at h1; exact h1
theorem words_cut {a b : ByteArray} (ha : textOk a = true) (h : textOk (a ++ blankS ++ b) = true) : wordsOf (a ++ blankS ++ b) = wordsOf a ++ shiftW (wordsOf a).length (a.size + 1) (wordsOf b) := by
  rw [wordsOf, if_pos h, wordsOf, if_pos ha, wordsOf, if_pos (text_tail h).1, wds_cut]
theorem shiftW_take (c d : Nat) (ws : List Wd) {k : Nat} (hk : k < ws.length) : shiftW c d (ws.take (k + 1)) = shiftW c d (ws.take k) ++ [⟨(nthW ws k).text, (nthW ws k).at_ + c, (nthW ws k).from_ + d, (nthW ws k).to_ + d⟩] := by
  rw [List.take_succ_eq_append_getElem hk, shiftW, List.map_append, ← nthW_eq hk]; rfl
theorem nthW_mem_fit {ws : List Wd} (h : ∀ x ∈ ws, x.text.size ≤ 12) (j : Nat) : (nthW ws j).text.size ≤ maxLen := by
  have := nthW_fit h j; unfold maxLen; omega
theorem shiftW_fit {c d : Nat} {ws : List Wd} (h : ∀ x ∈ ws, x.text.size ≤ 12) : ∀ x ∈ shiftW c d ws, x.text.size ≤ 12 := by
  intro x hx
  simp only [shiftW, List.mem_map] at hx
  obtain ⟨y, hy, rfl⟩ := hx
  exact h y hy
theorem both_fit {wa wb : List Wd} {c d k : Nat} (h1 : ∀ x ∈ wa, x.text.size ≤ 12) (h2 : ∀ x ∈ wb, x.text.size ≤ 12) : ∀ x ∈ wa ++ shiftW c d (wb.take k), x.text.size ≤ 12 := by
  intro x hx
  rw [List.mem_append] at hx
  rcases hx with hx | hx
  · exact h1 x hx
  · exact shiftW_fit (fun y hy => h2 y (List.mem_of_mem_take hy)) x hx
/-- What lies between B and the heap's end is as it was. -/
theorem OwnWds.keep {w w' : World} {B : Nat} {a : Option Addr} {n cap : Nat} {ws : List Wd} (h : OwnWds w B a n cap ws) (hk : ∀ i, B ≤ i → i < w.heap.size → w'.heap[i]? = w.heap[i]?) : OwnWds w' B a n cap ws := by
  refine ⟨h.len, h.fit, h.own.1, ?_⟩
  rcases h.own.2 with hn | ⟨g, cap', cur, hv, hg, hh, r⟩
  · exact .inl hn
  · exact .inr ⟨g, cap', cur, hv, hg, by rw [hk g hg (Array.getElem?_eq_some_iff.1 hh).1]; exact hh, r⟩
theorem four_next (w : World) (o : Obj) (a b c d : Value) (t : TypeId) : ∀ j u, [a, b, c, d][j]? = some u → ((w.alloc o).alloc (.cells #[a, b, c, d] t)).cell? ((⟨w.heap.size + 1, 0, none⟩ : Addr).add j) = some u := by
  have h := cell_four_new (w.alloc o) a b c d t
  rw [World.size_alloc] at h; exact h
set_option maxRecDepth 20000 in
set_option maxHeartbeats 4000000 in
theorem FnWordsCut_any {w : World} (a : Option Addr) (n cap : Nat) (xs : List Int) (hx : Byts w a n cap xs) (hn : n ≤ maxLen) (b : Option Addr) (m capb : Nat) (ys : List Int) (hy : Byts w b m capb ys) (hm : m ≤ maxLen) :
    Calls Try.prog 6 #[.slice a n cap, .slice b m capb] w fun e w' => e = .returned (.bool true) ∧ Below w.heap.size w w' := by
  have HX := Lib.hid hx; clear hx
  have HY := Lib.hid hy; clear hy
  unfold maxLen at hn hm
  by_cases hlt : (1048576 : Int) < (n : Int)
  · go_enter Try.func6, Try.ntmps6
    go_wp2_with fail
    go_ret
    exact ⟨rfl, Below.refl _ _⟩
  by_cases hlt2 : (1048576 : Int) < (m : Int)
  · go_enter Try.func6, Try.ntmps6
    go_wp2_with fail
    go_ret
    exact ⟨rfl, Below.refl _ _⟩
  have c4 := cells_word
  obtain ⟨i0, hi, hz0, hz1, hz2⟩ := info_parts info_word
  go_enter Try.func6, Try.ntmps6
  go_wp2_with fail
  refine (DrawWordsOf_any _ _ _ _ HX.out (by omega)).mono ?_
  rintro e w1 ⟨s, rfl, hs, hb⟩
  have B1 := Lib.hid hb
  have HY1 : Hid (Byts w1 b m capb ys) := ⟨⟨HY.out.ints.len, HY.out.ints.fit, HY.out.ints.rd.below hb⟩, HY.out.cap⟩
  clear hb
  go_wp2_with fail
  refine (DrawWordsOf_any _ _ _ _ HY1.out (by omega)).mono ?_
  rintro e w2 ⟨t, rfl, ht, hb⟩
  have B2 := Lib.hid (B1.out.trans (hb.mono B1.out.size)); clear hb
  have HT := Lib.hid (show s.size ≤ maxLen by unfold maxLen; omega)
  have HT2 := Lib.hid (show t.size ≤ maxLen by unfold maxLen; omega)
  have hlen := wordsOf_len s
  have HL := Lib.hid (show (wordsOf s).length ≤ maxLen by unfold maxLen; omega)
  go_wp2_with fail
  refine (WordsOf_any _ HT.out _).mono ?_
  rintro e w3 ⟨a3, c3, rfl, ho, hb⟩
  have O3 := Lib.hid ho; clear ho
  have B3 := Lib.hid (B2.out.trans (hb.mono B2.out.size))
  have B34 := Lib.hid hb
  have H3 := Lib.hid hb.size; clear hb
  go_wp2_with fail
  refine (sWordsOf_any _ HT.out _).mono ?_
  rintro e w4 ⟨a4, c4', rfl, ho, hb⟩
  have O4 := Lib.hid ho; clear ho
  have O34 := Lib.hid (O3.out.below hb)
  have B4 := Lib.hid (B3.out.trans (hb.mono B3.out.size))
  have SZ4 := Lib.hid hb.size
  have H4 := Lib.hid (Nat.le_trans H3.out hb.size)
  have BW4 := Lib.hid (B34.out.trans (hb.mono H3.out)); clear hb
  go_wp2_with fail
  refine (foWords_same _ _ _ _ _ _ _ O34.out.wds O4.out.wds HL.out).mono ?_
  rintro e w5 ⟨rfl, q, rfl⟩
  go_wp2_with fail
  refine (TextOk_any _ _ HT.out).mono ?_
  rintro e w' ⟨rfl, rfl⟩
  have O5 := Lib.hid (O34.out.drewN q)
  have B5 := Lib.hid (below_drewN B4.out q)
  cases hok : textOk s
  · go_wp2_with fail
    refine (sWordsOf_any _ HT.out _).mono ?_
    rintro e w7 ⟨a7, c7, rfl, ho, hb⟩
    have O7 := Lib.hid ho; clear ho
    have O57 := Lib.hid (O5.out.below hb)
    have B7 := Lib.hid (B5.out.trans (hb.mono B5.out.size)); clear hb
    go_wp2_with fail
    refine (foWords_same _ _ _ _ _ _ _ O57.out.wds O7.out.wds HL.out).mono ?_
    rintro e w8 ⟨rfl, q8, rfl⟩
    go_wp2_with fail
    go_ret
    exact ⟨rfl, below_drewN B7.out q8⟩
  have z1 : s.size + (⟨#[32]⟩ : ByteArray).size ≤ 9223372036854775807 := by show s.size + 1 ≤ _; omega
  have z2 : (s ++ (⟨#[32]⟩ : ByteArray)).size + t.size ≤ 9223372036854775807 := by rw [ByteArray.size_append]; show s.size + 1 + t.size ≤ _; omega
  have HST := Lib.hid (show (s ++ blankS ++ t).size ≤ maxLen by rw [ByteArray.size_append, ByteArray.size_append]; show s.size + 1 + t.size ≤ _; unfold maxLen; omega)
  have CT := Lib.hid (fun w => TextOk_any (s ++ blankS ++ t) w HST.out)
  go_wp2_with fail
  refine (CT.out _).mono ?_
  rintro e w' ⟨rfl, rfl⟩
  cases hok2 : textOk (s ++ blankS ++ t)
  · go_wp2_with fail
    refine (sWordsOf_any _ HT.out _).mono ?_
    rintro e w7 ⟨a7, c7, rfl, ho, hb⟩
    have O7 := Lib.hid ho; clear ho
    have O57 := Lib.hid (O5.out.below hb)
    have B7 := Lib.hid (B5.out.trans (hb.mono B5.out.size)); clear hb
    go_wp2_with fail
    refine (foWords_same _ _ _ _ _ _ _ O57.out.wds O7.out.wds HL.out).mono ?_
    rintro e w8 ⟨rfl, q8, rfl⟩
    go_wp2_with fail
    go_ret
    exact ⟨rfl, below_drewN B7.out q8⟩
  have WC := Lib.hid (words_cut hok hok2)
  have TB := Lib.hid (text_tail hok2).1
  have htl := (text_tail hok2).2
  have CW := Lib.hid (fun w => WordsOf_any (s ++ blankS ++ t) HST.out w)
  have hlt' := wordsOf_len t
  clear hok hok2
  go_wp2_with fail
  refine (WordsOf_any _ HT2.out _).mono ?_
  rintro e w6 ⟨a6, c6, rfl, ho, hb⟩
  have O6 := Lib.hid ho; clear ho
  have O56 := Lib.hid (O5.out.below hb)
  have B6 := Lib.hid (B5.out.trans (hb.mono B5.out.size))
  have SZ5 := Lib.hid (show w3.heap.size ≤ (w4.drewN q).heap.size from SZ4.out)
  have SZ6 := Lib.hid (Nat.le_trans SZ5.out hb.size)
  have BW6 := Lib.hid ((below_drewN BW4.out q).trans (hb.mono H4.out))
  have H6 := Lib.hid (Nat.le_trans H4.out hb.size); clear hb
  go_wp2_with fail
  refine (CW.out _).mono ?_
  rintro e w7 ⟨a7, c7, rfl, ho, hb⟩
  have O7 := Lib.hid ho; clear ho
  have O67 := Lib.hid (O6.out.below hb)
  have O57 := Lib.hid (O56.out.below hb)
  have B7 := Lib.hid (B6.out.trans (hb.mono B6.out.size))
  have BW7 := Lib.hid (BW6.out.trans (hb.mono H6.out))
  have H7 := Lib.hid (Nat.le_trans H6.out hb.size); clear hb
  go_wp2_with fail
  have OX : Hid (w7.ownsRow w2.heap.size 39 4 (.slice a3 (wordsOf s).length c3) (wordsOf s).length (wdCells (wordsOf s ++ shiftW (wordsOf s).length (s.size + 1) ((wordsOf t).take 0)))) := by
    have := O57.out.own
    show w7.ownsRow _ _ _ _ _ (wdCells (wordsOf s ++ []))
    rw [List.append_nil]; exact this
  have XB0 := Lib.hid (fun j (hj : (Value.slice a3 (wordsOf s).length c3).ownBlock = some j) => (own_block O3.out.own j hj).2)
  go_loopw [7, 11] (fun v i wr => ∃ (k : Nat) (a' : Option Addr) (c' : Nat), k ≤ (wordsOf t).length ∧ i = .int .i64 k ∧ v = .slice a' ((wordsOf s).length + k) c' ∧ wr.ownsRow w2.heap.size 39 4 (.slice a' ((wordsOf s).length + k) c') ((wordsOf s).length + k) (wdCells (wordsOf s ++ shiftW (wordsOf s).length (s.size + 1) ((wordsOf t).take k))) ∧ (∀ j, (Value.slice a' ((wordsOf s).length + k) c').ownBlock = some j → j < w3.heap.size ∨ w7.heap.size ≤ j) ∧ (∀ i, w3.heap.size ≤ i → i < w7.heap.size → wr.heap[i]? = w7.heap[i]?) ∧ w7.heap.size ≤ wr.heap.size ∧ Below w2.heap.size w2 wr) (fun _ i _ => (wordsOf t).length - (intOf i).toNat)
  case atStart => exact ⟨0, a3, c3, Nat.zero_le _, rfl, rfl, OX.out, fun j hj => .inl (XB0.out j hj), fun _ _ _ => rfl, Nat.le_refl _, BW7.out⟩
  case round =>
    obtain ⟨k, a', c', hk, rfl, rfl, hown, hxb, hkeep, hsz, hb⟩ := hrel
    have HO := Lib.hid hown; clear hown
    have XB := Lib.hid hxb; clear hxb
    have KP := Lib.hid hkeep; clear hkeep
    have HB := Lib.hid hb; clear hb
    have OY := Lib.hid ((O67.out).keep (w' := wr) (fun i h1 h2 => KP.out i (Nat.le_trans SZ5.out h1) h2))
    have OB := Lib.hid ((O7.out).keep (w' := wr) (fun i h1 h2 => KP.out i (Nat.le_trans SZ6.out h1) h2))
    by_cases hlk : k < (wordsOf t).length
    · obtain ⟨b1, o1, rfl, hc1⟩ := OY.out.wds.pos hlk
      obtain ⟨x0, x1, x2, x3⟩ := hc1 k hlk
      clear hc1
      obtain ⟨g1, g2, g3, g4, g5, g6⟩ := wordsOf_good TB.out hlk
      have ST := Lib.hid (shiftW_take (wordsOf s).length (s.size + 1) (wordsOf t) hlk)
      have hS0 := HB.out.size
      obtain ⟨X, hX⟩ : ∃ X, X = nthW (wordsOf t) k := ⟨_, rfl⟩
      rw [← hX] at x0 x1 x2 x3 g1 g2 g3 ST
      clear g4 g5 g6 hX
      obtain ⟨tx, at_, fr, to⟩ := X
      dsimp only at x0 x1 x2 x3 g1 g2 g3 ST
      have AT := Lib.hid g1; clear g1
      have hat : at_ ≤ 160 := by rw [AT.out]; omega
      go_wp2_with (at_builtin; refine wpList_append_own_at _ rfl _ _ 35 rfl w2.heap.size 39 i0 (.agg #[.string ByteArray.empty, .int .i64 0, .int .i64 0, .int .i64 0]) 4 40 Try.underlying35 hi hz0 hz1 hz2 rfl (by decide) _ _ _ rfl ((HO.out.alloc _).alloc _) ⟨wr.heap.size + 1, 0, none⟩ 1 1 [.string tx, .int .i64 ((at_ : Int) + ((wordsOf s).length : Int)), .int .i64 ((fr : Int) + (s.size : Int) + 1), .int .i64 ((to : Int) + (s.size : Int) + 1)] rfl rfl ?c1 ?c2 ?c3 ?c4 ?c5 ?_)
      case c1 => exact four_next _ _ _ _ _ _ _
      case c2 => intro u hu; simp at hu; rcases hu with rfl | rfl | rfl | rfl <;> rfl
      case c3 => unfold maxLen; omega
      case c4 => omega
      case c5 => simp; omega
      intro v' w9 hown' hgrow _ hat'
      obtain ⟨a9, c9, hv⟩ := own_form hown'
      rw [hv] at hown' hat'
      have hs9 := hgrow.size
      have HO9 := Lib.hid (show w9.ownsRow w2.heap.size 39 4 (.slice a9 ((wordsOf s).length + (k + 1)) c9) ((wordsOf s).length + (k + 1)) (wdCells (wordsOf s ++ shiftW (wordsOf s).length (s.size + 1) ((wordsOf t).take (k + 1)))) by
        rw [ST.out, ← List.append_assoc, wdCells_app, ← Nat.add_assoc]
        have e : wdCells [(⟨tx, at_ + (wordsOf s).length, fr + (s.size + 1), to + (s.size + 1)⟩ : Wd)] = [.string tx, .int .i64 ((at_ : Int) + ((wordsOf s).length : Int)), .int .i64 ((fr : Int) + (s.size : Int) + 1), .int .i64 ((to : Int) + (s.size : Int) + 1)] := by
          simp only [wdCells, List.flatMap_cons, List.flatMap_nil, Wd.cells, List.append_nil]
          (simp only [Int.natCast_add, Int.add_assoc]; try rfl)
        rw [e]; exact hown')
      have XB9 : Hid (∀ j, (Value.slice a9 ((wordsOf s).length + (k + 1)) c9).ownBlock = some j → j < w3.heap.size ∨ w7.heap.size ≤ j) := fun j hj => by
        have hj' : (Value.slice a9 ((wordsOf s).length + k + 1) c9).ownBlock = some j := hj
        rcases hat' with h | h
        · rw [h] at hj'; exact XB.out j hj'
        · rw [h] at hj'; injection hj' with hj'
          right
          have e2 : j = wr.heap.size + 1 + 1 := by rw [← hj']; try simp
          omega
      have KP9 : Hid (∀ i, w3.heap.size ≤ i → i < w7.heap.size → w9.heap[i]? = w7.heap[i]?) := fun i h1 h2 => by
        rw [hgrow.block i (by simp; omega) (fun e => by rcases XB.out i e.symm with h | h <;> omega)]
        rw [Below.heap_alloc _ _ _ (by simp; omega), Below.heap_alloc _ _ _ (by omega)]
        exact KP.out i h1 h2
      have HB9 := Lib.hid (((HB.out.alloc HB.out.size _).alloc (by simp; omega) _).grown hgrow (by simp; omega) (fun j hj => (own_block HO.out j hj).1))
      have HS9 := Lib.hid (show w7.heap.size ≤ w9.heap.size by simp at hs9; omega)
      clear hown' hgrow hat' hs9
      rw [hv]
      clear hv
      go_wp2_with fail
      go_roundw
      case rel => exact ⟨k + 1, a9, c9, by omega, by go_num, rfl, HO9.out, XB9.out, KP9.out, HS9.out, HB9.out⟩
      case measure => simp [intOf]; omega
    · obtain rfl : k = (wordsOf t).length := by omega
      have FE := Lib.hid (show wordsOf (s ++ blankS ++ t) = wordsOf s ++ shiftW (wordsOf s).length (s.size + 1) (wordsOf t) from WC.out)
      have hl : (wordsOf (s ++ blankS ++ t)).length = (wordsOf s).length + (wordsOf t).length := by rw [FE.out, List.length_append, shiftW, List.length_map]
      have OXX : Hid (Wds wr a' ((wordsOf s).length + (wordsOf t).length) (wordsOf (s ++ blankS ++ t))) := by
        refine (show OwnWds wr w2.heap.size a' _ c' _ from ⟨hl, nthW_mem_fit (fun x hx => wordsOf_fit _ x hx), ?_⟩).wds
        have := HO.out
        rw [List.take_length, ← FE.out] at this
        exact this
      have OBB : Hid (Wds wr a7 ((wordsOf s).length + (wordsOf t).length) (wordsOf (s ++ blankS ++ t))) := by
        have := OB.out.wds
        rw [hl] at this; exact this
      have HLL := Lib.hid (show (wordsOf s).length + (wordsOf t).length ≤ maxLen by unfold maxLen; omega)
      rw [hl]
      clear hl
      go_wp2_with fail
      refine (foWords_same _ _ _ _ _ _ _ OBB.out OXX.out HLL.out).mono ?_
      rintro e w9 ⟨rfl, q9, rfl⟩
      go_wp2_with fail
      go_ret
      exact ⟨rfl, below_drewN (B2.out.trans (HB.out.mono B2.out.size)) q9⟩
end Go.Proofs.Ytoljjhhomklcbaa
