/- The words of a text, as plain lists, and how slices of words lie in memory. No condition. -/
import Derived.Test.YtejooloflcldiaaWord
import Derived.Test.YtejooloflcldiaaMem
import Derived.PlainAid
namespace Go.Proofs.Ytejooloflcldiaa
open Go.RowKit

/-- A word: its text, which it is, where it begins and ends. -/
structure Wd where
  text : ByteArray
  at_ : Nat
  from_ : Nat
  to_ : Nat
def Wd.cells (x : Wd) : List Value := [.string x.text, .int .i64 x.at_, .int .i64 x.from_, .int .i64 x.to_]
def wdCells (ws : List Wd) : List Value := ws.flatMap Wd.cells
def nthW (ws : List Wd) (i : Nat) : Wd := ws[i]?.getD ⟨ByteArray.empty, 0, 0, 0⟩
theorem nthW_eq {ws : List Wd} {i : Nat} (h : i < ws.length) : nthW ws i = ws[i] := by simp [nthW, h]
theorem wdCells_cons (x : Wd) (ws : List Wd) : wdCells (x :: ws) = x.cells ++ wdCells ws := rfl
theorem wdCells_app (xs ys : List Wd) : wdCells (xs ++ ys) = wdCells xs ++ wdCells ys := by simp [wdCells]
theorem wdCells_len (ws : List Wd) : (wdCells ws).length = ws.length * 4 := by
  induction ws with
  | nil => rfl
  | cons x ws ih => rw [wdCells_cons, List.length_append, ih, List.length_cons, Nat.succ_mul, Nat.add_comm]; rfl
theorem wdCells_get (ws : List Wd) : ∀ (i j : Nat), i < ws.length → j < 4 → (wdCells ws)[i * 4 + j]? = (nthW ws i).cells[j]? := by
  induction ws with
  | nil => intro i j h; simp at h
  | cons x ws ih =>
    intro i j h hj
    rw [wdCells_cons]
    cases i with
    | zero => rw [Nat.zero_mul, Nat.zero_add, List.getElem?_append_left (by simpa [Wd.cells] using hj)]; rfl
    | succ i =>
      have hl : x.cells.length = 4 := rfl
      rw [List.getElem?_append_right (by omega), hl, show (i + 1) * 4 + j - 4 = i * 4 + j by omega, ih i j (by simpa using h) hj]
      simp [nthW]
/-- A slice of words that reads as ws. -/
structure Wds (w : World) (a : Option Addr) (n : Nat) (ws : List Wd) : Prop where
  len : ws.length = n
  fit : ∀ j, (nthW ws j).text.size ≤ maxLen
  rd : Rd w a (n * 4) fun j => (wdCells ws)[j]?.getD undef
/-- .. that the call itself made. -/
structure OwnWds (w : World) (B : Nat) (a : Option Addr) (n cap : Nat) (ws : List Wd) : Prop where
  len : ws.length = n
  fit : ∀ j, (nthW ws j).text.size ≤ maxLen
  own : w.ownsRow B 49 4 (.slice a n cap) n (wdCells ws)
theorem wdCells_tab (ws : List Wd) : wdCells ws = tab (ws.length * 4) fun j => (wdCells ws)[j]?.getD undef :=
  tab_ext (wdCells_len ws) fun j hj => by
    have h : j < (wdCells ws).length := by rw [wdCells_len]; exact hj
    simp [h]
theorem OwnWds.wds {w : World} {B : Nat} {a : Option Addr} {n cap : Nat} {ws : List Wd} (h : OwnWds w B a n cap ws) : Wds w a n ws :=
  ⟨h.len, h.fit, Rd.of_own (B := B) (e := 49) (cap := cap) (by have h1 := h.own; rw [wdCells_tab, h.len] at h1; exact h1)⟩
theorem OwnWds.below {w w' : World} {B : Nat} {a : Option Addr} {n cap : Nat} {ws : List Wd} (h : OwnWds w B a n cap ws) (hb : Below w.heap.size w w') : OwnWds w' B a n cap ws := ⟨h.len, h.fit, own_below h.own hb (Nat.le_refl _)⟩
theorem OwnWds.base {w : World} {B B' : Nat} {a : Option Addr} {n cap : Nat} {ws : List Wd} (h : OwnWds w B a n cap ws) (hB : B' ≤ B) : OwnWds w B' a n cap ws := ⟨h.len, h.fit, own_base h.own hB⟩
theorem OwnWds.kept {w w' : World} {B : Nat} {a : Option Addr} {n cap : Nat} {ws : List Wd} {row : Option Nat} (h : OwnWds w B a n cap ws) (hg : w.grownBy w' row) (hne : (Value.slice a n cap).ownBlock = none ∨ (Value.slice a n cap).ownBlock ≠ row) : OwnWds w' B a n cap ws := ⟨h.len, h.fit, h.own.kept hg hne⟩
theorem OwnWds.drewN {w : World} {B : Nat} {a : Option Addr} {n cap : Nat} {ws : List Wd} (h : OwnWds w B a n cap ws) (k : Nat) : OwnWds (w.drewN k) B a n cap ws := ⟨h.len, h.fit, h.own⟩
theorem Wds.below {w w' : World} {a : Option Addr} {n : Nat} {ws : List Wd} (h : Wds w a n ws) (hb : Below w.heap.size w w') : Wds w' a n ws := ⟨h.len, h.fit, h.rd.below hb⟩
theorem Wds.drewN {w : World} {a : Option Addr} {n : Nat} {ws : List Wd} (h : Wds w a n ws) (k : Nat) : Wds (w.drewN k) a n ws := ⟨h.len, h.fit, h.rd⟩
/-- The four cells of word i. -/
theorem Wds.pos {w : World} {a : Option Addr} {n i : Nat} {ws : List Wd} (h : Wds w a n ws) (hi : i < n) : ∃ b off, a = some ⟨b, off, none⟩ ∧ ∀ i, i < n →
    w.cell? ⟨b, off + i * 4, none⟩ = some (.string (nthW ws i).text) ∧ w.cell? ⟨b, off + i * 4 + 1, none⟩ = some (.int .i64 (nthW ws i).at_) ∧
    w.cell? ⟨b, off + i * 4 + 2, none⟩ = some (.int .i64 (nthW ws i).from_) ∧ w.cell? ⟨b, off + i * 4 + 3, none⟩ = some (.int .i64 (nthW ws i).to_) := by
  obtain ⟨b, off, rfl, hc⟩ := h.rd.pos (k := i * 4) (by omega)
  refine ⟨b, off, rfl, fun i hi => ?_⟩
  have key : ∀ j v, j < 4 → (nthW ws i).cells[j]? = some v → w.cell? ⟨b, off + i * 4 + j, none⟩ = some v := fun j v hj hv => by
    have h1 := hc (i * 4 + j) (by omega)
    rw [wdCells_get ws i j (by rw [h.len]; exact hi) hj, hv, ← Nat.add_assoc] at h1
    exact h1
  exact ⟨key 0 _ (by omega) rfl, key 1 _ (by omega) rfl, key 2 _ (by omega) rfl, key 3 _ (by omega) rfl⟩
theorem info_word : (Try.prog.info? 49).map (fun i => (i.zero, i.size, i.bytes)) = some (some (.agg #[.string ByteArray.empty, .int .i64 0, .int .i64 0, .int .i64 0]), 4, 40) := by kernel_rfl
theorem cells_word : Try.prog.cellsOf 49 = 4 := by kernel_rfl
theorem cell_four_new (w : World) (a b c d : Value) (t : TypeId) : ∀ j u, [a, b, c, d][j]? = some u → (w.alloc (.cells #[a, b, c, d] t)).cell? ((⟨w.heap.size, 0, none⟩ : Addr).add j) = some u := by
  intro j u hj
  match j, hj with
  | 0, hj => simp at hj; subst hj; simp [Addr.add]
  | 1, hj => simp at hj; subst hj; simp [Addr.add]
  | 2, hj => simp at hj; subst hj; simp [Addr.add]
  | 3, hj => simp at hj; subst hj; simp [Addr.add]
  | j + 4, hj => simp at hj

/-- The bytes of a text as numbers. -/
def byW (s : ByteArray) (k : Nat) : Int := PlainAid.bt s k
theorem byW_get (s : ByteArray) (k : Nat) (h : k < s.size) : ((s[k]'h).toNat : Int) = byW s k := PlainAid.get_bt s k h
theorem byW_bd (s : ByteArray) (k : Nat) (h : k < s.size) : 0 ≤ byW s k ∧ byW s k ≤ 255 := by
  rw [← byW_get s k h]; have := (s[k]).toNat_lt; omega
/-- Byte k is of a word. -/
def inW (s : ByteArray) (k : Nat) : Bool := decide (k < s.size) && decide (foldB (byW s k) ≠ 0)
theorem inW_lt {s : ByteArray} {k : Nat} (h : inW s k = true) : k < s.size := by
  simp only [inW, Bool.and_eq_true, decide_eq_true_eq] at h; exact h.1
theorem inW_no {s : ByteArray} {k : Nat} (h : s.size ≤ k) : inW s k = false := by
  simp only [inW, Bool.and_eq_false_iff, decide_eq_false_iff_not]; omega
/-- Where the bytes of a word end. -/
def wEnd (s : ByteArray) (k : Nat) : Nat := if h : inW s k = true then wEnd s (k + 1) else k
termination_by s.size - k
decreasing_by have := inW_lt h; omega
theorem wEnd_in {s : ByteArray} {k : Nat} (h : inW s k = true) : wEnd s k = wEnd s (k + 1) := by rw [wEnd, dif_pos h]
theorem wEnd_out {s : ByteArray} {k : Nat} (h : inW s k = false) : wEnd s k = k := by rw [wEnd, dif_neg (by rw [h]; decide)]
theorem wEnd_facts (s : ByteArray) : ∀ n k, s.size - k = n → k ≤ wEnd s k ∧ (k ≤ s.size → wEnd s k ≤ s.size) ∧ inW s (wEnd s k) = false ∧ ∀ j, k ≤ j → j < wEnd s k → inW s j = true := by
  intro n
  induction n with
  | zero =>
    intro k h
    have h1 := inW_no (s := s) (k := k) (by omega)
    rw [wEnd_out h1]
    exact ⟨Nat.le_refl _, fun h => h, h1, fun j h2 h3 => by omega⟩
  | succ n ih =>
    intro k h
    cases h1 : inW s k
    · rw [wEnd_out h1]
      exact ⟨Nat.le_refl _, fun h => h, h1, fun j h2 h3 => by omega⟩
    · have h2 := inW_lt h1
      obtain ⟨a, b, c, d⟩ := ih (k + 1) (by omega)
      rw [wEnd_in h1]
      refine ⟨by omega, fun _ => b (by omega), c, fun j h3 h4 => ?_⟩
      rcases Nat.lt_or_ge k j with h5 | h5
      · exact d j h5 h4
      · obtain rfl : j = k := by omega
        exact h1
theorem wEnd_ge (s : ByteArray) (k : Nat) : k ≤ wEnd s k := (wEnd_facts s _ k rfl).1
theorem wEnd_le {s : ByteArray} {k : Nat} (h : k ≤ s.size) : wEnd s k ≤ s.size := (wEnd_facts s _ k rfl).2.1 h
theorem wEnd_not (s : ByteArray) (k : Nat) : inW s (wEnd s k) = false := (wEnd_facts s _ k rfl).2.2.1
theorem wEnd_all {s : ByteArray} {k j : Nat} (h : k ≤ j) (h1 : j < wEnd s k) : inW s j = true := (wEnd_facts s _ k rfl).2.2.2 j h h1
theorem wEnd_gt {s : ByteArray} {k : Nat} (h : inW s k = true) : k < wEnd s k := by
  rw [wEnd_in h]; have := wEnd_ge s (k + 1); omega
/-- Where it has been gone through up to a place, it ends where it ends from there. -/
theorem wEnd_at {s : ByteArray} {k : Nat} : ∀ m, (∀ j, k ≤ j → j < k + m → inW s j = true) → wEnd s k = wEnd s (k + m) := by
  intro m
  induction m with
  | zero => intro _; rfl
  | succ m ih =>
    intro h
    rw [ih fun j h1 h2 => h j h1 (by omega), wEnd_in (h (k + m) (by omega) (by omega)), Nat.add_assoc]
/-- Bytes from a place on, small. -/
def lowI (s : ByteArray) (k n : Nat) : List Int := (List.range n).map fun j => foldB (byW s (k + j))
theorem lowI_len (s : ByteArray) (k n : Nat) : (lowI s k n).length = n := by simp [lowI]
theorem lowI_succ (s : ByteArray) (k n : Nat) : lowI s k (n + 1) = lowI s k n ++ [foldB (byW s (k + n))] := by simp [lowI, List.range_succ]
theorem lowI_zero (s : ByteArray) (k : Nat) : lowI s k 0 = [] := rfl
theorem lowI_take (s : ByteArray) (k n m : Nat) : (lowI s k n).take m = lowI s k (min m n) := by
  rw [lowI, ← List.map_take, List.take_range, lowI]
/-- The text of the word that begins at k. -/
def wText (s : ByteArray) (k : Nat) : ByteArray := strOfNums (lowI s k (min 12 (wEnd s k - k)))
/-- The words from byte k on, c words being ahead. -/
def wds (s : ByteArray) (k c : Nat) : List Wd :=
  if hk : k < s.size then (if h : inW s k = true then ⟨wText s k, c, k, wEnd s k⟩ :: wds s (wEnd s k) (c + 1) else wds s (k + 1) c) else []
termination_by s.size - k
decreasing_by
  · have := wEnd_gt h; omega
  · omega
theorem wds_end {s : ByteArray} {k c : Nat} (h : s.size ≤ k) : wds s k c = [] := by rw [wds, dif_neg (by omega)]
theorem wds_skip {s : ByteArray} {k c : Nat} (h : inW s k = false) : wds s k c = wds s (k + 1) c := by
  by_cases hk : k < s.size
  · rw [wds, dif_pos hk, dif_neg (by rw [h]; decide)]
  · rw [wds_end (by omega), wds_end (by omega)]
theorem wds_word {s : ByteArray} {k c : Nat} (h : inW s k = true) : wds s k c = ⟨wText s k, c, k, wEnd s k⟩ :: wds s (wEnd s k) (c + 1) := by
  rw [wds, dif_pos (inW_lt h), dif_pos h]
theorem wText_size (s : ByteArray) (k : Nat) : (wText s k).size ≤ 12 := by
  rw [wText, strOfNums_size, lowI_len]; omega
/-- Each word of a list is small, and they are not too many. -/
theorem wds_all (s : ByteArray) (P : Wd → Prop) (h : ∀ k c, inW s k = true → P ⟨wText s k, c, k, wEnd s k⟩) : ∀ n k c, s.size - k = n → ∀ x ∈ wds s k c, P x := by
  intro n
  induction n using Nat.strongRecOn with
  | ind n ih =>
    intro k c hn x hx
    by_cases hk : k < s.size
    · cases hw : inW s k
      · rw [wds_skip hw] at hx
        exact ih (s.size - (k + 1)) (by omega) _ _ rfl x hx
      · rw [wds_word hw] at hx
        rcases List.mem_cons.1 hx with rfl | hx
        · exact h k c hw
        · have := wEnd_gt hw
          exact ih (s.size - wEnd s k) (by omega) _ _ rfl x hx
    · rw [wds_end (by omega)] at hx; cases hx
theorem wds_count (s : ByteArray) : ∀ n k c, s.size - k = n → (wds s k c).length ≤ s.size - k := by
  intro n
  induction n using Nat.strongRecOn with
  | ind n ih =>
    intro k c hn
    by_cases hk : k < s.size
    · cases hw : inW s k
      · rw [wds_skip hw]
        have := ih (s.size - (k + 1)) (by omega) (k + 1) c rfl; omega
      · rw [wds_word hw, List.length_cons]
        have h1 := wEnd_gt hw
        have h2 := wEnd_le (s := s) (k := k) (by omega)
        have := ih (s.size - wEnd s k) (by omega) (wEnd s k) (c + 1) rfl; omega
    · rw [wds_end (by omega)]; exact Nat.zero_le _
def wordsOf (s : ByteArray) : List Wd := if textOk s then wds s 0 0 else []
theorem textOk_size {s : ByteArray} (h : textOk s = true) : s.size ≤ 160 := by
  simp only [textOk, Bool.and_eq_true, decide_eq_true_eq] at h; exact h.2
theorem nthW_fit {ws : List Wd} (h : ∀ x ∈ ws, x.text.size ≤ 12) (j : Nat) : (nthW ws j).text.size ≤ 12 := by
  unfold nthW
  cases hj : ws[j]? with
  | none => exact Nat.zero_le _
  | some x => exact h x (List.mem_of_getElem? hj)
theorem wds_fit (s : ByteArray) (k c : Nat) : ∀ x ∈ wds s k c, x.text.size ≤ 12 := wds_all s _ (fun k _ _ => wText_size s k) _ k c rfl
theorem wordsOf_fit (s : ByteArray) : ∀ x ∈ wordsOf s, x.text.size ≤ 12 := by
  unfold wordsOf; split
  · exact wds_fit s 0 0
  · intro x hx; cases hx
theorem wordsOf_len (s : ByteArray) : (wordsOf s).length ≤ 160 := by
  unfold wordsOf; split
  · rename_i h
    have h1 := textOk_size h
    have := wds_count s _ 0 0 rfl; omega
  · exact Nat.zero_le _
theorem fold_low {c : Int} (h0 : 0 ≤ c) (h1 : c ≤ 255) : wordB (lowB c) = decide (foldB c ≠ 0) ∧ (foldB c ≠ 0 → lowB c = foldB c) := by
  unfold lowB foldB
  by_cases h : 65 ≤ c ∧ c ≤ 90
  · rw [if_pos h, if_pos h]
    refine ⟨?_, fun _ => rfl⟩
    rw [decide_eq_true (show c + 32 ≠ 0 by omega), wordB_true (by omega)]
  · rw [if_neg h, if_neg h]
    cases hw : wordB c
    · simp
    · have := wordB_iff.1 hw
      simp; omega
theorem fold_bd {c : Int} (h0 : 0 ≤ c) (h1 : c ≤ 255) : 0 ≤ foldB c ∧ foldB c ≤ 255 := by
  unfold foldB
  by_cases h : 65 ≤ c ∧ c ≤ 90
  · rw [if_pos h]; omega
  · rw [if_neg h]; split <;> omega
theorem inW_word {s : ByteArray} {k : Nat} (h : k < s.size) : wordB (lowB (byW s k)) = inW s k := by
  have hb := byW_bd s k h
  rw [(fold_low hb.1 hb.2).1, inW, decide_eq_true h, Bool.true_and]
theorem low_fold {s : ByteArray} {k : Nat} (h : inW s k = true) : lowB (byW s k) = foldB (byW s k) := by
  have hb := byW_bd s k (inW_lt h)
  refine (fold_low hb.1 hb.2).2 ?_
  simp only [inW, Bool.and_eq_true, decide_eq_true_eq] at h; exact h.2
end Go.Proofs.Ytejooloflcldiaa
