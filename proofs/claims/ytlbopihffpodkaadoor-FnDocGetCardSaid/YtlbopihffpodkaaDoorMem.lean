/- Slices in memory: what a slice value reads as, and that it goes on reading so. No condition. -/
import Derived.Test.YtlbopihffpodkaaDoorBase
import Derived.Laws.OwnMore
import Derived.OwnWalk
import Derived.Sort.Walk0
namespace Go.Proofs.YtlbopihffpodkaaDoor
set_option maxRecDepth 100000
open Go.RowKit

/-- All numbers below n. -/
def allN (n : Nat) (p : Nat → Bool) : Bool := (List.range n).all p
theorem allN_zero (p : Nat → Bool) : allN 0 p = true := rfl
theorem allN_iff {n : Nat} {p : Nat → Bool} : allN n p = true ↔ ∀ j, j < n → p j = true := by simp [allN, List.all_eq_true]
theorem allN_step {k : Nat} {p : Nat → Bool} (h : allN k p = true) (h1 : p k = true) : allN (k + 1) p = true := by
  rw [allN_iff] at *; intro j hj
  rcases Nat.lt_or_ge j k with h2 | h2
  · exact h j h2
  · obtain rfl : j = k := by omega
    exact h1
theorem allN_fail {n k : Nat} {p : Nat → Bool} (hk : k < n) (h : p k = false) : allN n p = false := by
  rw [Bool.eq_false_iff]; intro ht; rw [allN_iff] at ht; rw [ht k hk] at h; cases h
theorem allN_congr {n : Nat} {p q : Nat → Bool} (h : ∀ j, j < n → p j = q j) : allN n p = allN n q := by
  rw [Bool.eq_iff_iff, allN_iff, allN_iff]
  exact ⟨fun a j hj => by rw [← h j hj]; exact a j hj, fun a j hj => by rw [h j hj]; exact a j hj⟩

/-- N values, by their numbers. -/
def tab (N : Nat) (F : Nat → Value) : List Value := (List.range N).map F
theorem tab_length (N : Nat) (F : Nat → Value) : (tab N F).length = N := by simp [tab]
theorem tab_get (N : Nat) (F : Nat → Value) (j : Nat) (h : j < N) : (tab N F)[j]? = some (F j) := by simp [tab, h]
theorem tab_get_none (N : Nat) (F : Nat → Value) (j : Nat) (h : N ≤ j) : (tab N F)[j]? = none := by simp [tab, h]
theorem tab_ext {N : Nat} {xs : List Value} {F : Nat → Value} (hl : xs.length = N) (h : ∀ j, j < N → xs[j]? = some (F j)) : xs = tab N F := by
  apply List.ext_getElem?
  intro j
  rcases Nat.lt_or_ge j N with hj | hj
  · rw [h j hj, tab_get _ _ _ hj]
  · rw [tab_get_none _ _ _ hj, List.getElem?_eq_none (by omega)]
theorem tab_congr {N : Nat} {F G : Nat → Value} (h : ∀ j, j < N → F j = G j) : tab N F = tab N G :=
  tab_ext (tab_length _ _) fun j hj => by rw [tab_get _ _ _ hj, h j hj]
/-- F below k, G from there on. -/
def upTo (k : Nat) (F G : Nat → Value) : Nat → Value := fun j => if j < k then F j else G j
theorem tab_upTo_zero (N : Nat) (F G : Nat → Value) : tab N (upTo 0 F G) = tab N G := tab_congr fun _ _ => by simp [upTo]
theorem tab_upTo_full (N : Nat) (F G : Nat → Value) : tab N (upTo N F G) = tab N F := tab_congr fun _ h => by simp [upTo, h]
theorem tab_upTo_set {N k : Nat} {F G : Nat → Value} {u : Value} (hk : k < N) (hu : u = F k) : (tab N (upTo k F G)).set k u = tab N (upTo (k + 1) F G) := by
  refine tab_ext (by simp [tab_length]) fun j hj => ?_
  rw [List.getElem?_set]
  by_cases h : k = j
  · subst h; rw [if_pos rfl, if_pos (by simpa [tab_length] using hk), hu]; simp [upTo]
  · rw [if_neg h, tab_get _ _ _ hj]; simp only [upTo]
    by_cases h1 : j < k
    · rw [if_pos h1, if_pos (by omega)]
    · rw [if_neg h1, if_neg (by omega)]
theorem tab_snoc (N : Nat) (F : Nat → Value) : tab N F ++ [F N] = tab (N + 1) F := by simp [tab, List.range_succ]

/-- A slice at address a reads as the N cells F. -/
def Rd (w : World) (a : Option Addr) (N : Nat) (F : Nat → Value) : Prop :=
  N ≤ 0 ∨ ∃ b off, a = some ⟨b, off, none⟩ ∧ ∀ j, j < N → w.cell? ⟨b, off + j, none⟩ = some (F j)
theorem Rd.zero {w : World} {a : Option Addr} {F : Nat → Value} : Rd w a 0 F := .inl (Nat.le_refl _)
theorem Rd.pos {w : World} {a : Option Addr} {N k : Nat} {F : Nat → Value} (h : Rd w a N F) (hk : k < N) : ∃ b off, a = some ⟨b, off, none⟩ ∧ ∀ j, j < N → w.cell? ⟨b, off + j, none⟩ = some (F j) := by
  rcases h with h | h
  · omega
  · exact h
theorem Rd.keep {w w' : World} {a : Option Addr} {N : Nat} {F : Nat → Value} (h : Rd w a N F) (hk : ∀ p : Addr, p.block < w.heap.size → w'.cell? p = w.cell? p) : Rd w' a N F := by
  rcases h with h | ⟨b, off, ha, hc⟩
  · exact .inl h
  · rcases Nat.eq_zero_or_pos N with h0 | h0
    · exact .inl (by omega)
    · refine .inr ⟨b, off, ha, fun j hj => ?_⟩
      rw [hk _ (World.block_lt_of_cell? w _ (hc j hj))]; exact hc j hj
theorem Rd.below {w w' : World} {a : Option Addr} {N : Nat} {F : Nat → Value} (h : Rd w a N F) (hb : Below w.heap.size w w') : Rd w' a N F := h.keep fun _ hp => hb.cell hp
theorem Rd.drewN {w : World} {a : Option Addr} {N : Nat} {F : Nat → Value} (h : Rd w a N F) (n : Nat) : Rd (w.drewN n) a N F := h
theorem Rd.drew {w : World} {a : Option Addr} {N : Nat} {F : Nat → Value} (h : Rd w a N F) : Rd w.drew a N F := h
theorem Rd.alloc {w : World} {a : Option Addr} {N : Nat} {F : Nat → Value} (h : Rd w a N F) (o : Obj) : Rd (w.alloc o) a N F := h.keep fun _ hp => World.cell?_alloc_lt _ _ _ hp
theorem Rd.congr {w : World} {a : Option Addr} {N : Nat} {F G : Nat → Value} (h : Rd w a N F) (he : ∀ j, j < N → F j = G j) : Rd w a N G := by
  rcases h with h | ⟨b, off, ha, hc⟩
  · exact .inl h
  · exact .inr ⟨b, off, ha, fun j hj => by rw [← he j hj]; exact hc j hj⟩
theorem Rd.of_own {w : World} {B : Nat} {e : TypeId} {size n cap : Nat} {a : Option Addr} {F : Nat → Value} (h : w.ownsRow B e size (.slice a n cap) n (tab (n * size) F)) : Rd w a (n * size) F := by
  rcases h.2 with ⟨hv, hn⟩ | ⟨g, cap', cur, hv, _⟩
  · subst hn; exact .inl (by omega)
  · injection hv with h1 h2 h3
    subst h1; subst h3
    refine .inr ⟨g, 0, rfl, fun j hj => ?_⟩
    rw [Nat.zero_add, h.cellAt j hj, tab_get _ _ _ hj]
theorem Rd.of_own1 {w : World} {B : Nat} {e : TypeId} {n cap : Nat} {a : Option Addr} {F : Nat → Value} (h : w.ownsRow B e 1 (.slice a n cap) n (tab n F)) : Rd w a n F := by
  have := Rd.of_own (size := 1) (F := F) (by rwa [Nat.mul_one]); rwa [Nat.mul_one] at this

/-- An owned value is a slice of that length. -/
theorem own_form {w : World} {B : Nat} {e : TypeId} {size n : Nat} {v : Value} {xs : List Value} (h : w.ownsRow B e size v n xs) : ∃ a cap, v = .slice a n cap := by
  rcases h.2 with ⟨rfl, rfl⟩ | ⟨g, cap, cur, rfl, _⟩
  · exact ⟨none, 0, rfl⟩
  · exact ⟨_, cap, rfl⟩
theorem own_below {w w' : World} {B B' : Nat} {e : TypeId} {size n : Nat} {v : Value} {xs : List Value} (h : w.ownsRow B e size v n xs) (hb : Below w.heap.size w w') (hB : B' ≤ B) : w'.ownsRow B' e size v n xs := by
  refine ⟨h.1, ?_⟩
  rcases h.2 with hn | ⟨g, cap, cur, hv, hg, hh, r⟩
  · exact .inl hn
  · exact .inr ⟨g, cap, cur, hv, by omega, by rw [hb.block g (Array.getElem?_eq_some_iff.1 hh).1]; exact hh, r⟩
theorem own_drewN {w : World} {B : Nat} {e : TypeId} {size n : Nat} {v : Value} {xs : List Value} (h : w.ownsRow B e size v n xs) (k : Nat) : (w.drewN k).ownsRow B e size v n xs := h
theorem own_base {w : World} {B B' : Nat} {e : TypeId} {size n : Nat} {v : Value} {xs : List Value} (h : w.ownsRow B e size v n xs) (hB : B' ≤ B) : w.ownsRow B' e size v n xs := by
  refine ⟨h.1, ?_⟩
  rcases h.2 with hn | ⟨g, cap, cur, hv, hg, r⟩
  · exact .inl hn
  · exact .inr ⟨g, cap, cur, hv, by omega, r⟩
theorem made_zero (z : Value) (n : Nat) : (madeCells #[z] n).toList = tab n fun _ => z := by
  rw [toList_madeCells_one]
  exact tab_ext (by simp) fun j hj => by simp [hj]
theorem below_drewN {B : Nat} {a w : World} (h : Below B a w) (n : Nat) : Below B a (w.drewN n) := ⟨h.os, h.tape, h.output, h.size, h.block⟩

/-- Strings and numbers of a list by their places. -/
def nthS (xs : List ByteArray) (j : Nat) : ByteArray := xs[j]?.getD ByteArray.empty
def nthI (xs : List Int) (j : Nat) : Int := xs[j]?.getD 0
theorem nthS_eq {xs : List ByteArray} {j : Nat} (h : j < xs.length) : nthS xs j = xs[j] := by simp [nthS, h]
theorem nthI_eq {xs : List Int} {j : Nat} (h : j < xs.length) : nthI xs j = xs[j] := by simp [nthI, h]
theorem tab_strs (xs : List ByteArray) : xs.map Value.string = tab xs.length fun j => .string (nthS xs j) :=
  tab_ext (by simp) fun j hj => by simp [hj, nthS]
theorem tab_ints (k : IntKind) (xs : List Int) : xs.map (Value.int k) = tab xs.length fun j => .int k (nthI xs j) :=
  tab_ext (by simp) fun j hj => by simp [hj, nthI]

theorem vint {k : IntKind} {a b : Int} (h : a = b) : Value.int k a = Value.int k b := by rw [h]
theorem vstr {a b : ByteArray} (h : a = b) : Value.string a = Value.string b := by rw [h]
/-- The sum of the first numbers. -/
def sumTo (f : Nat → Nat) : Nat → Nat
  | 0 => 0
  | k + 1 => sumTo f k + f k
theorem sumTo_le (f : Nat → Nat) : ∀ {k n : Nat}, k ≤ n → sumTo f k ≤ sumTo f n := by
  intro k n h
  induction h with
  | refl => exact Nat.le_refl _
  | step _ ih => exact Nat.le_trans ih (Nat.le_add_right _ _)

/-- A slice of strings that reads as xs. -/
structure Strs (w : World) (a : Option Addr) (n : Nat) (xs : List ByteArray) : Prop where
  len : xs.length = n
  fit : ∀ j, (nthS xs j).size ≤ maxLen
  rd : Rd w a n fun j => .string (nthS xs j)
/-- .. that the call itself made. -/
structure OwnStrs (w : World) (B : Nat) (a : Option Addr) (n cap : Nat) (xs : List ByteArray) : Prop where
  len : xs.length = n
  fit : ∀ j, (nthS xs j).size ≤ maxLen
  own : w.ownsRow B 9 1 (.slice a n cap) n (tab n fun j => .string (nthS xs j))
theorem OwnStrs.strs {w : World} {B : Nat} {a : Option Addr} {n cap : Nat} {xs : List ByteArray} (h : OwnStrs w B a n cap xs) : Strs w a n xs := ⟨h.len, h.fit, Rd.of_own1 h.own⟩
theorem OwnStrs.below {w w' : World} {B : Nat} {a : Option Addr} {n cap : Nat} {xs : List ByteArray} (h : OwnStrs w B a n cap xs) (hb : Below w.heap.size w w') : OwnStrs w' B a n cap xs := ⟨h.len, h.fit, own_below h.own hb (Nat.le_refl _)⟩
theorem OwnStrs.base {w : World} {B B' : Nat} {a : Option Addr} {n cap : Nat} {xs : List ByteArray} (h : OwnStrs w B a n cap xs) (hB : B' ≤ B) : OwnStrs w B' a n cap xs := ⟨h.len, h.fit, own_base h.own hB⟩
theorem Strs.below {w w' : World} {a : Option Addr} {n : Nat} {xs : List ByteArray} (h : Strs w a n xs) (hb : Below w.heap.size w w') : Strs w' a n xs := ⟨h.len, h.fit, h.rd.below hb⟩
theorem Strs.drewN {w : World} {a : Option Addr} {n : Nat} {xs : List ByteArray} (h : Strs w a n xs) (k : Nat) : Strs (w.drewN k) a n xs := ⟨h.len, h.fit, h.rd⟩
/-- A slice of numbers that reads as xs. -/
structure Ints (w : World) (k : IntKind) (a : Option Addr) (n : Nat) (xs : List Int) : Prop where
  len : xs.length = n
  fit : ∀ j, (Lit.int k (nthI xs j)).wf = true
  rd : Rd w a n fun j => .int k (nthI xs j)

theorem grownBy_trans {a b c : World} {row : Option Nat} (h : a.grownBy b row) (k : b.grownBy c row) : a.grownBy c row :=
  ⟨k.os.trans h.os, k.tape.trans h.tape, k.output.trans h.output, Nat.le_trans h.size k.size, fun i hi hne => (k.block i (Nat.lt_of_lt_of_le hi h.size) hne).trans (h.block i hi hne)⟩
theorem grownBy_of_below {a b : World} (h : Below a.heap.size a b) (row : Option Nat) : a.grownBy b row := ⟨h.os, h.tape, h.output, h.size, fun i hi _ => h.block i hi⟩
theorem own_pos {w : World} {B : Nat} {e : TypeId} {size n cap : Nat} {a : Option Addr} {xs : List Value} (h : w.ownsRow B e size (.slice a n cap) n xs) (hn : 0 < n) : ∃ g, a = some ⟨g, 0, none⟩ ∧ B ≤ g ∧ g < w.heap.size := by
  rcases h.2 with ⟨_, h0⟩ | ⟨g, cap', cur, hv, hB, hh, _⟩
  · omega
  · injection hv with h1
    exact ⟨g, h1, hB, (Array.getElem?_eq_some_iff.1 hh).1⟩
theorem own_block {w : World} {B : Nat} {e : TypeId} {size n : Nat} {v : Value} {xs : List Value} (h : w.ownsRow B e size v n xs) : ∀ k, v.ownBlock = some k → B ≤ k ∧ k < w.heap.size := h.lt
/-- Two rows, the second made later: the first's block is not the second's. -/
theorem own_apart {w w' : World} {B B' : Nat} {e e' : TypeId} {size size' n n' : Nat} {v v' : Value} {xs xs' : List Value} (h : w.ownsRow B e size v n xs) (h' : w'.ownsRow B' e' size' v' n' xs') (hB : w.heap.size ≤ B') : v.ownBlock = none ∨ v.ownBlock ≠ v'.ownBlock := by
  cases hv : v.ownBlock with
  | none => exact .inl rfl
  | some k =>
    right
    have h1 := (own_block h k hv).2
    intro e
    have h2 := (own_block h' k e.symm).1
    omega
theorem own_apart' {w w' : World} {B B' : Nat} {e e' : TypeId} {size size' n n' : Nat} {v v' : Value} {xs xs' : List Value} (h : w.ownsRow B e size v n xs) (h' : w'.ownsRow B' e' size' v' n' xs') (hB : w.heap.size ≤ B') : v'.ownBlock = none ∨ v'.ownBlock ≠ v.ownBlock := by
  cases hv : v'.ownBlock with
  | none => exact .inl rfl
  | some k =>
    right
    have h1 := (own_block h' k hv).1
    intro e
    have h2 := (own_block h k e.symm).2
    omega
theorem OwnStrs.kept {w w' : World} {B : Nat} {a : Option Addr} {n cap : Nat} {xs : List ByteArray} {row : Option Nat} (h : OwnStrs w B a n cap xs) (hg : w.grownBy w' row) (hne : (Value.slice a n cap).ownBlock = none ∨ (Value.slice a n cap).ownBlock ≠ row) : OwnStrs w' B a n cap xs := ⟨h.len, h.fit, h.own.kept hg hne⟩
end Go.Proofs.YtlbopihffpodkaaDoor
