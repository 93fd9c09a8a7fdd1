/- Documents read out of text, by the reference. Condition: the text fits the model's sizes. -/
import Derived.Test.YtlbopihffpodkaaDoorRead
import Derived.Test.YtlbopihffpodkaaDoorCut
import Derived.Test.YtlbopihffpodkaaDoorNum
import Derived.Test.YtlbopihffpodkaaDoorDocP
import Derived.Deep.RegionWith
import Derived.Deep.RegionLaw
namespace Go.Proofs.YtlbopihffpodkaaDoor
set_option maxRecDepth 100000
open Go.RowKit
structure St where
  id : Int
  fs : List Fd
  ns : List Ad
/-- One row, as the reference reads it. -/
def sRow (i : Nat) (p : List ByteArray) (t : St) : Option St :=
  if i = 0 ∧ nthS p 0 = ⟨#[100, 111, 99]⟩ ∧ p.length = 2 then some { t with id := numV (nthS p 1) }
  else if 0 < i ∧ nthS p 0 = ⟨#[102, 105, 101, 108, 100]⟩ ∧ p.length = 3 then some { t with fs := t.fs ++ [⟨nthS p 1, nthS p 2⟩] }
  else if 0 < i ∧ nthS p 0 = ⟨#[110, 117, 109]⟩ ∧ p.length = 3 then some { t with ns := t.ns ++ [⟨nthS p 1, numV (nthS p 2)⟩] }
  else none
def sAt (rows : List ByteArray) : Nat → Option St
  | 0 => some ⟨0, [], []⟩
  | k + 1 => (sAt rows k).bind (sRow k (cutS (nthS rows k) 32 2))
theorem sAt_none {rows : List ByteArray} {k : Nat} (h : sAt rows k = none) : ∀ j, k ≤ j → sAt rows j = none := by
  intro j hj
  induction j with
  | zero => obtain rfl : k = 0 := by omega
            exact h
  | succ j ih =>
    by_cases e : k = j + 1
    · rw [← e]; exact h
    · rw [sAt, ih (by omega)]; rfl
def okSt (t : St) : Bool := docOk t.id t.fs.length t.fs t.ns.length t.ns
def putSt (t : St) : ByteArray := putA t.id t.fs.length t.fs t.ns t.ns.length
def sGet (s : ByteArray) : Option St :=
  match sAt (cutS s 10 8) ((cutS s 10 8).length - 1) with
  | none => none
  | some t => if okSt t ∧ putSt t = s then some t else none
/-- What a reading gives back. -/
def Got (o : Option St) (w : World) (e : Ending) (w' : World) : Prop :=
  (match o with
  | some t => ∃ x : DocA, e = .returned (.tuple #[x.v, .bool true]) ∧ x.In w' ∧ x.id = t.id ∧ x.n = t.fs.length ∧ x.fs = t.fs ∧ x.m = t.ns.length ∧ x.ns = t.ns
  | none => e = .returned (.tuple #[docV 0 none 0 0 none 0 0, .bool false])) ∧ Below w.heap.size w w'
/-- The document in memory is the state. -/
def Same (x : DocA) (t : St) : Prop := x.id = t.id ∧ x.n = t.fs.length ∧ x.fs = t.fs ∧ x.m = t.ns.length ∧ x.ns = t.ns
theorem cutS_len (s : ByteArray) (c : UInt8) (k : Nat) : (cutS s c k).length ≤ k + 1 := by
  unfold cutS; rw [List.length_map]; exact cutA_len _ _ _ _
theorem read_start (w : World) : RSt w w.heap.size (w.heap.size + 1) ((w.alloc (.cells #[.int .i64 0, .slice none 0 0, .slice none 0 0] 26)).alloc (.cells #[.int .i64 0, .slice none 0 0, .slice none 0 0] 26)) ⟨0, none, 0, 0, [], none, 0, 0, []⟩ := by
  refine ⟨?_, World.ownsRow_nil _ _ _ _, World.ownsRow_nil _ _ _ _, rfl, rfl, by simp, by simp, ((Below.refl _ _).alloc (Nat.le_refl _) _).alloc (by simp) _, Nat.le_refl _, Nat.lt_succ_self _, ?_⟩
  · have h1 := heap_alloc_new (w.alloc (.cells #[.int .i64 0, .slice none 0 0, .slice none 0 0] 26)) (.cells #[.int .i64 0, .slice none 0 0, .slice none 0 0] 26)
    simpa [DocObj] using h1
  · rw [Below.heap_alloc _ _ _ (by simp)]; exact heap_alloc_new _ _
theorem ne_list {s : ByteArray} {l : Array UInt8} (h : ¬ s = ⟨l⟩) : ¬ s.toList = l.toList := fun e => h (Go.WideShapes.bytes_inj (by rw [← ByteArray.toList_eq, e]))
theorem res_cellsR {w : World} {R : Nat} {a b c : Value} {t : TypeId} (h : w.heap[R]? = some (.cells #[a, b, c] t (0, 0))) : w.cell? ⟨R, 0, none⟩ = some a ∧ w.cell? ⟨R, 1, none⟩ = some b ∧ w.cell? ⟨R, 2, none⟩ = some c ∧ w.frozen? ⟨R, 0, none⟩ = false ∧ w.frozen? ⟨R, 1, none⟩ = false ∧ w.frozen? ⟨R, 2, none⟩ = false :=
  ⟨by simp [World.cell?, h], by simp [World.cell?, h], by simp [World.cell?, h], by simp [World.frozen?, h], by simp [World.frozen?, h], by simp [World.frozen?, h]⟩
theorem OwnStrs.other {w w' : World} {B : Nat} {a : Option Addr} {n cap : Nat} {xs : List ByteArray} {row : Option Nat} (h : OwnStrs w B a n cap xs) (hg : w.grownBy w' row) (hr : ∀ k, row = some k → ∃ cur e', e' ≠ 9 ∧ w.heap[k]? = some (.cells cur e' (0, 0))) : OwnStrs w' B a n cap xs :=
  ⟨h.len, h.fit, own_other h.own hg hr⟩
theorem fd_cellsR {w : World} (u v : Value) (e : TypeId) : ∀ j x, [u, v][j]? = some x → (w.alloc (.cells #[u, v] e)).cell? ((⟨w.heap.size, 0, none⟩ : Addr).add j) = some x := by
  intro j x hj
  match j, hj with
  | 0, hj => simp at hj; subst hj; simp [Addr.add]
  | 1, hj => simp at hj; subst hj; simp [Addr.add]
theorem OwnStrs.set {w0 w : World} {R D B : Nat} {x : DocA} {a : Option Addr} {n cap : Nat} {xs : List ByteArray} (h : OwnStrs w B a n cap xs) (hs : RSt w0 R D w x) (j : Nat) (v : Value) : OwnStrs (w.setCell ⟨D, j, none⟩ v) B a n cap xs :=
  h.other (set_only ⟨D, j, none⟩ v) (fun k hk => by injection hk with hk; have e : D = k := hk; rw [← e]; exact ⟨_, _, by decide, hs.obj⟩)
theorem OwnStrs.fields {w0 w w' : World} {R D B : Nat} {x : DocA} {a a' : Option Addr} {n cap n' c' : Nat} {xs : List ByteArray} (h : OwnStrs w B a n cap xs) (hs : RSt w0 R D w x) (hg : w.grownBy w' (Value.slice x.a x.n x.c).ownBlock) : OwnStrs (w'.setCell ⟨D, 1, none⟩ (.slice a' n' c')) B a n cap xs :=
  (h.other hg (fun k hk => by obtain ⟨cur, hc⟩ := own_kind hs.f hk; exact ⟨cur, _, by decide, hc⟩)).other (set_only ⟨D, 1, none⟩ _) (fun k hk => by injection hk with hk; have e : D = k := hk; rw [← e]; exact ⟨_, _, by decide, hs.obj.kept hg hs.rowf.1⟩)
theorem OwnStrs.attrs {w0 w w' : World} {R D B : Nat} {x : DocA} {a a' : Option Addr} {n cap n' c' : Nat} {xs : List ByteArray} (h : OwnStrs w B a n cap xs) (hs : RSt w0 R D w x) (hg : w.grownBy w' (Value.slice x.b x.m x.d).ownBlock) : OwnStrs (w'.setCell ⟨D, 2, none⟩ (.slice a' n' c')) B a n cap xs :=
  (h.other hg (fun k hk => by obtain ⟨cur, hc⟩ := own_kind hs.g hk; exact ⟨cur, _, by decide, hc⟩)).other (set_only ⟨D, 2, none⟩ _) (fun k hk => by injection hk with hk; have e : D = k := hk; rw [← e]; exact ⟨_, _, by decide, hs.obj.kept hg hs.rowg.1⟩)
theorem Same.field {x : DocA} {t : St} (h : Same x t) (f : Fd) (a' : Option Addr) (c' : Nat) : Same { x with a := a', n := x.n + 1, c := c', fs := x.fs ++ [f] } { t with fs := t.fs ++ [f] } :=
  ⟨h.1, by show x.n + 1 = (t.fs ++ [f]).length; rw [List.length_append, h.2.1]; rfl, by show x.fs ++ [f] = t.fs ++ [f]; rw [h.2.2.1], h.2.2.2.1, h.2.2.2.2⟩
theorem Same.attr {x : DocA} {t : St} (h : Same x t) (f : Ad) (a' : Option Addr) (c' : Nat) : Same { x with b := a', m := x.m + 1, d := c', ns := x.ns ++ [f] } { t with ns := t.ns ++ [f] } :=
  ⟨h.1, h.2.1, h.2.2.1, by show x.m + 1 = (t.ns ++ [f]).length; rw [List.length_append, h.2.2.2.1]; rfl, by show x.ns ++ [f] = t.ns ++ [f]; rw [h.2.2.2.2]⟩
theorem RSt.done {w0 w : World} {R D : Nat} {x : DocA} (h : RSt w0 R D w x) (hn : x.n ≤ maxLen) (hm : x.m ≤ maxLen) (v0 v1 v2 : Value) : x.In (((w.setCell ⟨R, 0, none⟩ v0).setCell ⟨R, 1, none⟩ v1).setCell ⟨R, 2, none⟩ v2) ∧ Below w0.heap.size w0 (((w.setCell ⟨R, 0, none⟩ v0).setCell ⟨R, 1, none⟩ v1).setCell ⟨R, 2, none⟩ v2) := by
  have i0 := h.rows hn hm
  have d : ∀ (w' : World) (j : Nat) (v : Value), (w'.ownsRow w0.heap.size 49 2 (.slice x.a x.n x.c) x.n (tab (x.n * 2) (fdC x.fs)) ∧ w'.ownsRow w0.heap.size 51 2 (.slice x.b x.m x.d) x.m (tab (x.m * 2) (adC x.ns)) ∧ ∃ cs, w'.heap[R]? = some (.cells cs 26 (0, 0))) →
      ((w'.setCell ⟨R, j, none⟩ v).ownsRow w0.heap.size 49 2 (.slice x.a x.n x.c) x.n (tab (x.n * 2) (fdC x.fs)) ∧ (w'.setCell ⟨R, j, none⟩ v).ownsRow w0.heap.size 51 2 (.slice x.b x.m x.d) x.m (tab (x.m * 2) (adC x.ns)) ∧ ∃ cs, (w'.setCell ⟨R, j, none⟩ v).heap[R]? = some (.cells cs 26 (0, 0))) :=
    fun w' j v ⟨h1, h2, cs, h3⟩ => ⟨own_other h1 (set_only ⟨R, j, none⟩ v) (fun k hk => by injection hk with hk; have e : R = k := hk; rw [← e]; exact ⟨_, _, by decide, h3⟩), own_other h2 (set_only ⟨R, j, none⟩ v) (fun k hk => by injection hk with hk; have e : R = k := hk; rw [← e]; exact ⟨_, _, by decide, h3⟩), by simp [World.setCell, Array.getElem?_modify, h3]⟩
  obtain ⟨o1, o2, _⟩ := d _ 2 v2 (d _ 1 v1 (d _ 0 v0 ⟨h.f, h.g, _, h.res⟩))
  exact ⟨⟨⟨i0.f.len, i0.f.fit, Rd.of_own o1⟩, ⟨i0.g.len, i0.g.fit, Rd.of_own o2⟩, hn, hm⟩, ((h.bel.setCell (p := ⟨R, 0, none⟩) h.le _).setCell (p := ⟨R, 1, none⟩) h.le _).setCell (p := ⟨R, 2, none⟩) h.le _⟩
set_option maxRecDepth 100000 in
set_option maxHeartbeats 4000000 in
theorem sDocGet_any (s : ByteArray) (w : World) (hs : s.size ≤ 1152921504606846976) :
    Calls Tryd.prog 15 #[.string s] w (Got (sGet s) w) := by
  obtain ⟨i0, hi, hz0, hz1, hz2⟩ := info_parts info_Fd
  obtain ⟨j0, hj, z0, z1, z2⟩ := info_parts info_Ad
  have S0 := Lib.hid (read_start w)
  have hc := fun w => l1Cut_any s 10 8 w hs (by omega)
  have HC : Hid (∀ w, Calls Tryd.prog 34 #[.string s, .int .u8 10, .int .i64 8] w fun e w' => ∃ (a' : Option Addr) (c' : Nat), e = .returned (.slice a' (cutS s 10 8).length c') ∧ OwnStrs w' w.heap.size a' (cutS s 10 8).length c' (cutS s 10 8) ∧ Below w.heap.size w w') := hc
  clear hc
  go_enter Tryd.func15, Tryd.ntmps15
  go_wp2_with fail
  refine (HC.out _).mono ?_
  rintro e w1 ⟨a1, c1, rfl, ho1, hb1⟩
  have S1 := Lib.hid (S0.out.below hb1)
  have O1 := Lib.hid (ho1.base (B' := w.heap.size) (by simp; omega))
  obtain ⟨n1, hn1⟩ : ∃ n1, n1 = (cutS s 10 8).length := ⟨_, rfl⟩
  have hn9 : n1 ≤ 9 := by rw [hn1]; exact cutS_len _ _ _
  rw [← hn1] at O1 ⊢
  clear hb1 ho1 S0 HC
  have N1 := Lib.hid hn1; clear hn1
  obtain ⟨x1, hx1⟩ : ∃ x : DocA, x = ⟨0, none, 0, 0, [], none, 0, 0, []⟩ := ⟨_, rfl⟩
  rw [← hx1] at S1
  have X1 := Lib.hid hx1; clear hx1
  go_wp2_with fail
  go_loopw [6] (fun i wr => ∃ (k : Nat) (t : St) (x : DocA), k ≤ n1 - 1 ∧ i = .int .i64 k ∧ sAt (cutS s 10 8) k = some t ∧ Same x t ∧ RSt w w.heap.size (w.heap.size + 1) wr x ∧ x.n ≤ k ∧ x.m ≤ k ∧ OwnStrs wr w.heap.size a1 n1 c1 (cutS s 10 8)) (fun i _ => 9 - (intOf i).toNat)
  case atStart => exact ⟨0, ⟨0, [], []⟩, x1, Nat.zero_le _, rfl, rfl, by rw [X1.out]; exact ⟨rfl, rfl, rfl, rfl, rfl⟩, S1.out, by rw [X1.out]; exact Nat.le_refl _, by rw [X1.out]; exact Nat.le_refl _, O1.out⟩
  case round =>
    obtain ⟨k, t, x, hk, rfl, ht, hsame, hst, hxn, hxm, how⟩ := hrel
    have T := Lib.hid ht; clear ht
    have SM := Lib.hid hsame; clear hsame
    have ST := Lib.hid hst; clear hst
    have OW := Lib.hid how; clear how
    by_cases hlt : k + 1 < n1
    · obtain ⟨g, off, rfl, hcell⟩ := OW.out.strs.rd.pos (k := k) (by omega)
      have hck := hcell k (by omega)
      clear hcell
      have hkz := OW.out.fit k
      have hks := cutS_size s 10 8 k
      obtain ⟨row, hrow⟩ : ∃ r, r = nthS (cutS s 10 8) k := ⟨_, rfl⟩
      rw [← hrow] at hck hks
      clear hkz
      have ROW := Lib.hid hrow; clear hrow
      have hcr := fun w => l1Cut_any row 32 2 w (by omega) (by omega)
      have HR : Hid (∀ w, Calls Tryd.prog 34 #[.string row, .int .u8 32, .int .i64 2] w fun e w' => ∃ (a' : Option Addr) (c' : Nat), e = .returned (.slice a' (cutS row 32 2).length c') ∧ OwnStrs w' w.heap.size a' (cutS row 32 2).length c' (cutS row 32 2) ∧ Below w.heap.size w w') := hcr
      clear hcr
      go_wp2_with fail
      refine (HR.out _).mono ?_
      rintro e w2 ⟨a2, c2, rfl, ho2, hb2⟩
      have S2 := Lib.hid (ST.out.below hb2)
      have O2 := Lib.hid (OW.out.below hb2)
      obtain ⟨p, hp⟩ : ∃ p, p = cutS row 32 2 := ⟨_, rfl⟩
      have hp1 : 1 ≤ p.length := by rw [hp]; exact cutS_some _ _ _
      have hp3 : p.length ≤ 3 := by rw [hp]; exact cutS_len _ _ _
      have hpz := Lib.hid (fun j => cutS_size row 32 2 j)
      rw [← hp] at ho2 hpz ⊢
      have STEP : Hid (sAt (cutS s 10 8) (k + 1) = sRow k p t) := by show _ = _; rw [sAt, T.out, ← ROW.out, ← hp]; rfl
      obtain ⟨g2, off2, rfl, hpc⟩ := ho2.strs.rd.pos (k := 0) (by omega)
      clear hb2 ho2 hp ST OW HR
      have p0 := hpc 0 (by omega)
      rw [Nat.add_zero] at p0
      have fails : sRow k p t = none → Hid (sGet s = none) := fun h => by
        show _ = _
        unfold sGet
        rw [sAt_none (STEP.out.trans h) _ (by rw [← N1.out]; omega)]
      by_cases h0 : k = 0
      · subst h0
        by_cases hd : nthS p 0 = ⟨#[100, 111, 99]⟩
        · by_cases h2 : p.length = 2
          · have p1 := hpc 1 (by omega)
            have hz1 := hpz.out 1
            obtain ⟨d0, d1, d2, f0, f1, f2⟩ := S2.out.obj.cells
            clear hpc fails d1 d2 f1 f2
            go_wp2_with fail
            refine (l1Num_any _ _ (by unfold maxLen; omega)).mono ?_
            rintro e w3 ⟨rfl, rfl⟩
            have S3 := Lib.hid (S2.out.ident (numV (nthS p 1)))
            have O3 := Lib.hid (O2.out.set S2.out 0 (.int .i64 (numV (nthS p 1))))
            have STP : Hid (sAt (cutS s 10 8) 1 = some { t with id := numV (nthS p 1) }) := by show _ = _; rw [STEP.out]; simp [sRow, hd, h2]
            have SM2 : Hid (Same { x with id := numV (nthS p 1) } { t with id := numV (nthS p 1) }) := ⟨rfl, SM.out.2.1, SM.out.2.2.1, SM.out.2.2.2.1, SM.out.2.2.2.2⟩
            go_wp2_with fail
            exact ⟨⟨1, _, _, by omega, by go_num, STP.out, SM2.out, S3.out, by show x.n ≤ 1; omega, by show x.m ≤ 1; omega, O3.out⟩, by simp [intOf]⟩
          · have N := fails (by simp [sRow, h2])
            have q2 : ((p.length : Int) == 2) = false := beq_f (by omega)
            have RS := Lib.hid S2.out.res
            obtain ⟨r0, r1, r2, rf0, rf1, rf2⟩ := res_cellsR RS.out
            clear hpc fails
            go_wp2_with fail
            exact bodyPost_ret (v := .tuple #[docV 0 none 0 0 none 0 0, .bool false]) (by simp [results, Tryd.results15, go_sem, r0, r1, r2, docV]) rfl (by rw [N.out]; exact ⟨rfl, ((S2.out.bel.setCell (p := ⟨w.heap.size, 0, none⟩) (Nat.le_refl _) _).setCell (p := ⟨w.heap.size, 1, none⟩) (Nat.le_refl _) _).setCell (p := ⟨w.heap.size, 2, none⟩) (Nat.le_refl _) _⟩)
        · have N := fails (by simp [sRow, hd])
          have hdn : ¬ (nthS p 0).toList = [100, 111, 99] := ne_list hd
          have RS := Lib.hid S2.out.res
          obtain ⟨r0, r1, r2, rf0, rf1, rf2⟩ := res_cellsR RS.out
          clear hpc fails
          go_wp2_with fail
          exact bodyPost_ret (v := .tuple #[docV 0 none 0 0 none 0 0, .bool false]) (by simp [results, Tryd.results15, go_sem, r0, r1, r2, docV]) rfl (by rw [N.out]; exact ⟨rfl, ((S2.out.bel.setCell (p := ⟨w.heap.size, 0, none⟩) (Nat.le_refl _) _).setCell (p := ⟨w.heap.size, 1, none⟩) (Nat.le_refl _) _).setCell (p := ⟨w.heap.size, 2, none⟩) (Nat.le_refl _) _⟩)
      · have k0 : (0 : Int) < (k : Int) := by omega
        have q0 : ((k : Int) == 0) = false := beq_f (by omega)
        by_cases hf : nthS p 0 = ⟨#[102, 105, 101, 108, 100]⟩
        · by_cases h3 : p.length = 3
          · have q3 : ((p.length : Int) == 3) = true := beq_t (by omega)
            have p1 := hpc 1 (by omega)
            have p2 := hpc 2 (by omega)
            have hz1p := hpz.out 1
            have hz2p := hpz.out 2
            obtain ⟨d0, d1, d2, f0, f1, f2⟩ := S2.out.obj.cells
            have ll := S2.out.obj.lt
            have ln := Nat.ne_of_lt ll
            clear hpc fails d0 d2 f0 f2
            have S2d := Lib.hid ((S2.out.below (Below.drew (Below.refl w2.heap.size w2))).below ((Below.refl _ _).alloc (Nat.le_refl _) (.cells #[.string (nthS p 1), .string (nthS p 2)] 49)))
            have O2d := Lib.hid ((O2.out.below (Below.drew (Below.refl w2.heap.size w2))).below ((Below.refl _ _).alloc (Nat.le_refl _) (.cells #[.string (nthS p 1), .string (nthS p 2)] 49)))
            have STP : Hid (sAt (cutS s 10 8) (k + 1) = some { t with fs := t.fs ++ [⟨nthS p 1, nthS p 2⟩] }) := by show _ = _; rw [STEP.out]; simp [sRow, h0, hf, h3]
            go_wp2_with fail
            go_region_law (refine step_append_own rfl _ _ 23 rfl w.heap.size 49 i0 (.agg #[.string ByteArray.empty, .string ByteArray.empty]) 2 32 Tryd.underlying23 hi hz0 hz1 hz2 rfl (by decide) _ _ _ rfl S2d.out.f ⟨w2.heap.size, 0, none⟩ 1 1 [.string (nthS p 1), .string (nthS p 2)] rfl rfl (fd_cellsR (w := w2.drew) _ _ _) (by intro u hu; simp at hu; rcases hu with rfl | rfl <;> rfl) (by unfold maxLen; omega) (by omega) (by have := S2d.out.bel.size; simp at this ⊢; omega) ?_; intro v3 w3 hown3 hgrow3 _; obtain ⟨a3, c3, hv3⟩ := own_form hown3; subst hv3; have S3 := Lib.hid (S2d.out.field (f := ⟨nthS p 1, nthS p 2⟩) ⟨(by unfold maxLen; omega : (nthS p 1).size ≤ maxLen), (by unfold maxLen; omega : (nthS p 2).size ≤ maxLen)⟩ hown3 hgrow3); have O3 := Lib.hid (O2d.out.fields (a' := a3) (n' := x.n + 1) (c' := c3) S2d.out hgrow3); have o3 := (S2d.out.obj.kept hgrow3 S2d.out.rowf.1).cells; obtain ⟨-, e1, e2, -, g1, g2⟩ := o3; clear hown3 hgrow3)
            all_goals
              go_simp
              go_wp2_with fail
              exact ⟨⟨k + 1, _, _, by omega, by go_num, STP.out, SM.out.field ⟨nthS p 1, nthS p 2⟩ a3 c3, S3.out, by show x.n + 1 ≤ k + 1; omega, by show x.m ≤ k + 1; omega, O3.out⟩, by simp [intOf]; omega⟩
          · have N := fails (by simp [sRow, h0, h3])
            have q3 : ((p.length : Int) == 3) = false := beq_f (by omega)
            have RS := Lib.hid S2.out.res
            obtain ⟨r0, r1, r2, rf0, rf1, rf2⟩ := res_cellsR RS.out
            clear hpc fails
            go_wp2_with fail
            exact bodyPost_ret (v := .tuple #[docV 0 none 0 0 none 0 0, .bool false]) (by simp [results, Tryd.results15, go_sem, r0, r1, r2, docV]) rfl (by rw [N.out]; exact ⟨rfl, ((S2.out.bel.setCell (p := ⟨w.heap.size, 0, none⟩) (Nat.le_refl _) _).setCell (p := ⟨w.heap.size, 1, none⟩) (Nat.le_refl _) _).setCell (p := ⟨w.heap.size, 2, none⟩) (Nat.le_refl _) _⟩)
        · have hfn : ¬ (nthS p 0).toList = [102, 105, 101, 108, 100] := ne_list hf
          by_cases hm : nthS p 0 = ⟨#[110, 117, 109]⟩
          · by_cases h3 : p.length = 3
            · have p1 := hpc 1 (by omega)
              have p2 := hpc 2 (by omega)
              have hz1p := hpz.out 1
              have hz2p := hpz.out 2
              have hv := numV_bounds (nthS p 2)
              obtain ⟨d0, d1, d2, f0, f1, f2⟩ := S2.out.obj.cells
              have ll := S2.out.obj.lt
              have ln := Nat.ne_of_lt ll
              clear hpc fails d0 d1 f0 f1
              have S2d := Lib.hid ((S2.out.below (Below.drew (Below.refl w2.heap.size w2))).below ((Below.refl _ _).alloc (Nat.le_refl _) (.cells #[.string (nthS p 1), .int .i64 (numV (nthS p 2))] 51)))
              have O2d := Lib.hid ((O2.out.below (Below.drew (Below.refl w2.heap.size w2))).below ((Below.refl _ _).alloc (Nat.le_refl _) (.cells #[.string (nthS p 1), .int .i64 (numV (nthS p 2))] 51)))
              have STP : Hid (sAt (cutS s 10 8) (k + 1) = some { t with ns := t.ns ++ [⟨nthS p 1, numV (nthS p 2)⟩] }) := by show _ = _; rw [STEP.out]; simp [sRow, h0, hm, h3]
              go_wp2_with fail
              go_region_law (first
                | (refine step_append_own rfl _ _ 24 rfl w.heap.size 51 j0 (.agg #[.string ByteArray.empty, .int .i64 0]) 2 24 Tryd.underlying24 hj z0 z1 z2 rfl (by decide) _ _ _ rfl S2d.out.g ⟨w2.heap.size, 0, none⟩ 1 1 [.string (nthS p 1), .int .i64 (numV (nthS p 2))] rfl rfl (fd_cellsR (w := w2.drew) _ _ _) (by intro u hu; simp at hu; rcases hu with rfl | rfl <;> rfl) (by unfold maxLen; omega) (by omega) (by have := S2d.out.bel.size; simp at this ⊢; omega) ?_; intro v3 w3 hown3 hgrow3 _; obtain ⟨a3, c3, hv3⟩ := own_form hown3; subst hv3; have S3 := Lib.hid (S2d.out.attr (f := ⟨nthS p 1, numV (nthS p 2)⟩) ⟨(by unfold maxLen; omega : (nthS p 1).size ≤ maxLen), (by omega : -9223372036854775808 ≤ numV (nthS p 2)), (by omega : numV (nthS p 2) ≤ 9223372036854775807)⟩ hown3 hgrow3); have O3 := Lib.hid (O2d.out.attrs (a' := a3) (n' := x.m + 1) (c' := c3) S2d.out hgrow3); have o3 := (S2d.out.obj.kept hgrow3 S2d.out.rowg.1).cells; obtain ⟨-, e1, e2, -, g1, g2⟩ := o3; clear hown3 hgrow3)
                | (go_simp; go_at_call 35; refine (l1Num_any _ _ (by unfold maxLen; omega)).mono ?_; rintro e w3 ⟨rfl, rfl⟩))
              all_goals
                go_simp
                go_wp2_with fail
                exact ⟨⟨k + 1, _, _, by omega, by go_num, STP.out, SM.out.attr ⟨nthS p 1, numV (nthS p 2)⟩ a3 c3, S3.out, by show x.n ≤ k + 1; omega, by show x.m + 1 ≤ k + 1; omega, O3.out⟩, by simp [intOf]; omega⟩
            · have N := fails (by simp [sRow, h0, h3])
              have q3 : ((p.length : Int) == 3) = false := beq_f (by omega)
              have RS := Lib.hid S2.out.res
              obtain ⟨r0, r1, r2, rf0, rf1, rf2⟩ := res_cellsR RS.out
              clear hpc fails
              go_wp2_with fail
              exact bodyPost_ret (v := .tuple #[docV 0 none 0 0 none 0 0, .bool false]) (by simp [results, Tryd.results15, go_sem, r0, r1, r2, docV]) rfl (by rw [N.out]; exact ⟨rfl, ((S2.out.bel.setCell (p := ⟨w.heap.size, 0, none⟩) (Nat.le_refl _) _).setCell (p := ⟨w.heap.size, 1, none⟩) (Nat.le_refl _) _).setCell (p := ⟨w.heap.size, 2, none⟩) (Nat.le_refl _) _⟩)
          · have N := fails (by simp [sRow, h0, hf, hm])
            have hmn : ¬ (nthS p 0).toList = [110, 117, 109] := ne_list hm
            have RS := Lib.hid S2.out.res
            obtain ⟨r0, r1, r2, rf0, rf1, rf2⟩ := res_cellsR RS.out
            clear hpc fails
            go_wp2_with fail
            exact bodyPost_ret (v := .tuple #[docV 0 none 0 0 none 0 0, .bool false]) (by simp [results, Tryd.results15, go_sem, r0, r1, r2, docV]) rfl (by rw [N.out]; exact ⟨rfl, ((S2.out.bel.setCell (p := ⟨w.heap.size, 0, none⟩) (Nat.le_refl _) _).setCell (p := ⟨w.heap.size, 1, none⟩) (Nat.le_refl _) _).setCell (p := ⟨w.heap.size, 2, none⟩) (Nat.le_refl _) _⟩)
    · have S2 := ST
      have hne := cutS_some s 10 8
      have hkn : k = (cutS s 10 8).length - 1 := by rw [← N1.out]; have := N1.out; omega
      obtain ⟨m1, m2, m3, m4, m5⟩ := SM.out
      have hxm' : Hid (x.n ≤ maxLen ∧ x.m ≤ maxLen) := ⟨by unfold maxLen; omega, by unfold maxLen; omega⟩
      have IN := Lib.hid (S2.out.rows hxm'.out.1 hxm'.out.2)
      have G : Hid (sGet s = if docOk x.id x.n x.fs x.m x.ns = true ∧ putA x.id x.n x.fs x.ns x.m = s then some t else none) := by
        show _ = _
        unfold sGet
        rw [← hkn, T.out, m1, m2, m3, m4, m5]
        rfl
      clear hne hkn m1 m2 m3 m4 m5
      obtain ⟨d0, d1, d2, f0, f1, f2⟩ := S2.out.obj.cells
      clear f0 f1 f2
      go_wp2_with fail
      refine (l6Ok_any _ _ _ _ _ _ _ _ _ _ IN.out.f IN.out.g hxm'.out.1 hxm'.out.2).mono ?_
      rintro e w4 ⟨rfl, hb4⟩
      have S4 := Lib.hid (S2.out.below hb4)
      have IN4 := Lib.hid (S4.out.rows hxm'.out.1 hxm'.out.2)
      clear hb4 d0 d1 d2
      obtain ⟨d0, d1, d2, f0, f1, f2⟩ := S4.out.obj.cells
      obtain ⟨r0, r1, r2, rf0, rf1, rf2⟩ := res_cellsR S4.out.res
      clear f0 f1 f2
      cases hok : docOk x.id x.n x.fs x.m x.ns
      · have N : Hid (sGet s = none) := by show _ = _; rw [G.out, hok]; rfl
        have DN := Lib.hid (S4.out.done hxm'.out.1 hxm'.out.2 (.int .i64 0) (.slice none 0 0) (.slice none 0 0))
        go_wp2_with fail
        exact bodyPost_ret (v := .tuple #[docV 0 none 0 0 none 0 0, .bool false]) (by simp [results, Tryd.results15, go_sem, r0, r1, r2, docV]) rfl (by rw [N.out]; exact ⟨rfl, DN.out.2⟩)
      · have OK := Lib.hid hok; clear hok
        go_wp2_with (go_at_call 25; refine (l6Put_any _ _ _ _ _ _ _ _ _ _ IN4.out.f IN4.out.g (docOk_known OK.out)).mono ?_; rintro e w5 ⟨rfl, hb5⟩; have S5 := Lib.hid (S4.out.below hb5); clear hb5 d0 d1 d2 r0 r1 r2 rf0 rf1 rf2; obtain ⟨d0, d1, d2, f0, f1, f2⟩ := S5.out.obj.cells; obtain ⟨r0, r1, r2, rf0, rf1, rf2⟩ := res_cellsR S5.out.res; clear f0 f1 f2; generalize hP : putA x.id x.n x.fs x.ns x.m = P at *)
        · rename_i hh
          have hne : ¬ P = s := fun e => by subst e; simp at hh
          have N : Hid (sGet s = none) := by show _ = _; rw [G.out, if_neg (fun h => hne h.2)]
          have DN := Lib.hid (S5.out.done hxm'.out.1 hxm'.out.2 (.int .i64 0) (.slice none 0 0) (.slice none 0 0))
          exact bodyPost_ret (v := .tuple #[docV 0 none 0 0 none 0 0, .bool false]) (by simp [results, Tryd.results15, go_sem, r0, r1, r2, docV]) rfl (by rw [N.out]; exact ⟨rfl, DN.out.2⟩)
        · rename_i hh
          have he : P = s := Go.WideShapes.bytes_inj (by rw [← ByteArray.toList_eq, ← ByteArray.toList_eq]; simpa using hh)
          have N : Hid (sGet s = some t) := by show _ = _; rw [G.out, if_pos ⟨OK.out, he⟩]
          have DN := Lib.hid (S5.out.done hxm'.out.1 hxm'.out.2 (.int .i64 x.id) (.slice x.a x.n x.c) (.slice x.b x.m x.d))
          exact bodyPost_ret (v := .tuple #[docV x.id x.a x.n x.c x.b x.m x.d, .bool true]) (by simp [results, Tryd.results15, go_sem, r0, r1, r2, docV]) rfl (by rw [N.out]; exact ⟨⟨x, rfl, DN.out.1, SM.out.1, SM.out.2.1, SM.out.2.2.1, SM.out.2.2.2.1, SM.out.2.2.2.2⟩, DN.out.2⟩)
end Go.Proofs.YtlbopihffpodkaaDoor
