/- The terms of a text: what stands for others is used from the left. Conditions: what is read fits the model's sizes. -/
import Derived.Test.YtejooloflcldiaaPlain
import Derived.Test.YtejooloflcldiaaTermS
import Derived.Maps.AppendAt
import Derived.Deep.RegionLaw
namespace Go.Proofs.Ytejooloflcldiaa
open Go.RowKit Go.Sort
def trm (x : ConfA) : Nat → List Tm → List Tm
  | 0, _ => []
  | _ + 1, [] => []
  | f + 1, t :: r => match synTo (t :: r) x.ys x.m with
    | none => t :: trm x f r
    | some k => ⟨(nthY x.ys k).to, t.at_⟩ :: trm x f (r.drop ((nthY x.ys k).n - 1))
theorem trm_nil (x : ConfA) (f : Nat) : trm x f [] = [] := by cases f <;> rfl
theorem trm_more (x : ConfA) : ∀ f g ts, ts.length ≤ f → ts.length ≤ g → trm x f ts = trm x g ts := by
  intro f
  induction f with
  | zero => intro g ts h _; rw [List.length_eq_zero_iff.1 (Nat.le_zero.1 h), trm_nil, trm_nil]
  | succ f ih =>
    intro g ts h h2
    match ts, g with
    | [], g => rw [trm_nil, trm_nil]
    | t :: r, 0 => simp at h2
    | t :: r, g + 1 =>
      simp only [List.length_cons] at h h2
      rw [trm, trm]
      split
      · rw [ih g r (by omega) (by omega)]
      · rw [ih g _ (by rw [List.length_drop]; omega) (by rw [List.length_drop]; omega)]
def termsT (x : ConfA) (ts : List Tm) : List Tm := trm x ts.length ts
theorem drop_cons {ts : List Tm} {p : Nat} (h : p < ts.length) : ts.drop p = nthT ts p :: ts.drop (p + 1) := by
  rw [List.drop_eq_getElem_cons h]; simp [nthT, h]
theorem termsT_none {x : ConfA} {ts : List Tm} {p : Nat} (h : p < ts.length) (h0 : synTo (ts.drop p) x.ys x.m = none) : termsT x (ts.drop p) = nthT ts p :: termsT x (ts.drop (p + 1)) := by
  unfold termsT
  rw [drop_cons h] at h0 ⊢
  rw [List.length_cons, trm, h0]
theorem termsT_some {x : ConfA} {ts : List Tm} {p k : Nat} (h : p < ts.length) (h0 : synTo (ts.drop p) x.ys x.m = some k) (h1 : 1 ≤ (nthY x.ys k).n) : termsT x (ts.drop p) = ⟨(nthY x.ys k).to, (nthT ts p).at_⟩ :: termsT x (ts.drop (p + (nthY x.ys k).n)) := by
  unfold termsT
  rw [drop_cons h] at h0
  rw [show (ts.drop p).length = (nthT ts p :: ts.drop (p + 1)).length by rw [drop_cons h], drop_cons h, List.length_cons, trm, h0]
  show _ :: trm x _ _ = _
  rw [List.drop_drop, show p + 1 + ((nthY x.ys k).n - 1) = p + (nthY x.ys k).n by omega]
  rw [trm_more x _ (ts.drop (p + (nthY x.ys k).n)).length _ (by rw [List.length_drop, List.length_drop]; omega) (Nat.le_refl _)]
theorem synTo_begins (ts : List Tm) (ys : List SynA) : ∀ k b, synTo ts ys k = some b → begins ts (nthY ys b).n (nthY ys b).fs = true := by
  intro k
  induction k with
  | zero => intro b h; cases h
  | succ k ih =>
    intro b h
    cases hb : begins ts (nthY ys k).n (nthY ys k).fs
    · rw [synTo_no hb] at h; exact ih b h
    · cases hs : synTo ts ys k with
      | none => rw [synTo_yes hb hs] at h; injection h with h; subst h; exact hb
      | some c =>
        by_cases hl : (nthY ys c).n < (nthY ys k).n
        · rw [synTo_more hb hs hl] at h; injection h with h; subst h; exact hb
        · rw [synTo_less hs hl] at h; injection h with h; subst h; exact ih _ hs
theorem begins_len {ts : List Tm} {m : Nat} {fs : List ByteArray} (h : begins ts m fs = true) : m ≤ ts.length := by
  rcases Nat.eq_zero_or_pos m with h0 | h0
  · omega
  · have := (allN_iff.1 h) (m - 1) (by omega)
    simp only [beginsAt, Bool.and_eq_true, decide_eq_true_eq] at this
    omega
theorem confOk_each {x : ConfA} (h : confOk x = true) {k : Nat} (hk : k < x.m) : 1 ≤ (nthY x.ys k).n ∧ wordOk (nthY x.ys k).to = true := by
  simp only [confOk, Bool.and_eq_true] at h
  have h2 := (allN_iff.1 h.2) k hk
  simp only [synAt, inSyn, Bool.and_eq_true, decide_eq_true_eq] at h2
  refine ⟨by omega, ?_⟩
  simp_all
theorem step_append_at {P : Program} {ops : Array Oper} {o : Oper} {a : Act} {w : World} {K : Act → World → Prop} {Q : Exit → Act → World → Prop} {E : Prop} (hg : o.guard = none) (s x : Operand) (t : TypeId)
    (ho : o.op = .call { callee := .builtin .append, args := #[s, x], argTypes := #[t, t] })
    (base : Nat) (e : TypeId) (i : TypeInfo) (z : Value) (size bytes : Nat) (ht : P.underlying t = some (.slice e)) (hi : P.info? e = some i) (hz : i.zero = some z)
    (hsize : i.size = size) (hby : i.bytes = bytes) (hzs : z.cells.size = size) (hsz : 0 < size)
    (v : Value) (n : Nat) (xs : List Value) (hs : a.eval s = v) (hown : w.ownsRow base e size v n xs)
    (ad : Addr) (m c : Nat) (news : List Value) (hx : a.eval x = .slice (some ad) m c) (hl : news.length = m * size) (hnews : ∀ j u, news[j]? = some u → w.cell? (ad.add j) = some u) (h1 : ∀ u ∈ news, u.oneCell' = true)
    (h63 : n + m ≤ maxLen) (hbytes : (n + m) * bytes ≤ 140737488355328) (hbase : base ≤ w.heap.size)
    (h : ∀ v' w', w'.ownsRow base e size v' (n + m) (xs ++ news) → w.grownBy w' v.ownBlock → (v' = .slice none 0 0 ↔ v = .slice none 0 0 ∧ m = 0) → (v'.ownBlock = v.ownBlock ∨ v'.ownBlock = some w.heap.size) → K (a.put o.dst v') w') :
    if Region.wanted o (yielded ops a.tmps) = true then Oper.wp P o a w K Q else E := by
  rw [if_pos (by simp [Region.wanted, hg])]
  obtain ⟨v', w', hr, h2, h3, h4, h5⟩ := run_append_own_at (P := P) w base t o.type e i z size bytes ht hi hz hsize hby hzs hsz v n xs hown ad m c news hl hnews h1 h63 hbytes hbase
  unfold Oper.wp execOp
  simp only [ho, resolve, invoke, builtin, Sem.run_bind, Sem.run_pure, Result.andThen_ok, List.map_toArray, List.map_cons, List.map_nil, hs, hx, hr]
  exact h v' w' h2 h3 h4 h5
theorem wordOk_le12 {s : ByteArray} (h : wordOk s = true) : s.size ≤ 12 := by
  simp only [wordOk, Bool.and_eq_true, decide_eq_true_eq] at h; omega
def lenV : Value → Nat
  | .slice _ n _ => n
  | _ => 0
theorem nthT_drop' (ts : List Tm) (p j : Nat) : nthT (ts.drop p) j = nthT ts (p + j) := by simp [nthT, List.getElem?_drop]
theorem Tms.dropped {w : World} {g n p : Nat} {ts : List Tm} (h : Tms w (some ⟨g, 0, none⟩) n ts) (hp : p < n) : Tms w (some ⟨g, p * 2, none⟩) (n - p) (ts.drop p) := by
  refine ⟨by rw [List.length_drop, h.len], fun j => by rw [nthT_drop']; exact h.fit _, .inr ⟨g, p * 2, rfl, fun j hj => ?_⟩⟩
  obtain ⟨b, off, he, hc⟩ := h.rd.pos (k := p * 2 + j) (by omega)
  injection he with he; injection he with h1 h2
  subst h1; subst h2
  have := hc (p * 2 + j) (by omega)
  rw [Nat.zero_add] at this
  rw [this]
  unfold tmC
  rw [nthT_drop', show (p * 2 + j) % 2 = j % 2 by omega, show (p * 2 + j) / 2 = p + j / 2 by omega]
theorem Tms.cells' {w : World} {g n i : Nat} {ts : List Tm} (h : Tms w (some ⟨g, 0, none⟩) n ts) (hi : i < n) : w.cell? ⟨g, i * 2, none⟩ = some (.string (nthT ts i).text) ∧ w.cell? ⟨g, i * 2 + 1, none⟩ = some (.int .i64 (nthT ts i).at_) := by
  obtain ⟨b, o, he, hc⟩ := h.pos hi
  injection he with he; injection he with h1 h2
  subst h1; subst h2
  have := hc i hi
  rw [Nat.zero_add] at this
  exact this
set_option maxRecDepth 100000 in
set_option maxHeartbeats 1600000 in
theorem l2Terms_any (x : ConfA) (s : ByteArray) (hs : s.size ≤ 160) (w : World) (hx : x.In w) (hok : confOk x = true) :
    Calls Try.prog 46 #[x.v, .string s] w fun e w' => ∃ a' n' c', e = .returned (.slice a' n' c') ∧ OwnTms w' w.heap.size a' n' c' (termsT x (plainT x (wds s 0 0))) ∧ Below w.heap.size w w' := by
  have HX := Lib.hid hx
  have OK := Lib.hid hok
  have hm := hx.hm
  clear hx hok
  unfold maxLen at hm
  obtain ⟨i0, hi, hz0, hz1, hz2⟩ := info_parts info_tm
  have k2 : Try.prog.cellsOf 53 = 2 := by kernel_rfl
  have k3 : Try.prog.cellsOf 42 = 2 := by kernel_rfl
  unfold ConfA.v
  have BW : Hid (Below w.heap.size w (w.alloc (.cells #[.slice x.a x.n x.c, .slice x.b x.m x.d] 30))) := (Below.refl _ _).alloc (Nat.le_refl _) _
  have c0 : Hid ((w.alloc (.cells #[.slice x.a x.n x.c, .slice x.b x.m x.d] 30)).cell? ⟨w.heap.size, 0, none⟩ = some (.slice x.a x.n x.c)) := World.cell?_alloc_at _ _ _ _ rfl
  have c1 : Hid ((w.alloc (.cells #[.slice x.a x.n x.c, .slice x.b x.m x.d] 30)).cell? ⟨w.heap.size, 1, none⟩ = some (.slice x.b x.m x.d)) := World.cell?_alloc_at _ _ _ _ rfl
  have hsz : Hid (w.heap.size < (w.alloc (.cells #[.slice x.a x.n x.c, .slice x.b x.m x.d] 30)).heap.size) := by show _ < _; simp
  have X0 := Lib.hid (HX.out.below BW.out)
  obtain ⟨W0, hW0⟩ : ∃ W0, W0 = w.alloc (.cells #[.slice x.a x.n x.c, .slice x.b x.m x.d] 30) := ⟨_, rfl⟩
  have HS := Lib.hid (show W0.heap.size = w.heap.size + 1 by rw [hW0]; simp)
  have ON : Hid ((W0.alloc (.cells #[] 42)).ownsRow (w.heap.size + 1) 42 2 (.slice (some ⟨w.heap.size + 1, 0, none⟩) 0 0) 0 (tmCells [])) := by
    have h := tms_nil_made W0
    rw [HS.out] at h
    exact h
  have BA := Lib.hid ((Below.refl W0.heap.size W0).alloc (Nat.le_refl _) (.cells #[] 42))
  rw [← hW0] at c0 c1 hsz X0 BW
  have a0 := ((BA.out.cell hsz.out).trans c0.out)
  have a1 := ((BA.out.cell hsz.out).trans c1.out)
  have CP := Lib.hid (l2Plain_any x s hs _ (X0.out.below BA.out))
  unfold ConfA.v at CP
  go_enter Try.func46, Try.ntmps46
  go_wp2_with fail
  rw [← hW0]
  clear hW0
  have HSA := Lib.hid (show (W0.alloc (.cells #[] 42)).heap.size = w.heap.size + 2 by have := HS.out; simp; omega)
  generalize W0.alloc (.cells #[] 42) = WA at *
  go_wp2_with fail
  refine CP.out.mono ?_
  clear CP a0 a1
  rintro e w1 ⟨aL, cL, rfl, ho, hb⟩
  have LN : (plainT x (wds s 0 0)).length ≤ 160 := Nat.le_trans (plainT_len _ _) (Nat.le_trans (wds_count s _ 0 0 rfl) (by omega))
  obtain ⟨ts, hts⟩ : ∃ ts, ts = plainT x (wds s 0 0) := ⟨_, rfl⟩
  rw [← hts] at ho LN ⊢
  have HTS := Lib.hid hts; clear hts
  obtain ⟨n, hn⟩ : ∃ n, n = ts.length := ⟨_, rfl⟩
  rw [← hn] at ho LN ⊢
  have HN := Lib.hid hn; clear hn
  have TL := Lib.hid (ho.base (show w.heap.size + 1 ≤ _ by have := HSA.out; omega))
  have B1 := Lib.hid (BA.out.trans (hb.mono BA.out.size))
  have O1 := Lib.hid (own_below ON.out hb (Nat.le_refl _))
  obtain ⟨g, hg0, hg1⟩ : ∃ g, (0 < n → aL = some ⟨g, 0, none⟩) ∧ w.heap.size + 2 ≤ g := by
    rcases Nat.eq_zero_or_pos n with h0 | h0
    · exact ⟨w.heap.size + 2, fun h => by omega, Nat.le_refl _⟩
    · obtain ⟨g, h1, h2, h3⟩ := own_pos ho.own h0
      exact ⟨g, fun _ => h1, by rw [← HSA.out]; exact h2⟩
  have HG0 := Lib.hid hg0; clear hg0 ho hb
  have cL' : n ≤ cL := by
    rcases Nat.eq_zero_or_pos n with h0 | h0
    · omega
    · exact own_cap TL.out.own h0
  go_wp2_with fail
  go_loopw [5, 6] (fun o l wr => ∃ (p : Nat) (ao : Option Addr) (co : Nat) (os : List Tm) (ap : Option Addr) (cp : Nat), p ≤ n ∧ o = .slice ao os.length co ∧ l = .slice ap (n - p) cp ∧ (p < n → ap = some ⟨g, p * 2, none⟩) ∧ n - p ≤ cp ∧ os.length ≤ p ∧ os ++ termsT x (ts.drop p) = termsT x ts ∧ (∀ t ∈ os, t.text.size ≤ 1000 ∧ t.at_ ≤ 1000000) ∧ wr.ownsRow (w.heap.size + 1) 42 2 (.slice ao os.length co) os.length (tmCells os) ∧ OwnTms wr (w.heap.size + 1) aL n cL ts ∧ (Value.slice ao os.length co).ownBlock ≠ some g ∧ Below W0.heap.size W0 wr) (fun _ l _ => lenV l)
  case atStart => exact ⟨0, _, _, [], aL, cL, Nat.zero_le _, rfl, rfl, fun h => by rw [Nat.zero_mul]; exact HG0.out h, cL', Nat.le_refl _, rfl, (fun t ht => by cases ht), O1.out, TL.out, fun e => by (injection e with e; have h2 : w.heap.size + 1 = g := e; omega), B1.out⟩
  case round =>
    obtain ⟨p, ao, co, os, ap, cp, hp, rfl, rfl, hap, hcp, hol, hos, hfit, hown, htl, hne, hb⟩ := hrel
    have HO := Lib.hid hown; clear hown
    have HTL := Lib.hid htl; clear htl
    have NE := Lib.hid hne; clear hne
    have HB := Lib.hid hb; clear hb
    have HOS := Lib.hid hos; clear hos
    have FIT := Lib.hid hfit; clear hfit
    by_cases hlt : p < n
    · obtain rfl := hap hlt
      have hgL := HG0.out (by omega)
      have TD := Lib.hid (Tms.dropped (w := wr) (p := p) (by rw [← hgL]; exact HTL.out.tms) hlt)
      have CS := Lib.hid (l2Syn_any x _ (n - p) cp _ wr (X0.out.below HB.out) TD.out (by omega))
      obtain ⟨r, hr⟩ : ∃ r, r = n - p := ⟨_, rfl⟩
      rw [← hr] at hcp CS ⊢
      unfold ConfA.v at CS
      have e0 := (HB.out.cell hsz.out).trans c0.out
      have e1 := (HB.out.cell hsz.out).trans c1.out
      have hlp : 0 < r := by omega
      have hlp2 : (0 : Int) < (r : Int) := by omega
      have HR := Lib.hid hr; clear hr
      go_wp2_with fail
      refine CS.out.mono ?_
      clear CS
      rintro e w2 ⟨rfl, hb2⟩
      have B2 := Lib.hid (HB.out.trans (hb2.mono HB.out.size))
      have HO2 := Lib.hid (own_below HO.out hb2 (Nat.le_refl _))
      have HTL2 := Lib.hid (HTL.out.below hb2)
      clear hb2 e0 e1
      have e1 := (B2.out.cell hsz.out).trans c1.out
      have T2 := Lib.hid (show Tms w2 (some ⟨g, 0, none⟩) n ts by rw [← hgL]; exact HTL2.out.tms)
      obtain ⟨x0, x1⟩ := T2.out.cells' hlt
      have lg := World.block_lt_of_cell? w2 _ x0
      have f1 := T2.out.fit p
      cases hs : synTo (ts.drop p) x.ys x.m with
      | none =>
        have o1 : optI (none : Option Nat) = -1 := rfl
        rw [o1]
        have N := Lib.hid (termsT_none (x := x) (by rw [← HN.out]; exact hlt) hs)
        have FA0 := Lib.hid (show (nthT ts p).text.size ≤ 1000 ∧ (nthT ts p).at_ ≤ 1000000 from HTL2.out.fit _ (by rw [show nthT ts p = ts[p]'(by rw [← HN.out]; exact hlt) by simp [nthT, show p < ts.length by rw [← HN.out]; exact hlt]]; exact List.getElem_mem _))
        obtain ⟨A, hA⟩ : ∃ A, A = nthT ts p := ⟨_, rfl⟩
        rw [← hA] at x0 x1 f1 N FA0
        clear hA
        have FA := Lib.hid (FA0.out)
        have FIN := Lib.hid (show (os ++ [A]) ++ termsT x (ts.drop (p + 1)) = termsT x ts by rw [← HOS.out, N.out, List.append_assoc]; rfl)
        have s1 : (1 : Int) ≤ (r : Int) := by omega
        have s2 : (r : Int) ≤ (cp : Int) := by omega
        go_wp2_with (at_builtin; refine wpList_append_own_at _ rfl _ _ 39 rfl (w.heap.size + 1) 42 i0 (.agg #[.string ByteArray.empty, .int .i64 0]) 2 24 Try.underlying39 hi hz0 hz1 hz2 rfl (by decide) _ _ _ rfl (HO2.out.alloc _) ⟨w2.heap.size, 0, none⟩ 1 1 [.string A.text, .int .i64 (A.at_ : Int)] rfl rfl ?gb1 ?gb2 ?gb3 ?gb4 ?gb5 ?_)
        case gb1 => exact cell_two_at rfl _ _ _
        case gb2 => intro u hu; simp at hu; rcases hu with rfl | rfl <;> rfl
        case gb3 => unfold maxLen; omega
        case gb4 => omega
        case gb5 => have h1 := B2.out.size; have h2 := HS.out; simp; omega
        · intro v' w4 hown' hgrow _ hat'
          obtain ⟨a3, c3, hv⟩ := own_form hown'
          rw [hv] at hown' hat'
          have HO4 := Lib.hid (show w4.ownsRow (w.heap.size + 1) 42 2 (.slice a3 (os ++ [A]).length c3) (os ++ [A]).length (tmCells (os ++ [A])) by
            rw [tmCells_app, List.length_append]; exact hown')
          have ha : Below w2.heap.size w2 (w2.alloc (.cells #[.string A.text, .int .i64 (A.at_ : Int)] 42)) := (Below.refl _ _).alloc (Nat.le_refl _) _
          have HT4 := Lib.hid (show OwnTms w4 (w.heap.size + 1) aL n cL ts from ⟨HTL2.out.len, HTL2.out.fit, (HTL2.out.below ha).own.kept hgrow (.inr fun e => NE.out (by rw [← e, hgL]; rfl))⟩)
          have HB4 := Lib.hid ((B2.out.alloc B2.out.size _).grown hgrow (by have := B2.out.size; simp; omega) (fun q hq => by have h3 := (own_block HO2.out q hq).1; have h4 := HS.out; omega))
          have NE4 : Hid ((Value.slice a3 (os ++ [A]).length c3).ownBlock ≠ some g) := by
            intro e
            have e' : (Value.slice a3 (os.length + 1) c3).ownBlock = some g := by rw [List.length_append] at e; exact e
            rcases hat' with h | h
            · exact NE.out (h.symm.trans e')
            · rw [h] at e'; injection e' with e'; have h5 : w2.heap.size + 1 = g := e'; omega
          have FIT4 : Hid (∀ t ∈ os ++ [A], t.text.size ≤ 1000 ∧ t.at_ ≤ 1000000) := by
            intro t ht
            rcases List.mem_append.1 ht with h | h
            · exact FIT.out t h
            · rw [List.mem_singleton.1 h]; exact FA.out
          have LO := Lib.hid (show (os ++ [A]).length = os.length + 1 by simp)
          clear hgrow hown' hat'
          rw [hv]
          clear hv
          go_wp2_with fail
          all_goals
            exact ⟨⟨p + 1, by omega, _, _, os ++ [A], ⟨rfl, LO.out.symm, rfl⟩, _, _, ⟨rfl, by have := HR.out; omega, rfl⟩, fun h => by first | (have := HR.out; omega) | (rw [show (p + 1) * 2 = p * 2 + 2 by omega]), by have := HR.out; omega, by have := LO.out; omega, FIN.out, FIT4.out, HO4.out, by first | exact HT4.out | (rw [← hgL]; exact HT4.out), NE4.out, HB4.out⟩, by simp only [lenV]; omega⟩
      | some k =>
        have hk := synTo_lt _ _ _ _ hs
        have hbg := begins_len (synTo_begins _ _ _ _ hs)
        rw [List.length_drop, ← HN.out] at hbg
        obtain ⟨ho1, ho2⟩ := confOk_each OK.out hk
        have fy := wordOk_le12 ho2
        have N := Lib.hid (termsT_some (x := x) (by rw [← HN.out]; exact hlt) hs ho1)
        have o1 : optI (some k) = (k : Int) := rfl
        rw [o1]
        obtain ⟨gb, ob, hgb, hcb⟩ := (X0.out.y.below B2.out).pos hk
        obtain ⟨y0, y1⟩ := hcb k hk
        rw [hgb] at e1
        have HGB := Lib.hid hgb; clear hgb hcb ho2
        obtain ⟨Y, hY⟩ : ∃ Y, Y = nthY x.ys k := ⟨_, rfl⟩
        rw [← hY] at y0 y1 N fy ho1 hbg
        have HYY := Lib.hid hY; clear hY
        obtain ⟨A, hA⟩ : ∃ A, A = nthT ts p := ⟨_, rfl⟩
        rw [← hA] at x0 x1 f1 N
        clear hA
        have f2 := f1.2
        have FIN := Lib.hid (show (os ++ [⟨Y.to, A.at_⟩]) ++ termsT x (ts.drop (p + Y.n)) = termsT x ts by rw [← HOS.out, N.out, List.append_assoc]; rfl)
        have v1 : (0 : Int) ≤ (k : Int) := by omega
        have v2 : (k : Int) < (x.m : Int) := by omega
        have gk : decide ((k : Int) < 0) = false := decide_eq_false (by omega)
        have r1 : (0 : Int) < (r : Int) := by omega
        have YR := Lib.hid (show Y.n ≤ r by have := HR.out; omega)
        have BE := Lib.hid (Below.drew ((Below.refl w2.heap.size w2).alloc (Nat.le_refl _) (.cells #[.string Y.to, .int .i64 (A.at_ : Int)] 42)))
        have LB := Lib.hid (World.block_lt_of_cell? w2 _ y0)
        have LW := Lib.hid hsz.out
        go_wp2_with fail
        go_region_law (first
          | (refine step_append_at (o := ⟨some 41, _, _, _, _, _⟩) rfl _ _ 39 rfl (w.heap.size + 1) 42 i0 (.agg #[.string ByteArray.empty, .int .i64 0]) 2 24 Try.underlying39 hi hz0 hz1 hz2 rfl (by decide) _ _ _ rfl (by exact (HO2.out.alloc _)) ⟨w2.heap.size, 0, none⟩ 1 1 [.string Y.to, .int .i64 (A.at_ : Int)] rfl rfl (by exact cell_two_at rfl _ _ _) (by intro u hu; simp at hu; rcases hu with rfl | rfl <;> rfl) (by unfold maxLen; omega) (by omega) (by have h1 := B2.out.size; have h2 := HS.out; simp; omega) ?_; intro v' w4 hown' hgrow hnn hat'; obtain ⟨a3, c3, hv⟩ := own_form hown'; rw [hv] at hown' hat'; have O4 := Lib.hid hown'; have G4 := Lib.hid hgrow; have AT4 := Lib.hid hat'; clear hown' hgrow hnn hat'; subst hv))
        all_goals
          have hgrow := (show World.grownBy _ w4 (Value.slice ao os.length co).ownBlock from G4.out)
          have hat' := AT4.out
          have HO4 := Lib.hid (show w4.ownsRow (w.heap.size + 1) 42 2 (.slice a3 (os ++ [(⟨Y.to, A.at_⟩ : Tm)]).length c3) (os ++ [(⟨Y.to, A.at_⟩ : Tm)]).length (tmCells (os ++ [⟨Y.to, A.at_⟩])) by
            rw [tmCells_app, List.length_append]; exact O4.out)
          have HT4 := Lib.hid (show OwnTms w4 (w.heap.size + 1) aL n cL ts from ⟨HTL2.out.len, HTL2.out.fit, (HTL2.out.below BE.out).own.kept hgrow (.inr fun e => NE.out (by rw [← e, hgL]; rfl))⟩)
          have HB4 := Lib.hid ((B2.out.trans (BE.out.mono B2.out.size)).grown hgrow (by have h1 := B2.out.size; have h2 := BE.out.size; omega) (fun q hq => by have h3 := (own_block HO2.out q hq).1; have h4 := HS.out; omega))
          have NE4 : Hid ((Value.slice a3 (os ++ [(⟨Y.to, A.at_⟩ : Tm)]).length c3).ownBlock ≠ some g) := by
            intro e
            have e' : (Value.slice a3 (os.length + 1) c3).ownBlock = some g := by rw [List.length_append] at e; exact e
            rcases hat' with h | h
            · exact NE.out (h.symm.trans e')
            · rw [h] at e'; injection e' with e'; have h5 : w2.heap.size + 1 = g := (World.size_alloc _ _).symm.trans e'; omega
          have FIT4 : Hid (∀ t ∈ os ++ [(⟨Y.to, A.at_⟩ : Tm)], t.text.size ≤ 1000 ∧ t.at_ ≤ 1000000) := by
            intro t ht
            rcases List.mem_append.1 ht with h | h
            · exact FIT.out t h
            · rw [List.mem_singleton.1 h]; exact ⟨Nat.le_trans fy (by omega), f2⟩
          have LO := Lib.hid (show (os ++ [(⟨Y.to, A.at_⟩ : Tm)]).length = os.length + 1 by simp)
          clear hgrow hat' G4 AT4 O4 e1 y0 y1 x0 x1
          have e1 := (HB4.out.cell hsz.out).trans c1.out
          rw [HGB.out] at e1
          obtain ⟨gc, oc, hgc, hcc⟩ := (X0.out.y.below HB4.out).pos hk
          rw [HGB.out] at hgc
          injection hgc with hgc; injection hgc with hgc1 hgc2
          subst hgc1; subst hgc2
          obtain ⟨y0, -⟩ := hcc k hk
          rw [← HYY.out] at y0
          clear hcc
          have z1 : (0 : Int) ≤ (Y.n : Int) := by omega
          have z2 : (Y.n : Int) ≤ (r : Int) := by have := YR.out; omega
          have z3 : (r : Int) ≤ (cp : Int) := by omega
          have z4 : (Y.n : Int) ≤ (cp : Int) := by omega
          go_simp
          go_wp2_with fail
          all_goals
            exact ⟨⟨p + Y.n, by have := HR.out; have := YR.out; omega, _, _, os ++ [⟨Y.to, A.at_⟩], ⟨rfl, LO.out.symm, rfl⟩, _, _, ⟨rfl, by have := HR.out; omega, rfl⟩, fun h => by first | (have := HR.out; omega) | (rw [show (p + Y.n) * 2 = p * 2 + Y.n * 2 by omega]), by have := HR.out; omega, by have := LO.out; omega, FIN.out, FIT4.out, HO4.out, by first | exact HT4.out | (rw [← hgL]; exact HT4.out), NE4.out, HB4.out⟩, by simp only [lenV]; omega⟩
    · have hp' : n - p = 0 := by omega
      have EQ := Lib.hid (show os = termsT x ts by
        have h := HOS.out
        rw [List.drop_eq_nil_of_le (by rw [← HN.out]; omega)] at h
        rw [← h]; simp [termsT, trm])
      rw [hp']
      clear hcp hap
      go_wp2_with fail
      go_ret
      rw [← HTS.out, ← EQ.out]
      exact ⟨_, _, _, rfl, ⟨rfl, FIT.out, own_base HO.out (Nat.le_succ _)⟩, BW.out.trans (HB.out.mono BW.out.size)⟩
end Go.Proofs.Ytejooloflcldiaa
