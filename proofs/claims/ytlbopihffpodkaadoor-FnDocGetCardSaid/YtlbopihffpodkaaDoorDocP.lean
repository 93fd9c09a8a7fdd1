/- Documents put into text, by the reference and by the program. Conditions: what is read fits the model's sizes; the library's table of powers stands. -/
import Derived.Test.YtlbopihffpodkaaDoorDocX
import Derived.Test.YtlbopihffpodkaaDoorDec
import Derived.Test.YtlbopihffpodkaaDoorDoorL
import Derived.Test.YtlbopihffpodkaaDoorQuiet
import Derived.Lib.AppendIntMem
namespace Go.Proofs.YtlbopihffpodkaaDoor
set_option maxRecDepth 100000
open Go.RowKit Go.Sort
/-- What is at hand, and the pieces behind it. -/
def accB (h : ByteArray) (L : Nat → ByteArray) : Nat → ByteArray
  | 0 => h
  | k + 1 => accB h L k ++ L k
theorem accB_size {h : ByteArray} {L : Nat → ByteArray} {c : Nat} : ∀ k, (∀ j, j < k → (L j).size ≤ c) → (accB h L k).size ≤ h.size + k * c := by
  intro k
  induction k with
  | zero => intro _; simp [accB]
  | succ k ih =>
    intro hj
    have h1 := ih fun j h => hj j (by omega)
    have h2 := hj k (by omega)
    rw [accB, ByteArray.size_append, Nat.succ_mul]
    omega
def fdLine (f : Fd) : ByteArray := (((⟨#[102, 105, 101, 108, 100, 32]⟩ ++ f.name) ++ ⟨#[32]⟩) ++ f.text) ++ ⟨#[10]⟩
def adLine (f : Ad) : ByteArray := (((⟨#[110, 117, 109, 32]⟩ ++ f.name) ++ ⟨#[32]⟩) ++ decS f.num.toNat) ++ ⟨#[10]⟩
def putH (id : Int) : ByteArray := (⟨#[100, 111, 99, 32]⟩ ++ decS id.toNat) ++ ⟨#[10]⟩
def putF (id : Int) (fs : List Fd) (k : Nat) : ByteArray := accB (putH id) (fun j => fdLine (nthD fs j)) k
def putA (id : Int) (n : Nat) (fs : List Fd) (ns : List Ad) (k : Nat) : ByteArray := accB (putF id fs n) (fun j => adLine (nthA ns j)) k
theorem putF_step (id : Int) (fs : List Fd) (k : Nat) : putF id fs (k + 1) = putF id fs k ++ fdLine (nthD fs k) := rfl
theorem putA_step (id : Int) (n : Nat) (fs : List Fd) (ns : List Ad) (k : Nat) : putA id n fs ns (k + 1) = putA id n fs ns k ++ adLine (nthA ns k) := rfl
theorem putF_left (o : ByteArray) (f : Fd) : ((((o ++ ⟨#[102, 105, 101, 108, 100, 32]⟩) ++ f.name) ++ ⟨#[32]⟩) ++ f.text) ++ ⟨#[10]⟩ = o ++ fdLine f := by
  unfold fdLine; simp only [ByteArray.append_assoc]
theorem putA_left (o : ByteArray) (f : Ad) : ((((o ++ ⟨#[110, 117, 109, 32]⟩) ++ f.name) ++ ⟨#[32]⟩) ++ decS f.num.toNat) ++ ⟨#[10]⟩ = o ++ adLine f := by
  unfold adLine; simp only [ByteArray.append_assoc]
def docPut (id : Int) (n : Nat) (fs : List Fd) (m : Nat) (ns : List Ad) : ByteArray := if docOk id n fs m ns then putA id n fs ns m else ⟨#[]⟩
/-- What is known of a document that is so. -/
structure OkB (id : Int) (n : Nat) (fs : List Fd) (m : Nat) (ns : List Ad) : Prop where
  id0 : 1 ≤ id
  id1 : id ≤ 9999
  n3 : n ≤ 3
  m3 : m ≤ 3
  name : ∀ k, k < n → (nthD fs k).name.size ≤ 12
  text : ∀ k, k < n → (nthD fs k).text.size ≤ 160
  nam2 : ∀ k, k < m → (nthA ns k).name.size ≤ 12
  num0 : ∀ k, k < m → 0 ≤ (nthA ns k).num
  num1 : ∀ k, k < m → (nthA ns k).num ≤ 999999999
theorem docOk_known {id : Int} {n m : Nat} {fs : List Fd} {ns : List Ad} (h : docOk id n fs m ns = true) : OkB id n fs m ns := by
  simp only [docOk, Bool.and_eq_true, decide_eq_true_eq, idOk] at h
  obtain ⟨⟨⟨⟨⟨h1, h2⟩, h3⟩, h4⟩, h5⟩, h6⟩ := h
  have F := fun k hk => allN_iff.1 h5 k hk
  have A := fun k hk => allN_iff.1 h6 k hk
  simp only [fdAt, adAt, wordOk, textOk, numOk, Bool.and_eq_true, decide_eq_true_eq] at F A
  exact ⟨h1, h2, h3, h4, fun k hk => (F k hk).1.1.2.2, fun k hk => (F k hk).1.2.2, fun k hk => (A k hk).1.1.2.2, fun k hk => (A k hk).1.2.1, fun k hk => (A k hk).1.2.2⟩
theorem OkB.fsize {id : Int} {n m : Nat} {fs : List Fd} {ns : List Ad} (h : OkB id n fs m ns) {k : Nat} (hk : k ≤ n) : (putF id fs k).size ≤ 20000 := by
  have a := accB_size (h := putH id) (L := fun j => fdLine (nthD fs j)) (c := 180) k fun j hj => by
    have h1 := h.name j (by omega)
    have h2 := h.text j (by omega)
    simp only [fdLine, ByteArray.size_append]
    show 6 + _ + 1 + _ + 1 ≤ 180
    omega
  have b : (putH id).size ≤ 10010 := by
    simp only [putH, ByteArray.size_append]
    have := decS_len id.toNat
    have := h.id1
    show 4 + _ + 1 ≤ _
    omega
  have := h.n3
  have : k * 180 ≤ 3 * 180 := Nat.mul_le_mul_right _ (by omega)
  unfold putF
  omega
theorem OkB.asize {id : Int} {n m : Nat} {fs : List Fd} {ns : List Ad} (h : OkB id n fs m ns) {k : Nat} (hk : k ≤ m) : (putA id n fs ns k).size ≤ 10000000000 := by
  have a := accB_size (h := putF id fs n) (L := fun j => adLine (nthA ns j)) (c := 1000000100) k fun j hj => by
    have h1 := h.nam2 j (by omega)
    have h2 := h.num1 j (by omega)
    have h3 := decS_len (nthA ns j).num.toNat
    simp only [adLine, ByteArray.size_append]
    show 4 + _ + 1 + _ + 1 ≤ 1000000100
    omega
  have b := h.fsize (Nat.le_refl n)
  have := h.m3
  have : k * 1000000100 ≤ 3 * 1000000100 := Nat.mul_le_mul_right _ (by omega)
  unfold putA
  omega
theorem Itoa_any (x : Int) (h0 : 0 ≤ x) (h1 : x ≤ 999999999) (w : World) (ht : Lib.TabIs Tryd.prog w "internal/strconv.uint64pow10" .u64 Lib.pow10Tab) :
    Calls Tryd.prog 23 #[.int .i64 x] w fun e w' => e = .returned (.string (decS x.toNat)) ∧ Below w.heap.size w w' := by
  refine (Tryd.strconv_Itoa x (by omega) (by omega) w ht).mono ?_
  rintro e w' ⟨rfl, k, os, rfl⟩
  refine ⟨?_, below_regrown w (w.drewN k).drawn os⟩
  obtain ⟨u, rfl⟩ : ∃ u : Nat, x = (u : Int) := ⟨x.toNat, by omega⟩
  rw [Lib.itoa_nonneg]
  rfl
theorem l1Dec_int (x : Int) (h0 : 0 ≤ x) (h1 : x ≤ 999999999) (w : World) :
    Calls Tryd.prog 52 #[.int .i64 x] w fun e w' => e = .returned (.string (decS x.toNat)) ∧ Below w.heap.size w w' := by
  obtain ⟨u, rfl⟩ : ∃ u : Nat, x = (u : Int) := ⟨x.toNat, by omega⟩
  exact l1Dec_any u w (by omega)
set_option maxHeartbeats 4000000 in
theorem l6Put_any (id : Int) (a : Option Addr) (n c : Nat) (fs : List Fd) (b : Option Addr) (m d : Nat) (ns : List Ad) (w : World) (hx : Flds w a n fs) (hy : Atts w b m ns) (ho : OkB id n fs m ns) :
    Calls Tryd.prog 25 #[docV id a n c b m d] w fun e w' => e = .returned (.string (putA id n fs ns m)) ∧ Below w.heap.size w w' := by
  have HX := Lib.hid hx; clear hx
  have HY := Lib.hid hy; clear hy
  have HO := Lib.hid ho; clear ho
  have hn := HO.out.n3
  have hm := HO.out.m3
  have hl1 : (decS id.toNat).size ≤ 10000 := by have := decS_len id.toNat; have := HO.out.id1; omega
  unfold docV
  go_enter Tryd.func25, Tryd.ntmps25
  go_wp2_with fail
  have BW : Hid (Below w.heap.size w (w.alloc (.cells #[.int .i64 id, .slice a n c, .slice b m d] 26))) := (Below.refl _ _).alloc (Nat.le_refl _) _
  have c0 : Hid ((w.alloc (.cells #[.int .i64 id, .slice a n c, .slice b m d] 26)).cell? ⟨w.heap.size, 0, none⟩ = some (.int .i64 id)) := World.cell?_alloc_at _ _ _ _ rfl
  have c1 : Hid ((w.alloc (.cells #[.int .i64 id, .slice a n c, .slice b m d] 26)).cell? ⟨w.heap.size, 1, none⟩ = some (.slice a n c)) := World.cell?_alloc_at _ _ _ _ rfl
  have c2 : Hid ((w.alloc (.cells #[.int .i64 id, .slice a n c, .slice b m d] 26)).cell? ⟨w.heap.size, 2, none⟩ = some (.slice b m d)) := World.cell?_alloc_at _ _ _ _ rfl
  have hsz : Hid (w.heap.size < (w.alloc (.cells #[.int .i64 id, .slice a n c, .slice b m d] 26)).heap.size) := by show _ < _; simp
  have X0 := Lib.hid (HX.out.below BW.out)
  have Y0 := Lib.hid (HY.out.below BW.out)
  generalize w.alloc (.cells #[.int .i64 id, .slice a n c, .slice b m d] 26) = W0 at *
  refine (l1Dec_int _ (by have := HO.out.id0; omega) (by have := HO.out.id1; omega) _).mono ?_
  rintro e w1 ⟨rfl, hb1⟩
  have B1 := Lib.hid hb1; clear hb1
  go_wp2_with fail
  go_loopw [3, 4] (fun o i wr => ∃ k : Nat, k ≤ n ∧ i = .int .i64 k ∧ o = .string (putF id fs k) ∧ Below W0.heap.size W0 wr) (fun _ i _ => n - (intOf i).toNat)
  case atStart => exact ⟨0, Nat.zero_le _, rfl, rfl, B1.out⟩
  case round =>
    obtain ⟨k, hk, rfl, rfl, hb⟩ := hrel
    have HB := Lib.hid hb; clear hb
    have e1 := (HB.out.cell hsz.out).trans c1.out
    have e2 := Lib.hid ((HB.out.cell hsz.out).trans c2.out)
    have hS := HO.out.fsize hk
    by_cases hlt : k < n
    · obtain ⟨g, off, rfl, hc⟩ := (X0.out.below HB.out).pos hlt
      obtain ⟨x0, x1⟩ := hc k hlt
      have z0 := HO.out.name k hlt
      have z1 := HO.out.text k hlt
      clear hc
      go_wp2_with fail
      go_quiet (fail)
      go_wp2_with fail
      go_roundw
      case rel => exact ⟨k + 1, by omega, by go_num, vstr (by rw [putF_left]; rfl), below_drewN HB.out _⟩
      case measure => simp [intOf]; omega
    · obtain rfl : k = n := by omega
      go_wp2_with fail
      go_loopw [3, 5] (fun o i wr => ∃ j : Nat, j ≤ m ∧ i = .int .i64 j ∧ o = .string (putA id k fs ns j) ∧ Below W0.heap.size W0 wr) (fun _ i _ => m - (intOf i).toNat)
      case atStart => exact ⟨0, Nat.zero_le _, rfl, rfl, HB.out⟩
      case round =>
        clear hS
        obtain ⟨j, hj, rfl, rfl, hb⟩ := hrel
        have HC := Lib.hid hb; clear hb
        have f2 := (HC.out.cell hsz.out).trans c2.out
        have hS := HO.out.asize hj
        by_cases hlt2 : j < m
        · obtain ⟨g, off, rfl, hc⟩ := (Y0.out.below HC.out).pos hlt2
          obtain ⟨x0, x1⟩ := hc j hlt2
          have z0 := HO.out.nam2 j hlt2
          have N0 := HO.out.num0 j hlt2
          have N1 := HO.out.num1 j hlt2
          have z1 : (decS (nthA ns j).num.toNat).size ≤ 1000000000 := by have := decS_len (nthA ns j).num.toNat; omega
          have v1 : (0 : Int) ≤ (j : Int) := by omega
          have v2 : (j : Int) < (m : Int) := by omega
          clear hc
          have q0 := cell_regrown x0
          have q1 := cell_regrown x1
          have q2 := cell_regrown f2
          go_wp2_with fail
          refine wp_region_quiet_below (by kernel_rfl) (by kernel_rfl) ?_
          repeat (go_big_quiet_step ((go_at_call 52; exact quiet_b fun w1 _ => l1Dec_int _ N0 N1 w1)))
          refine wpQuiet_nil ?_
          intro wq hqq
          have BQ := Lib.hid (quiet_out hqq)
          clear hqq
          clear q0 q1 q2 x0 x1 f2
          have BE := Lib.hid (HC.out.trans (BQ.out.mono HC.out.size))
          go_wp2_with fail
          go_roundw
          case rel => exact ⟨j + 1, by omega, by go_num, vstr (by rw [putA_left]; rfl), BE.out⟩
          case measure => simp [intOf]; omega
        · obtain rfl : j = m := by omega
          go_wp2_with fail
          go_ret
          exact ⟨rfl, BW.out.trans (HC.out.mono BW.out.size)⟩
theorem sDocPut_any (id : Int) (a : Option Addr) (n c : Nat) (fs : List Fd) (b : Option Addr) (m d : Nat) (ns : List Ad) (w : World) (hx : Flds w a n fs) (hy : Atts w b m ns) (hn : n ≤ maxLen) (hm : m ≤ maxLen) :
    Calls Tryd.prog 9 #[docV id a n c b m d] w fun e w' => e = .returned (.string (docPut id n fs m ns)) ∧ Below w.heap.size w w' := by
  have HX := Lib.hid hx; clear hx
  have HY := Lib.hid hy; clear hy
  have HN := Lib.hid hn; clear hn
  have HM := Lib.hid hm; clear hm
  unfold docV
  go_enter Tryd.func9, Tryd.ntmps9
  go_wp2_with fail
  have BW : Hid (Below w.heap.size w (w.alloc (.cells #[.int .i64 id, .slice a n c, .slice b m d] 26))) := (Below.refl _ _).alloc (Nat.le_refl _) _
  have c0 : Hid ((w.alloc (.cells #[.int .i64 id, .slice a n c, .slice b m d] 26)).cell? ⟨w.heap.size, 0, none⟩ = some (.int .i64 id)) := World.cell?_alloc_at _ _ _ _ rfl
  have c1 : Hid ((w.alloc (.cells #[.int .i64 id, .slice a n c, .slice b m d] 26)).cell? ⟨w.heap.size, 1, none⟩ = some (.slice a n c)) := World.cell?_alloc_at _ _ _ _ rfl
  have c2 : Hid ((w.alloc (.cells #[.int .i64 id, .slice a n c, .slice b m d] 26)).cell? ⟨w.heap.size, 2, none⟩ = some (.slice b m d)) := World.cell?_alloc_at _ _ _ _ rfl
  have hsz : Hid (w.heap.size < (w.alloc (.cells #[.int .i64 id, .slice a n c, .slice b m d] 26)).heap.size) := by show _ < _; simp
  have X0 := Lib.hid (HX.out.below BW.out)
  have Y0 := Lib.hid (HY.out.below BW.out)
  generalize w.alloc (.cells #[.int .i64 id, .slice a n c, .slice b m d] 26) = W0 at *
  refine (l6Ok_any _ _ _ _ _ _ _ _ _ _ X0.out Y0.out HN.out HM.out).mono ?_
  rintro e w1 ⟨rfl, hb1⟩
  have e0 := (hb1.cell hsz.out).trans c0.out
  have e1 := (hb1.cell hsz.out).trans c1.out
  have e2 := (hb1.cell hsz.out).trans c2.out
  have B1 := Lib.hid hb1; clear hb1
  cases hok : docOk id n fs m ns
  · go_wp2_with fail
    go_ret
    exact ⟨ret_str (by rw [docPut, hok]; rfl), BW.out.trans (B1.out.mono BW.out.size)⟩
  · have OK := Lib.hid hok; clear hok
    go_wp2_with fail
    refine (l6Put_any _ _ _ _ _ _ _ _ _ _ (X0.out.below B1.out) (Y0.out.below B1.out) (docOk_known OK.out)).mono ?_
    rintro e w2 ⟨rfl, hb2⟩
    have B2 := Lib.hid (B1.out.trans (hb2.mono B1.out.size)); clear hb2
    go_wp2_with fail
    go_ret
    exact ⟨ret_str (by rw [docPut, OK.out]; rfl), BW.out.trans (B2.out.mono BW.out.size)⟩
set_option maxHeartbeats 4000000 in
theorem DocPut_any (id : Int) (a : Option Addr) (n c : Nat) (fs : List Fd) (b : Option Addr) (m d : Nat) (ns : List Ad) (w : World) (hx : Flds w a n fs) (hy : Atts w b m ns) (hn : n ≤ maxLen) (hm : m ≤ maxLen) (ht : Lib.TabIs Tryd.prog w "internal/strconv.uint64pow10" .u64 Lib.pow10Tab) :
    Calls Tryd.prog 8 #[docV id a n c b m d] w fun e w' => e = .returned (.string (docPut id n fs m ns)) ∧ Below w.heap.size w w' := by
  have HX := Lib.hid hx; clear hx
  have HY := Lib.hid hy; clear hy
  have HN := Lib.hid hn; clear hn
  have HM := Lib.hid hm; clear hm
  have HT := Lib.hid (Lib.tabBelow_of_tabIs ht); clear ht
  unfold docV
  go_enter Tryd.func8, Tryd.ntmps8
  go_wp2_with fail
  have BW : Hid (Below w.heap.size w (w.alloc (.cells #[.int .i64 id, .slice a n c, .slice b m d] 26))) := (Below.refl _ _).alloc (Nat.le_refl _) _
  have c0 : Hid ((w.alloc (.cells #[.int .i64 id, .slice a n c, .slice b m d] 26)).cell? ⟨w.heap.size, 0, none⟩ = some (.int .i64 id)) := World.cell?_alloc_at _ _ _ _ rfl
  have c1 : Hid ((w.alloc (.cells #[.int .i64 id, .slice a n c, .slice b m d] 26)).cell? ⟨w.heap.size, 1, none⟩ = some (.slice a n c)) := World.cell?_alloc_at _ _ _ _ rfl
  have c2 : Hid ((w.alloc (.cells #[.int .i64 id, .slice a n c, .slice b m d] 26)).cell? ⟨w.heap.size, 2, none⟩ = some (.slice b m d)) := World.cell?_alloc_at _ _ _ _ rfl
  have hsz : Hid (w.heap.size < (w.alloc (.cells #[.int .i64 id, .slice a n c, .slice b m d] 26)).heap.size) := by show _ < _; simp
  have X0 := Lib.hid (HX.out.below BW.out)
  have Y0 := Lib.hid (HY.out.below BW.out)
  have T0 := Lib.hid (Lib.tabBelow_of_tabIs (HT.out _ BW.out))
  generalize w.alloc (.cells #[.int .i64 id, .slice a n c, .slice b m d] 26) = W0 at *
  refine (DocOk_any _ _ _ _ _ _ _ _ _ _ X0.out Y0.out HN.out HM.out).mono ?_
  rintro e w1 ⟨rfl, hb1⟩
  have e0 := (hb1.cell hsz.out).trans c0.out
  have e1 := (hb1.cell hsz.out).trans c1.out
  have e2 := (hb1.cell hsz.out).trans c2.out
  have B1 := Lib.hid hb1; clear hb1
  cases hok : docOk id n fs m ns
  · go_wp2_with fail
    go_ret
    exact ⟨ret_str (by rw [docPut, hok]; rfl), BW.out.trans (B1.out.mono BW.out.size)⟩
  · have OK := Lib.hid hok; clear hok
    have HO := Lib.hid (docOk_known OK.out)
    have hn := HO.out.n3
    have hm := HO.out.m3
    have hl1 : (decS id.toNat).size ≤ 10000 := by have := decS_len id.toNat; have := HO.out.id1; omega
    go_wp2_with fail
    refine (Itoa_any _ (by have := HO.out.id0; omega) (by have := HO.out.id1; omega) _ (T0.out _ B1.out)).mono ?_
    rintro e w2 ⟨rfl, hb2⟩
    have B2 := Lib.hid (B1.out.trans (hb2.mono B1.out.size)); clear hb2
    clear e0 e1 e2
    have e1 := (B2.out.cell hsz.out).trans c1.out
    go_wp2_with fail
    go_loopw [3, 19] (fun o i wr => ∃ k : Nat, k ≤ n ∧ i = .int .i64 k ∧ o = .string (putF id fs k) ∧ Below W0.heap.size W0 wr) (fun _ i _ => n - (intOf i).toNat)
    case atStart => exact ⟨0, Nat.zero_le _, rfl, rfl, B2.out⟩
    case round =>
      obtain ⟨k, hk, rfl, rfl, hb⟩ := hrel
      have HB := Lib.hid hb; clear hb
      have hS := HO.out.fsize hk
      by_cases hlt : k < n
      · obtain ⟨g, off, rfl, hc⟩ := (X0.out.below HB.out).pos hlt
        obtain ⟨x0, x1⟩ := hc k hlt
        have z0 := HO.out.name k hlt
        have z1 := HO.out.text k hlt
        have BE := Lib.hid (HB.out.alloc HB.out.size (.cells #[.string (nthD fs k).name, .string (nthD fs k).text] 49))
        clear hc
        go_wp2_with fail
        go_roundw
        case rel => exact ⟨k + 1, by omega, by go_num, rfl, BE.out⟩
        case measure => simp [intOf]; omega
      · obtain rfl : k = n := by omega
        have e2 := (HB.out.cell hsz.out).trans c2.out
        go_wp2_with fail
        go_loopw [3, 37] (fun o i wr => ∃ j : Nat, j ≤ m ∧ i = .int .i64 j ∧ o = .string (putA id k fs ns j) ∧ Below W0.heap.size W0 wr) (fun _ i _ => m - (intOf i).toNat)
        case atStart => exact ⟨0, Nat.zero_le _, rfl, rfl, HB.out⟩
        case round =>
          clear hS
          obtain ⟨j, hj, rfl, rfl, hb⟩ := hrel
          have HC := Lib.hid hb; clear hb
          have hS := HO.out.asize hj
          by_cases hlt2 : j < m
          · obtain ⟨g, off, rfl, hc⟩ := (Y0.out.below HC.out).pos hlt2
            obtain ⟨x0, x1⟩ := hc j hlt2
            have z0 := HO.out.nam2 j hlt2
            have N0 := HO.out.num0 j hlt2
            have N1 := HO.out.num1 j hlt2
            have z1 : (decS (nthA ns j).num.toNat).size ≤ 1000000000 := by have := decS_len (nthA ns j).num.toNat; omega
            clear hc
            go_wp2_with fail
            have q0 : Hid ((wr.alloc (.cells #[.string (nthA ns j).name, .int .i64 (nthA ns j).num] 51)).cell? ⟨wr.heap.size, 0, none⟩ = some (.string (nthA ns j).name)) := World.cell?_alloc_at _ _ _ _ rfl
            have q1 : Hid ((wr.alloc (.cells #[.string (nthA ns j).name, .int .i64 (nthA ns j).num] 51)).cell? ⟨wr.heap.size, 1, none⟩ = some (.int .i64 (nthA ns j).num)) := World.cell?_alloc_at _ _ _ _ rfl
            have BA := Lib.hid (HC.out.alloc HC.out.size (.cells #[.string (nthA ns j).name, .int .i64 (nthA ns j).num] 51))
            clear x0 x1
            obtain ⟨gg, hgg⟩ : ∃ gg : Nat, gg = wr.heap.size := ⟨_, rfl⟩
            rw [← hgg] at q0 q1 ⊢
            generalize wr.alloc (.cells #[.string (nthA ns j).name, .int .i64 (nthA ns j).num] 51) = W3 at *
            clear hgg
            have q2 := cell_regrown q0.out
            have q3 := cell_regrown q1.out
            refine wp_region_quiet_below (by kernel_rfl) (by kernel_rfl) ?_
            repeat (go_big_quiet_step ((go_at_call 23; exact quiet_b fun w1 hb1 => Itoa_any _ N0 N1 w1 (T0.out _ (BA.out.trans (hb1.mono BA.out.size))))))
            refine wpQuiet_nil ?_
            intro wq hqq
            have BQ := Lib.hid (quiet_out hqq)
            clear hqq
            clear q2 q3
            have BE := Lib.hid (BA.out.trans (BQ.out.mono BA.out.size))
            go_wp2_with fail
            go_roundw
            case rel => exact ⟨j + 1, by omega, by go_num, rfl, BE.out⟩
            case measure => simp [intOf]; omega
          · obtain rfl : j = m := by omega
            go_wp2_with fail
            go_ret
            exact ⟨ret_str (by rw [docPut, OK.out]; rfl), BW.out.trans (HC.out.mono BW.out.size)⟩
end Go.Proofs.YtlbopihffpodkaaDoor
