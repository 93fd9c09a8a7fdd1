/- What the library's cuts, splits and numbers give back of what was joined, in plain Lean. No condition. -/
import Derived.Test.YtlbopihffpodkaaDoorCut
import Derived.Test.YtlbopihffpodkaaDoorNum
import Derived.Lib.SplitLaws
import Derived.Lib.AtoiAllCases
namespace Go.Proofs.YtlbopihffpodkaaDoor
set_option maxRecDepth 100000
open Go.RowKit
def atoiV (s : ByteArray) : Int := match Lib.atoiAll s.data.toList with
  | .ok v => v
  | Lib.NumEnd.syntax => 0
  | .range => Lib.atoiSat s.data.toList
def cut1 (s : ByteArray) : ByteArray := ⟨(Lib.cut s.data.toList [32]).1.toArray⟩
def cut2 (s : ByteArray) : ByteArray := ⟨(Lib.cut s.data.toList [32]).2.1.toArray⟩
def lines (s : ByteArray) : List ByteArray := Lib.splitB ⟨#[10]⟩ 0 (Lib.countB s ⟨#[10]⟩) s
def mkB (l : List UInt8) : ByteArray := ⟨l.toArray⟩
theorem mkB_list (l : List UInt8) : (mkB l).data.toList = l := by simp [mkB]
theorem mkB_inj {a b : List UInt8} (h : mkB a = mkB b) : a = b := by rw [← mkB_list a, h, mkB_list]
theorem idx_hit (c : UInt8) : ∀ (a r : List UInt8), c ∉ a → Lib.index (a ++ c :: r) [c] = (a.length : Int)
  | [], r, _ => by rw [List.nil_append, Lib.index]; simp [List.isPrefixOf]
  | b :: l, r, h => by
    have hb : b ≠ c := fun e => h (by simp [e])
    have ih := idx_hit c l r (fun e => h (List.mem_cons_of_mem _ e))
    have hp : ([c] : List UInt8).isPrefixOf (b :: (l ++ c :: r)) = false := by simp [List.isPrefixOf, Ne.symm hb]
    have h1 : ((l.length : Int) == -1) = false := by rw [beq_eq_false_iff_ne]; omega
    rw [List.cons_append, Lib.index, hp, ih, h1]
    simp
theorem idx_miss (c : UInt8) : ∀ (a : List UInt8), c ∉ a → Lib.index a [c] = -1
  | [], _ => by rw [Lib.index]; simp
  | b :: l, h => by
    have hb : b ≠ c := fun e => h (by simp [e])
    have ih := idx_miss c l (fun e => h (List.mem_cons_of_mem _ e))
    have hp : ([c] : List UInt8).isPrefixOf (b :: l) = false := by simp [List.isPrefixOf, Ne.symm hb]
    rw [Lib.index, hp, ih]
    simp
theorem cut_joined (a r : List UInt8) (hn : 32 ∉ a) : cut1 (mkB (a ++ 32 :: r)) = mkB a ∧ cut2 (mkB (a ++ 32 :: r)) = mkB r := by
  unfold cut1 cut2 Lib.cut
  rw [mkB_list, idx_hit 32 a r hn, if_pos (by omega)]
  constructor
  · simp [mkB]
  · simp [mkB]
theorem cut_none (a : List UInt8) (hn : 32 ∉ a) : cut1 (mkB a) = mkB a ∧ cut2 (mkB a) = mkB [] := by
  unfold cut1 cut2 Lib.cut
  rw [mkB_list, idx_miss 32 a hn, if_neg (by omega)]
  exact ⟨rfl, rfl⟩
/-- Rows, each with its end. -/
def joinL (R : List (List UInt8)) : List UInt8 := R.flatMap (· ++ [10])
theorem joinL_cons (a : List UInt8) (R : List (List UInt8)) : joinL (a :: R) = a ++ 10 :: joinL R := by simp [joinL]
theorem joinL_app (R S : List (List UInt8)) : joinL (R ++ S) = joinL R ++ joinL S := by simp [joinL]
theorem count_join : ∀ (R : List (List UInt8)), (∀ a ∈ R, 10 ∉ a) → Lib.count (joinL R) [10] = R.length := by
  intro R h
  rw [Lib.count_one]
  induction R with
  | nil => rfl
  | cons a R ih =>
    have h1 := h a (by simp)
    rw [joinL_cons, List.count_append, List.count_cons_self, ih (fun x hx => h x (List.mem_cons_of_mem _ hx)), List.count_eq_zero.2 h1, List.length_cons]
    omega
theorem split_join : ∀ (R : List (List UInt8)), (∀ a ∈ R, 10 ∉ a) → Lib.splitK [10] 0 R.length (joinL R) = R ++ [[]] := by
  intro R h
  induction R with
  | nil => rfl
  | cons a R ih =>
    have h1 := h a (by simp)
    have hi := idx_hit 10 a (joinL R) h1
    have h2 : ((a.length : Int) == -1) = false := by rw [beq_eq_false_iff_ne]; omega
    rw [List.length_cons, joinL_cons, Lib.splitK, hi, h2]
    have e1 : (a ++ 10 :: joinL R).take ((a.length : Int).toNat + 0) = a := by simp
    have e2 : (a ++ 10 :: joinL R).drop ((a.length : Int).toNat + [(10 : UInt8)].length) = joinL R := by
      have : a ++ 10 :: joinL R = (a ++ [10]) ++ joinL R := by simp
      rw [this, List.drop_left' (by simp)]
    rw [e1, e2, ih (fun x hx => h x (List.mem_cons_of_mem _ hx))]
    rfl
theorem lines_join (R : List (List UInt8)) (h : ∀ a ∈ R, 10 ∉ a) : lines (mkB (joinL R)) = R.map mkB ++ [mkB []] := by
  have e := Lib.splitB_data ⟨#[10]⟩ 0 (Lib.countB (mkB (joinL R)) ⟨#[10]⟩) (mkB (joinL R))
  have hc : Lib.countB (mkB (joinL R)) ⟨#[10]⟩ = R.length := by
    show Lib.count (mkB (joinL R)).data.toList [10] = _
    rw [mkB_list, count_join R h]
  have h2 : Lib.splitK [10] 0 R.length (mkB (joinL R)).data.toList = R ++ [[]] := by rw [mkB_list, split_join R h]
  unfold lines
  rw [hc] at e ⊢
  rw [show (⟨#[10]⟩ : ByteArray).data.toList = [10] from rfl, h2] at e
  rw [← mk_lists (Lib.splitB ⟨#[10]⟩ 0 R.length (mkB (joinL R))), e, List.map_append]
  rfl
theorem cutA_join : ∀ (R : List (List UInt8)) (m : Nat), (∀ a ∈ R, 10 ∉ a) → R.length ≤ m → cutA 10 [] (joinL R) m = R ++ [[]] := by
  intro R
  induction R with
  | nil => intro m _ _; exact cutA_miss 10 [] m (by simp)
  | cons a R ih =>
    intro m h hm
    cases m with
    | zero => simp at hm
    | succ m =>
      have hm' : R.length + 1 ≤ m + 1 := hm
      rw [joinL_cons, cutA_hit 10 a _ m (h a (by simp)), ih m (fun x hx => h x (List.mem_cons_of_mem _ hx)) (by omega)]
      rfl
theorem cutS_join (R : List (List UInt8)) (m : Nat) (h : ∀ a ∈ R, 10 ∉ a) (hm : R.length ≤ m) : cutS (mkB (joinL R)) 10 m = R.map mkB ++ [mkB []] := by
  unfold cutS
  rw [mkB_list, cutA_join R m h hm, List.map_append]
  rfl
theorem cutS_two (a b c : List UInt8) (ha : 32 ∉ a) (hb : 32 ∉ b) : cutS (mkB (a ++ 32 :: (b ++ 32 :: c))) 32 2 = [mkB a, mkB b, mkB c] := by
  unfold cutS
  rw [mkB_list, cutA_hit 32 a _ 1 ha, cutA_hit 32 b _ 0 hb, cutA_end]
  rfl
theorem cutS_one (a b : List UInt8) (ha : 32 ∉ a) (hb : 32 ∉ b) : cutS (mkB (a ++ 32 :: b)) 32 2 = [mkB a, mkB b] := by
  unfold cutS
  rw [mkB_list, cutA_hit 32 a _ 1 ha, cutA_miss 32 b _ hb]
  rfl
theorem pu_ok : ∀ (l : List UInt8) (acc k : Nat), allB digB l = true → acc < 10 ^ k → l.length + k ≤ 18 → Lib.parseUint10 acc l = .ok (l.foldl (fun n c => n * 10 + (c.toNat - 48)) acc)
  | [], _, _, _, _, _ => rfl
  | c :: r, acc, k, hd, ha, hl => by
    have hl' : r.length + 1 + k ≤ 18 := by simpa using hl
    have hp : 10 ^ k ≤ 10 ^ 17 := Nat.pow_le_pow_right (by decide) (by omega)
    have e17 : (10 : Nat) ^ 17 = 100000000000000000 := by decide
    have h2 : digB (c.toNat : Int) = true ∧ allB digB r = true := by simpa [allB] using hd
    have h3 := of_decide_eq_true h2.1
    have h4 : 48 ≤ c.toNat ∧ c.toNat ≤ 57 := by omega
    simp only [Lib.parseUint10, if_pos h4]
    rw [if_neg (by omega), if_neg (by omega)]
    exact pu_ok r _ (k + 1) h2.2 (by rw [Nat.pow_succ]; omega) (by omega)
theorem atoiV_dec {n : Nat} (h : n ≤ 999999999) : atoiV (decS n) = (n : Int) := by
  obtain ⟨i1, i2, i3, i4⟩ := dec_digs n
  have hl := dec_len 9 n (by omega) (by omega)
  have hp := pu_ok (Lib.decDigits n) 0 0 i1 (by decide) (by omega)
  have hv : (Lib.decDigits n).foldl (fun n c => n * 10 + (c.toNat - 48)) 0 = n := i2
  rw [hv] at hp
  have e : (decS n).data.toList = Lib.decDigits n := by simp [decS]
  unfold atoiV
  rw [e]
  revert i1 i3 hp
  cases Lib.decDigits n with
  | nil => intro _ h; simp at h
  | cons c r =>
    intro i1 _ hp
    have h2 : digB (c.toNat : Int) = true ∧ allB digB r = true := by simpa [allB] using i1
    have h3 := of_decide_eq_true h2.1
    rw [Lib.atoiAll_plain c r (by omega) (by omega)]
    have : Lib.parseMag (c :: r) = .ok n := by unfold Lib.parseMag; rw [if_neg (by simp)]; exact hp
    rw [this]
    simp only [Lib.signless]
    rw [if_neg (by omega)]
end Go.Proofs.YtlbopihffpodkaaDoor
