/- The library's cuts and splits, as the program uses them. Condition: the library's variables hold what they are laid to hold. -/
import Derived.Test.YtlbopihffpodkaaDoorEnv
import Derived.Test.YtlbopihffpodkaaDoorRead
import Derived.Lib.SplitLaws
namespace Go.Proofs.YtlbopihffpodkaaDoor
set_option maxRecDepth 100000
open Go.RowKit Go.Sort
theorem cut1_size (s : ByteArray) : (cut1 s).size ≤ s.size := by
  show (Lib.cut s.data.toList [32]).1.toArray.size ≤ _
  unfold Lib.cut
  split
  · simp; exact Nat.min_le_right _ _
  · simp
theorem cut2_size (s : ByteArray) : (cut2 s).size ≤ s.size := by
  show (Lib.cut s.data.toList [32]).2.1.toArray.size ≤ _
  unfold Lib.cut
  split
  · simp
  · simp
theorem Cut_any (s : ByteArray) (hs : s.size < 4294967281) (w : World) (he : Env w) :
    Calls Tryd.prog 54 #[.string s, .string ⟨#[32]⟩] w fun e w' => ∃ b, e = .returned (.tuple #[.string (cut1 s), .string (cut2 s), .bool b]) ∧ Below w.heap.size w w' := by
  obtain ⟨m, hm⟩ := he.len
  refine (Tryd.strings_Cut s ⟨#[32]⟩ m w hs hm).mono ?_
  rintro e w' ⟨rfl, n, rfl⟩
  exact ⟨_, rfl, below_drewN (Below.refl _ _) n⟩
theorem split_size (sep : ByteArray) : ∀ (k : Nat) (s : ByteArray), ∀ y ∈ Lib.splitB sep 0 k s, y.size ≤ s.size := by
  intro k
  induction k with
  | zero => intro s y hy; rw [Lib.splitB_zero, List.mem_singleton] at hy; subst hy; exact Nat.le_refl _
  | succ k ih =>
    intro s y hy
    rw [Lib.splitB] at hy
    split at hy
    · rw [List.mem_singleton] at hy; subst hy; exact Nat.le_refl _
    · rcases List.mem_cons.1 hy with rfl | h
      · rw [ByteArray.size_extract]; omega
      · have := ih _ y h
        rw [ByteArray.size_extract] at this
        omega
theorem lines_size (s : ByteArray) (j : Nat) : (nthS (lines s) j).size ≤ s.size := by
  unfold nthS lines
  cases hj : (Lib.splitB ⟨#[10]⟩ 0 (Lib.countB s ⟨#[10]⟩) s)[j]? with
  | none => simp
  | some y => exact split_size _ _ s y (List.mem_of_getElem? hj)
theorem lines_len (s : ByteArray) : (lines s).length = Lib.countB s ⟨#[10]⟩ + 1 := Lib.splitB_all ⟨#[10]⟩ (by decide) 0 _ s rfl
theorem lines_most (s : ByteArray) : (lines s).length ≤ s.size + 1 := by
  rw [lines_len]; have := Lib.countB_le ⟨#[10]⟩ (by decide) s.size s (Nat.le_refl _); omega
theorem Split_any (s : ByteArray) (hs : s.size < 4294967281) (w : World) (he : Env w) :
    Calls Tryd.prog 30 #[.string s, .string ⟨#[10]⟩] w fun e w' => e = .returned (.slice (some ⟨w.heap.size, 0, none⟩) (lines s).length (lines s).length) ∧ OwnStrs w' w.heap.size (some ⟨w.heap.size, 0, none⟩) (lines s).length (lines s).length (lines s) ∧ Below w.heap.size w w' := by
  obtain ⟨m, hm⟩ := he.len
  refine (Tryd.strings_Split s ⟨#[10]⟩ m w hs hm (by decide)).mono ?_
  rintro e w' ⟨rfl, rfl⟩
  refine ⟨by rw [lines_len], ⟨rfl, fun j => Nat.le_trans (lines_size s j) (by unfold maxLen; omega), ?_⟩, (Below.refl _ _).alloc (Nat.le_refl _) _⟩
  have h := World.ownsRow_lit (base := w.heap.size) (e := 9) (size := 1) w ((lines s).map Value.string).toArray (lines s).length (Nat.le_refl _) (by have := lines_most s; unfold maxLen; omega) (by simp)
  have e : ((lines s).map Value.string).toArray.toList = (lines s).map Value.string := by simp
  rw [e, tab_strs] at h
  show (w.alloc (.cells ((lines s).map Value.string).toArray 9)).ownsRow _ _ _ _ _ _
  rw [tab_strs]
  exact h
end Go.Proofs.YtlbopihffpodkaaDoor
