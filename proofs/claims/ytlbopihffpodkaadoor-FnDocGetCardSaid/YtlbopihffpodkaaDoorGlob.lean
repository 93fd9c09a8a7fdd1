/- The walks of patterns: which texts are patterns, and which words they have. Condition: the strings fit the model's sizes. -/
import Derived.Test.YtlbopihffpodkaaDoorWord
import Derived.Lib.Strings
namespace Go.Proofs.YtlbopihffpodkaaDoor
set_option maxRecDepth 100000
open Go.RowKit

def globB (c : Int) : Bool := wordB c || decide (c = 42) || decide (c = 63)
def globOk (s : ByteArray) : Bool := allB globB s.data.toList && decide (1 ≤ s.size ∧ s.size ≤ 12)
theorem globB_false {c : Int} : globB c = false ↔ (wordB c = false ∧ c ≠ 42 ∧ c ≠ 63) := by simp [globB, and_assoc]

/-- A pattern has a text: a star any bytes, a mark one. -/
def starM (f : List UInt8 → Bool) : List UInt8 → Bool
  | [] => f []
  | d :: s => f (d :: s) || starM f s
def globM : List UInt8 → List UInt8 → Bool
  | [], s => s.isEmpty
  | c :: p, s => if c = 42 then starM (globM p) s else
    match s with
    | [] => false
    | d :: t => (c == 63 || c == d) && globM p t

theorem oneByte (s : ByteArray) (k : Nat) (h : k < s.size) : wordOk (s.extract k (k + 1)) = wordB ((s[k]'h).toNat : Int) := by
  have e : (s.extract k (k + 1)).data.toList = [s[k]] := by
    rw [Lib.extract_data, show k + 1 - k = 1 from by omega, List.drop_eq_getElem_cons (by simpa using h)]; rfl
  have z : (s.extract k (k + 1)).size = 1 := by rw [← size_list, e]; rfl
  rw [wordOk, e, z]; simp [allB]
theorem ba_cons (s : ByteArray) (h : 0 < s.size) : s.data.toList = (s[0]'h) :: (s.extract 1 s.size).data.toList := by
  have hx : (s.extract 1 s.size).data.toList = s.data.toList.drop 1 := by rw [Lib.extract_data, List.take_of_length_le (by simp)]
  rw [hx]
  have h' : 0 < s.data.toList.length := by simpa using h
  have := List.drop_eq_getElem_cons h'
  rw [List.drop_zero] at this
  exact this
theorem ba_nil (s : ByteArray) (h : s.size = 0) : s.data.toList = [] := List.eq_nil_of_length_eq_zero (by simpa using h)
theorem ba_empty (s : ByteArray) (h : s.size = 0) : s.toList = [] := by rw [ByteArray.toList_eq, ba_nil s h]
theorem ba_empty_f (s : ByteArray) (h : 0 < s.size) : s.toList.isEmpty = false := by rw [ByteArray.toList_eq, ba_cons s h]; rfl
theorem ba_ne (s : ByteArray) (h : 0 < s.size) : ¬ s.toList = [] := by rw [ByteArray.toList_eq, ba_cons s h]; simp
theorem u8_eq (a b : UInt8) : (a = b) ↔ ((a.toNat : Int) = (b.toNat : Int)) := by rw [← UInt8.toNat_inj]; omega

abbrev gl (p s : ByteArray) : Bool := globM p.data.toList s.data.toList
theorem gl_nil {p s : ByteArray} (hp : p.size = 0) : gl p s = s.toList.isEmpty := by rw [gl, ba_nil p hp, ByteArray.toList_eq]; rfl
theorem gl_star {p s : ByteArray} (hp : 0 < p.size) (hs : 0 < s.size) (h : ((p[0]'hp).toNat : Int) = 42) : gl p s = (gl (p.extract 1 p.size) s || gl p (s.extract 1 s.size)) := by
  have e : p[0]'hp = 42 := (u8_eq _ _).2 (by rw [h]; rfl)
  rw [gl, gl, gl, ba_cons p hp, ba_cons s hs, e]; simp [globM, starM]
theorem gl_star_nil {p s : ByteArray} (hp : 0 < p.size) (hs : s.size = 0) (h : ((p[0]'hp).toNat : Int) = 42) : gl p s = gl (p.extract 1 p.size) s := by
  have e : p[0]'hp = 42 := (u8_eq _ _).2 (by rw [h]; rfl)
  rw [gl, gl, ba_cons p hp, ba_nil s hs, e]; simp [globM, starM]
theorem gl_none {p s : ByteArray} (hp : 0 < p.size) (hs : s.size = 0) (h : ((p[0]'hp).toNat : Int) ≠ 42) : gl p s = false := by
  have e : p[0]'hp ≠ 42 := fun e => h (by rw [e]; rfl)
  rw [gl, ba_cons p hp, ba_nil s hs]; simp [globM, e]
theorem gl_step {p s : ByteArray} (hp : 0 < p.size) (hs : 0 < s.size) (h : ((p[0]'hp).toNat : Int) ≠ 42) (h1 : ((p[0]'hp).toNat : Int) = 63 ∨ ((p[0]'hp).toNat : Int) = ((s[0]'hs).toNat : Int)) : gl p s = gl (p.extract 1 p.size) (s.extract 1 s.size) := by
  have e : p[0]'hp ≠ 42 := fun e => h (by rw [e]; rfl)
  have e1 : (p[0]'hp == 63 || p[0]'hp == s[0]'hs) = true := by
    simp only [Bool.or_eq_true, beq_iff_eq]; rw [u8_eq, u8_eq]; exact h1
  rw [gl, gl, ba_cons p hp, ba_cons s hs]; simp only [globM, if_neg e, e1, Bool.true_and]
theorem gl_miss {p s : ByteArray} (hp : 0 < p.size) (hs : 0 < s.size) (h : ((p[0]'hp).toNat : Int) ≠ 42) (h1 : ((p[0]'hp).toNat : Int) ≠ 63) (h2 : ((p[0]'hp).toNat : Int) ≠ ((s[0]'hs).toNat : Int)) : gl p s = false := by
  have e : p[0]'hp ≠ 42 := fun e => h (by rw [e]; rfl)
  have e1 : (p[0]'hp == 63 || p[0]'hp == s[0]'hs) = false := by
    simp only [Bool.or_eq_false_iff, beq_eq_false_iff_ne, ne_eq]; rw [u8_eq, u8_eq]; exact ⟨h1, h2⟩
  rw [gl, ba_cons p hp, ba_cons s hs]; simp only [globM, if_neg e, e1, Bool.false_and]
theorem ext1_size (s : ByteArray) : (s.extract 1 s.size).size = s.size - 1 := by simp only [ByteArray.size_extract]; omega

def globHasB (p s : ByteArray) : Bool := globOk p && wordOk s && gl p s
end Go.Proofs.YtlbopihffpodkaaDoor
