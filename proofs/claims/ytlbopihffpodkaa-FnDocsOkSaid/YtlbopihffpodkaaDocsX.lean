/- The program's and the reference's answers on documents are the same. Conditions: what is read fits the model's sizes. -/
import Derived.Test.YtlbopihffpodkaaDocM
import Derived.Test.YtlbopihffpodkaaDocT
import Derived.Test.YtlbopihffpodkaaOpenL
namespace Go.Proofs.Ytlbopihffpodkaa
open Go.RowKit
theorem docsOk_new {w : World} {B n : Nat} {xs ys : List DocA} (h : ∀ j, j < n → DNew w B (nthX xs j) (nthX ys j)) : docsOk n xs = docsOk n ys := by
  unfold docsOk
  rw [allN_congr (q := dcAt ys) fun j hj => ?_]
  have h1 := h j hj
  unfold dcAt
  rw [h1.id, h1.n, h1.fs, h1.m, h1.ns]
  by_cases h0 : j = 0
  · subst h0; rfl
  · rw [(h (j - 1) (by omega)).id]
theorem sDocsOk_any (a : Option Addr) (n c : Nat) (xs : List DocA) (w : World) (hx : Docs w a n xs) (hn : n ≤ maxLen) :
    Calls Try.prog 19 #[.slice a n c] w fun e w' => e = .returned (.bool (docsOk n xs)) ∧ Below w.heap.size w w' := by
  have H := Lib.hid (l6Docs_any a n c xs w hx hn)
  clear hx
  go_enter Try.func19, Try.ntmps19
  go_wp2_with fail
  refine H.out.mono ?_
  rintro e w' ⟨rfl, hb⟩
  go_wp2_with fail
  go_ret
  exact ⟨rfl, hb⟩
set_option maxHeartbeats 1000000 in
theorem xDocsOk_any (a : Option Addr) (n c : Nat) (xs : List DocA) {w : World} (hx : Docs w a n xs) (hn : n ≤ maxLen) :
    Calls Try.prog 9 #[.slice a n c] w fun e w' => e = .returned (.bool true) ∧ Below w.heap.size w w' := by
  have HX := Lib.hid hx; clear hx
  have HN := Lib.hid hn; clear hn
  go_enter Try.func9, Try.ntmps9
  go_wp2_with fail
  refine (szDocS_any _ _ _ _ 1048576 _ HX.out HN.out (by omega) (by omega)).mono ?_
  rintro e w1 ⟨r, rfl, hr0, hr1, hr2, hb⟩
  have B1 := Lib.hid hb; clear hb
  have R2 := Lib.hid hr2; clear hr2
  by_cases hneg : r < 0
  · go_wp2_with fail
    go_ret
    exact ⟨rfl, B1.out⟩
  · obtain ⟨hn1, hs⟩ := R2.out (by omega)
    have HS := Lib.hid hs; clear hs
    have hn2 : n ≤ 1048576 := by omega
    have HN2 := Lib.hid hn2
    clear hn1 hn2
    go_wp2_with fail
    refine (toDocS_any _ _ _ _ _ (HX.out.below B1.out) HN2.out HS.out).mono ?_
    rintro e w2 ⟨ys2, rfl, hd2, hq2, hb⟩
    have B2 := Lib.hid (B1.out.trans (hb.mono B1.out.size)); clear hb
    have D2 := Lib.hid hd2; clear hd2
    have E2 := Lib.hid (docsOk_new hq2); clear hq2
    go_wp2_with fail
    refine (sDocsOk_any _ _ _ _ _ D2.out HN.out).mono ?_
    rintro e w3 ⟨rfl, hb⟩
    rw [← E2.out]
    have B3 := Lib.hid (B2.out.trans (hb.mono B2.out.size)); clear hb
    go_wp2_with fail
    refine (toDocS_any _ _ _ _ _ (HX.out.below B3.out) HN2.out HS.out).mono ?_
    rintro e w4 ⟨ys4, rfl, hd4, hq4, hb⟩
    have B4 := Lib.hid (B3.out.trans (hb.mono B3.out.size)); clear hb
    have D4 := Lib.hid hd4; clear hd4
    have E4 := Lib.hid (docsOk_new hq4)
    have Q4 := Lib.hid hq4; clear hq4
    go_wp2_with fail
    refine (DocsOk_any _ _ _ _ _ D4.out HN.out).mono ?_
    rintro e w5 ⟨rfl, hb⟩
    rw [← E4.out]
    have D5 := Lib.hid (D4.out.below hb)
    have B5 := Lib.hid (B4.out.trans (hb.mono B4.out.size)); clear hb
    go_wp2_with fail
    refine (toDocS_any _ _ _ _ _ (HX.out.below B5.out) HN2.out HS.out).mono ?_
    rintro e w6 ⟨ys6, rfl, hd6, hq6, hb⟩
    have D56 := Lib.hid (D5.out.below hb)
    have B6 := Lib.hid (B5.out.trans (hb.mono B5.out.size)); clear hb
    have D6 := Lib.hid hd6; clear hd6
    have AL : Hid (Alike ys4 ys6 n) := fun j hj => by
      have h4 := Q4.out j hj
      have h6 := hq6 j hj
      exact ⟨h4.id.symm.trans h6.id, h4.n.symm.trans h6.n, h4.m.symm.trans h6.m, h4.fs.symm.trans h6.fs, h4.ns.symm.trans h6.ns⟩
    clear hq6
    go_wp2_with fail
    refine (eqDocS_same _ _ _ _ _ _ _ _ D56.out D6.out AL.out HN.out).mono ?_
    rintro e w7 ⟨rfl, hb⟩
    have B7 := Lib.hid (B6.out.trans (hb.mono B6.out.size)); clear hb
    go_wp2_with fail
    go_ret
    exact ⟨rfl, B7.out⟩
end Go.Proofs.Ytlbopihffpodkaa
