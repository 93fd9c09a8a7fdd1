/- What the library's variables hold, and the library's functions by it. Condition: the variables hold what they are laid to hold. -/
import Derived.Test.YtlbopihffpodkaaDoorDocP
import Derived.Test.YtlbopihffpodkaaDoorPl
namespace Go.Proofs.YtlbopihffpodkaaDoor
set_option maxRecDepth 100000
open Go.RowKit Go.Sort
/-- The library's variables: the table of powers, a length, two errors. -/
structure Env (w : World) : Prop where
  tab : Lib.TabIs Tryd.prog w "internal/strconv.uint64pow10" .u64 Lib.pow10Tab
  len : ∃ m, w.cell? ⟨1, 0, none⟩ = some (.int .i64 m)
  syn : ∃ ev, w.cell? ⟨2, 0, none⟩ = some ev ∧ (ev = .nilIface ∨ ∃ te pe, ev = .iface te pe)
  ran : ∃ ev, w.cell? ⟨3, 0, none⟩ = some ev ∧ (ev = .nilIface ∨ ∃ te pe, ev = .iface te pe)
theorem Env.below {w w' : World} (h : Env w) (hb : Below w.heap.size w w') : Env w' := by
  obtain ⟨m, hm⟩ := h.len
  obtain ⟨e1, h1, k1⟩ := h.syn
  obtain ⟨e2, h2, k2⟩ := h.ran
  exact ⟨Lib.tabBelow_of_tabIs h.tab _ hb, ⟨m, (hb.cell (World.block_lt_of_cell? w _ hm)).trans hm⟩, ⟨e1, (hb.cell (World.block_lt_of_cell? w _ h1)).trans h1, k1⟩, ⟨e2, (hb.cell (World.block_lt_of_cell? w _ h2)).trans h2, k2⟩⟩
theorem Atoi_any (s : ByteArray) (hs : s.size ≤ 281474976710656) (w : World) (he : Env w) :
    Calls Tryd.prog 55 #[.string s] w fun e w' => ∃ v, e = .returned (.tuple #[.int .i64 (atoiV s), v]) ∧ Below w.heap.size w w' := by
  unfold atoiV
  match h : Lib.atoiAll s.data.toList with
  | .ok v =>
    refine (Tryd.strconv_Atoi_ok s (by omega) v h w).mono ?_
    rintro e w' ⟨rfl, hw⟩
    refine ⟨_, rfl, ?_⟩
    rcases hw with rfl | ⟨t, rfl⟩
    · exact Below.refl _ _
    · exact Lib.bytesWorld_below w _ t
  | Lib.NumEnd.syntax =>
    obtain ⟨ev, h1, h2⟩ := he.syn
    refine (Tryd.strconv_Atoi_syntax s hs h ev w h1 h2).mono ?_
    rintro e w' ⟨N, rfl, _, _, hb⟩
    exact ⟨_, rfl, hb⟩
  | .range =>
    obtain ⟨ev, h1, h2⟩ := he.ran
    refine (Tryd.strconv_Atoi_range s hs h ev w h1 h2).mono ?_
    rintro e w' ⟨N, rfl, _, _, hb⟩
    exact ⟨_, rfl, hb⟩
end Go.Proofs.YtlbopihffpodkaaDoor
