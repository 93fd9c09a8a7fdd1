/-
  No cell of these rows narrows 'for every input' (looked for: loops, veiled, ifaces, maps, wideKeys, modest, calm, conditions, laid).
  DERIVED. THE GIVEN ROWS OF THIS SEAT. 7 by the template 'for every input the law returns true; each argument reads behind the call as it read before'; 0 by the template 'total and deterministic' (their statements: YtcniiinapnkbfaaTotals.lean).
  GIVEN WITH THE SEED: the statements are not yours to turn. If you find one false, say at which input.
  Laid BY PROGRAM, IN A SANDBOX (cutbox-rows.mjs): the forced cells as the released guide's own fill.sh prints them over the translation 5571ae830f5dfed4… (all of the seat's roots in one cut). By AI agents, Wed Nov 11 2026. No macro, syntax, notation, axiom, sorry.
-/
import Derived.Test.YtcniiinapnkbfaaChecked
import GoSem.Claim
import GoSem.ClaimJoined
import GoSem.ClaimMapViews
import Derived.JoinedTies
import Derived.KernelRfl
namespace Go.Proofs.Ytcniiinapnkbfaa
/- THE CELL 'sum', in the pinned program and in every row, IS THE sha256 OF THE DUMP (.gsa) THAT YtcniiinapnkbfaaProg.lean LOADS. Nothing in Lean hashes anything: it is a label: what it is worth is what the hold of that sum in a sandbox is worth. -/
noncomputable def Try.pinned : Pinned := { name := "ytcniiinapnkbfaa", sum := "5571ae830f5dfed4518818388a8787c53ee2c09aca63e01120cb140b87722441", checked := Try.checked }
namespace Rows
def none {H : Type} : Left H := { results := [], args := [] }

/-- 'laws.FnVarPut': WHATEVER THE INPUT: true; the input reads as it did. -/
def fnVarPutSpec : ChangeSpec := { name := "fnVarPut", fn := fun _ => fun
  | [d1, d2] => { results := [.lit (.bool true)], args := [d1, d2] }
  | _ => none }
def fnVarPutRow : OpenClaim := { program := "ytcniiinapnkbfaa", sum := "5571ae830f5dfed4518818388a8787c53ee2c09aca63e01120cb140b87722441", func := "loop.example/fossick/laws.FnVarPut", spec := "fnVarPut", apart := false }
def FnVarPutSaid : Prop := fnVarPutRow.holds Try.pinned (OpenSpec.ofChange fnVarPutSpec)

/-- ITS FALSE NEIGHBOUR: 'it returns false'. Refute it at one input. -/
def fnVarPutWrong : ChangeSpec := { name := "fnVarPut", fn := fun _ => fun
  | [d1, d2] => { results := [.lit (.bool false)], args := [d1, d2] }
  | _ => none }
def FnVarPutWrongFalsely : Prop := fnVarPutRow.holds Try.pinned (OpenSpec.ofChange fnVarPutWrong)

/-- 'laws.FnVarGet': WHATEVER THE INPUT: true; the input reads as it did. -/
def fnVarGetSpec : ChangeSpec := { name := "fnVarGet", fn := fun _ => fun
  | [d] => { results := [.lit (.bool true)], args := [d] }
  | _ => none }
def fnVarGetRow : OpenClaim := { program := "ytcniiinapnkbfaa", sum := "5571ae830f5dfed4518818388a8787c53ee2c09aca63e01120cb140b87722441", func := "loop.example/fossick/laws.FnVarGet", spec := "fnVarGet", apart := false }
def FnVarGetSaid : Prop := fnVarGetRow.holds Try.pinned (OpenSpec.ofChange fnVarGetSpec)

/-- ITS FALSE NEIGHBOUR: 'it returns false'. Refute it at one input. -/
def fnVarGetWrong : ChangeSpec := { name := "fnVarGet", fn := fun _ => fun
  | [d] => { results := [.lit (.bool false)], args := [d] }
  | _ => none }
def FnVarGetWrongFalsely : Prop := fnVarGetRow.holds Try.pinned (OpenSpec.ofChange fnVarGetWrong)

/-- 'laws.FnGapMore': WHATEVER THE INPUT: true; the input reads as it did. -/
def fnGapMoreSpec : ChangeSpec := { name := "fnGapMore", fn := fun _ => fun
  | [d1, d2] => { results := [.lit (.bool true)], args := [d1, d2] }
  | _ => none }
def fnGapMoreRow : OpenClaim := { program := "ytcniiinapnkbfaa", sum := "5571ae830f5dfed4518818388a8787c53ee2c09aca63e01120cb140b87722441", func := "loop.example/fossick/laws.FnGapMore", spec := "fnGapMore", apart := false }
def FnGapMoreSaid : Prop := fnGapMoreRow.holds Try.pinned (OpenSpec.ofChange fnGapMoreSpec)

/-- ITS FALSE NEIGHBOUR: 'it returns false'. Refute it at one input. -/
def fnGapMoreWrong : ChangeSpec := { name := "fnGapMore", fn := fun _ => fun
  | [d1, d2] => { results := [.lit (.bool false)], args := [d1, d2] }
  | _ => none }
def FnGapMoreWrongFalsely : Prop := fnGapMoreRow.holds Try.pinned (OpenSpec.ofChange fnGapMoreWrong)

/-- 'laws.FnGapPut': WHATEVER THE INPUT: true; the input reads as it did. -/
def fnGapPutSpec : ChangeSpec := { name := "fnGapPut", fn := fun _ => fun
  | [d1, d2] => { results := [.lit (.bool true)], args := [d1, d2] }
  | _ => none }
def fnGapPutRow : OpenClaim := { program := "ytcniiinapnkbfaa", sum := "5571ae830f5dfed4518818388a8787c53ee2c09aca63e01120cb140b87722441", func := "loop.example/fossick/laws.FnGapPut", spec := "fnGapPut", apart := false }
def FnGapPutSaid : Prop := fnGapPutRow.holds Try.pinned (OpenSpec.ofChange fnGapPutSpec)

/-- ITS FALSE NEIGHBOUR: 'it returns false'. Refute it at one input. -/
def fnGapPutWrong : ChangeSpec := { name := "fnGapPut", fn := fun _ => fun
  | [d1, d2] => { results := [.lit (.bool false)], args := [d1, d2] }
  | _ => none }
def FnGapPutWrongFalsely : Prop := fnGapPutRow.holds Try.pinned (OpenSpec.ofChange fnGapPutWrong)

/-- 'laws.FnPackPut': WHATEVER THE INPUT: true; the input reads as it did. -/
def fnPackPutSpec : ChangeSpec := { name := "fnPackPut", fn := fun _ => fun
  | [d] => { results := [.lit (.bool true)], args := [d] }
  | _ => none }
def fnPackPutRow : OpenClaim := { program := "ytcniiinapnkbfaa", sum := "5571ae830f5dfed4518818388a8787c53ee2c09aca63e01120cb140b87722441", func := "loop.example/fossick/laws.FnPackPut", spec := "fnPackPut", apart := false }
def FnPackPutSaid : Prop := fnPackPutRow.holds Try.pinned (OpenSpec.ofChange fnPackPutSpec)

/-- ITS FALSE NEIGHBOUR: 'it returns false'. Refute it at one input. -/
def fnPackPutWrong : ChangeSpec := { name := "fnPackPut", fn := fun _ => fun
  | [d] => { results := [.lit (.bool false)], args := [d] }
  | _ => none }
def FnPackPutWrongFalsely : Prop := fnPackPutRow.holds Try.pinned (OpenSpec.ofChange fnPackPutWrong)

/-- 'laws.FnGapGet': WHATEVER THE INPUT: true; the input reads as it did. -/
def fnGapGetSpec : ChangeSpec := { name := "fnGapGet", fn := fun _ => fun
  | [d] => { results := [.lit (.bool true)], args := [d] }
  | _ => none }
def fnGapGetRow : OpenClaim := { program := "ytcniiinapnkbfaa", sum := "5571ae830f5dfed4518818388a8787c53ee2c09aca63e01120cb140b87722441", func := "loop.example/fossick/laws.FnGapGet", spec := "fnGapGet", apart := false }
def FnGapGetSaid : Prop := fnGapGetRow.holds Try.pinned (OpenSpec.ofChange fnGapGetSpec)

/-- ITS FALSE NEIGHBOUR: 'it returns false'. Refute it at one input. -/
def fnGapGetWrong : ChangeSpec := { name := "fnGapGet", fn := fun _ => fun
  | [d] => { results := [.lit (.bool false)], args := [d] }
  | _ => none }
def FnGapGetWrongFalsely : Prop := fnGapGetRow.holds Try.pinned (OpenSpec.ofChange fnGapGetWrong)

/-- 'laws.FnPackGet': WHATEVER THE INPUT: true; the input reads as it did. -/
def fnPackGetSpec : ChangeSpec := { name := "fnPackGet", fn := fun _ => fun
  | [d] => { results := [.lit (.bool true)], args := [d] }
  | _ => none }
def fnPackGetRow : OpenClaim := { program := "ytcniiinapnkbfaa", sum := "5571ae830f5dfed4518818388a8787c53ee2c09aca63e01120cb140b87722441", func := "loop.example/fossick/laws.FnPackGet", spec := "fnPackGet", apart := false }
def FnPackGetSaid : Prop := fnPackGetRow.holds Try.pinned (OpenSpec.ofChange fnPackGetSpec)

/-- ITS FALSE NEIGHBOUR: 'it returns false'. Refute it at one input. -/
def fnPackGetWrong : ChangeSpec := { name := "fnPackGet", fn := fun _ => fun
  | [d] => { results := [.lit (.bool false)], args := [d] }
  | _ => none }
def FnPackGetWrongFalsely : Prop := fnPackGetRow.holds Try.pinned (OpenSpec.ofChange fnPackGetWrong)

/- THE SECOND FORM. 'bulk': how many values and letters a reading holds, each counted each time it is reached (what is shared counts as often as it is met; a slice's spare places count too). A statement '..UptoSaid' is the law's where the arguments, and the package variables that the reading takes, are together of bulk at most 1048576: NARROWER than '..Said'. Prove '..Said' where nothing that the law and all that it calls make is longer than what came in: it says more and counts as full. Else prove '..UptoSaid'. A law counts once. -/
mutual
def uptoBulk {H : Type} : DataW H → Nat
  | .lit (.string bytes) => bytes.length + 1
  | .lit _ => 1
  | .nil => 1
  | .ptr d => uptoBulk d + 1
  | .slice elems spare => uptoBulkAll elems + uptoBulkAll spare + 1
  | .agg parts => uptoBulkAll parts + 1
  | .iface _ d => uptoBulk d + 1
  | .map entries => uptoBulkEntries entries + 1
  | .held _ => 1
def uptoBulkAll {H : Type} : List (DataW H) → Nat
  | [] => 0
  | d :: r => uptoBulk d + uptoBulkAll r
def uptoBulkEntries {H : Type} : List (Lit × DataW H) → Nat
  | [] => 0
  | x :: r => uptoBulkEntry x + uptoBulkEntries r
def uptoBulkEntry {H : Type} : Lit × DataW H → Nat
  | (.string bytes, d) => bytes.length + uptoBulk d + 1
  | (_, d) => uptoBulk d + 1
 end
def uptoSmall : (H : Type) → List (DataW H) → Bool := fun _ ds => decide (uptoBulkAll ds ≤ 1048576)
def OpenSpec.upto (s : _root_.Go.ChangeSpec) : _root_.Go.OpenSpec := { _root_.Go.OpenSpec.ofChange s with cond := some uptoSmall }

/-- 'laws.FnVarPut', WHERE WHAT IT READS IS OF BULK AT MOST 1048576: true; the input reads as it did. -/
def fnVarPutUptoRow : OpenClaim := { program := "ytcniiinapnkbfaa", sum := "5571ae830f5dfed4518818388a8787c53ee2c09aca63e01120cb140b87722441", func := "loop.example/fossick/laws.FnVarPut", spec := "fnVarPut", apart := false, narrowed := true }
def FnVarPutUptoSaid : Prop := fnVarPutUptoRow.holds Try.pinned (OpenSpec.upto fnVarPutSpec)

/-- 'laws.FnVarGet', WHERE WHAT IT READS IS OF BULK AT MOST 1048576: true; the input reads as it did. -/
def fnVarGetUptoRow : OpenClaim := { program := "ytcniiinapnkbfaa", sum := "5571ae830f5dfed4518818388a8787c53ee2c09aca63e01120cb140b87722441", func := "loop.example/fossick/laws.FnVarGet", spec := "fnVarGet", apart := false, narrowed := true }
def FnVarGetUptoSaid : Prop := fnVarGetUptoRow.holds Try.pinned (OpenSpec.upto fnVarGetSpec)

/-- 'laws.FnGapMore', WHERE WHAT IT READS IS OF BULK AT MOST 1048576: true; the input reads as it did. -/
def fnGapMoreUptoRow : OpenClaim := { program := "ytcniiinapnkbfaa", sum := "5571ae830f5dfed4518818388a8787c53ee2c09aca63e01120cb140b87722441", func := "loop.example/fossick/laws.FnGapMore", spec := "fnGapMore", apart := false, narrowed := true }
def FnGapMoreUptoSaid : Prop := fnGapMoreUptoRow.holds Try.pinned (OpenSpec.upto fnGapMoreSpec)

/-- 'laws.FnGapPut', WHERE WHAT IT READS IS OF BULK AT MOST 1048576: true; the input reads as it did. -/
def fnGapPutUptoRow : OpenClaim := { program := "ytcniiinapnkbfaa", sum := "5571ae830f5dfed4518818388a8787c53ee2c09aca63e01120cb140b87722441", func := "loop.example/fossick/laws.FnGapPut", spec := "fnGapPut", apart := false, narrowed := true }
def FnGapPutUptoSaid : Prop := fnGapPutUptoRow.holds Try.pinned (OpenSpec.upto fnGapPutSpec)

/-- 'laws.FnPackPut', WHERE WHAT IT READS IS OF BULK AT MOST 1048576: true; the input reads as it did. -/
def fnPackPutUptoRow : OpenClaim := { program := "ytcniiinapnkbfaa", sum := "5571ae830f5dfed4518818388a8787c53ee2c09aca63e01120cb140b87722441", func := "loop.example/fossick/laws.FnPackPut", spec := "fnPackPut", apart := false, narrowed := true }
def FnPackPutUptoSaid : Prop := fnPackPutUptoRow.holds Try.pinned (OpenSpec.upto fnPackPutSpec)

/-- 'laws.FnGapGet', WHERE WHAT IT READS IS OF BULK AT MOST 1048576: true; the input reads as it did. -/
def fnGapGetUptoRow : OpenClaim := { program := "ytcniiinapnkbfaa", sum := "5571ae830f5dfed4518818388a8787c53ee2c09aca63e01120cb140b87722441", func := "loop.example/fossick/laws.FnGapGet", spec := "fnGapGet", apart := false, narrowed := true }
def FnGapGetUptoSaid : Prop := fnGapGetUptoRow.holds Try.pinned (OpenSpec.upto fnGapGetSpec)

/-- 'laws.FnPackGet', WHERE WHAT IT READS IS OF BULK AT MOST 1048576: true; the input reads as it did. -/
def fnPackGetUptoRow : OpenClaim := { program := "ytcniiinapnkbfaa", sum := "5571ae830f5dfed4518818388a8787c53ee2c09aca63e01120cb140b87722441", func := "loop.example/fossick/laws.FnPackGet", spec := "fnPackGet", apart := false, narrowed := true }
def FnPackGetUptoSaid : Prop := fnPackGetUptoRow.holds Try.pinned (OpenSpec.upto fnPackGetSpec)

end Rows
end Go.Proofs.Ytcniiinapnkbfaa
