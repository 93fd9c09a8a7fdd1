/-
  No cell of these rows narrows 'for every input' (looked for: loops, veiled, ifaces, maps, wideKeys, modest, calm, conditions, laid).
  DERIVED. THE GIVEN ROWS OF THIS SEAT. 7 by the template 'for every input the law returns true; each argument reads behind the call as it read before'; 0 by the template 'total and deterministic' (their statements: YtlbopihffpodkaaTotals.lean).
  GIVEN WITH THE SEED: the statements are not yours to turn. If you find one false, say at which input.
  Laid BY PROGRAM, IN A SANDBOX (cutbox-rows.mjs): the forced cells as the released guide's own fill.sh prints them over the translation d6488c78ce637084… (all of the seat's roots in one cut). By AI agents, Wed Nov 11 2026. No macro, syntax, notation, axiom, sorry.
-/
import Derived.Test.YtlbopihffpodkaaChecked
import GoSem.Claim
import GoSem.ClaimJoined
import GoSem.ClaimMapViews
import Derived.JoinedTies
import Derived.KernelRfl
namespace Go.Proofs.Ytlbopihffpodkaa
/- THE CELL 'sum', in the pinned program and in every row, IS THE sha256 OF THE DUMP (.gsa) THAT YtlbopihffpodkaaProg.lean LOADS. Nothing in Lean hashes anything: it is a label: what it is worth is what the hold of that sum in a sandbox is worth. -/
noncomputable def Try.pinned : Pinned := { name := "ytlbopihffpodkaa", sum := "d6488c78ce6370841573d65727bd4aa2b16d96465e45a2ea2c27e6d88d68cf47", checked := Try.checked }
namespace Rows
def none {H : Type} : Left H := { results := [], args := [] }

/-- 'laws.FnDocField': WHATEVER THE INPUT: true; the input reads as it did. -/
def fnDocFieldSpec : ChangeSpec := { name := "fnDocField", fn := fun _ => fun
  | [d] => { results := [.lit (.bool true)], args := [d] }
  | _ => none }
def fnDocFieldRow : OpenClaim := { program := "ytlbopihffpodkaa", sum := "d6488c78ce6370841573d65727bd4aa2b16d96465e45a2ea2c27e6d88d68cf47", func := "loop.example/fossick/laws.FnDocField", spec := "fnDocField", apart := false }
def FnDocFieldSaid : Prop := fnDocFieldRow.holds Try.pinned (OpenSpec.ofChange fnDocFieldSpec)

/-- ITS FALSE NEIGHBOUR: 'it returns false'. Refute it at one input. -/
def fnDocFieldWrong : ChangeSpec := { name := "fnDocField", fn := fun _ => fun
  | [d] => { results := [.lit (.bool false)], args := [d] }
  | _ => none }
def FnDocFieldWrongFalsely : Prop := fnDocFieldRow.holds Try.pinned (OpenSpec.ofChange fnDocFieldWrong)

/-- 'laws.FnDocNum': WHATEVER THE INPUT: true; the input reads as it did. -/
def fnDocNumSpec : ChangeSpec := { name := "fnDocNum", fn := fun _ => fun
  | [d] => { results := [.lit (.bool true)], args := [d] }
  | _ => none }
def fnDocNumRow : OpenClaim := { program := "ytlbopihffpodkaa", sum := "d6488c78ce6370841573d65727bd4aa2b16d96465e45a2ea2c27e6d88d68cf47", func := "loop.example/fossick/laws.FnDocNum", spec := "fnDocNum", apart := false }
def FnDocNumSaid : Prop := fnDocNumRow.holds Try.pinned (OpenSpec.ofChange fnDocNumSpec)

/-- ITS FALSE NEIGHBOUR: 'it returns false'. Refute it at one input. -/
def fnDocNumWrong : ChangeSpec := { name := "fnDocNum", fn := fun _ => fun
  | [d] => { results := [.lit (.bool false)], args := [d] }
  | _ => none }
def FnDocNumWrongFalsely : Prop := fnDocNumRow.holds Try.pinned (OpenSpec.ofChange fnDocNumWrong)

/-- 'laws.FnDocsOk': WHATEVER THE INPUT: true; the input reads as it did. -/
def fnDocsOkSpec : ChangeSpec := { name := "fnDocsOk", fn := fun _ => fun
  | [d] => { results := [.lit (.bool true)], args := [d] }
  | _ => none }
def fnDocsOkRow : OpenClaim := { program := "ytlbopihffpodkaa", sum := "d6488c78ce6370841573d65727bd4aa2b16d96465e45a2ea2c27e6d88d68cf47", func := "loop.example/fossick/laws.FnDocsOk", spec := "fnDocsOk", apart := false }
def FnDocsOkSaid : Prop := fnDocsOkRow.holds Try.pinned (OpenSpec.ofChange fnDocsOkSpec)

/-- ITS FALSE NEIGHBOUR: 'it returns false'. Refute it at one input. -/
def fnDocsOkWrong : ChangeSpec := { name := "fnDocsOk", fn := fun _ => fun
  | [d] => { results := [.lit (.bool false)], args := [d] }
  | _ => none }
def FnDocsOkWrongFalsely : Prop := fnDocsOkRow.holds Try.pinned (OpenSpec.ofChange fnDocsOkWrong)

/-- 'laws.FnExactDocOk': WHATEVER THE INPUT: true; the input reads as it did. -/
def fnExactDocOkSpec : ChangeSpec := { name := "fnExactDocOk", fn := fun _ => fun
  | [d] => { results := [.lit (.bool true)], args := [d] }
  | _ => none }
def fnExactDocOkRow : OpenClaim := { program := "ytlbopihffpodkaa", sum := "d6488c78ce6370841573d65727bd4aa2b16d96465e45a2ea2c27e6d88d68cf47", func := "loop.example/fossick/laws.FnExactDocOk", spec := "fnExactDocOk", apart := false }
def FnExactDocOkSaid : Prop := fnExactDocOkRow.holds Try.pinned (OpenSpec.ofChange fnExactDocOkSpec)

/-- ITS FALSE NEIGHBOUR: 'it returns false'. Refute it at one input. -/
def fnExactDocOkWrong : ChangeSpec := { name := "fnExactDocOk", fn := fun _ => fun
  | [d] => { results := [.lit (.bool false)], args := [d] }
  | _ => none }
def FnExactDocOkWrongFalsely : Prop := fnExactDocOkRow.holds Try.pinned (OpenSpec.ofChange fnExactDocOkWrong)

/-- 'laws.FnExactDocField': WHATEVER THE INPUT: true; the input reads as it did. -/
def fnExactDocFieldSpec : ChangeSpec := { name := "fnExactDocField", fn := fun _ => fun
  | [d1, d2] => { results := [.lit (.bool true)], args := [d1, d2] }
  | _ => none }
def fnExactDocFieldRow : OpenClaim := { program := "ytlbopihffpodkaa", sum := "d6488c78ce6370841573d65727bd4aa2b16d96465e45a2ea2c27e6d88d68cf47", func := "loop.example/fossick/laws.FnExactDocField", spec := "fnExactDocField", apart := false }
def FnExactDocFieldSaid : Prop := fnExactDocFieldRow.holds Try.pinned (OpenSpec.ofChange fnExactDocFieldSpec)

/-- ITS FALSE NEIGHBOUR: 'it returns false'. Refute it at one input. -/
def fnExactDocFieldWrong : ChangeSpec := { name := "fnExactDocField", fn := fun _ => fun
  | [d1, d2] => { results := [.lit (.bool false)], args := [d1, d2] }
  | _ => none }
def FnExactDocFieldWrongFalsely : Prop := fnExactDocFieldRow.holds Try.pinned (OpenSpec.ofChange fnExactDocFieldWrong)

/-- 'laws.FnExactDocNum': WHATEVER THE INPUT: true; the input reads as it did. -/
def fnExactDocNumSpec : ChangeSpec := { name := "fnExactDocNum", fn := fun _ => fun
  | [d1, d2] => { results := [.lit (.bool true)], args := [d1, d2] }
  | _ => none }
def fnExactDocNumRow : OpenClaim := { program := "ytlbopihffpodkaa", sum := "d6488c78ce6370841573d65727bd4aa2b16d96465e45a2ea2c27e6d88d68cf47", func := "loop.example/fossick/laws.FnExactDocNum", spec := "fnExactDocNum", apart := false }
def FnExactDocNumSaid : Prop := fnExactDocNumRow.holds Try.pinned (OpenSpec.ofChange fnExactDocNumSpec)

/-- ITS FALSE NEIGHBOUR: 'it returns false'. Refute it at one input. -/
def fnExactDocNumWrong : ChangeSpec := { name := "fnExactDocNum", fn := fun _ => fun
  | [d1, d2] => { results := [.lit (.bool false)], args := [d1, d2] }
  | _ => none }
def FnExactDocNumWrongFalsely : Prop := fnExactDocNumRow.holds Try.pinned (OpenSpec.ofChange fnExactDocNumWrong)

/-- 'laws.FnExactDocsOk': WHATEVER THE INPUT: true; the input reads as it did. -/
def fnExactDocsOkSpec : ChangeSpec := { name := "fnExactDocsOk", fn := fun _ => fun
  | [d] => { results := [.lit (.bool true)], args := [d] }
  | _ => none }
def fnExactDocsOkRow : OpenClaim := { program := "ytlbopihffpodkaa", sum := "d6488c78ce6370841573d65727bd4aa2b16d96465e45a2ea2c27e6d88d68cf47", func := "loop.example/fossick/laws.FnExactDocsOk", spec := "fnExactDocsOk", apart := false }
def FnExactDocsOkSaid : Prop := fnExactDocsOkRow.holds Try.pinned (OpenSpec.ofChange fnExactDocsOkSpec)

/-- ITS FALSE NEIGHBOUR: 'it returns false'. Refute it at one input. -/
def fnExactDocsOkWrong : ChangeSpec := { name := "fnExactDocsOk", fn := fun _ => fun
  | [d] => { results := [.lit (.bool false)], args := [d] }
  | _ => none }
def FnExactDocsOkWrongFalsely : Prop := fnExactDocsOkRow.holds Try.pinned (OpenSpec.ofChange fnExactDocsOkWrong)

/- THE SECOND FORM. 'bulk': how many values and letters a reading holds, each counted each time it is reached (what is shared counts as often as it is met; a slice's spare places count too). A statement '..UptoSaid' is the law's where the arguments, and the package variables that the reading takes, are together of bulk at most 1048576: NARROWER than '..Said'. Prove '..Said' where nothing that the law and all that it calls make is longer than what came in: it says more and counts as full. Else prove '..UptoSaid'. A law counts once. -/
mutual
def uptoBulk {H : Type} : DataW H → Nat
  | .lit (.string bytes) => bytes.length + 1
  | .lit _ => 1
  | .nil => 1
  | .ptr d => uptoBulk d + 1
  | .slice elems spare => uptoBulkAll elems + uptoBulkAll spare + 1
  | .agg parts => uptoBulkAll parts + 1
  | .iface _ d => uptoBulk d + 1
  | .map entries => uptoBulkEntries entries + 1
  | .held _ => 1
def uptoBulkAll {H : Type} : List (DataW H) → Nat
  | [] => 0
  | d :: r => uptoBulk d + uptoBulkAll r
def uptoBulkEntries {H : Type} : List (Lit × DataW H) → Nat
  | [] => 0
  | x :: r => uptoBulkEntry x + uptoBulkEntries r
def uptoBulkEntry {H : Type} : Lit × DataW H → Nat
  | (.string bytes, d) => bytes.length + uptoBulk d + 1
  | (_, d) => uptoBulk d + 1
 end
def uptoSmall : (H : Type) → List (DataW H) → Bool := fun _ ds => decide (uptoBulkAll ds ≤ 1048576)
def OpenSpec.upto (s : _root_.Go.ChangeSpec) : _root_.Go.OpenSpec := { _root_.Go.OpenSpec.ofChange s with cond := some uptoSmall }

/-- 'laws.FnDocField', WHERE WHAT IT READS IS OF BULK AT MOST 1048576: true; the input reads as it did. -/
def fnDocFieldUptoRow : OpenClaim := { program := "ytlbopihffpodkaa", sum := "d6488c78ce6370841573d65727bd4aa2b16d96465e45a2ea2c27e6d88d68cf47", func := "loop.example/fossick/laws.FnDocField", spec := "fnDocField", apart := false, narrowed := true }
def FnDocFieldUptoSaid : Prop := fnDocFieldUptoRow.holds Try.pinned (OpenSpec.upto fnDocFieldSpec)

/-- 'laws.FnDocNum', WHERE WHAT IT READS IS OF BULK AT MOST 1048576: true; the input reads as it did. -/
def fnDocNumUptoRow : OpenClaim := { program := "ytlbopihffpodkaa", sum := "d6488c78ce6370841573d65727bd4aa2b16d96465e45a2ea2c27e6d88d68cf47", func := "loop.example/fossick/laws.FnDocNum", spec := "fnDocNum", apart := false, narrowed := true }
def FnDocNumUptoSaid : Prop := fnDocNumUptoRow.holds Try.pinned (OpenSpec.upto fnDocNumSpec)

/-- 'laws.FnDocsOk', WHERE WHAT IT READS IS OF BULK AT MOST 1048576: true; the input reads as it did. -/
def fnDocsOkUptoRow : OpenClaim := { program := "ytlbopihffpodkaa", sum := "d6488c78ce6370841573d65727bd4aa2b16d96465e45a2ea2c27e6d88d68cf47", func := "loop.example/fossick/laws.FnDocsOk", spec := "fnDocsOk", apart := false, narrowed := true }
def FnDocsOkUptoSaid : Prop := fnDocsOkUptoRow.holds Try.pinned (OpenSpec.upto fnDocsOkSpec)

/-- 'laws.FnExactDocOk', WHERE WHAT IT READS IS OF BULK AT MOST 1048576: true; the input reads as it did. -/
def fnExactDocOkUptoRow : OpenClaim := { program := "ytlbopihffpodkaa", sum := "d6488c78ce6370841573d65727bd4aa2b16d96465e45a2ea2c27e6d88d68cf47", func := "loop.example/fossick/laws.FnExactDocOk", spec := "fnExactDocOk", apart := false, narrowed := true }
def FnExactDocOkUptoSaid : Prop := fnExactDocOkUptoRow.holds Try.pinned (OpenSpec.upto fnExactDocOkSpec)

/-- 'laws.FnExactDocField', WHERE WHAT IT READS IS OF BULK AT MOST 1048576: true; the input reads as it did. -/
def fnExactDocFieldUptoRow : OpenClaim := { program := "ytlbopihffpodkaa", sum := "d6488c78ce6370841573d65727bd4aa2b16d96465e45a2ea2c27e6d88d68cf47", func := "loop.example/fossick/laws.FnExactDocField", spec := "fnExactDocField", apart := false, narrowed := true }
def FnExactDocFieldUptoSaid : Prop := fnExactDocFieldUptoRow.holds Try.pinned (OpenSpec.upto fnExactDocFieldSpec)

/-- 'laws.FnExactDocNum', WHERE WHAT IT READS IS OF BULK AT MOST 1048576: true; the input reads as it did. -/
def fnExactDocNumUptoRow : OpenClaim := { program := "ytlbopihffpodkaa", sum := "d6488c78ce6370841573d65727bd4aa2b16d96465e45a2ea2c27e6d88d68cf47", func := "loop.example/fossick/laws.FnExactDocNum", spec := "fnExactDocNum", apart := false, narrowed := true }
def FnExactDocNumUptoSaid : Prop := fnExactDocNumUptoRow.holds Try.pinned (OpenSpec.upto fnExactDocNumSpec)

/-- 'laws.FnExactDocsOk', WHERE WHAT IT READS IS OF BULK AT MOST 1048576: true; the input reads as it did. -/
def fnExactDocsOkUptoRow : OpenClaim := { program := "ytlbopihffpodkaa", sum := "d6488c78ce6370841573d65727bd4aa2b16d96465e45a2ea2c27e6d88d68cf47", func := "loop.example/fossick/laws.FnExactDocsOk", spec := "fnExactDocsOk", apart := false, narrowed := true }
def FnExactDocsOkUptoSaid : Prop := fnExactDocsOkUptoRow.holds Try.pinned (OpenSpec.upto fnExactDocsOkSpec)

end Rows
end Go.Proofs.Ytlbopihffpodkaa
