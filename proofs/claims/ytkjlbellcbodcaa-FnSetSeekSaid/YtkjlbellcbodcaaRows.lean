/-
  No cell of these rows narrows 'for every input' (looked for: loops, veiled, ifaces, maps, wideKeys, modest, calm, conditions, laid).
  DERIVED. THE GIVEN ROWS OF THIS SEAT. 12 by the template 'for every input the law returns true; each argument reads behind the call as it read before'; 0 by the template 'total and deterministic' (their statements: YtkjlbellcbodcaaTotals.lean).
  GIVEN WITH THE SEED: the statements are not yours to turn. If you find one false, say at which input.
  Laid BY PROGRAM, IN A SANDBOX (cutbox-rows.mjs): the forced cells as the released guide's own fill.sh prints them over the translation 4486b925badf3fb2… (all of the seat's roots in one cut). By AI agents, Wed Nov 11 2026. No macro, syntax, notation, axiom, sorry.
-/
import Derived.Test.YtkjlbellcbodcaaChecked
import GoSem.Claim
import GoSem.ClaimJoined
import GoSem.ClaimMapViews
import Derived.JoinedTies
import Derived.KernelRfl
namespace Go.Proofs.Ytkjlbellcbodcaa
/- THE CELL 'sum', in the pinned program and in every row, IS THE sha256 OF THE DUMP (.gsa) THAT YtkjlbellcbodcaaProg.lean LOADS. Nothing in Lean hashes anything: it is a label: what it is worth is what the hold of that sum in a sandbox is worth. -/
noncomputable def Try.pinned : Pinned := { name := "ytkjlbellcbodcaa", sum := "4486b925badf3fb2f905ae76b7768dea001d0a0cbe61d9107bb381e4d10bde5c", checked := Try.checked }
namespace Rows
def none {H : Type} : Left H := { results := [], args := [] }

/-- 'laws.FnExactVarPut': WHATEVER THE INPUT: true; the input reads as it did. -/
def fnExactVarPutSpec : ChangeSpec := { name := "fnExactVarPut", fn := fun _ => fun
  | [d] => { results := [.lit (.bool true)], args := [d] }
  | _ => none }
def fnExactVarPutRow : OpenClaim := { program := "ytkjlbellcbodcaa", sum := "4486b925badf3fb2f905ae76b7768dea001d0a0cbe61d9107bb381e4d10bde5c", func := "loop.example/fossick/laws.FnExactVarPut", spec := "fnExactVarPut", apart := false }
def FnExactVarPutSaid : Prop := fnExactVarPutRow.holds Try.pinned (OpenSpec.ofChange fnExactVarPutSpec)

/-- ITS FALSE NEIGHBOUR: 'it returns false'. Refute it at one input. -/
def fnExactVarPutWrong : ChangeSpec := { name := "fnExactVarPut", fn := fun _ => fun
  | [d] => { results := [.lit (.bool false)], args := [d] }
  | _ => none }
def FnExactVarPutWrongFalsely : Prop := fnExactVarPutRow.holds Try.pinned (OpenSpec.ofChange fnExactVarPutWrong)

/-- 'laws.FnExactUpOk': WHATEVER THE INPUT: true; the input reads as it did. -/
def fnExactUpOkSpec : ChangeSpec := { name := "fnExactUpOk", fn := fun _ => fun
  | [d] => { results := [.lit (.bool true)], args := [d] }
  | _ => none }
def fnExactUpOkRow : OpenClaim := { program := "ytkjlbellcbodcaa", sum := "4486b925badf3fb2f905ae76b7768dea001d0a0cbe61d9107bb381e4d10bde5c", func := "loop.example/fossick/laws.FnExactUpOk", spec := "fnExactUpOk", apart := false }
def FnExactUpOkSaid : Prop := fnExactUpOkRow.holds Try.pinned (OpenSpec.ofChange fnExactUpOkSpec)

/-- ITS FALSE NEIGHBOUR: 'it returns false'. Refute it at one input. -/
def fnExactUpOkWrong : ChangeSpec := { name := "fnExactUpOk", fn := fun _ => fun
  | [d] => { results := [.lit (.bool false)], args := [d] }
  | _ => none }
def FnExactUpOkWrongFalsely : Prop := fnExactUpOkRow.holds Try.pinned (OpenSpec.ofChange fnExactUpOkWrong)

/-- 'laws.FnExactVarGet': WHATEVER THE INPUT: true; the input reads as it did. -/
def fnExactVarGetSpec : ChangeSpec := { name := "fnExactVarGet", fn := fun _ => fun
  | [d] => { results := [.lit (.bool true)], args := [d] }
  | _ => none }
def fnExactVarGetRow : OpenClaim := { program := "ytkjlbellcbodcaa", sum := "4486b925badf3fb2f905ae76b7768dea001d0a0cbe61d9107bb381e4d10bde5c", func := "loop.example/fossick/laws.FnExactVarGet", spec := "fnExactVarGet", apart := false }
def FnExactVarGetSaid : Prop := fnExactVarGetRow.holds Try.pinned (OpenSpec.ofChange fnExactVarGetSpec)

/-- ITS FALSE NEIGHBOUR: 'it returns false'. Refute it at one input. -/
def fnExactVarGetWrong : ChangeSpec := { name := "fnExactVarGet", fn := fun _ => fun
  | [d] => { results := [.lit (.bool false)], args := [d] }
  | _ => none }
def FnExactVarGetWrongFalsely : Prop := fnExactVarGetRow.holds Try.pinned (OpenSpec.ofChange fnExactVarGetWrong)

/-- 'laws.FnExactPackWidth': WHATEVER THE INPUT: true; the input reads as it did. -/
def fnExactPackWidthSpec : ChangeSpec := { name := "fnExactPackWidth", fn := fun _ => fun
  | [d] => { results := [.lit (.bool true)], args := [d] }
  | _ => none }
def fnExactPackWidthRow : OpenClaim := { program := "ytkjlbellcbodcaa", sum := "4486b925badf3fb2f905ae76b7768dea001d0a0cbe61d9107bb381e4d10bde5c", func := "loop.example/fossick/laws.FnExactPackWidth", spec := "fnExactPackWidth", apart := false }
def FnExactPackWidthSaid : Prop := fnExactPackWidthRow.holds Try.pinned (OpenSpec.ofChange fnExactPackWidthSpec)

/-- ITS FALSE NEIGHBOUR: 'it returns false'. Refute it at one input. -/
def fnExactPackWidthWrong : ChangeSpec := { name := "fnExactPackWidth", fn := fun _ => fun
  | [d] => { results := [.lit (.bool false)], args := [d] }
  | _ => none }
def FnExactPackWidthWrongFalsely : Prop := fnExactPackWidthRow.holds Try.pinned (OpenSpec.ofChange fnExactPackWidthWrong)

/-- 'laws.FnExactSetSeek': WHATEVER THE INPUT: true; the input reads as it did. -/
def fnExactSetSeekSpec : ChangeSpec := { name := "fnExactSetSeek", fn := fun _ => fun
  | [d1, d2] => { results := [.lit (.bool true)], args := [d1, d2] }
  | _ => none }
def fnExactSetSeekRow : OpenClaim := { program := "ytkjlbellcbodcaa", sum := "4486b925badf3fb2f905ae76b7768dea001d0a0cbe61d9107bb381e4d10bde5c", func := "loop.example/fossick/laws.FnExactSetSeek", spec := "fnExactSetSeek", apart := false }
def FnExactSetSeekSaid : Prop := fnExactSetSeekRow.holds Try.pinned (OpenSpec.ofChange fnExactSetSeekSpec)

/-- ITS FALSE NEIGHBOUR: 'it returns false'. Refute it at one input. -/
def fnExactSetSeekWrong : ChangeSpec := { name := "fnExactSetSeek", fn := fun _ => fun
  | [d1, d2] => { results := [.lit (.bool false)], args := [d1, d2] }
  | _ => none }
def FnExactSetSeekWrongFalsely : Prop := fnExactSetSeekRow.holds Try.pinned (OpenSpec.ofChange fnExactSetSeekWrong)

/-- 'laws.FnExactGapPut': WHATEVER THE INPUT: true; the input reads as it did. -/
def fnExactGapPutSpec : ChangeSpec := { name := "fnExactGapPut", fn := fun _ => fun
  | [d] => { results := [.lit (.bool true)], args := [d] }
  | _ => none }
def fnExactGapPutRow : OpenClaim := { program := "ytkjlbellcbodcaa", sum := "4486b925badf3fb2f905ae76b7768dea001d0a0cbe61d9107bb381e4d10bde5c", func := "loop.example/fossick/laws.FnExactGapPut", spec := "fnExactGapPut", apart := false }
def FnExactGapPutSaid : Prop := fnExactGapPutRow.holds Try.pinned (OpenSpec.ofChange fnExactGapPutSpec)

/-- ITS FALSE NEIGHBOUR: 'it returns false'. Refute it at one input. -/
def fnExactGapPutWrong : ChangeSpec := { name := "fnExactGapPut", fn := fun _ => fun
  | [d] => { results := [.lit (.bool false)], args := [d] }
  | _ => none }
def FnExactGapPutWrongFalsely : Prop := fnExactGapPutRow.holds Try.pinned (OpenSpec.ofChange fnExactGapPutWrong)

/-- 'laws.FnExactSetAnd': WHATEVER THE INPUT: true; the input reads as it did. -/
def fnExactSetAndSpec : ChangeSpec := { name := "fnExactSetAnd", fn := fun _ => fun
  | [d1, d2] => { results := [.lit (.bool true)], args := [d1, d2] }
  | _ => none }
def fnExactSetAndRow : OpenClaim := { program := "ytkjlbellcbodcaa", sum := "4486b925badf3fb2f905ae76b7768dea001d0a0cbe61d9107bb381e4d10bde5c", func := "loop.example/fossick/laws.FnExactSetAnd", spec := "fnExactSetAnd", apart := false }
def FnExactSetAndSaid : Prop := fnExactSetAndRow.holds Try.pinned (OpenSpec.ofChange fnExactSetAndSpec)

/-- ITS FALSE NEIGHBOUR: 'it returns false'. Refute it at one input. -/
def fnExactSetAndWrong : ChangeSpec := { name := "fnExactSetAnd", fn := fun _ => fun
  | [d1, d2] => { results := [.lit (.bool false)], args := [d1, d2] }
  | _ => none }
def FnExactSetAndWrongFalsely : Prop := fnExactSetAndRow.holds Try.pinned (OpenSpec.ofChange fnExactSetAndWrong)

/-- 'laws.FnExactPackPut': WHATEVER THE INPUT: true; the input reads as it did. -/
def fnExactPackPutSpec : ChangeSpec := { name := "fnExactPackPut", fn := fun _ => fun
  | [d] => { results := [.lit (.bool true)], args := [d] }
  | _ => none }
def fnExactPackPutRow : OpenClaim := { program := "ytkjlbellcbodcaa", sum := "4486b925badf3fb2f905ae76b7768dea001d0a0cbe61d9107bb381e4d10bde5c", func := "loop.example/fossick/laws.FnExactPackPut", spec := "fnExactPackPut", apart := false }
def FnExactPackPutSaid : Prop := fnExactPackPutRow.holds Try.pinned (OpenSpec.ofChange fnExactPackPutSpec)

/-- ITS FALSE NEIGHBOUR: 'it returns false'. Refute it at one input. -/
def fnExactPackPutWrong : ChangeSpec := { name := "fnExactPackPut", fn := fun _ => fun
  | [d] => { results := [.lit (.bool false)], args := [d] }
  | _ => none }
def FnExactPackPutWrongFalsely : Prop := fnExactPackPutRow.holds Try.pinned (OpenSpec.ofChange fnExactPackPutWrong)

/-- 'laws.FnExactGapGet': WHATEVER THE INPUT: true; the input reads as it did. -/
def fnExactGapGetSpec : ChangeSpec := { name := "fnExactGapGet", fn := fun _ => fun
  | [d] => { results := [.lit (.bool true)], args := [d] }
  | _ => none }
def fnExactGapGetRow : OpenClaim := { program := "ytkjlbellcbodcaa", sum := "4486b925badf3fb2f905ae76b7768dea001d0a0cbe61d9107bb381e4d10bde5c", func := "loop.example/fossick/laws.FnExactGapGet", spec := "fnExactGapGet", apart := false }
def FnExactGapGetSaid : Prop := fnExactGapGetRow.holds Try.pinned (OpenSpec.ofChange fnExactGapGetSpec)

/-- ITS FALSE NEIGHBOUR: 'it returns false'. Refute it at one input. -/
def fnExactGapGetWrong : ChangeSpec := { name := "fnExactGapGet", fn := fun _ => fun
  | [d] => { results := [.lit (.bool false)], args := [d] }
  | _ => none }
def FnExactGapGetWrongFalsely : Prop := fnExactGapGetRow.holds Try.pinned (OpenSpec.ofChange fnExactGapGetWrong)

/-- 'laws.FnExactPackGet': WHATEVER THE INPUT: true; the input reads as it did. -/
def fnExactPackGetSpec : ChangeSpec := { name := "fnExactPackGet", fn := fun _ => fun
  | [d] => { results := [.lit (.bool true)], args := [d] }
  | _ => none }
def fnExactPackGetRow : OpenClaim := { program := "ytkjlbellcbodcaa", sum := "4486b925badf3fb2f905ae76b7768dea001d0a0cbe61d9107bb381e4d10bde5c", func := "loop.example/fossick/laws.FnExactPackGet", spec := "fnExactPackGet", apart := false }
def FnExactPackGetSaid : Prop := fnExactPackGetRow.holds Try.pinned (OpenSpec.ofChange fnExactPackGetSpec)

/-- ITS FALSE NEIGHBOUR: 'it returns false'. Refute it at one input. -/
def fnExactPackGetWrong : ChangeSpec := { name := "fnExactPackGet", fn := fun _ => fun
  | [d] => { results := [.lit (.bool false)], args := [d] }
  | _ => none }
def FnExactPackGetWrongFalsely : Prop := fnExactPackGetRow.holds Try.pinned (OpenSpec.ofChange fnExactPackGetWrong)

/-- 'laws.FnPackWidth': WHATEVER THE INPUT: true; the input reads as it did. -/
def fnPackWidthSpec : ChangeSpec := { name := "fnPackWidth", fn := fun _ => fun
  | [d] => { results := [.lit (.bool true)], args := [d] }
  | _ => none }
def fnPackWidthRow : OpenClaim := { program := "ytkjlbellcbodcaa", sum := "4486b925badf3fb2f905ae76b7768dea001d0a0cbe61d9107bb381e4d10bde5c", func := "loop.example/fossick/laws.FnPackWidth", spec := "fnPackWidth", apart := false }
def FnPackWidthSaid : Prop := fnPackWidthRow.holds Try.pinned (OpenSpec.ofChange fnPackWidthSpec)

/-- ITS FALSE NEIGHBOUR: 'it returns false'. Refute it at one input. -/
def fnPackWidthWrong : ChangeSpec := { name := "fnPackWidth", fn := fun _ => fun
  | [d] => { results := [.lit (.bool false)], args := [d] }
  | _ => none }
def FnPackWidthWrongFalsely : Prop := fnPackWidthRow.holds Try.pinned (OpenSpec.ofChange fnPackWidthWrong)

/-- 'laws.FnSetSeek': WHATEVER THE INPUT: true; the input reads as it did. -/
def fnSetSeekSpec : ChangeSpec := { name := "fnSetSeek", fn := fun _ => fun
  | [d] => { results := [.lit (.bool true)], args := [d] }
  | _ => none }
def fnSetSeekRow : OpenClaim := { program := "ytkjlbellcbodcaa", sum := "4486b925badf3fb2f905ae76b7768dea001d0a0cbe61d9107bb381e4d10bde5c", func := "loop.example/fossick/laws.FnSetSeek", spec := "fnSetSeek", apart := false }
def FnSetSeekSaid : Prop := fnSetSeekRow.holds Try.pinned (OpenSpec.ofChange fnSetSeekSpec)

/-- ITS FALSE NEIGHBOUR: 'it returns false'. Refute it at one input. -/
def fnSetSeekWrong : ChangeSpec := { name := "fnSetSeek", fn := fun _ => fun
  | [d] => { results := [.lit (.bool false)], args := [d] }
  | _ => none }
def FnSetSeekWrongFalsely : Prop := fnSetSeekRow.holds Try.pinned (OpenSpec.ofChange fnSetSeekWrong)

/- THE SECOND FORM. 'bulk': how many values and letters a reading holds, each counted each time it is reached (what is shared counts as often as it is met; a slice's spare places count too). A statement '..UptoSaid' is the law's where the arguments, and the package variables that the reading takes, are together of bulk at most 1048576: NARROWER than '..Said'. Prove '..Said' where nothing that the law and all that it calls make is longer than what came in: it says more and counts as full. Else prove '..UptoSaid'. A law counts once. -/
mutual
def uptoBulk {H : Type} : DataW H → Nat
  | .lit (.string bytes) => bytes.length + 1
  | .lit _ => 1
  | .nil => 1
  | .ptr d => uptoBulk d + 1
  | .slice elems spare => uptoBulkAll elems + uptoBulkAll spare + 1
  | .agg parts => uptoBulkAll parts + 1
  | .iface _ d => uptoBulk d + 1
  | .map entries => uptoBulkEntries entries + 1
  | .held _ => 1
def uptoBulkAll {H : Type} : List (DataW H) → Nat
  | [] => 0
  | d :: r => uptoBulk d + uptoBulkAll r
def uptoBulkEntries {H : Type} : List (Lit × DataW H) → Nat
  | [] => 0
  | x :: r => uptoBulkEntry x + uptoBulkEntries r
def uptoBulkEntry {H : Type} : Lit × DataW H → Nat
  | (.string bytes, d) => bytes.length + uptoBulk d + 1
  | (_, d) => uptoBulk d + 1
 end
def uptoSmall : (H : Type) → List (DataW H) → Bool := fun _ ds => decide (uptoBulkAll ds ≤ 1048576)
def OpenSpec.upto (s : _root_.Go.ChangeSpec) : _root_.Go.OpenSpec := { _root_.Go.OpenSpec.ofChange s with cond := some uptoSmall }

/-- 'laws.FnExactVarPut', WHERE WHAT IT READS IS OF BULK AT MOST 1048576: true; the input reads as it did. -/
def fnExactVarPutUptoRow : OpenClaim := { program := "ytkjlbellcbodcaa", sum := "4486b925badf3fb2f905ae76b7768dea001d0a0cbe61d9107bb381e4d10bde5c", func := "loop.example/fossick/laws.FnExactVarPut", spec := "fnExactVarPut", apart := false, narrowed := true }
def FnExactVarPutUptoSaid : Prop := fnExactVarPutUptoRow.holds Try.pinned (OpenSpec.upto fnExactVarPutSpec)

/-- 'laws.FnExactUpOk', WHERE WHAT IT READS IS OF BULK AT MOST 1048576: true; the input reads as it did. -/
def fnExactUpOkUptoRow : OpenClaim := { program := "ytkjlbellcbodcaa", sum := "4486b925badf3fb2f905ae76b7768dea001d0a0cbe61d9107bb381e4d10bde5c", func := "loop.example/fossick/laws.FnExactUpOk", spec := "fnExactUpOk", apart := false, narrowed := true }
def FnExactUpOkUptoSaid : Prop := fnExactUpOkUptoRow.holds Try.pinned (OpenSpec.upto fnExactUpOkSpec)

/-- 'laws.FnExactVarGet', WHERE WHAT IT READS IS OF BULK AT MOST 1048576: true; the input reads as it did. -/
def fnExactVarGetUptoRow : OpenClaim := { program := "ytkjlbellcbodcaa", sum := "4486b925badf3fb2f905ae76b7768dea001d0a0cbe61d9107bb381e4d10bde5c", func := "loop.example/fossick/laws.FnExactVarGet", spec := "fnExactVarGet", apart := false, narrowed := true }
def FnExactVarGetUptoSaid : Prop := fnExactVarGetUptoRow.holds Try.pinned (OpenSpec.upto fnExactVarGetSpec)

/-- 'laws.FnExactPackWidth', WHERE WHAT IT READS IS OF BULK AT MOST 1048576: true; the input reads as it did. -/
def fnExactPackWidthUptoRow : OpenClaim := { program := "ytkjlbellcbodcaa", sum := "4486b925badf3fb2f905ae76b7768dea001d0a0cbe61d9107bb381e4d10bde5c", func := "loop.example/fossick/laws.FnExactPackWidth", spec := "fnExactPackWidth", apart := false, narrowed := true }
def FnExactPackWidthUptoSaid : Prop := fnExactPackWidthUptoRow.holds Try.pinned (OpenSpec.upto fnExactPackWidthSpec)

/-- 'laws.FnExactSetSeek', WHERE WHAT IT READS IS OF BULK AT MOST 1048576: true; the input reads as it did. -/
def fnExactSetSeekUptoRow : OpenClaim := { program := "ytkjlbellcbodcaa", sum := "4486b925badf3fb2f905ae76b7768dea001d0a0cbe61d9107bb381e4d10bde5c", func := "loop.example/fossick/laws.FnExactSetSeek", spec := "fnExactSetSeek", apart := false, narrowed := true }
def FnExactSetSeekUptoSaid : Prop := fnExactSetSeekUptoRow.holds Try.pinned (OpenSpec.upto fnExactSetSeekSpec)

/-- 'laws.FnExactGapPut', WHERE WHAT IT READS IS OF BULK AT MOST 1048576: true; the input reads as it did. -/
def fnExactGapPutUptoRow : OpenClaim := { program := "ytkjlbellcbodcaa", sum := "4486b925badf3fb2f905ae76b7768dea001d0a0cbe61d9107bb381e4d10bde5c", func := "loop.example/fossick/laws.FnExactGapPut", spec := "fnExactGapPut", apart := false, narrowed := true }
def FnExactGapPutUptoSaid : Prop := fnExactGapPutUptoRow.holds Try.pinned (OpenSpec.upto fnExactGapPutSpec)

/-- 'laws.FnExactSetAnd', WHERE WHAT IT READS IS OF BULK AT MOST 1048576: true; the input reads as it did. -/
def fnExactSetAndUptoRow : OpenClaim := { program := "ytkjlbellcbodcaa", sum := "4486b925badf3fb2f905ae76b7768dea001d0a0cbe61d9107bb381e4d10bde5c", func := "loop.example/fossick/laws.FnExactSetAnd", spec := "fnExactSetAnd", apart := false, narrowed := true }
def FnExactSetAndUptoSaid : Prop := fnExactSetAndUptoRow.holds Try.pinned (OpenSpec.upto fnExactSetAndSpec)

/-- 'laws.FnExactPackPut', WHERE WHAT IT READS IS OF BULK AT MOST 1048576: true; the input reads as it did. -/
def fnExactPackPutUptoRow : OpenClaim := { program := "ytkjlbellcbodcaa", sum := "4486b925badf3fb2f905ae76b7768dea001d0a0cbe61d9107bb381e4d10bde5c", func := "loop.example/fossick/laws.FnExactPackPut", spec := "fnExactPackPut", apart := false, narrowed := true }
def FnExactPackPutUptoSaid : Prop := fnExactPackPutUptoRow.holds Try.pinned (OpenSpec.upto fnExactPackPutSpec)

/-- 'laws.FnExactGapGet', WHERE WHAT IT READS IS OF BULK AT MOST 1048576: true; the input reads as it did. -/
def fnExactGapGetUptoRow : OpenClaim := { program := "ytkjlbellcbodcaa", sum := "4486b925badf3fb2f905ae76b7768dea001d0a0cbe61d9107bb381e4d10bde5c", func := "loop.example/fossick/laws.FnExactGapGet", spec := "fnExactGapGet", apart := false, narrowed := true }
def FnExactGapGetUptoSaid : Prop := fnExactGapGetUptoRow.holds Try.pinned (OpenSpec.upto fnExactGapGetSpec)

/-- 'laws.FnExactPackGet', WHERE WHAT IT READS IS OF BULK AT MOST 1048576: true; the input reads as it did. -/
def fnExactPackGetUptoRow : OpenClaim := { program := "ytkjlbellcbodcaa", sum := "4486b925badf3fb2f905ae76b7768dea001d0a0cbe61d9107bb381e4d10bde5c", func := "loop.example/fossick/laws.FnExactPackGet", spec := "fnExactPackGet", apart := false, narrowed := true }
def FnExactPackGetUptoSaid : Prop := fnExactPackGetUptoRow.holds Try.pinned (OpenSpec.upto fnExactPackGetSpec)

/-- 'laws.FnPackWidth', WHERE WHAT IT READS IS OF BULK AT MOST 1048576: true; the input reads as it did. -/
def fnPackWidthUptoRow : OpenClaim := { program := "ytkjlbellcbodcaa", sum := "4486b925badf3fb2f905ae76b7768dea001d0a0cbe61d9107bb381e4d10bde5c", func := "loop.example/fossick/laws.FnPackWidth", spec := "fnPackWidth", apart := false, narrowed := true }
def FnPackWidthUptoSaid : Prop := fnPackWidthUptoRow.holds Try.pinned (OpenSpec.upto fnPackWidthSpec)

/-- 'laws.FnSetSeek', WHERE WHAT IT READS IS OF BULK AT MOST 1048576: true; the input reads as it did. -/
def fnSetSeekUptoRow : OpenClaim := { program := "ytkjlbellcbodcaa", sum := "4486b925badf3fb2f905ae76b7768dea001d0a0cbe61d9107bb381e4d10bde5c", func := "loop.example/fossick/laws.FnSetSeek", spec := "fnSetSeek", apart := false, narrowed := true }
def FnSetSeekUptoSaid : Prop := fnSetSeekUptoRow.holds Try.pinned (OpenSpec.upto fnSetSeekSpec)

end Rows
end Go.Proofs.Ytkjlbellcbodcaa
