/-
  No cell of these rows narrows 'for every input' (looked for: loops, veiled, ifaces, maps, wideKeys, modest, calm, conditions, laid).
  DERIVED. THE GIVEN ROWS OF THIS SEAT. 7 by the template 'for every input the law returns true; each argument reads behind the call as it read before'; 0 by the template 'total and deterministic' (their statements: YtejooloflcldiaaTotals.lean).
  GIVEN WITH THE SEED: the statements are not yours to turn. If you find one false, say at which input.
  Laid BY PROGRAM, IN A SANDBOX (cutbox-rows.mjs): the forced cells as the released guide's own fill.sh prints them over the translation d7570033ab480479… (all of the seat's roots in one cut). By AI agents, Wed Nov 11 2026. No macro, syntax, notation, axiom, sorry.
-/
import Derived.Test.YtejooloflcldiaaChecked
import GoSem.Claim
import GoSem.ClaimJoined
import GoSem.ClaimMapViews
import Derived.JoinedTies
import Derived.KernelRfl
namespace Go.Proofs.Ytejooloflcldiaa
/- THE CELL 'sum', in the pinned program and in every row, IS THE sha256 OF THE DUMP (.gsa) THAT YtejooloflcldiaaProg.lean LOADS. Nothing in Lean hashes anything: it is a label: what it is worth is what the hold of that sum in a sandbox is worth. -/
noncomputable def Try.pinned : Pinned := { name := "ytejooloflcldiaa", sum := "d7570033ab4804792c23799271a3f9443c96b87548ca72b726b350921da16af1", checked := Try.checked }
namespace Rows
def none {H : Type} : Left H := { results := [], args := [] }

/-- 'laws.FnExactConfOk': WHATEVER THE INPUT: true; the input reads as it did. -/
def fnExactConfOkSpec : ChangeSpec := { name := "fnExactConfOk", fn := fun _ => fun
  | [d] => { results := [.lit (.bool true)], args := [d] }
  | _ => none }
def fnExactConfOkRow : OpenClaim := { program := "ytejooloflcldiaa", sum := "d7570033ab4804792c23799271a3f9443c96b87548ca72b726b350921da16af1", func := "loop.example/fossick/laws.FnExactConfOk", spec := "fnExactConfOk", apart := false }
def FnExactConfOkSaid : Prop := fnExactConfOkRow.holds Try.pinned (OpenSpec.ofChange fnExactConfOkSpec)

/-- ITS FALSE NEIGHBOUR: 'it returns false'. Refute it at one input. -/
def fnExactConfOkWrong : ChangeSpec := { name := "fnExactConfOk", fn := fun _ => fun
  | [d] => { results := [.lit (.bool false)], args := [d] }
  | _ => none }
def FnExactConfOkWrongFalsely : Prop := fnExactConfOkRow.holds Try.pinned (OpenSpec.ofChange fnExactConfOkWrong)

/-- 'laws.FnTermOf': WHATEVER THE INPUT: true; the input reads as it did. -/
def fnTermOfSpec : ChangeSpec := { name := "fnTermOf", fn := fun _ => fun
  | [d] => { results := [.lit (.bool true)], args := [d] }
  | _ => none }
def fnTermOfRow : OpenClaim := { program := "ytejooloflcldiaa", sum := "d7570033ab4804792c23799271a3f9443c96b87548ca72b726b350921da16af1", func := "loop.example/fossick/laws.FnTermOf", spec := "fnTermOf", apart := false }
def FnTermOfSaid : Prop := fnTermOfRow.holds Try.pinned (OpenSpec.ofChange fnTermOfSpec)

/-- ITS FALSE NEIGHBOUR: 'it returns false'. Refute it at one input. -/
def fnTermOfWrong : ChangeSpec := { name := "fnTermOf", fn := fun _ => fun
  | [d] => { results := [.lit (.bool false)], args := [d] }
  | _ => none }
def FnTermOfWrongFalsely : Prop := fnTermOfRow.holds Try.pinned (OpenSpec.ofChange fnTermOfWrong)

/-- 'laws.FnTermsBare': WHATEVER THE INPUT: true; the input reads as it did. -/
def fnTermsBareSpec : ChangeSpec := { name := "fnTermsBare", fn := fun _ => fun
  | [d] => { results := [.lit (.bool true)], args := [d] }
  | _ => none }
def fnTermsBareRow : OpenClaim := { program := "ytejooloflcldiaa", sum := "d7570033ab4804792c23799271a3f9443c96b87548ca72b726b350921da16af1", func := "loop.example/fossick/laws.FnTermsBare", spec := "fnTermsBare", apart := false }
def FnTermsBareSaid : Prop := fnTermsBareRow.holds Try.pinned (OpenSpec.ofChange fnTermsBareSpec)

/-- ITS FALSE NEIGHBOUR: 'it returns false'. Refute it at one input. -/
def fnTermsBareWrong : ChangeSpec := { name := "fnTermsBare", fn := fun _ => fun
  | [d] => { results := [.lit (.bool false)], args := [d] }
  | _ => none }
def FnTermsBareWrongFalsely : Prop := fnTermsBareRow.holds Try.pinned (OpenSpec.ofChange fnTermsBareWrong)

/-- 'laws.FnTermsCut': WHATEVER THE INPUT: true; the input reads as it did. -/
def fnTermsCutSpec : ChangeSpec := { name := "fnTermsCut", fn := fun _ => fun
  | [d1, d2] => { results := [.lit (.bool true)], args := [d1, d2] }
  | _ => none }
def fnTermsCutRow : OpenClaim := { program := "ytejooloflcldiaa", sum := "d7570033ab4804792c23799271a3f9443c96b87548ca72b726b350921da16af1", func := "loop.example/fossick/laws.FnTermsCut", spec := "fnTermsCut", apart := false }
def FnTermsCutSaid : Prop := fnTermsCutRow.holds Try.pinned (OpenSpec.ofChange fnTermsCutSpec)

/-- ITS FALSE NEIGHBOUR: 'it returns false'. Refute it at one input. -/
def fnTermsCutWrong : ChangeSpec := { name := "fnTermsCut", fn := fun _ => fun
  | [d1, d2] => { results := [.lit (.bool false)], args := [d1, d2] }
  | _ => none }
def FnTermsCutWrongFalsely : Prop := fnTermsCutRow.holds Try.pinned (OpenSpec.ofChange fnTermsCutWrong)

/-- 'laws.FnTermsOf': WHATEVER THE INPUT: true; the input reads as it did. -/
def fnTermsOfSpec : ChangeSpec := { name := "fnTermsOf", fn := fun _ => fun
  | [d] => { results := [.lit (.bool true)], args := [d] }
  | _ => none }
def fnTermsOfRow : OpenClaim := { program := "ytejooloflcldiaa", sum := "d7570033ab4804792c23799271a3f9443c96b87548ca72b726b350921da16af1", func := "loop.example/fossick/laws.FnTermsOf", spec := "fnTermsOf", apart := false }
def FnTermsOfSaid : Prop := fnTermsOfRow.holds Try.pinned (OpenSpec.ofChange fnTermsOfSpec)

/-- ITS FALSE NEIGHBOUR: 'it returns false'. Refute it at one input. -/
def fnTermsOfWrong : ChangeSpec := { name := "fnTermsOf", fn := fun _ => fun
  | [d] => { results := [.lit (.bool false)], args := [d] }
  | _ => none }
def FnTermsOfWrongFalsely : Prop := fnTermsOfRow.holds Try.pinned (OpenSpec.ofChange fnTermsOfWrong)

/-- 'laws.FnExactTermOf': WHATEVER THE INPUT: true; the input reads as it did. -/
def fnExactTermOfSpec : ChangeSpec := { name := "fnExactTermOf", fn := fun _ => fun
  | [d1, d2] => { results := [.lit (.bool true)], args := [d1, d2] }
  | _ => none }
def fnExactTermOfRow : OpenClaim := { program := "ytejooloflcldiaa", sum := "d7570033ab4804792c23799271a3f9443c96b87548ca72b726b350921da16af1", func := "loop.example/fossick/laws.FnExactTermOf", spec := "fnExactTermOf", apart := false }
def FnExactTermOfSaid : Prop := fnExactTermOfRow.holds Try.pinned (OpenSpec.ofChange fnExactTermOfSpec)

/-- ITS FALSE NEIGHBOUR: 'it returns false'. Refute it at one input. -/
def fnExactTermOfWrong : ChangeSpec := { name := "fnExactTermOf", fn := fun _ => fun
  | [d1, d2] => { results := [.lit (.bool false)], args := [d1, d2] }
  | _ => none }
def FnExactTermOfWrongFalsely : Prop := fnExactTermOfRow.holds Try.pinned (OpenSpec.ofChange fnExactTermOfWrong)

/-- 'laws.FnExactTermsOf': WHATEVER THE INPUT: true; the input reads as it did. -/
def fnExactTermsOfSpec : ChangeSpec := { name := "fnExactTermsOf", fn := fun _ => fun
  | [d1, d2] => { results := [.lit (.bool true)], args := [d1, d2] }
  | _ => none }
def fnExactTermsOfRow : OpenClaim := { program := "ytejooloflcldiaa", sum := "d7570033ab4804792c23799271a3f9443c96b87548ca72b726b350921da16af1", func := "loop.example/fossick/laws.FnExactTermsOf", spec := "fnExactTermsOf", apart := false }
def FnExactTermsOfSaid : Prop := fnExactTermsOfRow.holds Try.pinned (OpenSpec.ofChange fnExactTermsOfSpec)

/-- ITS FALSE NEIGHBOUR: 'it returns false'. Refute it at one input. -/
def fnExactTermsOfWrong : ChangeSpec := { name := "fnExactTermsOf", fn := fun _ => fun
  | [d1, d2] => { results := [.lit (.bool false)], args := [d1, d2] }
  | _ => none }
def FnExactTermsOfWrongFalsely : Prop := fnExactTermsOfRow.holds Try.pinned (OpenSpec.ofChange fnExactTermsOfWrong)

/- THE SECOND FORM. 'bulk': how many values and letters a reading holds, each counted each time it is reached (what is shared counts as often as it is met; a slice's spare places count too). A statement '..UptoSaid' is the law's where the arguments, and the package variables that the reading takes, are together of bulk at most 1048576: NARROWER than '..Said'. Prove '..Said' where nothing that the law and all that it calls make is longer than what came in: it says more and counts as full. Else prove '..UptoSaid'. A law counts once. -/
mutual
def uptoBulk {H : Type} : DataW H → Nat
  | .lit (.string bytes) => bytes.length + 1
  | .lit _ => 1
  | .nil => 1
  | .ptr d => uptoBulk d + 1
  | .slice elems spare => uptoBulkAll elems + uptoBulkAll spare + 1
  | .agg parts => uptoBulkAll parts + 1
  | .iface _ d => uptoBulk d + 1
  | .map entries => uptoBulkEntries entries + 1
  | .held _ => 1
def uptoBulkAll {H : Type} : List (DataW H) → Nat
  | [] => 0
  | d :: r => uptoBulk d + uptoBulkAll r
def uptoBulkEntries {H : Type} : List (Lit × DataW H) → Nat
  | [] => 0
  | x :: r => uptoBulkEntry x + uptoBulkEntries r
def uptoBulkEntry {H : Type} : Lit × DataW H → Nat
  | (.string bytes, d) => bytes.length + uptoBulk d + 1
  | (_, d) => uptoBulk d + 1
 end
def uptoSmall : (H : Type) → List (DataW H) → Bool := fun _ ds => decide (uptoBulkAll ds ≤ 1048576)
def OpenSpec.upto (s : _root_.Go.ChangeSpec) : _root_.Go.OpenSpec := { _root_.Go.OpenSpec.ofChange s with cond := some uptoSmall }

/-- 'laws.FnExactConfOk', WHERE WHAT IT READS IS OF BULK AT MOST 1048576: true; the input reads as it did. -/
def fnExactConfOkUptoRow : OpenClaim := { program := "ytejooloflcldiaa", sum := "d7570033ab4804792c23799271a3f9443c96b87548ca72b726b350921da16af1", func := "loop.example/fossick/laws.FnExactConfOk", spec := "fnExactConfOk", apart := false, narrowed := true }
def FnExactConfOkUptoSaid : Prop := fnExactConfOkUptoRow.holds Try.pinned (OpenSpec.upto fnExactConfOkSpec)

/-- 'laws.FnTermOf', WHERE WHAT IT READS IS OF BULK AT MOST 1048576: true; the input reads as it did. -/
def fnTermOfUptoRow : OpenClaim := { program := "ytejooloflcldiaa", sum := "d7570033ab4804792c23799271a3f9443c96b87548ca72b726b350921da16af1", func := "loop.example/fossick/laws.FnTermOf", spec := "fnTermOf", apart := false, narrowed := true }
def FnTermOfUptoSaid : Prop := fnTermOfUptoRow.holds Try.pinned (OpenSpec.upto fnTermOfSpec)

/-- 'laws.FnTermsBare', WHERE WHAT IT READS IS OF BULK AT MOST 1048576: true; the input reads as it did. -/
def fnTermsBareUptoRow : OpenClaim := { program := "ytejooloflcldiaa", sum := "d7570033ab4804792c23799271a3f9443c96b87548ca72b726b350921da16af1", func := "loop.example/fossick/laws.FnTermsBare", spec := "fnTermsBare", apart := false, narrowed := true }
def FnTermsBareUptoSaid : Prop := fnTermsBareUptoRow.holds Try.pinned (OpenSpec.upto fnTermsBareSpec)

/-- 'laws.FnTermsCut', WHERE WHAT IT READS IS OF BULK AT MOST 1048576: true; the input reads as it did. -/
def fnTermsCutUptoRow : OpenClaim := { program := "ytejooloflcldiaa", sum := "d7570033ab4804792c23799271a3f9443c96b87548ca72b726b350921da16af1", func := "loop.example/fossick/laws.FnTermsCut", spec := "fnTermsCut", apart := false, narrowed := true }
def FnTermsCutUptoSaid : Prop := fnTermsCutUptoRow.holds Try.pinned (OpenSpec.upto fnTermsCutSpec)

/-- 'laws.FnTermsOf', WHERE WHAT IT READS IS OF BULK AT MOST 1048576: true; the input reads as it did. -/
def fnTermsOfUptoRow : OpenClaim := { program := "ytejooloflcldiaa", sum := "d7570033ab4804792c23799271a3f9443c96b87548ca72b726b350921da16af1", func := "loop.example/fossick/laws.FnTermsOf", spec := "fnTermsOf", apart := false, narrowed := true }
def FnTermsOfUptoSaid : Prop := fnTermsOfUptoRow.holds Try.pinned (OpenSpec.upto fnTermsOfSpec)

/-- 'laws.FnExactTermOf', WHERE WHAT IT READS IS OF BULK AT MOST 1048576: true; the input reads as it did. -/
def fnExactTermOfUptoRow : OpenClaim := { program := "ytejooloflcldiaa", sum := "d7570033ab4804792c23799271a3f9443c96b87548ca72b726b350921da16af1", func := "loop.example/fossick/laws.FnExactTermOf", spec := "fnExactTermOf", apart := false, narrowed := true }
def FnExactTermOfUptoSaid : Prop := fnExactTermOfUptoRow.holds Try.pinned (OpenSpec.upto fnExactTermOfSpec)

/-- 'laws.FnExactTermsOf', WHERE WHAT IT READS IS OF BULK AT MOST 1048576: true; the input reads as it did. -/
def fnExactTermsOfUptoRow : OpenClaim := { program := "ytejooloflcldiaa", sum := "d7570033ab4804792c23799271a3f9443c96b87548ca72b726b350921da16af1", func := "loop.example/fossick/laws.FnExactTermsOf", spec := "fnExactTermsOf", apart := false, narrowed := true }
def FnExactTermsOfUptoSaid : Prop := fnExactTermsOfUptoRow.holds Try.pinned (OpenSpec.upto fnExactTermsOfSpec)

end Rows
end Go.Proofs.Ytejooloflcldiaa
