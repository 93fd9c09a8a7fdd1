/-
  No cell of these rows narrows 'for every input' (looked for: loops, veiled, ifaces, maps, wideKeys, modest, calm, conditions, laid).
  DERIVED. THE GIVEN ROWS OF THIS SEAT. 12 by the template 'for every input the law returns true; each argument reads behind the call as it read before'; 0 by the template 'total and deterministic' (their statements: YthbdbdccfdcpiaaTotals.lean).
  GIVEN WITH THE SEED: the statements are not yours to turn. If you find one false, say at which input.
  Laid BY PROGRAM, IN A SANDBOX (cutbox-rows.mjs): the forced cells as the released guide's own fill.sh prints them over the translation f94ca8f0821a8f43… (all of the seat's roots in one cut). By AI agents, Wed Nov 11 2026. No macro, syntax, notation, axiom, sorry.
-/
import Derived.Test.YthbdbdccfdcpiaaChecked
import GoSem.Claim
import GoSem.ClaimJoined
import GoSem.ClaimMapViews
import Derived.JoinedTies
import Derived.KernelRfl
namespace Go.Proofs.Ythbdbdccfdcpiaa
/- THE CELL 'sum', in the pinned program and in every row, IS THE sha256 OF THE DUMP (.gsa) THAT YthbdbdccfdcpiaaProg.lean LOADS. Nothing in Lean hashes anything: it is a label: what it is worth is what the hold of that sum in a sandbox is worth. -/
noncomputable def Try.pinned : Pinned := { name := "ythbdbdccfdcpiaa", sum := "f94ca8f0821a8f43bca523168493571db85f805d99d4f081ca4c08a4c04d2920", checked := Try.checked }
namespace Rows
def none {H : Type} : Left H := { results := [], args := [] }

/-- 'laws.FnWordOk': WHATEVER THE INPUT: true; the input reads as it did. -/
def fnWordOkSpec : ChangeSpec := { name := "fnWordOk", fn := fun _ => fun
  | [d] => { results := [.lit (.bool true)], args := [d] }
  | _ => none }
def fnWordOkRow : OpenClaim := { program := "ythbdbdccfdcpiaa", sum := "f94ca8f0821a8f43bca523168493571db85f805d99d4f081ca4c08a4c04d2920", func := "loop.example/fossick/laws.FnWordOk", spec := "fnWordOk", apart := false }
def FnWordOkSaid : Prop := fnWordOkRow.holds Try.pinned (OpenSpec.ofChange fnWordOkSpec)

/-- ITS FALSE NEIGHBOUR: 'it returns false'. Refute it at one input. -/
def fnWordOkWrong : ChangeSpec := { name := "fnWordOk", fn := fun _ => fun
  | [d] => { results := [.lit (.bool false)], args := [d] }
  | _ => none }
def FnWordOkWrongFalsely : Prop := fnWordOkRow.holds Try.pinned (OpenSpec.ofChange fnWordOkWrong)

/-- 'laws.FnStemOf': WHATEVER THE INPUT: true; the input reads as it did. -/
def fnStemOfSpec : ChangeSpec := { name := "fnStemOf", fn := fun _ => fun
  | [d] => { results := [.lit (.bool true)], args := [d] }
  | _ => none }
def fnStemOfRow : OpenClaim := { program := "ythbdbdccfdcpiaa", sum := "f94ca8f0821a8f43bca523168493571db85f805d99d4f081ca4c08a4c04d2920", func := "loop.example/fossick/laws.FnStemOf", spec := "fnStemOf", apart := false }
def FnStemOfSaid : Prop := fnStemOfRow.holds Try.pinned (OpenSpec.ofChange fnStemOfSpec)

/-- ITS FALSE NEIGHBOUR: 'it returns false'. Refute it at one input. -/
def fnStemOfWrong : ChangeSpec := { name := "fnStemOf", fn := fun _ => fun
  | [d] => { results := [.lit (.bool false)], args := [d] }
  | _ => none }
def FnStemOfWrongFalsely : Prop := fnStemOfRow.holds Try.pinned (OpenSpec.ofChange fnStemOfWrong)

/-- 'laws.FnGlobHas': WHATEVER THE INPUT: true; the input reads as it did. -/
def fnGlobHasSpec : ChangeSpec := { name := "fnGlobHas", fn := fun _ => fun
  | [d] => { results := [.lit (.bool true)], args := [d] }
  | _ => none }
def fnGlobHasRow : OpenClaim := { program := "ythbdbdccfdcpiaa", sum := "f94ca8f0821a8f43bca523168493571db85f805d99d4f081ca4c08a4c04d2920", func := "loop.example/fossick/laws.FnGlobHas", spec := "fnGlobHas", recurses := true, apart := false }
def FnGlobHasSaid : Prop := fnGlobHasRow.holds Try.pinned (OpenSpec.ofChange fnGlobHasSpec)

/-- ITS FALSE NEIGHBOUR: 'it returns false'. Refute it at one input. -/
def fnGlobHasWrong : ChangeSpec := { name := "fnGlobHas", fn := fun _ => fun
  | [d] => { results := [.lit (.bool false)], args := [d] }
  | _ => none }
def FnGlobHasWrongFalsely : Prop := fnGlobHasRow.holds Try.pinned (OpenSpec.ofChange fnGlobHasWrong)

/-- 'laws.FnNearByte': WHATEVER THE INPUT: true; the input reads as it did. -/
def fnNearByteSpec : ChangeSpec := { name := "fnNearByte", fn := fun _ => fun
  | [d1, d2] => { results := [.lit (.bool true)], args := [d1, d2] }
  | _ => none }
def fnNearByteRow : OpenClaim := { program := "ythbdbdccfdcpiaa", sum := "f94ca8f0821a8f43bca523168493571db85f805d99d4f081ca4c08a4c04d2920", func := "loop.example/fossick/laws.FnNearByte", spec := "fnNearByte", apart := false }
def FnNearByteSaid : Prop := fnNearByteRow.holds Try.pinned (OpenSpec.ofChange fnNearByteSpec)

/-- ITS FALSE NEIGHBOUR: 'it returns false'. Refute it at one input. -/
def fnNearByteWrong : ChangeSpec := { name := "fnNearByte", fn := fun _ => fun
  | [d1, d2] => { results := [.lit (.bool false)], args := [d1, d2] }
  | _ => none }
def FnNearByteWrongFalsely : Prop := fnNearByteRow.holds Try.pinned (OpenSpec.ofChange fnNearByteWrong)

/-- 'laws.FnNearFar': WHATEVER THE INPUT: true; the input reads as it did. -/
def fnNearFarSpec : ChangeSpec := { name := "fnNearFar", fn := fun _ => fun
  | [d1, d2] => { results := [.lit (.bool true)], args := [d1, d2] }
  | _ => none }
def fnNearFarRow : OpenClaim := { program := "ythbdbdccfdcpiaa", sum := "f94ca8f0821a8f43bca523168493571db85f805d99d4f081ca4c08a4c04d2920", func := "loop.example/fossick/laws.FnNearFar", spec := "fnNearFar", apart := false }
def FnNearFarSaid : Prop := fnNearFarRow.holds Try.pinned (OpenSpec.ofChange fnNearFarSpec)

/-- ITS FALSE NEIGHBOUR: 'it returns false'. Refute it at one input. -/
def fnNearFarWrong : ChangeSpec := { name := "fnNearFar", fn := fun _ => fun
  | [d1, d2] => { results := [.lit (.bool false)], args := [d1, d2] }
  | _ => none }
def FnNearFarWrongFalsely : Prop := fnNearFarRow.holds Try.pinned (OpenSpec.ofChange fnNearFarWrong)

/-- 'laws.FnWordsAgain': WHATEVER THE INPUT: true; the input reads as it did. -/
def fnWordsAgainSpec : ChangeSpec := { name := "fnWordsAgain", fn := fun _ => fun
  | [d] => { results := [.lit (.bool true)], args := [d] }
  | _ => none }
def fnWordsAgainRow : OpenClaim := { program := "ythbdbdccfdcpiaa", sum := "f94ca8f0821a8f43bca523168493571db85f805d99d4f081ca4c08a4c04d2920", func := "loop.example/fossick/laws.FnWordsAgain", spec := "fnWordsAgain", apart := false }
def FnWordsAgainSaid : Prop := fnWordsAgainRow.holds Try.pinned (OpenSpec.ofChange fnWordsAgainSpec)

/-- ITS FALSE NEIGHBOUR: 'it returns false'. Refute it at one input. -/
def fnWordsAgainWrong : ChangeSpec := { name := "fnWordsAgain", fn := fun _ => fun
  | [d] => { results := [.lit (.bool false)], args := [d] }
  | _ => none }
def FnWordsAgainWrongFalsely : Prop := fnWordsAgainRow.holds Try.pinned (OpenSpec.ofChange fnWordsAgainWrong)

/-- 'laws.FnWordsCut': WHATEVER THE INPUT: true; the input reads as it did. -/
def fnWordsCutSpec : ChangeSpec := { name := "fnWordsCut", fn := fun _ => fun
  | [d1, d2] => { results := [.lit (.bool true)], args := [d1, d2] }
  | _ => none }
def fnWordsCutRow : OpenClaim := { program := "ythbdbdccfdcpiaa", sum := "f94ca8f0821a8f43bca523168493571db85f805d99d4f081ca4c08a4c04d2920", func := "loop.example/fossick/laws.FnWordsCut", spec := "fnWordsCut", apart := false }
def FnWordsCutSaid : Prop := fnWordsCutRow.holds Try.pinned (OpenSpec.ofChange fnWordsCutSpec)

/-- ITS FALSE NEIGHBOUR: 'it returns false'. Refute it at one input. -/
def fnWordsCutWrong : ChangeSpec := { name := "fnWordsCut", fn := fun _ => fun
  | [d1, d2] => { results := [.lit (.bool false)], args := [d1, d2] }
  | _ => none }
def FnWordsCutWrongFalsely : Prop := fnWordsCutRow.holds Try.pinned (OpenSpec.ofChange fnWordsCutWrong)

/-- 'laws.FnWordsOf': WHATEVER THE INPUT: true; the input reads as it did. -/
def fnWordsOfSpec : ChangeSpec := { name := "fnWordsOf", fn := fun _ => fun
  | [d] => { results := [.lit (.bool true)], args := [d] }
  | _ => none }
def fnWordsOfRow : OpenClaim := { program := "ythbdbdccfdcpiaa", sum := "f94ca8f0821a8f43bca523168493571db85f805d99d4f081ca4c08a4c04d2920", func := "loop.example/fossick/laws.FnWordsOf", spec := "fnWordsOf", apart := false }
def FnWordsOfSaid : Prop := fnWordsOfRow.holds Try.pinned (OpenSpec.ofChange fnWordsOfSpec)

/-- ITS FALSE NEIGHBOUR: 'it returns false'. Refute it at one input. -/
def fnWordsOfWrong : ChangeSpec := { name := "fnWordsOf", fn := fun _ => fun
  | [d] => { results := [.lit (.bool false)], args := [d] }
  | _ => none }
def FnWordsOfWrongFalsely : Prop := fnWordsOfRow.holds Try.pinned (OpenSpec.ofChange fnWordsOfWrong)

/-- 'laws.FnGlobOf': WHATEVER THE INPUT: true; the input reads as it did. -/
def fnGlobOfSpec : ChangeSpec := { name := "fnGlobOf", fn := fun _ => fun
  | [d] => { results := [.lit (.bool true)], args := [d] }
  | _ => none }
def fnGlobOfRow : OpenClaim := { program := "ythbdbdccfdcpiaa", sum := "f94ca8f0821a8f43bca523168493571db85f805d99d4f081ca4c08a4c04d2920", func := "loop.example/fossick/laws.FnGlobOf", spec := "fnGlobOf", recurses := true, apart := false }
def FnGlobOfSaid : Prop := fnGlobOfRow.holds Try.pinned (OpenSpec.ofChange fnGlobOfSpec)

/-- ITS FALSE NEIGHBOUR: 'it returns false'. Refute it at one input. -/
def fnGlobOfWrong : ChangeSpec := { name := "fnGlobOf", fn := fun _ => fun
  | [d] => { results := [.lit (.bool false)], args := [d] }
  | _ => none }
def FnGlobOfWrongFalsely : Prop := fnGlobOfRow.holds Try.pinned (OpenSpec.ofChange fnGlobOfWrong)

/-- 'laws.FnNearOf': WHATEVER THE INPUT: true; the input reads as it did. -/
def fnNearOfSpec : ChangeSpec := { name := "fnNearOf", fn := fun _ => fun
  | [d] => { results := [.lit (.bool true)], args := [d] }
  | _ => none }
def fnNearOfRow : OpenClaim := { program := "ythbdbdccfdcpiaa", sum := "f94ca8f0821a8f43bca523168493571db85f805d99d4f081ca4c08a4c04d2920", func := "loop.example/fossick/laws.FnNearOf", spec := "fnNearOf", apart := false }
def FnNearOfSaid : Prop := fnNearOfRow.holds Try.pinned (OpenSpec.ofChange fnNearOfSpec)

/-- ITS FALSE NEIGHBOUR: 'it returns false'. Refute it at one input. -/
def fnNearOfWrong : ChangeSpec := { name := "fnNearOf", fn := fun _ => fun
  | [d] => { results := [.lit (.bool false)], args := [d] }
  | _ => none }
def FnNearOfWrongFalsely : Prop := fnNearOfRow.holds Try.pinned (OpenSpec.ofChange fnNearOfWrong)

/-- 'laws.FnGlobTidy': WHATEVER THE INPUT: true; the input reads as it did. -/
def fnGlobTidySpec : ChangeSpec := { name := "fnGlobTidy", fn := fun _ => fun
  | [d1, d2] => { results := [.lit (.bool true)], args := [d1, d2] }
  | _ => none }
def fnGlobTidyRow : OpenClaim := { program := "ythbdbdccfdcpiaa", sum := "f94ca8f0821a8f43bca523168493571db85f805d99d4f081ca4c08a4c04d2920", func := "loop.example/fossick/laws.FnGlobTidy", spec := "fnGlobTidy", inPlace := ["internal/bytealg.CountString", "internal/bytealg.IndexByteString", "internal/bytealg.IndexString", "internal/abi.NoEscape", "internal/bytealg.MakeNoZero"], recurses := true, named := ["internal/bytealg.MaxLen"], apart := false }
def FnGlobTidySaid : Prop := fnGlobTidyRow.holds Try.pinned (OpenSpec.ofChange fnGlobTidySpec)

/-- ITS FALSE NEIGHBOUR: 'it returns false'. Refute it at one input. -/
def fnGlobTidyWrong : ChangeSpec := { name := "fnGlobTidy", fn := fun _ => fun
  | [d1, d2] => { results := [.lit (.bool false)], args := [d1, d2] }
  | _ => none }
def FnGlobTidyWrongFalsely : Prop := fnGlobTidyRow.holds Try.pinned (OpenSpec.ofChange fnGlobTidyWrong)

/-- 'laws.FnExactGlobTidy': WHATEVER THE INPUT: true; the input reads as it did. -/
def fnExactGlobTidySpec : ChangeSpec := { name := "fnExactGlobTidy", fn := fun _ => fun
  | [d] => { results := [.lit (.bool true)], args := [d] }
  | _ => none }
def fnExactGlobTidyRow : OpenClaim := { program := "ythbdbdccfdcpiaa", sum := "f94ca8f0821a8f43bca523168493571db85f805d99d4f081ca4c08a4c04d2920", func := "loop.example/fossick/laws.FnExactGlobTidy", spec := "fnExactGlobTidy", inPlace := ["internal/bytealg.CountString", "internal/bytealg.IndexByteString", "internal/bytealg.IndexString", "internal/abi.NoEscape", "internal/bytealg.MakeNoZero"], named := ["internal/bytealg.MaxLen"], apart := false }
def FnExactGlobTidySaid : Prop := fnExactGlobTidyRow.holds Try.pinned (OpenSpec.ofChange fnExactGlobTidySpec)

/-- ITS FALSE NEIGHBOUR: 'it returns false'. Refute it at one input. -/
def fnExactGlobTidyWrong : ChangeSpec := { name := "fnExactGlobTidy", fn := fun _ => fun
  | [d] => { results := [.lit (.bool false)], args := [d] }
  | _ => none }
def FnExactGlobTidyWrongFalsely : Prop := fnExactGlobTidyRow.holds Try.pinned (OpenSpec.ofChange fnExactGlobTidyWrong)

/- THE SECOND FORM. 'bulk': how many values and letters a reading holds, each counted each time it is reached (what is shared counts as often as it is met; a slice's spare places count too). A statement '..UptoSaid' is the law's where the arguments, and the package variables that the reading takes, are together of bulk at most 1048576: NARROWER than '..Said'. Prove '..Said' where nothing that the law and all that it calls make is longer than what came in: it says more and counts as full. Else prove '..UptoSaid'. A law counts once. -/
mutual
def uptoBulk {H : Type} : DataW H → Nat
  | .lit (.string bytes) => bytes.length + 1
  | .lit _ => 1
  | .nil => 1
  | .ptr d => uptoBulk d + 1
  | .slice elems spare => uptoBulkAll elems + uptoBulkAll spare + 1
  | .agg parts => uptoBulkAll parts + 1
  | .iface _ d => uptoBulk d + 1
  | .map entries => uptoBulkEntries entries + 1
  | .held _ => 1
def uptoBulkAll {H : Type} : List (DataW H) → Nat
  | [] => 0
  | d :: r => uptoBulk d + uptoBulkAll r
def uptoBulkEntries {H : Type} : List (Lit × DataW H) → Nat
  | [] => 0
  | x :: r => uptoBulkEntry x + uptoBulkEntries r
def uptoBulkEntry {H : Type} : Lit × DataW H → Nat
  | (.string bytes, d) => bytes.length + uptoBulk d + 1
  | (_, d) => uptoBulk d + 1
 end
def uptoSmall : (H : Type) → List (DataW H) → Bool := fun _ ds => decide (uptoBulkAll ds ≤ 1048576)
def OpenSpec.upto (s : _root_.Go.ChangeSpec) : _root_.Go.OpenSpec := { _root_.Go.OpenSpec.ofChange s with cond := some uptoSmall }

/-- 'laws.FnWordOk', WHERE WHAT IT READS IS OF BULK AT MOST 1048576: true; the input reads as it did. -/
def fnWordOkUptoRow : OpenClaim := { program := "ythbdbdccfdcpiaa", sum := "f94ca8f0821a8f43bca523168493571db85f805d99d4f081ca4c08a4c04d2920", func := "loop.example/fossick/laws.FnWordOk", spec := "fnWordOk", apart := false, narrowed := true }
def FnWordOkUptoSaid : Prop := fnWordOkUptoRow.holds Try.pinned (OpenSpec.upto fnWordOkSpec)

/-- 'laws.FnStemOf', WHERE WHAT IT READS IS OF BULK AT MOST 1048576: true; the input reads as it did. -/
def fnStemOfUptoRow : OpenClaim := { program := "ythbdbdccfdcpiaa", sum := "f94ca8f0821a8f43bca523168493571db85f805d99d4f081ca4c08a4c04d2920", func := "loop.example/fossick/laws.FnStemOf", spec := "fnStemOf", apart := false, narrowed := true }
def FnStemOfUptoSaid : Prop := fnStemOfUptoRow.holds Try.pinned (OpenSpec.upto fnStemOfSpec)

/-- 'laws.FnGlobHas', WHERE WHAT IT READS IS OF BULK AT MOST 1048576: true; the input reads as it did. -/
def fnGlobHasUptoRow : OpenClaim := { program := "ythbdbdccfdcpiaa", sum := "f94ca8f0821a8f43bca523168493571db85f805d99d4f081ca4c08a4c04d2920", func := "loop.example/fossick/laws.FnGlobHas", spec := "fnGlobHas", recurses := true, apart := false, narrowed := true }
def FnGlobHasUptoSaid : Prop := fnGlobHasUptoRow.holds Try.pinned (OpenSpec.upto fnGlobHasSpec)

/-- 'laws.FnNearByte', WHERE WHAT IT READS IS OF BULK AT MOST 1048576: true; the input reads as it did. -/
def fnNearByteUptoRow : OpenClaim := { program := "ythbdbdccfdcpiaa", sum := "f94ca8f0821a8f43bca523168493571db85f805d99d4f081ca4c08a4c04d2920", func := "loop.example/fossick/laws.FnNearByte", spec := "fnNearByte", apart := false, narrowed := true }
def FnNearByteUptoSaid : Prop := fnNearByteUptoRow.holds Try.pinned (OpenSpec.upto fnNearByteSpec)

/-- 'laws.FnNearFar', WHERE WHAT IT READS IS OF BULK AT MOST 1048576: true; the input reads as it did. -/
def fnNearFarUptoRow : OpenClaim := { program := "ythbdbdccfdcpiaa", sum := "f94ca8f0821a8f43bca523168493571db85f805d99d4f081ca4c08a4c04d2920", func := "loop.example/fossick/laws.FnNearFar", spec := "fnNearFar", apart := false, narrowed := true }
def FnNearFarUptoSaid : Prop := fnNearFarUptoRow.holds Try.pinned (OpenSpec.upto fnNearFarSpec)

/-- 'laws.FnWordsAgain', WHERE WHAT IT READS IS OF BULK AT MOST 1048576: true; the input reads as it did. -/
def fnWordsAgainUptoRow : OpenClaim := { program := "ythbdbdccfdcpiaa", sum := "f94ca8f0821a8f43bca523168493571db85f805d99d4f081ca4c08a4c04d2920", func := "loop.example/fossick/laws.FnWordsAgain", spec := "fnWordsAgain", apart := false, narrowed := true }
def FnWordsAgainUptoSaid : Prop := fnWordsAgainUptoRow.holds Try.pinned (OpenSpec.upto fnWordsAgainSpec)

/-- 'laws.FnWordsCut', WHERE WHAT IT READS IS OF BULK AT MOST 1048576: true; the input reads as it did. -/
def fnWordsCutUptoRow : OpenClaim := { program := "ythbdbdccfdcpiaa", sum := "f94ca8f0821a8f43bca523168493571db85f805d99d4f081ca4c08a4c04d2920", func := "loop.example/fossick/laws.FnWordsCut", spec := "fnWordsCut", apart := false, narrowed := true }
def FnWordsCutUptoSaid : Prop := fnWordsCutUptoRow.holds Try.pinned (OpenSpec.upto fnWordsCutSpec)

/-- 'laws.FnWordsOf', WHERE WHAT IT READS IS OF BULK AT MOST 1048576: true; the input reads as it did. -/
def fnWordsOfUptoRow : OpenClaim := { program := "ythbdbdccfdcpiaa", sum := "f94ca8f0821a8f43bca523168493571db85f805d99d4f081ca4c08a4c04d2920", func := "loop.example/fossick/laws.FnWordsOf", spec := "fnWordsOf", apart := false, narrowed := true }
def FnWordsOfUptoSaid : Prop := fnWordsOfUptoRow.holds Try.pinned (OpenSpec.upto fnWordsOfSpec)

/-- 'laws.FnGlobOf', WHERE WHAT IT READS IS OF BULK AT MOST 1048576: true; the input reads as it did. -/
def fnGlobOfUptoRow : OpenClaim := { program := "ythbdbdccfdcpiaa", sum := "f94ca8f0821a8f43bca523168493571db85f805d99d4f081ca4c08a4c04d2920", func := "loop.example/fossick/laws.FnGlobOf", spec := "fnGlobOf", recurses := true, apart := false, narrowed := true }
def FnGlobOfUptoSaid : Prop := fnGlobOfUptoRow.holds Try.pinned (OpenSpec.upto fnGlobOfSpec)

/-- 'laws.FnNearOf', WHERE WHAT IT READS IS OF BULK AT MOST 1048576: true; the input reads as it did. -/
def fnNearOfUptoRow : OpenClaim := { program := "ythbdbdccfdcpiaa", sum := "f94ca8f0821a8f43bca523168493571db85f805d99d4f081ca4c08a4c04d2920", func := "loop.example/fossick/laws.FnNearOf", spec := "fnNearOf", apart := false, narrowed := true }
def FnNearOfUptoSaid : Prop := fnNearOfUptoRow.holds Try.pinned (OpenSpec.upto fnNearOfSpec)

/-- 'laws.FnGlobTidy', WHERE WHAT IT READS IS OF BULK AT MOST 1048576: true; the input reads as it did. -/
def fnGlobTidyUptoRow : OpenClaim := { program := "ythbdbdccfdcpiaa", sum := "f94ca8f0821a8f43bca523168493571db85f805d99d4f081ca4c08a4c04d2920", func := "loop.example/fossick/laws.FnGlobTidy", spec := "fnGlobTidy", inPlace := ["internal/bytealg.CountString", "internal/bytealg.IndexByteString", "internal/bytealg.IndexString", "internal/abi.NoEscape", "internal/bytealg.MakeNoZero"], recurses := true, named := ["internal/bytealg.MaxLen"], apart := false, narrowed := true }
def FnGlobTidyUptoSaid : Prop := fnGlobTidyUptoRow.holds Try.pinned (OpenSpec.upto fnGlobTidySpec)

/-- 'laws.FnExactGlobTidy', WHERE WHAT IT READS IS OF BULK AT MOST 1048576: true; the input reads as it did. -/
def fnExactGlobTidyUptoRow : OpenClaim := { program := "ythbdbdccfdcpiaa", sum := "f94ca8f0821a8f43bca523168493571db85f805d99d4f081ca4c08a4c04d2920", func := "loop.example/fossick/laws.FnExactGlobTidy", spec := "fnExactGlobTidy", inPlace := ["internal/bytealg.CountString", "internal/bytealg.IndexByteString", "internal/bytealg.IndexString", "internal/abi.NoEscape", "internal/bytealg.MakeNoZero"], named := ["internal/bytealg.MaxLen"], apart := false, narrowed := true }
def FnExactGlobTidyUptoSaid : Prop := fnExactGlobTidyUptoRow.holds Try.pinned (OpenSpec.upto fnExactGlobTidySpec)

end Rows
end Go.Proofs.Ythbdbdccfdcpiaa
