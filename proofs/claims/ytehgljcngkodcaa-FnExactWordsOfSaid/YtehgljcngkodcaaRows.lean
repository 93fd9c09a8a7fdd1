/-
  No cell of these rows narrows 'for every input' (looked for: loops, veiled, ifaces, maps, wideKeys, modest, calm, conditions, laid).
  DERIVED. THE GIVEN ROWS OF THIS SEAT. 12 by the template 'for every input the law returns true; each argument reads behind the call as it read before'; 0 by the template 'total and deterministic' (their statements: YtehgljcngkodcaaTotals.lean).
  GIVEN WITH THE SEED: the statements are not yours to turn. If you find one false, say at which input.
  Laid BY PROGRAM, IN A SANDBOX (cutbox-rows.mjs): the forced cells as the released guide's own fill.sh prints them over the translation 1f1b020e00444622… (all of the seat's roots in one cut). By AI agents, Wed Nov 11 2026. No macro, syntax, notation, axiom, sorry.
-/
import Derived.Test.YtehgljcngkodcaaChecked
import GoSem.Claim
import GoSem.ClaimJoined
import GoSem.ClaimMapViews
import Derived.JoinedTies
import Derived.KernelRfl
namespace Go.Proofs.Ytehgljcngkodcaa
/- THE CELL 'sum', in the pinned program and in every row, IS THE sha256 OF THE DUMP (.gsa) THAT YtehgljcngkodcaaProg.lean LOADS. Nothing in Lean hashes anything: it is a label: what it is worth is what the hold of that sum in a sandbox is worth. -/
noncomputable def Try.pinned : Pinned := { name := "ytehgljcngkodcaa", sum := "1f1b020e00444622ff8212c67cafacbed72482e3aa10c6f27128d292b008a515", checked := Try.checked }
namespace Rows
def none {H : Type} : Left H := { results := [], args := [] }

/-- 'laws.FnExactConstants': WHATEVER THE INPUT: true; the input reads as it did. -/
def fnExactConstantsSpec : ChangeSpec := { name := "fnExactConstants", fn := fun _ => fun
  | [] => { results := [.lit (.bool true)], args := [] }
  | _ => none }
def fnExactConstantsRow : OpenClaim := { program := "ytehgljcngkodcaa", sum := "1f1b020e00444622ff8212c67cafacbed72482e3aa10c6f27128d292b008a515", func := "loop.example/fossick/laws.FnExactConstants", spec := "fnExactConstants", apart := false }
def FnExactConstantsSaid : Prop := fnExactConstantsRow.holds Try.pinned (OpenSpec.ofChange fnExactConstantsSpec)

/-- ITS FALSE NEIGHBOUR: 'it returns false'. Refute it at one input. -/
def fnExactConstantsWrong : ChangeSpec := { name := "fnExactConstants", fn := fun _ => fun
  | [] => { results := [.lit (.bool false)], args := [] }
  | _ => none }
def FnExactConstantsWrongFalsely : Prop := fnExactConstantsRow.holds Try.pinned (OpenSpec.ofChange fnExactConstantsWrong)

/-- 'laws.FnExactTextOk': WHATEVER THE INPUT: true; the input reads as it did. -/
def fnExactTextOkSpec : ChangeSpec := { name := "fnExactTextOk", fn := fun _ => fun
  | [d] => { results := [.lit (.bool true)], args := [d] }
  | _ => none }
def fnExactTextOkRow : OpenClaim := { program := "ytehgljcngkodcaa", sum := "1f1b020e00444622ff8212c67cafacbed72482e3aa10c6f27128d292b008a515", func := "loop.example/fossick/laws.FnExactTextOk", spec := "fnExactTextOk", apart := false }
def FnExactTextOkSaid : Prop := fnExactTextOkRow.holds Try.pinned (OpenSpec.ofChange fnExactTextOkSpec)

/-- ITS FALSE NEIGHBOUR: 'it returns false'. Refute it at one input. -/
def fnExactTextOkWrong : ChangeSpec := { name := "fnExactTextOk", fn := fun _ => fun
  | [d] => { results := [.lit (.bool false)], args := [d] }
  | _ => none }
def FnExactTextOkWrongFalsely : Prop := fnExactTextOkRow.holds Try.pinned (OpenSpec.ofChange fnExactTextOkWrong)

/-- 'laws.FnExactWordOk': WHATEVER THE INPUT: true; the input reads as it did. -/
def fnExactWordOkSpec : ChangeSpec := { name := "fnExactWordOk", fn := fun _ => fun
  | [d] => { results := [.lit (.bool true)], args := [d] }
  | _ => none }
def fnExactWordOkRow : OpenClaim := { program := "ytehgljcngkodcaa", sum := "1f1b020e00444622ff8212c67cafacbed72482e3aa10c6f27128d292b008a515", func := "loop.example/fossick/laws.FnExactWordOk", spec := "fnExactWordOk", apart := false }
def FnExactWordOkSaid : Prop := fnExactWordOkRow.holds Try.pinned (OpenSpec.ofChange fnExactWordOkSpec)

/-- ITS FALSE NEIGHBOUR: 'it returns false'. Refute it at one input. -/
def fnExactWordOkWrong : ChangeSpec := { name := "fnExactWordOk", fn := fun _ => fun
  | [d] => { results := [.lit (.bool false)], args := [d] }
  | _ => none }
def FnExactWordOkWrongFalsely : Prop := fnExactWordOkRow.holds Try.pinned (OpenSpec.ofChange fnExactWordOkWrong)

/-- 'laws.FnExactGlobOk': WHATEVER THE INPUT: true; the input reads as it did. -/
def fnExactGlobOkSpec : ChangeSpec := { name := "fnExactGlobOk", fn := fun _ => fun
  | [d] => { results := [.lit (.bool true)], args := [d] }
  | _ => none }
def fnExactGlobOkRow : OpenClaim := { program := "ytehgljcngkodcaa", sum := "1f1b020e00444622ff8212c67cafacbed72482e3aa10c6f27128d292b008a515", func := "loop.example/fossick/laws.FnExactGlobOk", spec := "fnExactGlobOk", apart := false }
def FnExactGlobOkSaid : Prop := fnExactGlobOkRow.holds Try.pinned (OpenSpec.ofChange fnExactGlobOkSpec)

/-- ITS FALSE NEIGHBOUR: 'it returns false'. Refute it at one input. -/
def fnExactGlobOkWrong : ChangeSpec := { name := "fnExactGlobOk", fn := fun _ => fun
  | [d] => { results := [.lit (.bool false)], args := [d] }
  | _ => none }
def FnExactGlobOkWrongFalsely : Prop := fnExactGlobOkRow.holds Try.pinned (OpenSpec.ofChange fnExactGlobOkWrong)

/-- 'laws.FnExactGlobHas': WHATEVER THE INPUT: true; the input reads as it did. -/
def fnExactGlobHasSpec : ChangeSpec := { name := "fnExactGlobHas", fn := fun _ => fun
  | [d1, d2] => { results := [.lit (.bool true)], args := [d1, d2] }
  | _ => none }
def fnExactGlobHasRow : OpenClaim := { program := "ytehgljcngkodcaa", sum := "1f1b020e00444622ff8212c67cafacbed72482e3aa10c6f27128d292b008a515", func := "loop.example/fossick/laws.FnExactGlobHas", spec := "fnExactGlobHas", recurses := true, apart := false }
def FnExactGlobHasSaid : Prop := fnExactGlobHasRow.holds Try.pinned (OpenSpec.ofChange fnExactGlobHasSpec)

/-- ITS FALSE NEIGHBOUR: 'it returns false'. Refute it at one input. -/
def fnExactGlobHasWrong : ChangeSpec := { name := "fnExactGlobHas", fn := fun _ => fun
  | [d1, d2] => { results := [.lit (.bool false)], args := [d1, d2] }
  | _ => none }
def FnExactGlobHasWrongFalsely : Prop := fnExactGlobHasRow.holds Try.pinned (OpenSpec.ofChange fnExactGlobHasWrong)

/-- 'laws.FnExactStemOf': WHATEVER THE INPUT: true; the input reads as it did. -/
def fnExactStemOfSpec : ChangeSpec := { name := "fnExactStemOf", fn := fun _ => fun
  | [d] => { results := [.lit (.bool true)], args := [d] }
  | _ => none }
def fnExactStemOfRow : OpenClaim := { program := "ytehgljcngkodcaa", sum := "1f1b020e00444622ff8212c67cafacbed72482e3aa10c6f27128d292b008a515", func := "loop.example/fossick/laws.FnExactStemOf", spec := "fnExactStemOf", apart := false }
def FnExactStemOfSaid : Prop := fnExactStemOfRow.holds Try.pinned (OpenSpec.ofChange fnExactStemOfSpec)

/-- ITS FALSE NEIGHBOUR: 'it returns false'. Refute it at one input. -/
def fnExactStemOfWrong : ChangeSpec := { name := "fnExactStemOf", fn := fun _ => fun
  | [d] => { results := [.lit (.bool false)], args := [d] }
  | _ => none }
def FnExactStemOfWrongFalsely : Prop := fnExactStemOfRow.holds Try.pinned (OpenSpec.ofChange fnExactStemOfWrong)

/-- 'laws.FnExactWordsUp': WHATEVER THE INPUT: true; the input reads as it did. -/
def fnExactWordsUpSpec : ChangeSpec := { name := "fnExactWordsUp", fn := fun _ => fun
  | [d] => { results := [.lit (.bool true)], args := [d] }
  | _ => none }
def fnExactWordsUpRow : OpenClaim := { program := "ytehgljcngkodcaa", sum := "1f1b020e00444622ff8212c67cafacbed72482e3aa10c6f27128d292b008a515", func := "loop.example/fossick/laws.FnExactWordsUp", spec := "fnExactWordsUp", apart := false }
def FnExactWordsUpSaid : Prop := fnExactWordsUpRow.holds Try.pinned (OpenSpec.ofChange fnExactWordsUpSpec)

/-- ITS FALSE NEIGHBOUR: 'it returns false'. Refute it at one input. -/
def fnExactWordsUpWrong : ChangeSpec := { name := "fnExactWordsUp", fn := fun _ => fun
  | [d] => { results := [.lit (.bool false)], args := [d] }
  | _ => none }
def FnExactWordsUpWrongFalsely : Prop := fnExactWordsUpRow.holds Try.pinned (OpenSpec.ofChange fnExactWordsUpWrong)

/-- 'laws.FnExactNearFar': WHATEVER THE INPUT: true; the input reads as it did. -/
def fnExactNearFarSpec : ChangeSpec := { name := "fnExactNearFar", fn := fun _ => fun
  | [d1, d2] => { results := [.lit (.bool true)], args := [d1, d2] }
  | _ => none }
def fnExactNearFarRow : OpenClaim := { program := "ytehgljcngkodcaa", sum := "1f1b020e00444622ff8212c67cafacbed72482e3aa10c6f27128d292b008a515", func := "loop.example/fossick/laws.FnExactNearFar", spec := "fnExactNearFar", apart := false }
def FnExactNearFarSaid : Prop := fnExactNearFarRow.holds Try.pinned (OpenSpec.ofChange fnExactNearFarSpec)

/-- ITS FALSE NEIGHBOUR: 'it returns false'. Refute it at one input. -/
def fnExactNearFarWrong : ChangeSpec := { name := "fnExactNearFar", fn := fun _ => fun
  | [d1, d2] => { results := [.lit (.bool false)], args := [d1, d2] }
  | _ => none }
def FnExactNearFarWrongFalsely : Prop := fnExactNearFarRow.holds Try.pinned (OpenSpec.ofChange fnExactNearFarWrong)

/-- 'laws.FnExactWordsMany': WHATEVER THE INPUT: true; the input reads as it did. -/
def fnExactWordsManySpec : ChangeSpec := { name := "fnExactWordsMany", fn := fun _ => fun
  | [d] => { results := [.lit (.bool true)], args := [d] }
  | _ => none }
def fnExactWordsManyRow : OpenClaim := { program := "ytehgljcngkodcaa", sum := "1f1b020e00444622ff8212c67cafacbed72482e3aa10c6f27128d292b008a515", func := "loop.example/fossick/laws.FnExactWordsMany", spec := "fnExactWordsMany", apart := false }
def FnExactWordsManySaid : Prop := fnExactWordsManyRow.holds Try.pinned (OpenSpec.ofChange fnExactWordsManySpec)

/-- ITS FALSE NEIGHBOUR: 'it returns false'. Refute it at one input. -/
def fnExactWordsManyWrong : ChangeSpec := { name := "fnExactWordsMany", fn := fun _ => fun
  | [d] => { results := [.lit (.bool false)], args := [d] }
  | _ => none }
def FnExactWordsManyWrongFalsely : Prop := fnExactWordsManyRow.holds Try.pinned (OpenSpec.ofChange fnExactWordsManyWrong)

/-- 'laws.FnExactWordsOf': WHATEVER THE INPUT: true; the input reads as it did. -/
def fnExactWordsOfSpec : ChangeSpec := { name := "fnExactWordsOf", fn := fun _ => fun
  | [d] => { results := [.lit (.bool true)], args := [d] }
  | _ => none }
def fnExactWordsOfRow : OpenClaim := { program := "ytehgljcngkodcaa", sum := "1f1b020e00444622ff8212c67cafacbed72482e3aa10c6f27128d292b008a515", func := "loop.example/fossick/laws.FnExactWordsOf", spec := "fnExactWordsOf", apart := false }
def FnExactWordsOfSaid : Prop := fnExactWordsOfRow.holds Try.pinned (OpenSpec.ofChange fnExactWordsOfSpec)

/-- ITS FALSE NEIGHBOUR: 'it returns false'. Refute it at one input. -/
def fnExactWordsOfWrong : ChangeSpec := { name := "fnExactWordsOf", fn := fun _ => fun
  | [d] => { results := [.lit (.bool false)], args := [d] }
  | _ => none }
def FnExactWordsOfWrongFalsely : Prop := fnExactWordsOfRow.holds Try.pinned (OpenSpec.ofChange fnExactWordsOfWrong)

/-- 'laws.FnExactGlobOf': WHATEVER THE INPUT: true; the input reads as it did. -/
def fnExactGlobOfSpec : ChangeSpec := { name := "fnExactGlobOf", fn := fun _ => fun
  | [d1, d2] => { results := [.lit (.bool true)], args := [d1, d2] }
  | _ => none }
def fnExactGlobOfRow : OpenClaim := { program := "ytehgljcngkodcaa", sum := "1f1b020e00444622ff8212c67cafacbed72482e3aa10c6f27128d292b008a515", func := "loop.example/fossick/laws.FnExactGlobOf", spec := "fnExactGlobOf", recurses := true, apart := false }
def FnExactGlobOfSaid : Prop := fnExactGlobOfRow.holds Try.pinned (OpenSpec.ofChange fnExactGlobOfSpec)

/-- ITS FALSE NEIGHBOUR: 'it returns false'. Refute it at one input. -/
def fnExactGlobOfWrong : ChangeSpec := { name := "fnExactGlobOf", fn := fun _ => fun
  | [d1, d2] => { results := [.lit (.bool false)], args := [d1, d2] }
  | _ => none }
def FnExactGlobOfWrongFalsely : Prop := fnExactGlobOfRow.holds Try.pinned (OpenSpec.ofChange fnExactGlobOfWrong)

/-- 'laws.FnExactNearOf': WHATEVER THE INPUT: true; the input reads as it did. -/
def fnExactNearOfSpec : ChangeSpec := { name := "fnExactNearOf", fn := fun _ => fun
  | [d1, d2, d3] => { results := [.lit (.bool true)], args := [d1, d2, d3] }
  | _ => none }
def fnExactNearOfRow : OpenClaim := { program := "ytehgljcngkodcaa", sum := "1f1b020e00444622ff8212c67cafacbed72482e3aa10c6f27128d292b008a515", func := "loop.example/fossick/laws.FnExactNearOf", spec := "fnExactNearOf", apart := false }
def FnExactNearOfSaid : Prop := fnExactNearOfRow.holds Try.pinned (OpenSpec.ofChange fnExactNearOfSpec)

/-- ITS FALSE NEIGHBOUR: 'it returns false'. Refute it at one input. -/
def fnExactNearOfWrong : ChangeSpec := { name := "fnExactNearOf", fn := fun _ => fun
  | [d1, d2, d3] => { results := [.lit (.bool false)], args := [d1, d2, d3] }
  | _ => none }
def FnExactNearOfWrongFalsely : Prop := fnExactNearOfRow.holds Try.pinned (OpenSpec.ofChange fnExactNearOfWrong)

/- THE SECOND FORM. 'bulk': how many values and letters a reading holds, each counted each time it is reached (what is shared counts as often as it is met; a slice's spare places count too). A statement '..UptoSaid' is the law's where the arguments, and the package variables that the reading takes, are together of bulk at most 1048576: NARROWER than '..Said'. Prove '..Said' where nothing that the law and all that it calls make is longer than what came in: it says more and counts as full. Else prove '..UptoSaid'. A law counts once. -/
mutual
def uptoBulk {H : Type} : DataW H → Nat
  | .lit (.string bytes) => bytes.length + 1
  | .lit _ => 1
  | .nil => 1
  | .ptr d => uptoBulk d + 1
  | .slice elems spare => uptoBulkAll elems + uptoBulkAll spare + 1
  | .agg parts => uptoBulkAll parts + 1
  | .iface _ d => uptoBulk d + 1
  | .map entries => uptoBulkEntries entries + 1
  | .held _ => 1
def uptoBulkAll {H : Type} : List (DataW H) → Nat
  | [] => 0
  | d :: r => uptoBulk d + uptoBulkAll r
def uptoBulkEntries {H : Type} : List (Lit × DataW H) → Nat
  | [] => 0
  | x :: r => uptoBulkEntry x + uptoBulkEntries r
def uptoBulkEntry {H : Type} : Lit × DataW H → Nat
  | (.string bytes, d) => bytes.length + uptoBulk d + 1
  | (_, d) => uptoBulk d + 1
 end
def uptoSmall : (H : Type) → List (DataW H) → Bool := fun _ ds => decide (uptoBulkAll ds ≤ 1048576)
def OpenSpec.upto (s : _root_.Go.ChangeSpec) : _root_.Go.OpenSpec := { _root_.Go.OpenSpec.ofChange s with cond := some uptoSmall }

/-- 'laws.FnExactConstants', WHERE WHAT IT READS IS OF BULK AT MOST 1048576: true; the input reads as it did. -/
def fnExactConstantsUptoRow : OpenClaim := { program := "ytehgljcngkodcaa", sum := "1f1b020e00444622ff8212c67cafacbed72482e3aa10c6f27128d292b008a515", func := "loop.example/fossick/laws.FnExactConstants", spec := "fnExactConstants", apart := false, narrowed := true }
def FnExactConstantsUptoSaid : Prop := fnExactConstantsUptoRow.holds Try.pinned (OpenSpec.upto fnExactConstantsSpec)

/-- 'laws.FnExactTextOk', WHERE WHAT IT READS IS OF BULK AT MOST 1048576: true; the input reads as it did. -/
def fnExactTextOkUptoRow : OpenClaim := { program := "ytehgljcngkodcaa", sum := "1f1b020e00444622ff8212c67cafacbed72482e3aa10c6f27128d292b008a515", func := "loop.example/fossick/laws.FnExactTextOk", spec := "fnExactTextOk", apart := false, narrowed := true }
def FnExactTextOkUptoSaid : Prop := fnExactTextOkUptoRow.holds Try.pinned (OpenSpec.upto fnExactTextOkSpec)

/-- 'laws.FnExactWordOk', WHERE WHAT IT READS IS OF BULK AT MOST 1048576: true; the input reads as it did. -/
def fnExactWordOkUptoRow : OpenClaim := { program := "ytehgljcngkodcaa", sum := "1f1b020e00444622ff8212c67cafacbed72482e3aa10c6f27128d292b008a515", func := "loop.example/fossick/laws.FnExactWordOk", spec := "fnExactWordOk", apart := false, narrowed := true }
def FnExactWordOkUptoSaid : Prop := fnExactWordOkUptoRow.holds Try.pinned (OpenSpec.upto fnExactWordOkSpec)

/-- 'laws.FnExactGlobOk', WHERE WHAT IT READS IS OF BULK AT MOST 1048576: true; the input reads as it did. -/
def fnExactGlobOkUptoRow : OpenClaim := { program := "ytehgljcngkodcaa", sum := "1f1b020e00444622ff8212c67cafacbed72482e3aa10c6f27128d292b008a515", func := "loop.example/fossick/laws.FnExactGlobOk", spec := "fnExactGlobOk", apart := false, narrowed := true }
def FnExactGlobOkUptoSaid : Prop := fnExactGlobOkUptoRow.holds Try.pinned (OpenSpec.upto fnExactGlobOkSpec)

/-- 'laws.FnExactGlobHas', WHERE WHAT IT READS IS OF BULK AT MOST 1048576: true; the input reads as it did. -/
def fnExactGlobHasUptoRow : OpenClaim := { program := "ytehgljcngkodcaa", sum := "1f1b020e00444622ff8212c67cafacbed72482e3aa10c6f27128d292b008a515", func := "loop.example/fossick/laws.FnExactGlobHas", spec := "fnExactGlobHas", recurses := true, apart := false, narrowed := true }
def FnExactGlobHasUptoSaid : Prop := fnExactGlobHasUptoRow.holds Try.pinned (OpenSpec.upto fnExactGlobHasSpec)

/-- 'laws.FnExactStemOf', WHERE WHAT IT READS IS OF BULK AT MOST 1048576: true; the input reads as it did. -/
def fnExactStemOfUptoRow : OpenClaim := { program := "ytehgljcngkodcaa", sum := "1f1b020e00444622ff8212c67cafacbed72482e3aa10c6f27128d292b008a515", func := "loop.example/fossick/laws.FnExactStemOf", spec := "fnExactStemOf", apart := false, narrowed := true }
def FnExactStemOfUptoSaid : Prop := fnExactStemOfUptoRow.holds Try.pinned (OpenSpec.upto fnExactStemOfSpec)

/-- 'laws.FnExactWordsUp', WHERE WHAT IT READS IS OF BULK AT MOST 1048576: true; the input reads as it did. -/
def fnExactWordsUpUptoRow : OpenClaim := { program := "ytehgljcngkodcaa", sum := "1f1b020e00444622ff8212c67cafacbed72482e3aa10c6f27128d292b008a515", func := "loop.example/fossick/laws.FnExactWordsUp", spec := "fnExactWordsUp", apart := false, narrowed := true }
def FnExactWordsUpUptoSaid : Prop := fnExactWordsUpUptoRow.holds Try.pinned (OpenSpec.upto fnExactWordsUpSpec)

/-- 'laws.FnExactNearFar', WHERE WHAT IT READS IS OF BULK AT MOST 1048576: true; the input reads as it did. -/
def fnExactNearFarUptoRow : OpenClaim := { program := "ytehgljcngkodcaa", sum := "1f1b020e00444622ff8212c67cafacbed72482e3aa10c6f27128d292b008a515", func := "loop.example/fossick/laws.FnExactNearFar", spec := "fnExactNearFar", apart := false, narrowed := true }
def FnExactNearFarUptoSaid : Prop := fnExactNearFarUptoRow.holds Try.pinned (OpenSpec.upto fnExactNearFarSpec)

/-- 'laws.FnExactWordsMany', WHERE WHAT IT READS IS OF BULK AT MOST 1048576: true; the input reads as it did. -/
def fnExactWordsManyUptoRow : OpenClaim := { program := "ytehgljcngkodcaa", sum := "1f1b020e00444622ff8212c67cafacbed72482e3aa10c6f27128d292b008a515", func := "loop.example/fossick/laws.FnExactWordsMany", spec := "fnExactWordsMany", apart := false, narrowed := true }
def FnExactWordsManyUptoSaid : Prop := fnExactWordsManyUptoRow.holds Try.pinned (OpenSpec.upto fnExactWordsManySpec)

/-- 'laws.FnExactWordsOf', WHERE WHAT IT READS IS OF BULK AT MOST 1048576: true; the input reads as it did. -/
def fnExactWordsOfUptoRow : OpenClaim := { program := "ytehgljcngkodcaa", sum := "1f1b020e00444622ff8212c67cafacbed72482e3aa10c6f27128d292b008a515", func := "loop.example/fossick/laws.FnExactWordsOf", spec := "fnExactWordsOf", apart := false, narrowed := true }
def FnExactWordsOfUptoSaid : Prop := fnExactWordsOfUptoRow.holds Try.pinned (OpenSpec.upto fnExactWordsOfSpec)

/-- 'laws.FnExactGlobOf', WHERE WHAT IT READS IS OF BULK AT MOST 1048576: true; the input reads as it did. -/
def fnExactGlobOfUptoRow : OpenClaim := { program := "ytehgljcngkodcaa", sum := "1f1b020e00444622ff8212c67cafacbed72482e3aa10c6f27128d292b008a515", func := "loop.example/fossick/laws.FnExactGlobOf", spec := "fnExactGlobOf", recurses := true, apart := false, narrowed := true }
def FnExactGlobOfUptoSaid : Prop := fnExactGlobOfUptoRow.holds Try.pinned (OpenSpec.upto fnExactGlobOfSpec)

/-- 'laws.FnExactNearOf', WHERE WHAT IT READS IS OF BULK AT MOST 1048576: true; the input reads as it did. -/
def fnExactNearOfUptoRow : OpenClaim := { program := "ytehgljcngkodcaa", sum := "1f1b020e00444622ff8212c67cafacbed72482e3aa10c6f27128d292b008a515", func := "loop.example/fossick/laws.FnExactNearOf", spec := "fnExactNearOf", apart := false, narrowed := true }
def FnExactNearOfUptoSaid : Prop := fnExactNearOfUptoRow.holds Try.pinned (OpenSpec.upto fnExactNearOfSpec)

end Rows
end Go.Proofs.Ytehgljcngkodcaa
