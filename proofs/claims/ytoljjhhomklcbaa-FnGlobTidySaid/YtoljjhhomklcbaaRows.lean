/-
  No cell of these rows narrows 'for every input' (looked for: loops, veiled, ifaces, maps, wideKeys, modest, calm, conditions, laid).
  DERIVED. THE GIVEN ROWS OF THIS SEAT. 8 by the template 'for every input the law returns true; each argument reads behind the call as it read before'; 0 by the template 'total and deterministic' (their statements: YtoljjhhomklcbaaTotals.lean).
  GIVEN WITH THE SEED: the statements are not yours to turn. If you find one false, say at which input.
  Laid BY PROGRAM, IN A SANDBOX (cutbox-rows.mjs): the forced cells as the released guide's own fill.sh prints them over the translation 62ab8614e9cdbcb3… (all of the seat's roots in one cut). By AI agents, Wed Nov 11 2026. No macro, syntax, notation, axiom, sorry.
-/
import Derived.Test.YtoljjhhomklcbaaChecked
import GoSem.Claim
import GoSem.ClaimJoined
import GoSem.ClaimMapViews
import Derived.JoinedTies
import Derived.KernelRfl
namespace Go.Proofs.Ytoljjhhomklcbaa
/- THE CELL 'sum', in the pinned program and in every row, IS THE sha256 OF THE DUMP (.gsa) THAT YtoljjhhomklcbaaProg.lean LOADS. Nothing in Lean hashes anything: it is a label: what it is worth is what the hold of that sum in a sandbox is worth. -/
noncomputable def Try.pinned : Pinned := { name := "ytoljjhhomklcbaa", sum := "62ab8614e9cdbcb306db67a95ce9514ec1324d4ba19e4f487818c194adbfdfb6", checked := Try.checked }
namespace Rows
def none {H : Type} : Left H := { results := [], args := [] }

/-- 'laws.FnGlobHas': WHATEVER THE INPUT: true; the input reads as it did. -/
def fnGlobHasSpec : ChangeSpec := { name := "fnGlobHas", fn := fun _ => fun
  | [d] => { results := [.lit (.bool true)], args := [d] }
  | _ => none }
def fnGlobHasRow : OpenClaim := { program := "ytoljjhhomklcbaa", sum := "62ab8614e9cdbcb306db67a95ce9514ec1324d4ba19e4f487818c194adbfdfb6", func := "loop.example/fossick/laws.FnGlobHas", spec := "fnGlobHas", recurses := true, apart := false }
def FnGlobHasSaid : Prop := fnGlobHasRow.holds Try.pinned (OpenSpec.ofChange fnGlobHasSpec)

/-- ITS FALSE NEIGHBOUR: 'it returns false'. Refute it at one input. -/
def fnGlobHasWrong : ChangeSpec := { name := "fnGlobHas", fn := fun _ => fun
  | [d] => { results := [.lit (.bool false)], args := [d] }
  | _ => none }
def FnGlobHasWrongFalsely : Prop := fnGlobHasRow.holds Try.pinned (OpenSpec.ofChange fnGlobHasWrong)

/-- 'laws.FnGapMore': WHATEVER THE INPUT: true; the input reads as it did. -/
def fnGapMoreSpec : ChangeSpec := { name := "fnGapMore", fn := fun _ => fun
  | [d1, d2] => { results := [.lit (.bool true)], args := [d1, d2] }
  | _ => none }
def fnGapMoreRow : OpenClaim := { program := "ytoljjhhomklcbaa", sum := "62ab8614e9cdbcb306db67a95ce9514ec1324d4ba19e4f487818c194adbfdfb6", func := "loop.example/fossick/laws.FnGapMore", spec := "fnGapMore", apart := false }
def FnGapMoreSaid : Prop := fnGapMoreRow.holds Try.pinned (OpenSpec.ofChange fnGapMoreSpec)

/-- ITS FALSE NEIGHBOUR: 'it returns false'. Refute it at one input. -/
def fnGapMoreWrong : ChangeSpec := { name := "fnGapMore", fn := fun _ => fun
  | [d1, d2] => { results := [.lit (.bool false)], args := [d1, d2] }
  | _ => none }
def FnGapMoreWrongFalsely : Prop := fnGapMoreRow.holds Try.pinned (OpenSpec.ofChange fnGapMoreWrong)

/-- 'laws.FnWordsAgain': WHATEVER THE INPUT: true; the input reads as it did. -/
def fnWordsAgainSpec : ChangeSpec := { name := "fnWordsAgain", fn := fun _ => fun
  | [d] => { results := [.lit (.bool true)], args := [d] }
  | _ => none }
def fnWordsAgainRow : OpenClaim := { program := "ytoljjhhomklcbaa", sum := "62ab8614e9cdbcb306db67a95ce9514ec1324d4ba19e4f487818c194adbfdfb6", func := "loop.example/fossick/laws.FnWordsAgain", spec := "fnWordsAgain", apart := false }
def FnWordsAgainSaid : Prop := fnWordsAgainRow.holds Try.pinned (OpenSpec.ofChange fnWordsAgainSpec)

/-- ITS FALSE NEIGHBOUR: 'it returns false'. Refute it at one input. -/
def fnWordsAgainWrong : ChangeSpec := { name := "fnWordsAgain", fn := fun _ => fun
  | [d] => { results := [.lit (.bool false)], args := [d] }
  | _ => none }
def FnWordsAgainWrongFalsely : Prop := fnWordsAgainRow.holds Try.pinned (OpenSpec.ofChange fnWordsAgainWrong)

/-- 'laws.FnWordsCut': WHATEVER THE INPUT: true; the input reads as it did. -/
def fnWordsCutSpec : ChangeSpec := { name := "fnWordsCut", fn := fun _ => fun
  | [d1, d2] => { results := [.lit (.bool true)], args := [d1, d2] }
  | _ => none }
def fnWordsCutRow : OpenClaim := { program := "ytoljjhhomklcbaa", sum := "62ab8614e9cdbcb306db67a95ce9514ec1324d4ba19e4f487818c194adbfdfb6", func := "loop.example/fossick/laws.FnWordsCut", spec := "fnWordsCut", apart := false }
def FnWordsCutSaid : Prop := fnWordsCutRow.holds Try.pinned (OpenSpec.ofChange fnWordsCutSpec)

/-- ITS FALSE NEIGHBOUR: 'it returns false'. Refute it at one input. -/
def fnWordsCutWrong : ChangeSpec := { name := "fnWordsCut", fn := fun _ => fun
  | [d1, d2] => { results := [.lit (.bool false)], args := [d1, d2] }
  | _ => none }
def FnWordsCutWrongFalsely : Prop := fnWordsCutRow.holds Try.pinned (OpenSpec.ofChange fnWordsCutWrong)

/-- 'laws.FnGlobOf': WHATEVER THE INPUT: true; the input reads as it did. -/
def fnGlobOfSpec : ChangeSpec := { name := "fnGlobOf", fn := fun _ => fun
  | [d] => { results := [.lit (.bool true)], args := [d] }
  | _ => none }
def fnGlobOfRow : OpenClaim := { program := "ytoljjhhomklcbaa", sum := "62ab8614e9cdbcb306db67a95ce9514ec1324d4ba19e4f487818c194adbfdfb6", func := "loop.example/fossick/laws.FnGlobOf", spec := "fnGlobOf", recurses := true, apart := false }
def FnGlobOfSaid : Prop := fnGlobOfRow.holds Try.pinned (OpenSpec.ofChange fnGlobOfSpec)

/-- ITS FALSE NEIGHBOUR: 'it returns false'. Refute it at one input. -/
def fnGlobOfWrong : ChangeSpec := { name := "fnGlobOf", fn := fun _ => fun
  | [d] => { results := [.lit (.bool false)], args := [d] }
  | _ => none }
def FnGlobOfWrongFalsely : Prop := fnGlobOfRow.holds Try.pinned (OpenSpec.ofChange fnGlobOfWrong)

/-- 'laws.FnNearOf': WHATEVER THE INPUT: true; the input reads as it did. -/
def fnNearOfSpec : ChangeSpec := { name := "fnNearOf", fn := fun _ => fun
  | [d] => { results := [.lit (.bool true)], args := [d] }
  | _ => none }
def fnNearOfRow : OpenClaim := { program := "ytoljjhhomklcbaa", sum := "62ab8614e9cdbcb306db67a95ce9514ec1324d4ba19e4f487818c194adbfdfb6", func := "loop.example/fossick/laws.FnNearOf", spec := "fnNearOf", apart := false }
def FnNearOfSaid : Prop := fnNearOfRow.holds Try.pinned (OpenSpec.ofChange fnNearOfSpec)

/-- ITS FALSE NEIGHBOUR: 'it returns false'. Refute it at one input. -/
def fnNearOfWrong : ChangeSpec := { name := "fnNearOf", fn := fun _ => fun
  | [d] => { results := [.lit (.bool false)], args := [d] }
  | _ => none }
def FnNearOfWrongFalsely : Prop := fnNearOfRow.holds Try.pinned (OpenSpec.ofChange fnNearOfWrong)

/-- 'laws.FnExactGlobTidy': WHATEVER THE INPUT: true; the input reads as it did. -/
def fnExactGlobTidySpec : ChangeSpec := { name := "fnExactGlobTidy", fn := fun _ => fun
  | [d] => { results := [.lit (.bool true)], args := [d] }
  | _ => none }
def fnExactGlobTidyRow : OpenClaim := { program := "ytoljjhhomklcbaa", sum := "62ab8614e9cdbcb306db67a95ce9514ec1324d4ba19e4f487818c194adbfdfb6", func := "loop.example/fossick/laws.FnExactGlobTidy", spec := "fnExactGlobTidy", inPlace := ["internal/bytealg.CountString", "internal/bytealg.IndexByteString", "internal/bytealg.IndexString", "internal/abi.NoEscape", "internal/bytealg.MakeNoZero"], named := ["internal/bytealg.MaxLen"], apart := false }
def FnExactGlobTidySaid : Prop := fnExactGlobTidyRow.holds Try.pinned (OpenSpec.ofChange fnExactGlobTidySpec)

/-- ITS FALSE NEIGHBOUR: 'it returns false'. Refute it at one input. -/
def fnExactGlobTidyWrong : ChangeSpec := { name := "fnExactGlobTidy", fn := fun _ => fun
  | [d] => { results := [.lit (.bool false)], args := [d] }
  | _ => none }
def FnExactGlobTidyWrongFalsely : Prop := fnExactGlobTidyRow.holds Try.pinned (OpenSpec.ofChange fnExactGlobTidyWrong)

/-- 'laws.FnGlobTidy': WHATEVER THE INPUT: true; the input reads as it did. -/
def fnGlobTidySpec : ChangeSpec := { name := "fnGlobTidy", fn := fun _ => fun
  | [d1, d2] => { results := [.lit (.bool true)], args := [d1, d2] }
  | _ => none }
def fnGlobTidyRow : OpenClaim := { program := "ytoljjhhomklcbaa", sum := "62ab8614e9cdbcb306db67a95ce9514ec1324d4ba19e4f487818c194adbfdfb6", func := "loop.example/fossick/laws.FnGlobTidy", spec := "fnGlobTidy", inPlace := ["internal/bytealg.CountString", "internal/bytealg.IndexByteString", "internal/bytealg.IndexString", "internal/abi.NoEscape", "internal/bytealg.MakeNoZero"], recurses := true, named := ["internal/bytealg.MaxLen"], apart := false }
def FnGlobTidySaid : Prop := fnGlobTidyRow.holds Try.pinned (OpenSpec.ofChange fnGlobTidySpec)

/-- ITS FALSE NEIGHBOUR: 'it returns false'. Refute it at one input. -/
def fnGlobTidyWrong : ChangeSpec := { name := "fnGlobTidy", fn := fun _ => fun
  | [d1, d2] => { results := [.lit (.bool false)], args := [d1, d2] }
  | _ => none }
def FnGlobTidyWrongFalsely : Prop := fnGlobTidyRow.holds Try.pinned (OpenSpec.ofChange fnGlobTidyWrong)

/- THE SECOND FORM. 'bulk': how many values and letters a reading holds, each counted each time it is reached (what is shared counts as often as it is met; a slice's spare places count too). A statement '..UptoSaid' is the law's where the arguments, and the package variables that the reading takes, are together of bulk at most 1048576: NARROWER than '..Said'. Prove '..Said' where nothing that the law and all that it calls make is longer than what came in: it says more and counts as full. Else prove '..UptoSaid'. A law counts once. -/
mutual
def uptoBulk {H : Type} : DataW H → Nat
  | .lit (.string bytes) => bytes.length + 1
  | .lit _ => 1
  | .nil => 1
  | .ptr d => uptoBulk d + 1
  | .slice elems spare => uptoBulkAll elems + uptoBulkAll spare + 1
  | .agg parts => uptoBulkAll parts + 1
  | .iface _ d => uptoBulk d + 1
  | .map entries => uptoBulkEntries entries + 1
  | .held _ => 1
def uptoBulkAll {H : Type} : List (DataW H) → Nat
  | [] => 0
  | d :: r => uptoBulk d + uptoBulkAll r
def uptoBulkEntries {H : Type} : List (Lit × DataW H) → Nat
  | [] => 0
  | x :: r => uptoBulkEntry x + uptoBulkEntries r
def uptoBulkEntry {H : Type} : Lit × DataW H → Nat
  | (.string bytes, d) => bytes.length + uptoBulk d + 1
  | (_, d) => uptoBulk d + 1
 end
def uptoSmall : (H : Type) → List (DataW H) → Bool := fun _ ds => decide (uptoBulkAll ds ≤ 1048576)
def OpenSpec.upto (s : _root_.Go.ChangeSpec) : _root_.Go.OpenSpec := { _root_.Go.OpenSpec.ofChange s with cond := some uptoSmall }

/-- 'laws.FnGlobHas', WHERE WHAT IT READS IS OF BULK AT MOST 1048576: true; the input reads as it did. -/
def fnGlobHasUptoRow : OpenClaim := { program := "ytoljjhhomklcbaa", sum := "62ab8614e9cdbcb306db67a95ce9514ec1324d4ba19e4f487818c194adbfdfb6", func := "loop.example/fossick/laws.FnGlobHas", spec := "fnGlobHas", recurses := true, apart := false, narrowed := true }
def FnGlobHasUptoSaid : Prop := fnGlobHasUptoRow.holds Try.pinned (OpenSpec.upto fnGlobHasSpec)

/-- 'laws.FnGapMore', WHERE WHAT IT READS IS OF BULK AT MOST 1048576: true; the input reads as it did. -/
def fnGapMoreUptoRow : OpenClaim := { program := "ytoljjhhomklcbaa", sum := "62ab8614e9cdbcb306db67a95ce9514ec1324d4ba19e4f487818c194adbfdfb6", func := "loop.example/fossick/laws.FnGapMore", spec := "fnGapMore", apart := false, narrowed := true }
def FnGapMoreUptoSaid : Prop := fnGapMoreUptoRow.holds Try.pinned (OpenSpec.upto fnGapMoreSpec)

/-- 'laws.FnWordsAgain', WHERE WHAT IT READS IS OF BULK AT MOST 1048576: true; the input reads as it did. -/
def fnWordsAgainUptoRow : OpenClaim := { program := "ytoljjhhomklcbaa", sum := "62ab8614e9cdbcb306db67a95ce9514ec1324d4ba19e4f487818c194adbfdfb6", func := "loop.example/fossick/laws.FnWordsAgain", spec := "fnWordsAgain", apart := false, narrowed := true }
def FnWordsAgainUptoSaid : Prop := fnWordsAgainUptoRow.holds Try.pinned (OpenSpec.upto fnWordsAgainSpec)

/-- 'laws.FnWordsCut', WHERE WHAT IT READS IS OF BULK AT MOST 1048576: true; the input reads as it did. -/
def fnWordsCutUptoRow : OpenClaim := { program := "ytoljjhhomklcbaa", sum := "62ab8614e9cdbcb306db67a95ce9514ec1324d4ba19e4f487818c194adbfdfb6", func := "loop.example/fossick/laws.FnWordsCut", spec := "fnWordsCut", apart := false, narrowed := true }
def FnWordsCutUptoSaid : Prop := fnWordsCutUptoRow.holds Try.pinned (OpenSpec.upto fnWordsCutSpec)

/-- 'laws.FnGlobOf', WHERE WHAT IT READS IS OF BULK AT MOST 1048576: true; the input reads as it did. -/
def fnGlobOfUptoRow : OpenClaim := { program := "ytoljjhhomklcbaa", sum := "62ab8614e9cdbcb306db67a95ce9514ec1324d4ba19e4f487818c194adbfdfb6", func := "loop.example/fossick/laws.FnGlobOf", spec := "fnGlobOf", recurses := true, apart := false, narrowed := true }
def FnGlobOfUptoSaid : Prop := fnGlobOfUptoRow.holds Try.pinned (OpenSpec.upto fnGlobOfSpec)

/-- 'laws.FnNearOf', WHERE WHAT IT READS IS OF BULK AT MOST 1048576: true; the input reads as it did. -/
def fnNearOfUptoRow : OpenClaim := { program := "ytoljjhhomklcbaa", sum := "62ab8614e9cdbcb306db67a95ce9514ec1324d4ba19e4f487818c194adbfdfb6", func := "loop.example/fossick/laws.FnNearOf", spec := "fnNearOf", apart := false, narrowed := true }
def FnNearOfUptoSaid : Prop := fnNearOfUptoRow.holds Try.pinned (OpenSpec.upto fnNearOfSpec)

/-- 'laws.FnExactGlobTidy', WHERE WHAT IT READS IS OF BULK AT MOST 1048576: true; the input reads as it did. -/
def fnExactGlobTidyUptoRow : OpenClaim := { program := "ytoljjhhomklcbaa", sum := "62ab8614e9cdbcb306db67a95ce9514ec1324d4ba19e4f487818c194adbfdfb6", func := "loop.example/fossick/laws.FnExactGlobTidy", spec := "fnExactGlobTidy", inPlace := ["internal/bytealg.CountString", "internal/bytealg.IndexByteString", "internal/bytealg.IndexString", "internal/abi.NoEscape", "internal/bytealg.MakeNoZero"], named := ["internal/bytealg.MaxLen"], apart := false, narrowed := true }
def FnExactGlobTidyUptoSaid : Prop := fnExactGlobTidyUptoRow.holds Try.pinned (OpenSpec.upto fnExactGlobTidySpec)

/-- 'laws.FnGlobTidy', WHERE WHAT IT READS IS OF BULK AT MOST 1048576: true; the input reads as it did. -/
def fnGlobTidyUptoRow : OpenClaim := { program := "ytoljjhhomklcbaa", sum := "62ab8614e9cdbcb306db67a95ce9514ec1324d4ba19e4f487818c194adbfdfb6", func := "loop.example/fossick/laws.FnGlobTidy", spec := "fnGlobTidy", inPlace := ["internal/bytealg.CountString", "internal/bytealg.IndexByteString", "internal/bytealg.IndexString", "internal/abi.NoEscape", "internal/bytealg.MakeNoZero"], recurses := true, named := ["internal/bytealg.MaxLen"], apart := false, narrowed := true }
def FnGlobTidyUptoSaid : Prop := fnGlobTidyUptoRow.holds Try.pinned (OpenSpec.upto fnGlobTidySpec)

end Rows
end Go.Proofs.Ytoljjhhomklcbaa
