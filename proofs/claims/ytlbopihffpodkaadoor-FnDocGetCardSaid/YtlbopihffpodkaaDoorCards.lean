/-
  DERIVED. GIVEN WITH THE SEED: THE CARDS: each row of YtlbopihffpodkaaDoorRows.lean that lists a variable, with what it lists TIED to the program's text (the seventh form; the later family's looks); each row that meets fmt, with fmt's text TOLD by the authors' own Lean function (tested against real Go, not proved from fmt's source: count such statements apart). THE CARD IS WHAT COUNTS. Prove the row's statement (the work); the ties are given (YtlbopihffpodkaaDoorTie.lean); close each card by the builder's one call (the guide's Derived/Test/ToyasCard.lean, 'card_holds'). Laid BY PROGRAM, IN A SANDBOX (cutbox-door.mjs). By AI agents, Wed Nov 11 2026. No macro, syntax, notation, axiom, sorry.
-/
import Derived.Test.YtlbopihffpodkaaDoorRows
import GoSem.ClaimSeven
namespace Go.Proofs.YtlbopihffpodkaaDoor
namespace Rows

/-- THE TIED CARD OF 'laws.FnDocPut'. -/
def fnDocPutCard : Claim7 := { stood := { row := fnDocPutRow, standIns := [], harness := (true, "58610890f01ee72d2e114187be99c8ca6e9f6e75e722483250fa508e2006538c"), looks := true }, kinds := [], alts := [], laidByText := true, laidKinds := [.data, .data, .data, .data, .sentinel, .sentinel, .pinned], laidTests := true, laidLooks := .later }
def FnDocPutCardSaid : Prop := Claim7.holds Tryd.pinned (.plain (OpenSpec.ofChange fnDocPutSpec)) fnDocPutCard

/-- THE TIED CARD OF 'laws.FnDocGet'. -/
def fnDocGetCard : Claim7 := { stood := { row := fnDocGetRow, standIns := [], harness := (true, "58610890f01ee72d2e114187be99c8ca6e9f6e75e722483250fa508e2006538c"), looks := true }, kinds := [], alts := [], laidByText := true, laidKinds := [.data, .data, .data, .data, .sentinel, .sentinel, .pinned], laidTests := true, laidLooks := .later }
def FnDocGetCardSaid : Prop := Claim7.holds Tryd.pinned (.plain (OpenSpec.ofChange fnDocGetSpec)) fnDocGetCard

/-- THE TIED CARD OF 'laws.FnExactDocGet'. -/
def fnExactDocGetCard : Claim7 := { stood := { row := fnExactDocGetRow, standIns := [], harness := (true, "58610890f01ee72d2e114187be99c8ca6e9f6e75e722483250fa508e2006538c"), looks := true }, kinds := [], alts := [], laidByText := true, laidKinds := [.data, .data, .data, .data, .sentinel, .sentinel, .pinned], laidTests := true, laidLooks := .later }
def FnExactDocGetCardSaid : Prop := Claim7.holds Tryd.pinned (.plain (OpenSpec.ofChange fnExactDocGetSpec)) fnExactDocGetCard

/-- THE TIED CARD OF 'laws.FnExactDocPut'. -/
def fnExactDocPutCard : Claim7 := { stood := { row := fnExactDocPutRow, standIns := [], harness := (true, "58610890f01ee72d2e114187be99c8ca6e9f6e75e722483250fa508e2006538c"), looks := true }, kinds := [], alts := [], laidByText := true, laidKinds := [.data, .data, .data], laidTests := true, laidLooks := .later }
def FnExactDocPutCardSaid : Prop := Claim7.holds Tryd.pinned (.plain (OpenSpec.ofChange fnExactDocPutSpec)) fnExactDocPutCard

/-- THE SECOND FORM's CARD OF 'laws.FnDocPut'. -/
def fnDocPutUptoCard : Claim7 := { stood := { row := fnDocPutUptoRow, standIns := [], harness := (true, "58610890f01ee72d2e114187be99c8ca6e9f6e75e722483250fa508e2006538c"), looks := true }, kinds := [], alts := [], laidByText := true, laidKinds := [.data, .data, .data, .data, .sentinel, .sentinel, .pinned], laidTests := true, laidLooks := .later }
def FnDocPutUptoCardSaid : Prop := Claim7.holds Tryd.pinned (.plain (OpenSpec.upto fnDocPutSpec)) fnDocPutUptoCard

/-- THE SECOND FORM's CARD OF 'laws.FnDocGet'. -/
def fnDocGetUptoCard : Claim7 := { stood := { row := fnDocGetUptoRow, standIns := [], harness := (true, "58610890f01ee72d2e114187be99c8ca6e9f6e75e722483250fa508e2006538c"), looks := true }, kinds := [], alts := [], laidByText := true, laidKinds := [.data, .data, .data, .data, .sentinel, .sentinel, .pinned], laidTests := true, laidLooks := .later }
def FnDocGetUptoCardSaid : Prop := Claim7.holds Tryd.pinned (.plain (OpenSpec.upto fnDocGetSpec)) fnDocGetUptoCard

/-- THE SECOND FORM's CARD OF 'laws.FnExactDocGet'. -/
def fnExactDocGetUptoCard : Claim7 := { stood := { row := fnExactDocGetUptoRow, standIns := [], harness := (true, "58610890f01ee72d2e114187be99c8ca6e9f6e75e722483250fa508e2006538c"), looks := true }, kinds := [], alts := [], laidByText := true, laidKinds := [.data, .data, .data, .data, .sentinel, .sentinel, .pinned], laidTests := true, laidLooks := .later }
def FnExactDocGetUptoCardSaid : Prop := Claim7.holds Tryd.pinned (.plain (OpenSpec.upto fnExactDocGetSpec)) fnExactDocGetUptoCard

/-- THE SECOND FORM's CARD OF 'laws.FnExactDocPut'. -/
def fnExactDocPutUptoCard : Claim7 := { stood := { row := fnExactDocPutUptoRow, standIns := [], harness := (true, "58610890f01ee72d2e114187be99c8ca6e9f6e75e722483250fa508e2006538c"), looks := true }, kinds := [], alts := [], laidByText := true, laidKinds := [.data, .data, .data], laidTests := true, laidLooks := .later }
def FnExactDocPutUptoCardSaid : Prop := Claim7.holds Tryd.pinned (.plain (OpenSpec.upto fnExactDocPutSpec)) fnExactDocPutUptoCard
end Rows
end Go.Proofs.YtlbopihffpodkaaDoor
