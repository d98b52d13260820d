/-
  DERIVED. GIVEN WITH THE SEED: THE CARDS: each row of YtgjkcoifgdmmbaaDoorRows.lean that lists a variable, with what it lists TIED to the program's text (the seventh form; the later family's looks); each row that meets fmt, with fmt's text TOLD by the authors' own Lean function (tested against real Go, not proved from fmt's source: count such statements apart). THE CARD IS WHAT COUNTS. Prove the row's statement (the work); the ties are given (YtgjkcoifgdmmbaaDoorTie.lean); close each card by the builder's one call (the guide's Derived/Test/ToyasCard.lean, 'card_holds'). Laid BY PROGRAM, IN A SANDBOX (cutbox-door.mjs). By AI agents, Wed Nov 11 2026. No macro, syntax, notation, axiom, sorry.
-/
import Derived.Test.YtgjkcoifgdmmbaaDoorRows
import GoSem.ClaimSeven
namespace Go.Proofs.YtgjkcoifgdmmbaaDoor
namespace Rows

/-- THE TIED CARD OF 'laws.FnExactFitsWindow'. -/
def fnExactFitsWindowCard : Claim7 := { stood := { row := fnExactFitsWindowRow, standIns := [], harness := (true, "a361defc4f8d854fd8ef2abc2c5f4083cacada7ba75d6b90979e69ec2b8d6d9b"), looks := true }, kinds := [], alts := [], laidByText := true, laidKinds := [.data, .data, .data, .data, .sentinel, .sentinel, .pinned], laidTests := true, laidLooks := .later }
def FnExactFitsWindowCardSaid : Prop := Claim7.holds Tryd.pinned (.plain (OpenSpec.ofChange fnExactFitsWindowSpec)) fnExactFitsWindowCard

/-- THE TIED CARD OF 'laws.FnExactParsePath'. -/
def fnExactParsePathCard : Claim7 := { stood := { row := fnExactParsePathRow, standIns := [], harness := (true, "a361defc4f8d854fd8ef2abc2c5f4083cacada7ba75d6b90979e69ec2b8d6d9b"), looks := true }, kinds := [], alts := [], laidByText := true, laidKinds := [.data, .data, .data, .data, .sentinel, .sentinel, .pinned], laidTests := true, laidLooks := .later }
def FnExactParsePathCardSaid : Prop := Claim7.holds Tryd.pinned (.plain (OpenSpec.ofChange fnExactParsePathSpec)) fnExactParsePathCard

/-- THE TIED CARD OF 'laws.FnExactMovePath'. -/
def fnExactMovePathCard : Claim7 := { stood := { row := fnExactMovePathRow, standIns := [], harness := (true, "a361defc4f8d854fd8ef2abc2c5f4083cacada7ba75d6b90979e69ec2b8d6d9b"), looks := true }, kinds := [], alts := [], laidByText := true, laidKinds := [.data, .data, .data, .data, .sentinel, .sentinel, .pinned], laidTests := true, laidLooks := .later }
def FnExactMovePathCardSaid : Prop := Claim7.holds Tryd.pinned (.plain (OpenSpec.ofChange fnExactMovePathSpec)) fnExactMovePathCard

/-- THE SECOND FORM's CARD OF 'laws.FnExactFitsWindow'. -/
def fnExactFitsWindowUptoCard : Claim7 := { stood := { row := fnExactFitsWindowUptoRow, standIns := [], harness := (true, "a361defc4f8d854fd8ef2abc2c5f4083cacada7ba75d6b90979e69ec2b8d6d9b"), looks := true }, kinds := [], alts := [], laidByText := true, laidKinds := [.data, .data, .data, .data, .sentinel, .sentinel, .pinned], laidTests := true, laidLooks := .later }
def FnExactFitsWindowUptoCardSaid : Prop := Claim7.holds Tryd.pinned (.plain (OpenSpec.upto fnExactFitsWindowSpec)) fnExactFitsWindowUptoCard

/-- THE SECOND FORM's CARD OF 'laws.FnExactParsePath'. -/
def fnExactParsePathUptoCard : Claim7 := { stood := { row := fnExactParsePathUptoRow, standIns := [], harness := (true, "a361defc4f8d854fd8ef2abc2c5f4083cacada7ba75d6b90979e69ec2b8d6d9b"), looks := true }, kinds := [], alts := [], laidByText := true, laidKinds := [.data, .data, .data, .data, .sentinel, .sentinel, .pinned], laidTests := true, laidLooks := .later }
def FnExactParsePathUptoCardSaid : Prop := Claim7.holds Tryd.pinned (.plain (OpenSpec.upto fnExactParsePathSpec)) fnExactParsePathUptoCard

/-- THE SECOND FORM's CARD OF 'laws.FnExactMovePath'. -/
def fnExactMovePathUptoCard : Claim7 := { stood := { row := fnExactMovePathUptoRow, standIns := [], harness := (true, "a361defc4f8d854fd8ef2abc2c5f4083cacada7ba75d6b90979e69ec2b8d6d9b"), looks := true }, kinds := [], alts := [], laidByText := true, laidKinds := [.data, .data, .data, .data, .sentinel, .sentinel, .pinned], laidTests := true, laidLooks := .later }
def FnExactMovePathUptoCardSaid : Prop := Claim7.holds Tryd.pinned (.plain (OpenSpec.upto fnExactMovePathSpec)) fnExactMovePathUptoCard
end Rows
end Go.Proofs.YtgjkcoifgdmmbaaDoor
