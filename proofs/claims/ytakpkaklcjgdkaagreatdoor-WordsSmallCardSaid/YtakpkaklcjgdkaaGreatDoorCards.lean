/-
  DERIVED. GIVEN WITH THE SEED: THE CARDS: each row of YtakpkaklcjgdkaaGreatDoorRows.lean that lists a variable, with what it lists TIED to the program's text (the seventh form; the later family's looks); each row that meets fmt, with fmt's text TOLD by the authors' own Lean function (tested against real Go, not proved from fmt's source: count such statements apart). THE CARD IS WHAT COUNTS. Prove the row's statement (the work); the ties are given (YtakpkaklcjgdkaaGreatDoorTie.lean); close each card by the builder's one call (the guide's Derived/Test/ToyasCard.lean, 'card_holds'). Laid BY PROGRAM, IN A SANDBOX (cutbox-door.mjs). By AI agents, Wed Nov 11 2026. No macro, syntax, notation, axiom, sorry.
-/
import Derived.Test.YtakpkaklcjgdkaaGreatDoorRows
import GoSem.ClaimSeven
namespace Go.Proofs.YtakpkaklcjgdkaaGreatDoor
namespace Rows

/-- THE TIED CARD OF 'lyceumlaw33.WordsWrites'. -/
def wordsWritesCard : Claim7 := { stood := { row := wordsWritesRow, standIns := [], harness := (true, "fd842c5d80b64bfb775911db7d1f8562ae894f75e7be1a2ae5b1cd44aeb38bc3"), looks := false }, kinds := [], alts := [], laidByText := true, laidKinds := [.data, .listed, .data, .pinned, .pinned], laidTests := true, laidLooks := .later }
def WordsWritesCardSaid : Prop := Claim7.holds Tryz.pinned (.plain (OpenSpec.ofChange wordsWritesSpec)) wordsWritesCard

/-- THE TIED CARD OF 'lyceumlaw33.WordsTells'. -/
def wordsTellsCard : Claim7 := { stood := { row := wordsTellsRow, standIns := [], harness := (true, "fd842c5d80b64bfb775911db7d1f8562ae894f75e7be1a2ae5b1cd44aeb38bc3"), looks := false }, kinds := [], alts := [], laidByText := true, laidKinds := [.data, .listed, .data, .pinned, .pinned], laidTests := true, laidLooks := .later }
def WordsTellsCardSaid : Prop := Claim7.holds Tryz.pinned (.plain (OpenSpec.ofChange wordsTellsSpec)) wordsTellsCard

/-- THE TIED CARD OF 'lyceumlaw33.WordsSmall'. -/
def wordsSmallCard : Claim7 := { stood := { row := wordsSmallRow, standIns := [], harness := (true, "fd842c5d80b64bfb775911db7d1f8562ae894f75e7be1a2ae5b1cd44aeb38bc3"), looks := false }, kinds := [], alts := [], laidByText := true, laidKinds := [.data, .listed, .data, .pinned, .pinned], laidTests := true, laidLooks := .later }
def WordsSmallCardSaid : Prop := Claim7.holds Tryz.pinned (.plain (OpenSpec.ofChange wordsSmallSpec)) wordsSmallCard

/-- THE SECOND FORM's CARD OF 'lyceumlaw33.WordsWrites'. -/
def wordsWritesUptoCard : Claim7 := { stood := { row := wordsWritesUptoRow, standIns := [], harness := (true, "fd842c5d80b64bfb775911db7d1f8562ae894f75e7be1a2ae5b1cd44aeb38bc3"), looks := false }, kinds := [], alts := [], laidByText := true, laidKinds := [.data, .listed, .data, .pinned, .pinned], laidTests := true, laidLooks := .later }
def WordsWritesUptoCardSaid : Prop := Claim7.holds Tryz.pinned (.plain (OpenSpec.upto wordsWritesSpec)) wordsWritesUptoCard

/-- THE SECOND FORM's CARD OF 'lyceumlaw33.WordsTells'. -/
def wordsTellsUptoCard : Claim7 := { stood := { row := wordsTellsUptoRow, standIns := [], harness := (true, "fd842c5d80b64bfb775911db7d1f8562ae894f75e7be1a2ae5b1cd44aeb38bc3"), looks := false }, kinds := [], alts := [], laidByText := true, laidKinds := [.data, .listed, .data, .pinned, .pinned], laidTests := true, laidLooks := .later }
def WordsTellsUptoCardSaid : Prop := Claim7.holds Tryz.pinned (.plain (OpenSpec.upto wordsTellsSpec)) wordsTellsUptoCard

/-- THE SECOND FORM's CARD OF 'lyceumlaw33.WordsSmall'. -/
def wordsSmallUptoCard : Claim7 := { stood := { row := wordsSmallUptoRow, standIns := [], harness := (true, "fd842c5d80b64bfb775911db7d1f8562ae894f75e7be1a2ae5b1cd44aeb38bc3"), looks := false }, kinds := [], alts := [], laidByText := true, laidKinds := [.data, .listed, .data, .pinned, .pinned], laidTests := true, laidLooks := .later }
def WordsSmallUptoCardSaid : Prop := Claim7.holds Tryz.pinned (.plain (OpenSpec.upto wordsSmallSpec)) wordsSmallUptoCard
end Rows
end Go.Proofs.YtakpkaklcjgdkaaGreatDoor
