/-
  DERIVED. GIVEN WITH THE SEED: THE CARDS: each row of YthmnffgjckpkiaaGreatDoorRows.lean that lists a variable, with what it lists TIED to the program's text (the seventh form; the later family's looks); each row that meets fmt, with fmt's text TOLD by the authors' own Lean function (tested against real Go, not proved from fmt's source: count such statements apart). THE CARD IS WHAT COUNTS. Prove the row's statement (the work); the ties are given (YthmnffgjckpkiaaGreatDoorTie.lean); close each card by the builder's one call (the guide's Derived/Test/ToyasCard.lean, 'card_holds'). Laid BY PROGRAM, IN A SANDBOX (cutbox-door.mjs). By AI agents, Wed Nov 11 2026. No macro, syntax, notation, axiom, sorry.
-/
import Derived.Test.YthmnffgjckpkiaaGreatDoorRows
import GoSem.ClaimSeven
namespace Go.Proofs.YthmnffgjckpkiaaGreatDoor
namespace Rows

/-- THE TIED CARD OF 'lyceumlaw34.EnglishTexts'. -/
def englishTextsCard : Claim7 := { stood := { row := englishTextsRow, standIns := [], harness := (true, "531efe5189cc838db597cc2310b599b5d83a46cbe76c3e59a2ad28acbb6cd9b8"), looks := false }, kinds := [], alts := [], laidByText := true, laidKinds := [.data, .listed, .data, .pinned, .pinned], laidTests := true, laidLooks := .later }
def EnglishTextsCardSaid : Prop := Claim7.holds Tryz.pinned (.plain (OpenSpec.ofChange englishTextsSpec)) englishTextsCard

/-- THE TIED CARD OF 'lyceumlaw34.EnglishTells'. -/
def englishTellsCard : Claim7 := { stood := { row := englishTellsRow, standIns := [], harness := (true, "531efe5189cc838db597cc2310b599b5d83a46cbe76c3e59a2ad28acbb6cd9b8"), looks := false }, kinds := [], alts := [], laidByText := true, laidKinds := [.data, .listed, .data, .pinned, .pinned], laidTests := true, laidLooks := .later }
def EnglishTellsCardSaid : Prop := Claim7.holds Tryz.pinned (.plain (OpenSpec.ofChange englishTellsSpec)) englishTellsCard

/-- THE TIED CARD OF 'lyceumlaw34.EnglishJoins'. -/
def englishJoinsCard : Claim7 := { stood := { row := englishJoinsRow, standIns := [], harness := (true, "531efe5189cc838db597cc2310b599b5d83a46cbe76c3e59a2ad28acbb6cd9b8"), looks := false }, kinds := [], alts := [], laidByText := true, laidKinds := [.data, .listed, .data, .pinned, .pinned], laidTests := true, laidLooks := .later }
def EnglishJoinsCardSaid : Prop := Claim7.holds Tryz.pinned (.plain (OpenSpec.ofChange englishJoinsSpec)) englishJoinsCard

/-- THE TIED CARD OF 'lyceumlaw34.EnglishNames'. -/
def englishNamesCard : Claim7 := { stood := { row := englishNamesRow, standIns := [], harness := (true, "531efe5189cc838db597cc2310b599b5d83a46cbe76c3e59a2ad28acbb6cd9b8"), looks := false }, kinds := [], alts := [], laidByText := true, laidKinds := [.data, .listed, .data, .pinned, .pinned], laidTests := true, laidLooks := .later }
def EnglishNamesCardSaid : Prop := Claim7.holds Tryz.pinned (.plain (OpenSpec.ofChange englishNamesSpec)) englishNamesCard

/-- THE TIED CARD OF 'lyceumlaw34.EnglishYields'. -/
def englishYieldsCard : Claim7 := { stood := { row := englishYieldsRow, standIns := [], harness := (true, "531efe5189cc838db597cc2310b599b5d83a46cbe76c3e59a2ad28acbb6cd9b8"), looks := false }, kinds := [], alts := [], laidByText := true, laidKinds := [.data, .listed, .data, .pinned, .pinned], laidTests := true, laidLooks := .later }
def EnglishYieldsCardSaid : Prop := Claim7.holds Tryz.pinned (.plain (OpenSpec.ofChange englishYieldsSpec)) englishYieldsCard

/-- THE TIED CARD OF 'lyceumlaw34.EnglishParts'. -/
def englishPartsCard : Claim7 := { stood := { row := englishPartsRow, standIns := [], harness := (true, "531efe5189cc838db597cc2310b599b5d83a46cbe76c3e59a2ad28acbb6cd9b8"), looks := false }, kinds := [], alts := [], laidByText := true, laidKinds := [.data, .listed, .data, .pinned, .pinned], laidTests := true, laidLooks := .later }
def EnglishPartsCardSaid : Prop := Claim7.holds Tryz.pinned (.plain (OpenSpec.ofChange englishPartsSpec)) englishPartsCard

/-- THE TIED CARD OF 'lyceumlaw34.EnglishWrong'. -/
def englishWrongCard : Claim7 := { stood := { row := englishWrongRow, standIns := [], harness := (true, "531efe5189cc838db597cc2310b599b5d83a46cbe76c3e59a2ad28acbb6cd9b8"), looks := false }, kinds := [], alts := [], laidByText := true, laidKinds := [.data, .listed, .data, .pinned, .pinned], laidTests := true, laidLooks := .later }
def EnglishWrongCardSaid : Prop := Claim7.holds Tryz.pinned (.plain (OpenSpec.ofChange englishWrongSpec)) englishWrongCard

/-- THE TIED CARD OF 'lyceumlaw34.EnglishSmall'. -/
def englishSmallCard : Claim7 := { stood := { row := englishSmallRow, standIns := [], harness := (true, "531efe5189cc838db597cc2310b599b5d83a46cbe76c3e59a2ad28acbb6cd9b8"), looks := false }, kinds := [], alts := [], laidByText := true, laidKinds := [.data, .listed, .data, .pinned, .pinned], laidTests := true, laidLooks := .later }
def EnglishSmallCardSaid : Prop := Claim7.holds Tryz.pinned (.plain (OpenSpec.ofChange englishSmallSpec)) englishSmallCard

/-- THE TIED CARD OF 'lyceumlaw34.EnglishSpoken'. -/
def englishSpokenCard : Claim7 := { stood := { row := englishSpokenRow, standIns := [], harness := (true, "531efe5189cc838db597cc2310b599b5d83a46cbe76c3e59a2ad28acbb6cd9b8"), looks := false }, kinds := [], alts := [], laidByText := true, laidKinds := [.data, .listed, .data, .pinned, .pinned], laidTests := true, laidLooks := .later }
def EnglishSpokenCardSaid : Prop := Claim7.holds Tryz.pinned (.plain (OpenSpec.ofChange englishSpokenSpec)) englishSpokenCard

/-- THE TIED CARD OF 'lyceumlaw34.EnglishFound'. -/
def englishFoundCard : Claim7 := { stood := { row := englishFoundRow, standIns := [], harness := (true, "531efe5189cc838db597cc2310b599b5d83a46cbe76c3e59a2ad28acbb6cd9b8"), looks := false }, kinds := [], alts := [], laidByText := true, laidKinds := [.data, .listed, .data, .pinned, .pinned], laidTests := true, laidLooks := .later }
def EnglishFoundCardSaid : Prop := Claim7.holds Tryz.pinned (.plain (OpenSpec.ofChange englishFoundSpec)) englishFoundCard

/-- THE SECOND FORM's CARD OF 'lyceumlaw34.EnglishTexts'. -/
def englishTextsUptoCard : Claim7 := { stood := { row := englishTextsUptoRow, standIns := [], harness := (true, "531efe5189cc838db597cc2310b599b5d83a46cbe76c3e59a2ad28acbb6cd9b8"), looks := false }, kinds := [], alts := [], laidByText := true, laidKinds := [.data, .listed, .data, .pinned, .pinned], laidTests := true, laidLooks := .later }
def EnglishTextsUptoCardSaid : Prop := Claim7.holds Tryz.pinned (.plain (OpenSpec.upto englishTextsSpec)) englishTextsUptoCard

/-- THE SECOND FORM's CARD OF 'lyceumlaw34.EnglishTells'. -/
def englishTellsUptoCard : Claim7 := { stood := { row := englishTellsUptoRow, standIns := [], harness := (true, "531efe5189cc838db597cc2310b599b5d83a46cbe76c3e59a2ad28acbb6cd9b8"), looks := false }, kinds := [], alts := [], laidByText := true, laidKinds := [.data, .listed, .data, .pinned, .pinned], laidTests := true, laidLooks := .later }
def EnglishTellsUptoCardSaid : Prop := Claim7.holds Tryz.pinned (.plain (OpenSpec.upto englishTellsSpec)) englishTellsUptoCard

/-- THE SECOND FORM's CARD OF 'lyceumlaw34.EnglishJoins'. -/
def englishJoinsUptoCard : Claim7 := { stood := { row := englishJoinsUptoRow, standIns := [], harness := (true, "531efe5189cc838db597cc2310b599b5d83a46cbe76c3e59a2ad28acbb6cd9b8"), looks := false }, kinds := [], alts := [], laidByText := true, laidKinds := [.data, .listed, .data, .pinned, .pinned], laidTests := true, laidLooks := .later }
def EnglishJoinsUptoCardSaid : Prop := Claim7.holds Tryz.pinned (.plain (OpenSpec.upto englishJoinsSpec)) englishJoinsUptoCard

/-- THE SECOND FORM's CARD OF 'lyceumlaw34.EnglishNames'. -/
def englishNamesUptoCard : Claim7 := { stood := { row := englishNamesUptoRow, standIns := [], harness := (true, "531efe5189cc838db597cc2310b599b5d83a46cbe76c3e59a2ad28acbb6cd9b8"), looks := false }, kinds := [], alts := [], laidByText := true, laidKinds := [.data, .listed, .data, .pinned, .pinned], laidTests := true, laidLooks := .later }
def EnglishNamesUptoCardSaid : Prop := Claim7.holds Tryz.pinned (.plain (OpenSpec.upto englishNamesSpec)) englishNamesUptoCard

/-- THE SECOND FORM's CARD OF 'lyceumlaw34.EnglishYields'. -/
def englishYieldsUptoCard : Claim7 := { stood := { row := englishYieldsUptoRow, standIns := [], harness := (true, "531efe5189cc838db597cc2310b599b5d83a46cbe76c3e59a2ad28acbb6cd9b8"), looks := false }, kinds := [], alts := [], laidByText := true, laidKinds := [.data, .listed, .data, .pinned, .pinned], laidTests := true, laidLooks := .later }
def EnglishYieldsUptoCardSaid : Prop := Claim7.holds Tryz.pinned (.plain (OpenSpec.upto englishYieldsSpec)) englishYieldsUptoCard

/-- THE SECOND FORM's CARD OF 'lyceumlaw34.EnglishParts'. -/
def englishPartsUptoCard : Claim7 := { stood := { row := englishPartsUptoRow, standIns := [], harness := (true, "531efe5189cc838db597cc2310b599b5d83a46cbe76c3e59a2ad28acbb6cd9b8"), looks := false }, kinds := [], alts := [], laidByText := true, laidKinds := [.data, .listed, .data, .pinned, .pinned], laidTests := true, laidLooks := .later }
def EnglishPartsUptoCardSaid : Prop := Claim7.holds Tryz.pinned (.plain (OpenSpec.upto englishPartsSpec)) englishPartsUptoCard

/-- THE SECOND FORM's CARD OF 'lyceumlaw34.EnglishWrong'. -/
def englishWrongUptoCard : Claim7 := { stood := { row := englishWrongUptoRow, standIns := [], harness := (true, "531efe5189cc838db597cc2310b599b5d83a46cbe76c3e59a2ad28acbb6cd9b8"), looks := false }, kinds := [], alts := [], laidByText := true, laidKinds := [.data, .listed, .data, .pinned, .pinned], laidTests := true, laidLooks := .later }
def EnglishWrongUptoCardSaid : Prop := Claim7.holds Tryz.pinned (.plain (OpenSpec.upto englishWrongSpec)) englishWrongUptoCard

/-- THE SECOND FORM's CARD OF 'lyceumlaw34.EnglishSmall'. -/
def englishSmallUptoCard : Claim7 := { stood := { row := englishSmallUptoRow, standIns := [], harness := (true, "531efe5189cc838db597cc2310b599b5d83a46cbe76c3e59a2ad28acbb6cd9b8"), looks := false }, kinds := [], alts := [], laidByText := true, laidKinds := [.data, .listed, .data, .pinned, .pinned], laidTests := true, laidLooks := .later }
def EnglishSmallUptoCardSaid : Prop := Claim7.holds Tryz.pinned (.plain (OpenSpec.upto englishSmallSpec)) englishSmallUptoCard

/-- THE SECOND FORM's CARD OF 'lyceumlaw34.EnglishSpoken'. -/
def englishSpokenUptoCard : Claim7 := { stood := { row := englishSpokenUptoRow, standIns := [], harness := (true, "531efe5189cc838db597cc2310b599b5d83a46cbe76c3e59a2ad28acbb6cd9b8"), looks := false }, kinds := [], alts := [], laidByText := true, laidKinds := [.data, .listed, .data, .pinned, .pinned], laidTests := true, laidLooks := .later }
def EnglishSpokenUptoCardSaid : Prop := Claim7.holds Tryz.pinned (.plain (OpenSpec.upto englishSpokenSpec)) englishSpokenUptoCard

/-- THE SECOND FORM's CARD OF 'lyceumlaw34.EnglishFound'. -/
def englishFoundUptoCard : Claim7 := { stood := { row := englishFoundUptoRow, standIns := [], harness := (true, "531efe5189cc838db597cc2310b599b5d83a46cbe76c3e59a2ad28acbb6cd9b8"), looks := false }, kinds := [], alts := [], laidByText := true, laidKinds := [.data, .listed, .data, .pinned, .pinned], laidTests := true, laidLooks := .later }
def EnglishFoundUptoCardSaid : Prop := Claim7.holds Tryz.pinned (.plain (OpenSpec.upto englishFoundSpec)) englishFoundUptoCard
end Rows
end Go.Proofs.YthmnffgjckpkiaaGreatDoor
