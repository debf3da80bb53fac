/-
  DERIVED. GIVEN WITH THE SEED: THE CARDS: each row of YtakpkaklcjgdkaaDoorRows.lean that lists a variable, with what it lists TIED to the program's text (the seventh form; the later family's looks); each row that meets fmt, with fmt's text TOLD by the authors' own Lean function (tested against real Go, not proved from fmt's source: count such statements apart). THE CARD IS WHAT COUNTS. Prove the row's statement (the work); the ties are given (YtakpkaklcjgdkaaDoorTie.lean); close each card by the builder's one call (the guide's Derived/Test/ToyasCard.lean, 'card_holds'). Laid BY PROGRAM, IN A SANDBOX (cutbox-door.mjs). By AI agents, Wed Nov 11 2026. No macro, syntax, notation, axiom, sorry.
-/
import Derived.Test.YtakpkaklcjgdkaaDoorRows
import GoSem.ClaimSeven
namespace Go.Proofs.YtakpkaklcjgdkaaDoor
namespace Rows

/-- THE TIED CARD OF 'lyceumlaw33.WordsTexts'. -/
def wordsTextsCard : Claim7 := { stood := { row := wordsTextsRow, standIns := [], harness := (true, "d8d1d5709cd6d5cd6e464635415b9e527e98596808f1c5d8ec1faf7491780511"), looks := false }, kinds := [], alts := [], laidByText := true, laidKinds := [.data, .listed, .data, .pinned, .pinned], laidTests := true, laidLooks := .later }
def WordsTextsCardSaid : Prop := Claim7.holds Tryd.pinned (.plain (OpenSpec.ofChange wordsTextsSpec)) wordsTextsCard

/-- THE TIED CARD OF 'lyceumlaw33.WordsFound'. -/
def wordsFoundCard : Claim7 := { stood := { row := wordsFoundRow, standIns := [], harness := (true, "d8d1d5709cd6d5cd6e464635415b9e527e98596808f1c5d8ec1faf7491780511"), looks := false }, kinds := [], alts := [], laidByText := true, laidKinds := [.data, .listed, .data, .pinned, .pinned], laidTests := true, laidLooks := .later }
def WordsFoundCardSaid : Prop := Claim7.holds Tryd.pinned (.plain (OpenSpec.ofChange wordsFoundSpec)) wordsFoundCard

/-- THE TIED CARD OF 'lyceumlaw33.WordsBack'. -/
def wordsBackCard : Claim7 := { stood := { row := wordsBackRow, standIns := [], harness := (true, "d8d1d5709cd6d5cd6e464635415b9e527e98596808f1c5d8ec1faf7491780511"), looks := false }, kinds := [], alts := [], laidByText := true, laidKinds := [.data, .listed, .data, .pinned, .pinned], laidTests := true, laidLooks := .later }
def WordsBackCardSaid : Prop := Claim7.holds Tryd.pinned (.plain (OpenSpec.ofChange wordsBackSpec)) wordsBackCard

/-- THE TIED CARD OF 'lyceumlaw33.WordsPlace'. -/
def wordsPlaceCard : Claim7 := { stood := { row := wordsPlaceRow, standIns := [], harness := (true, "d8d1d5709cd6d5cd6e464635415b9e527e98596808f1c5d8ec1faf7491780511"), looks := false }, kinds := [], alts := [], laidByText := true, laidKinds := [.data, .listed, .data, .pinned, .pinned], laidTests := true, laidLooks := .later }
def WordsPlaceCardSaid : Prop := Claim7.holds Tryd.pinned (.plain (OpenSpec.ofChange wordsPlaceSpec)) wordsPlaceCard

/-- THE TIED CARD OF 'lyceumlaw33.WordsThird'. -/
def wordsThirdCard : Claim7 := { stood := { row := wordsThirdRow, standIns := [], harness := (true, "d8d1d5709cd6d5cd6e464635415b9e527e98596808f1c5d8ec1faf7491780511"), looks := false }, kinds := [], alts := [], laidByText := true, laidKinds := [.data, .listed, .data, .pinned, .pinned], laidTests := true, laidLooks := .later }
def WordsThirdCardSaid : Prop := Claim7.holds Tryd.pinned (.plain (OpenSpec.ofChange wordsThirdSpec)) wordsThirdCard

/-- THE TIED CARD OF 'lyceumlaw33.WordsWrong'. -/
def wordsWrongCard : Claim7 := { stood := { row := wordsWrongRow, standIns := [], harness := (true, "d8d1d5709cd6d5cd6e464635415b9e527e98596808f1c5d8ec1faf7491780511"), looks := false }, kinds := [], alts := [], laidByText := true, laidKinds := [.data, .listed, .data, .pinned, .pinned], laidTests := true, laidLooks := .later }
def WordsWrongCardSaid : Prop := Claim7.holds Tryd.pinned (.plain (OpenSpec.ofChange wordsWrongSpec)) wordsWrongCard

/-- THE TIED CARD OF 'lyceumlaw33.WordsAdds'. -/
def wordsAddsCard : Claim7 := { stood := { row := wordsAddsRow, standIns := [], harness := (true, "d8d1d5709cd6d5cd6e464635415b9e527e98596808f1c5d8ec1faf7491780511"), looks := false }, kinds := [], alts := [], laidByText := true, laidKinds := [.data, .listed, .data, .pinned, .pinned], laidTests := true, laidLooks := .later }
def WordsAddsCardSaid : Prop := Claim7.holds Tryd.pinned (.plain (OpenSpec.ofChange wordsAddsSpec)) wordsAddsCard

/-- THE TIED CARD OF 'lyceumlaw33.WordsBlanks'. -/
def wordsBlanksCard : Claim7 := { stood := { row := wordsBlanksRow, standIns := [], harness := (true, "d8d1d5709cd6d5cd6e464635415b9e527e98596808f1c5d8ec1faf7491780511"), looks := false }, kinds := [], alts := [], laidByText := true, laidKinds := [.data, .listed, .data, .pinned, .pinned], laidTests := true, laidLooks := .later }
def WordsBlanksCardSaid : Prop := Claim7.holds Tryd.pinned (.plain (OpenSpec.ofChange wordsBlanksSpec)) wordsBlanksCard

/-- THE SECOND FORM's CARD OF 'lyceumlaw33.WordsTexts'. -/
def wordsTextsUptoCard : Claim7 := { stood := { row := wordsTextsUptoRow, standIns := [], harness := (true, "d8d1d5709cd6d5cd6e464635415b9e527e98596808f1c5d8ec1faf7491780511"), looks := false }, kinds := [], alts := [], laidByText := true, laidKinds := [.data, .listed, .data, .pinned, .pinned], laidTests := true, laidLooks := .later }
def WordsTextsUptoCardSaid : Prop := Claim7.holds Tryd.pinned (.plain (OpenSpec.upto wordsTextsSpec)) wordsTextsUptoCard

/-- THE SECOND FORM's CARD OF 'lyceumlaw33.WordsFound'. -/
def wordsFoundUptoCard : Claim7 := { stood := { row := wordsFoundUptoRow, standIns := [], harness := (true, "d8d1d5709cd6d5cd6e464635415b9e527e98596808f1c5d8ec1faf7491780511"), looks := false }, kinds := [], alts := [], laidByText := true, laidKinds := [.data, .listed, .data, .pinned, .pinned], laidTests := true, laidLooks := .later }
def WordsFoundUptoCardSaid : Prop := Claim7.holds Tryd.pinned (.plain (OpenSpec.upto wordsFoundSpec)) wordsFoundUptoCard

/-- THE SECOND FORM's CARD OF 'lyceumlaw33.WordsBack'. -/
def wordsBackUptoCard : Claim7 := { stood := { row := wordsBackUptoRow, standIns := [], harness := (true, "d8d1d5709cd6d5cd6e464635415b9e527e98596808f1c5d8ec1faf7491780511"), looks := false }, kinds := [], alts := [], laidByText := true, laidKinds := [.data, .listed, .data, .pinned, .pinned], laidTests := true, laidLooks := .later }
def WordsBackUptoCardSaid : Prop := Claim7.holds Tryd.pinned (.plain (OpenSpec.upto wordsBackSpec)) wordsBackUptoCard

/-- THE SECOND FORM's CARD OF 'lyceumlaw33.WordsPlace'. -/
def wordsPlaceUptoCard : Claim7 := { stood := { row := wordsPlaceUptoRow, standIns := [], harness := (true, "d8d1d5709cd6d5cd6e464635415b9e527e98596808f1c5d8ec1faf7491780511"), looks := false }, kinds := [], alts := [], laidByText := true, laidKinds := [.data, .listed, .data, .pinned, .pinned], laidTests := true, laidLooks := .later }
def WordsPlaceUptoCardSaid : Prop := Claim7.holds Tryd.pinned (.plain (OpenSpec.upto wordsPlaceSpec)) wordsPlaceUptoCard

/-- THE SECOND FORM's CARD OF 'lyceumlaw33.WordsThird'. -/
def wordsThirdUptoCard : Claim7 := { stood := { row := wordsThirdUptoRow, standIns := [], harness := (true, "d8d1d5709cd6d5cd6e464635415b9e527e98596808f1c5d8ec1faf7491780511"), looks := false }, kinds := [], alts := [], laidByText := true, laidKinds := [.data, .listed, .data, .pinned, .pinned], laidTests := true, laidLooks := .later }
def WordsThirdUptoCardSaid : Prop := Claim7.holds Tryd.pinned (.plain (OpenSpec.upto wordsThirdSpec)) wordsThirdUptoCard

/-- THE SECOND FORM's CARD OF 'lyceumlaw33.WordsWrong'. -/
def wordsWrongUptoCard : Claim7 := { stood := { row := wordsWrongUptoRow, standIns := [], harness := (true, "d8d1d5709cd6d5cd6e464635415b9e527e98596808f1c5d8ec1faf7491780511"), looks := false }, kinds := [], alts := [], laidByText := true, laidKinds := [.data, .listed, .data, .pinned, .pinned], laidTests := true, laidLooks := .later }
def WordsWrongUptoCardSaid : Prop := Claim7.holds Tryd.pinned (.plain (OpenSpec.upto wordsWrongSpec)) wordsWrongUptoCard

/-- THE SECOND FORM's CARD OF 'lyceumlaw33.WordsAdds'. -/
def wordsAddsUptoCard : Claim7 := { stood := { row := wordsAddsUptoRow, standIns := [], harness := (true, "d8d1d5709cd6d5cd6e464635415b9e527e98596808f1c5d8ec1faf7491780511"), looks := false }, kinds := [], alts := [], laidByText := true, laidKinds := [.data, .listed, .data, .pinned, .pinned], laidTests := true, laidLooks := .later }
def WordsAddsUptoCardSaid : Prop := Claim7.holds Tryd.pinned (.plain (OpenSpec.upto wordsAddsSpec)) wordsAddsUptoCard

/-- THE SECOND FORM's CARD OF 'lyceumlaw33.WordsBlanks'. -/
def wordsBlanksUptoCard : Claim7 := { stood := { row := wordsBlanksUptoRow, standIns := [], harness := (true, "d8d1d5709cd6d5cd6e464635415b9e527e98596808f1c5d8ec1faf7491780511"), looks := false }, kinds := [], alts := [], laidByText := true, laidKinds := [.data, .listed, .data, .pinned, .pinned], laidTests := true, laidLooks := .later }
def WordsBlanksUptoCardSaid : Prop := Claim7.holds Tryd.pinned (.plain (OpenSpec.upto wordsBlanksSpec)) wordsBlanksUptoCard
end Rows
end Go.Proofs.YtakpkaklcjgdkaaDoor
