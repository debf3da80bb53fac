/-
  DERIVED. GIVEN WITH THE SEED: THE CARDS: each row of YtokemihbkeddoaaGreatDoorRows.lean that lists a variable, with what it lists TIED to the program's text (the seventh form; the later family's looks); each row that meets fmt, with fmt's text TOLD by the authors' own Lean function (tested against real Go, not proved from fmt's source: count such statements apart). THE CARD IS WHAT COUNTS. Prove the row's statement (the work); the ties are given (YtokemihbkeddoaaGreatDoorTie.lean); close each card by the builder's one call (the guide's Derived/Test/ToyasCard.lean, 'card_holds'). Laid BY PROGRAM, IN A SANDBOX (cutbox-door.mjs). By AI agents, Wed Nov 11 2026. No macro, syntax, notation, axiom, sorry.
-/
import Derived.Test.YtokemihbkeddoaaGreatDoorRows
import GoSem.ClaimSeven
namespace Go.Proofs.YtokemihbkeddoaaGreatDoor
namespace Rows

/-- THE TIED CARD OF 'lyceumlaw07.MatchMore'. -/
def matchMoreCard : Claim7 := { stood := { row := matchMoreRow, standIns := [], harness := (true, "a80f160b99b5983a6563959d656877b64bcf93987234986e66e94a562045ef6a"), looks := false }, kinds := [], alts := [], laidByText := true, laidKinds := [.data, .data, .data, .data], laidTests := true, laidLooks := .later }
def MatchMoreCardSaid : Prop := Claim7.holds Tryz.pinned (.plain (OpenSpec.ofChange matchMoreSpec)) matchMoreCard

/-- THE TIED CARD OF 'lyceumlaw07.MatchFills'. -/
def matchFillsCard : Claim7 := { stood := { row := matchFillsRow, standIns := [], harness := (true, "a80f160b99b5983a6563959d656877b64bcf93987234986e66e94a562045ef6a"), looks := false }, kinds := [], alts := [], laidByText := true, laidKinds := [.data, .data, .data, .data], laidTests := true, laidLooks := .later }
def MatchFillsCardSaid : Prop := Claim7.holds Tryz.pinned (.plain (OpenSpec.ofChange matchFillsSpec)) matchFillsCard

/-- THE TIED CARD OF 'lyceumlaw07.MatchWrong'. -/
def matchWrongCard : Claim7 := { stood := { row := matchWrongRow, standIns := [], harness := (true, "a80f160b99b5983a6563959d656877b64bcf93987234986e66e94a562045ef6a"), looks := false }, kinds := [], alts := [], laidByText := true, laidKinds := [.data, .data, .data, .data], laidTests := true, laidLooks := .later }
def MatchWrongCardSaid : Prop := Claim7.holds Tryz.pinned (.plain (OpenSpec.ofChange matchWrongSpec)) matchWrongCard

/-- THE TIED CARD OF 'lyceumlaw07.MatchSmall'. -/
def matchSmallCard : Claim7 := { stood := { row := matchSmallRow, standIns := [], harness := (true, "a80f160b99b5983a6563959d656877b64bcf93987234986e66e94a562045ef6a"), looks := false }, kinds := [], alts := [], laidByText := true, laidKinds := [.data, .data, .data, .data], laidTests := true, laidLooks := .later }
def MatchSmallCardSaid : Prop := Claim7.holds Tryz.pinned (.plain (OpenSpec.ofChange matchSmallSpec)) matchSmallCard

/-- THE TIED CARD OF 'lyceumlaw07.MatchFill'. -/
def matchFillCard : Claim7 := { stood := { row := matchFillRow, standIns := [], harness := (true, "a80f160b99b5983a6563959d656877b64bcf93987234986e66e94a562045ef6a"), looks := false }, kinds := [], alts := [], laidByText := true, laidKinds := [.data, .data, .data, .data], laidTests := true, laidLooks := .later }
def MatchFillCardSaid : Prop := Claim7.holds Tryz.pinned (.plain (OpenSpec.ofChange matchFillSpec)) matchFillCard

/-- THE TIED CARD OF 'lyceumlaw07.MatchScope'. -/
def matchScopeCard : Claim7 := { stood := { row := matchScopeRow, standIns := [], harness := (true, "a80f160b99b5983a6563959d656877b64bcf93987234986e66e94a562045ef6a"), looks := false }, kinds := [], alts := [], laidByText := true, laidKinds := [.data, .data, .data, .data], laidTests := true, laidLooks := .later }
def MatchScopeCardSaid : Prop := Claim7.holds Tryz.pinned (.plain (OpenSpec.ofChange matchScopeSpec)) matchScopeCard

/-- THE TIED CARD OF 'lyceumlaw07.MatchBack'. -/
def matchBackCard : Claim7 := { stood := { row := matchBackRow, standIns := [], harness := (true, "a80f160b99b5983a6563959d656877b64bcf93987234986e66e94a562045ef6a"), looks := false }, kinds := [], alts := [], laidByText := true, laidKinds := [.data, .data, .data, .data], laidTests := true, laidLooks := .later }
def MatchBackCardSaid : Prop := Claim7.holds Tryz.pinned (.plain (OpenSpec.ofChange matchBackSpec)) matchBackCard

/-- THE TIED CARD OF 'lyceumlaw07.MatchAlpha'. -/
def matchAlphaCard : Claim7 := { stood := { row := matchAlphaRow, standIns := [], harness := (true, "a80f160b99b5983a6563959d656877b64bcf93987234986e66e94a562045ef6a"), looks := false }, kinds := [], alts := [], laidByText := true, laidKinds := [.data, .data, .data, .data], laidTests := true, laidLooks := .later }
def MatchAlphaCardSaid : Prop := Claim7.holds Tryz.pinned (.plain (OpenSpec.ofChange matchAlphaSpec)) matchAlphaCard

/-- THE TIED CARD OF 'lyceumlaw07.MatchInst'. -/
def matchInstCard : Claim7 := { stood := { row := matchInstRow, standIns := [], harness := (true, "a80f160b99b5983a6563959d656877b64bcf93987234986e66e94a562045ef6a"), looks := false }, kinds := [], alts := [], laidByText := true, laidKinds := [.data, .data, .data, .data], laidTests := true, laidLooks := .later }
def MatchInstCardSaid : Prop := Claim7.holds Tryz.pinned (.plain (OpenSpec.ofChange matchInstSpec)) matchInstCard

/-- THE SECOND FORM's CARD OF 'lyceumlaw07.MatchMore'. -/
def matchMoreUptoCard : Claim7 := { stood := { row := matchMoreUptoRow, standIns := [], harness := (true, "a80f160b99b5983a6563959d656877b64bcf93987234986e66e94a562045ef6a"), looks := false }, kinds := [], alts := [], laidByText := true, laidKinds := [.data, .data, .data, .data], laidTests := true, laidLooks := .later }
def MatchMoreUptoCardSaid : Prop := Claim7.holds Tryz.pinned (.plain (OpenSpec.upto matchMoreSpec)) matchMoreUptoCard

/-- THE SECOND FORM's CARD OF 'lyceumlaw07.MatchFills'. -/
def matchFillsUptoCard : Claim7 := { stood := { row := matchFillsUptoRow, standIns := [], harness := (true, "a80f160b99b5983a6563959d656877b64bcf93987234986e66e94a562045ef6a"), looks := false }, kinds := [], alts := [], laidByText := true, laidKinds := [.data, .data, .data, .data], laidTests := true, laidLooks := .later }
def MatchFillsUptoCardSaid : Prop := Claim7.holds Tryz.pinned (.plain (OpenSpec.upto matchFillsSpec)) matchFillsUptoCard

/-- THE SECOND FORM's CARD OF 'lyceumlaw07.MatchWrong'. -/
def matchWrongUptoCard : Claim7 := { stood := { row := matchWrongUptoRow, standIns := [], harness := (true, "a80f160b99b5983a6563959d656877b64bcf93987234986e66e94a562045ef6a"), looks := false }, kinds := [], alts := [], laidByText := true, laidKinds := [.data, .data, .data, .data], laidTests := true, laidLooks := .later }
def MatchWrongUptoCardSaid : Prop := Claim7.holds Tryz.pinned (.plain (OpenSpec.upto matchWrongSpec)) matchWrongUptoCard

/-- THE SECOND FORM's CARD OF 'lyceumlaw07.MatchSmall'. -/
def matchSmallUptoCard : Claim7 := { stood := { row := matchSmallUptoRow, standIns := [], harness := (true, "a80f160b99b5983a6563959d656877b64bcf93987234986e66e94a562045ef6a"), looks := false }, kinds := [], alts := [], laidByText := true, laidKinds := [.data, .data, .data, .data], laidTests := true, laidLooks := .later }
def MatchSmallUptoCardSaid : Prop := Claim7.holds Tryz.pinned (.plain (OpenSpec.upto matchSmallSpec)) matchSmallUptoCard

/-- THE SECOND FORM's CARD OF 'lyceumlaw07.MatchFill'. -/
def matchFillUptoCard : Claim7 := { stood := { row := matchFillUptoRow, standIns := [], harness := (true, "a80f160b99b5983a6563959d656877b64bcf93987234986e66e94a562045ef6a"), looks := false }, kinds := [], alts := [], laidByText := true, laidKinds := [.data, .data, .data, .data], laidTests := true, laidLooks := .later }
def MatchFillUptoCardSaid : Prop := Claim7.holds Tryz.pinned (.plain (OpenSpec.upto matchFillSpec)) matchFillUptoCard

/-- THE SECOND FORM's CARD OF 'lyceumlaw07.MatchScope'. -/
def matchScopeUptoCard : Claim7 := { stood := { row := matchScopeUptoRow, standIns := [], harness := (true, "a80f160b99b5983a6563959d656877b64bcf93987234986e66e94a562045ef6a"), looks := false }, kinds := [], alts := [], laidByText := true, laidKinds := [.data, .data, .data, .data], laidTests := true, laidLooks := .later }
def MatchScopeUptoCardSaid : Prop := Claim7.holds Tryz.pinned (.plain (OpenSpec.upto matchScopeSpec)) matchScopeUptoCard

/-- THE SECOND FORM's CARD OF 'lyceumlaw07.MatchBack'. -/
def matchBackUptoCard : Claim7 := { stood := { row := matchBackUptoRow, standIns := [], harness := (true, "a80f160b99b5983a6563959d656877b64bcf93987234986e66e94a562045ef6a"), looks := false }, kinds := [], alts := [], laidByText := true, laidKinds := [.data, .data, .data, .data], laidTests := true, laidLooks := .later }
def MatchBackUptoCardSaid : Prop := Claim7.holds Tryz.pinned (.plain (OpenSpec.upto matchBackSpec)) matchBackUptoCard

/-- THE SECOND FORM's CARD OF 'lyceumlaw07.MatchAlpha'. -/
def matchAlphaUptoCard : Claim7 := { stood := { row := matchAlphaUptoRow, standIns := [], harness := (true, "a80f160b99b5983a6563959d656877b64bcf93987234986e66e94a562045ef6a"), looks := false }, kinds := [], alts := [], laidByText := true, laidKinds := [.data, .data, .data, .data], laidTests := true, laidLooks := .later }
def MatchAlphaUptoCardSaid : Prop := Claim7.holds Tryz.pinned (.plain (OpenSpec.upto matchAlphaSpec)) matchAlphaUptoCard

/-- THE SECOND FORM's CARD OF 'lyceumlaw07.MatchInst'. -/
def matchInstUptoCard : Claim7 := { stood := { row := matchInstUptoRow, standIns := [], harness := (true, "a80f160b99b5983a6563959d656877b64bcf93987234986e66e94a562045ef6a"), looks := false }, kinds := [], alts := [], laidByText := true, laidKinds := [.data, .data, .data, .data], laidTests := true, laidLooks := .later }
def MatchInstUptoCardSaid : Prop := Claim7.holds Tryz.pinned (.plain (OpenSpec.upto matchInstSpec)) matchInstUptoCard
end Rows
end Go.Proofs.YtokemihbkeddoaaGreatDoor
