/-
  DERIVED. GIVEN WITH THE SEED: THE CARDS: each row of YtllfhaocdknejaaDoorRows.lean that lists a variable, with what it lists TIED to the program's text (the seventh form; the later family's looks); each row that meets fmt, with fmt's text TOLD by the authors' own Lean function (tested against real Go, not proved from fmt's source: count such statements apart). THE CARD IS WHAT COUNTS. Prove the row's statement (the work); the ties are given (YtllfhaocdknejaaDoorTie.lean); close each card by the builder's one call (the guide's Derived/Test/ToyasCard.lean, 'card_holds'). Laid BY PROGRAM, IN A SANDBOX (cutbox-door.mjs). By AI agents, Wed Nov 11 2026. No macro, syntax, notation, axiom, sorry.
-/
import Derived.Test.YtllfhaocdknejaaDoorRows
import GoSem.ClaimSeven
namespace Go.Proofs.YtllfhaocdknejaaDoor
namespace Rows

/-- THE TIED CARD OF 'strongboxlaw05.CodeDecodes'. -/
def codeDecodesCard : Claim7 := { stood := { row := codeDecodesRow, standIns := [], harness := (true, "b4417527e1793bd647dc655dcdfc6e1f992bc66bc08210e7a176f64a14c5f360"), looks := false }, kinds := [], alts := [], laidByText := true, laidKinds := [.data, .pinned], laidTests := true, laidLooks := .later }
def CodeDecodesCardSaid : Prop := Claim7.holds Tryd.pinned (.plain (OpenSpec.ofChange codeDecodesSpec)) codeDecodesCard

/-- THE TIED CARD OF 'strongboxlaw05.CodeApart'. -/
def codeApartCard : Claim7 := { stood := { row := codeApartRow, standIns := [], harness := (true, "b4417527e1793bd647dc655dcdfc6e1f992bc66bc08210e7a176f64a14c5f360"), looks := false }, kinds := [], alts := [], laidByText := true, laidKinds := [.data, .pinned], laidTests := true, laidLooks := .later }
def CodeApartCardSaid : Prop := Claim7.holds Tryd.pinned (.plain (OpenSpec.ofChange codeApartSpec)) codeApartCard

/-- THE TIED CARD OF 'strongboxlaw05.CodeLengths'. -/
def codeLengthsCard : Claim7 := { stood := { row := codeLengthsRow, standIns := [], harness := (true, "b4417527e1793bd647dc655dcdfc6e1f992bc66bc08210e7a176f64a14c5f360"), looks := false }, kinds := [], alts := [], laidByText := true, laidKinds := [.data, .pinned], laidTests := true, laidLooks := .later }
def CodeLengthsCardSaid : Prop := Claim7.holds Tryd.pinned (.plain (OpenSpec.ofChange codeLengthsSpec)) codeLengthsCard

/-- THE TIED CARD OF 'strongboxlaw05.CodeNames'. -/
def codeNamesCard : Claim7 := { stood := { row := codeNamesRow, standIns := [], harness := (true, "b4417527e1793bd647dc655dcdfc6e1f992bc66bc08210e7a176f64a14c5f360"), looks := false }, kinds := [], alts := [], laidByText := true, laidKinds := [.data, .pinned], laidTests := true, laidLooks := .later }
def CodeNamesCardSaid : Prop := Claim7.holds Tryd.pinned (.plain (OpenSpec.ofChange codeNamesSpec)) codeNamesCard

/-- THE TIED CARD OF 'strongboxlaw05.CodeAny'. -/
def codeAnyCard : Claim7 := { stood := { row := codeAnyRow, standIns := [], harness := (true, "b4417527e1793bd647dc655dcdfc6e1f992bc66bc08210e7a176f64a14c5f360"), looks := false }, kinds := [], alts := [], laidByText := true, laidKinds := [.data, .pinned], laidTests := true, laidLooks := .later }
def CodeAnyCardSaid : Prop := Claim7.holds Tryd.pinned (.plain (OpenSpec.ofChange codeAnySpec)) codeAnyCard

/-- THE SECOND FORM's CARD OF 'strongboxlaw05.CodeDecodes'. -/
def codeDecodesUptoCard : Claim7 := { stood := { row := codeDecodesUptoRow, standIns := [], harness := (true, "b4417527e1793bd647dc655dcdfc6e1f992bc66bc08210e7a176f64a14c5f360"), looks := false }, kinds := [], alts := [], laidByText := true, laidKinds := [.data, .pinned], laidTests := true, laidLooks := .later }
def CodeDecodesUptoCardSaid : Prop := Claim7.holds Tryd.pinned (.plain (OpenSpec.upto codeDecodesSpec)) codeDecodesUptoCard

/-- THE SECOND FORM's CARD OF 'strongboxlaw05.CodeApart'. -/
def codeApartUptoCard : Claim7 := { stood := { row := codeApartUptoRow, standIns := [], harness := (true, "b4417527e1793bd647dc655dcdfc6e1f992bc66bc08210e7a176f64a14c5f360"), looks := false }, kinds := [], alts := [], laidByText := true, laidKinds := [.data, .pinned], laidTests := true, laidLooks := .later }
def CodeApartUptoCardSaid : Prop := Claim7.holds Tryd.pinned (.plain (OpenSpec.upto codeApartSpec)) codeApartUptoCard

/-- THE SECOND FORM's CARD OF 'strongboxlaw05.CodeLengths'. -/
def codeLengthsUptoCard : Claim7 := { stood := { row := codeLengthsUptoRow, standIns := [], harness := (true, "b4417527e1793bd647dc655dcdfc6e1f992bc66bc08210e7a176f64a14c5f360"), looks := false }, kinds := [], alts := [], laidByText := true, laidKinds := [.data, .pinned], laidTests := true, laidLooks := .later }
def CodeLengthsUptoCardSaid : Prop := Claim7.holds Tryd.pinned (.plain (OpenSpec.upto codeLengthsSpec)) codeLengthsUptoCard

/-- THE SECOND FORM's CARD OF 'strongboxlaw05.CodeNames'. -/
def codeNamesUptoCard : Claim7 := { stood := { row := codeNamesUptoRow, standIns := [], harness := (true, "b4417527e1793bd647dc655dcdfc6e1f992bc66bc08210e7a176f64a14c5f360"), looks := false }, kinds := [], alts := [], laidByText := true, laidKinds := [.data, .pinned], laidTests := true, laidLooks := .later }
def CodeNamesUptoCardSaid : Prop := Claim7.holds Tryd.pinned (.plain (OpenSpec.upto codeNamesSpec)) codeNamesUptoCard

/-- THE SECOND FORM's CARD OF 'strongboxlaw05.CodeAny'. -/
def codeAnyUptoCard : Claim7 := { stood := { row := codeAnyUptoRow, standIns := [], harness := (true, "b4417527e1793bd647dc655dcdfc6e1f992bc66bc08210e7a176f64a14c5f360"), looks := false }, kinds := [], alts := [], laidByText := true, laidKinds := [.data, .pinned], laidTests := true, laidLooks := .later }
def CodeAnyUptoCardSaid : Prop := Claim7.holds Tryd.pinned (.plain (OpenSpec.upto codeAnySpec)) codeAnyUptoCard
end Rows
end Go.Proofs.YtllfhaocdknejaaDoor
