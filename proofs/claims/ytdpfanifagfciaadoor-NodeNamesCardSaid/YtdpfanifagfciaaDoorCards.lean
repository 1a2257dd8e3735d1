/-
  DERIVED. GIVEN WITH THE SEED: THE CARDS: each row of YtdpfanifagfciaaDoorRows.lean that lists a variable, with what it lists TIED to the program's text (the seventh form; the later family's looks); each row that meets fmt, with fmt's text TOLD by the authors' own Lean function (tested against real Go, not proved from fmt's source: count such statements apart). THE CARD IS WHAT COUNTS. Prove the row's statement (the work); the ties are given (YtdpfanifagfciaaDoorTie.lean); close each card by the builder's one call (the guide's Derived/Test/ToyasCard.lean, 'card_holds'). Laid BY PROGRAM, IN A SANDBOX (cutbox-door.mjs). By AI agents, Wed Nov 11 2026. No macro, syntax, notation, axiom, sorry.
-/
import Derived.Test.YtdpfanifagfciaaDoorRows
import GoSem.ClaimSeven
namespace Go.Proofs.YtdpfanifagfciaaDoor
namespace Rows

/-- THE TIED CARD OF 'strongboxlaw19.NodeReads'. -/
def nodeReadsCard : Claim7 := { stood := { row := nodeReadsRow, standIns := [], harness := (true, "cb5e718681435236ae9b57106d7d1b7b6bcbeee305142374a004b9a65b12bc62"), looks := false }, kinds := [], alts := [], laidByText := true, laidKinds := [.data, .pinned], laidTests := true, laidLooks := .later }
def NodeReadsCardSaid : Prop := Claim7.holds Tryd.pinned (.plain (OpenSpec.ofChange nodeReadsSpec)) nodeReadsCard

/-- THE TIED CARD OF 'strongboxlaw19.NodeLong'. -/
def nodeLongCard : Claim7 := { stood := { row := nodeLongRow, standIns := [], harness := (true, "cb5e718681435236ae9b57106d7d1b7b6bcbeee305142374a004b9a65b12bc62"), looks := false }, kinds := [], alts := [], laidByText := true, laidKinds := [.data, .pinned], laidTests := true, laidLooks := .later }
def NodeLongCardSaid : Prop := Claim7.holds Tryd.pinned (.plain (OpenSpec.ofChange nodeLongSpec)) nodeLongCard

/-- THE TIED CARD OF 'strongboxlaw19.NodeMore'. -/
def nodeMoreCard : Claim7 := { stood := { row := nodeMoreRow, standIns := [], harness := (true, "cb5e718681435236ae9b57106d7d1b7b6bcbeee305142374a004b9a65b12bc62"), looks := false }, kinds := [], alts := [], laidByText := true, laidKinds := [.data, .pinned], laidTests := true, laidLooks := .later }
def NodeMoreCardSaid : Prop := Claim7.holds Tryd.pinned (.plain (OpenSpec.ofChange nodeMoreSpec)) nodeMoreCard

/-- THE TIED CARD OF 'strongboxlaw18.PathNames'. -/
def pathNamesCard : Claim7 := { stood := { row := pathNamesRow, standIns := [], harness := (true, "cb5e718681435236ae9b57106d7d1b7b6bcbeee305142374a004b9a65b12bc62"), looks := false }, kinds := [], alts := [], laidByText := true, laidKinds := [.data, .pinned], laidTests := true, laidLooks := .later }
def PathNamesCardSaid : Prop := Claim7.holds Tryd.pinned (.plain (OpenSpec.ofChange pathNamesSpec)) pathNamesCard

/-- THE TIED CARD OF 'strongboxlaw18.PathLess'. -/
def pathLessCard : Claim7 := { stood := { row := pathLessRow, standIns := [], harness := (true, "cb5e718681435236ae9b57106d7d1b7b6bcbeee305142374a004b9a65b12bc62"), looks := false }, kinds := [], alts := [], laidByText := true, laidKinds := [.data, .pinned], laidTests := true, laidLooks := .later }
def PathLessCardSaid : Prop := Claim7.holds Tryd.pinned (.plain (OpenSpec.ofChange pathLessSpec)) pathLessCard

/-- THE TIED CARD OF 'strongboxlaw18.PathUp'. -/
def pathUpCard : Claim7 := { stood := { row := pathUpRow, standIns := [], harness := (true, "cb5e718681435236ae9b57106d7d1b7b6bcbeee305142374a004b9a65b12bc62"), looks := false }, kinds := [], alts := [], laidByText := true, laidKinds := [.data, .pinned], laidTests := true, laidLooks := .later }
def PathUpCardSaid : Prop := Claim7.holds Tryd.pinned (.plain (OpenSpec.ofChange pathUpSpec)) pathUpCard

/-- THE TIED CARD OF 'strongboxlaw18.PathWhole'. -/
def pathWholeCard : Claim7 := { stood := { row := pathWholeRow, standIns := [], harness := (true, "cb5e718681435236ae9b57106d7d1b7b6bcbeee305142374a004b9a65b12bc62"), looks := false }, kinds := [], alts := [], laidByText := true, laidKinds := [.data, .pinned], laidTests := true, laidLooks := .later }
def PathWholeCardSaid : Prop := Claim7.holds Tryd.pinned (.plain (OpenSpec.ofChange pathWholeSpec)) pathWholeCard

/-- THE TIED CARD OF 'strongboxlaw19.NodeMakes'. -/
def nodeMakesCard : Claim7 := { stood := { row := nodeMakesRow, standIns := [], harness := (true, "cb5e718681435236ae9b57106d7d1b7b6bcbeee305142374a004b9a65b12bc62"), looks := false }, kinds := [], alts := [], laidByText := true, laidKinds := [.data, .pinned], laidTests := true, laidLooks := .later }
def NodeMakesCardSaid : Prop := Claim7.holds Tryd.pinned (.plain (OpenSpec.ofChange nodeMakesSpec)) nodeMakesCard

/-- THE TIED CARD OF 'strongboxlaw18.PathTells'. -/
def pathTellsCard : Claim7 := { stood := { row := pathTellsRow, standIns := [], harness := (true, "cb5e718681435236ae9b57106d7d1b7b6bcbeee305142374a004b9a65b12bc62"), looks := false }, kinds := [], alts := [], laidByText := true, laidKinds := [.data, .pinned], laidTests := true, laidLooks := .later }
def PathTellsCardSaid : Prop := Claim7.holds Tryd.pinned (.plain (OpenSpec.ofChange pathTellsSpec)) pathTellsCard

/-- THE TIED CARD OF 'strongboxlaw19.NodeNames'. -/
def nodeNamesCard : Claim7 := { stood := { row := nodeNamesRow, standIns := [], harness := (true, "cb5e718681435236ae9b57106d7d1b7b6bcbeee305142374a004b9a65b12bc62"), looks := false }, kinds := [], alts := [], laidByText := true, laidKinds := [.data, .pinned], laidTests := true, laidLooks := .later }
def NodeNamesCardSaid : Prop := Claim7.holds Tryd.pinned (.plain (OpenSpec.ofChange nodeNamesSpec)) nodeNamesCard

/-- THE TIED CARD OF 'strongboxlaw19.NodeBack'. -/
def nodeBackCard : Claim7 := { stood := { row := nodeBackRow, standIns := [], harness := (true, "cb5e718681435236ae9b57106d7d1b7b6bcbeee305142374a004b9a65b12bc62"), looks := false }, kinds := [], alts := [], laidByText := true, laidKinds := [.data, .pinned], laidTests := true, laidLooks := .later }
def NodeBackCardSaid : Prop := Claim7.holds Tryd.pinned (.plain (OpenSpec.ofChange nodeBackSpec)) nodeBackCard

/-- THE SECOND FORM's CARD OF 'strongboxlaw19.NodeReads'. -/
def nodeReadsUptoCard : Claim7 := { stood := { row := nodeReadsUptoRow, standIns := [], harness := (true, "cb5e718681435236ae9b57106d7d1b7b6bcbeee305142374a004b9a65b12bc62"), looks := false }, kinds := [], alts := [], laidByText := true, laidKinds := [.data, .pinned], laidTests := true, laidLooks := .later }
def NodeReadsUptoCardSaid : Prop := Claim7.holds Tryd.pinned (.plain (OpenSpec.upto nodeReadsSpec)) nodeReadsUptoCard

/-- THE SECOND FORM's CARD OF 'strongboxlaw19.NodeLong'. -/
def nodeLongUptoCard : Claim7 := { stood := { row := nodeLongUptoRow, standIns := [], harness := (true, "cb5e718681435236ae9b57106d7d1b7b6bcbeee305142374a004b9a65b12bc62"), looks := false }, kinds := [], alts := [], laidByText := true, laidKinds := [.data, .pinned], laidTests := true, laidLooks := .later }
def NodeLongUptoCardSaid : Prop := Claim7.holds Tryd.pinned (.plain (OpenSpec.upto nodeLongSpec)) nodeLongUptoCard

/-- THE SECOND FORM's CARD OF 'strongboxlaw19.NodeMore'. -/
def nodeMoreUptoCard : Claim7 := { stood := { row := nodeMoreUptoRow, standIns := [], harness := (true, "cb5e718681435236ae9b57106d7d1b7b6bcbeee305142374a004b9a65b12bc62"), looks := false }, kinds := [], alts := [], laidByText := true, laidKinds := [.data, .pinned], laidTests := true, laidLooks := .later }
def NodeMoreUptoCardSaid : Prop := Claim7.holds Tryd.pinned (.plain (OpenSpec.upto nodeMoreSpec)) nodeMoreUptoCard

/-- THE SECOND FORM's CARD OF 'strongboxlaw18.PathNames'. -/
def pathNamesUptoCard : Claim7 := { stood := { row := pathNamesUptoRow, standIns := [], harness := (true, "cb5e718681435236ae9b57106d7d1b7b6bcbeee305142374a004b9a65b12bc62"), looks := false }, kinds := [], alts := [], laidByText := true, laidKinds := [.data, .pinned], laidTests := true, laidLooks := .later }
def PathNamesUptoCardSaid : Prop := Claim7.holds Tryd.pinned (.plain (OpenSpec.upto pathNamesSpec)) pathNamesUptoCard

/-- THE SECOND FORM's CARD OF 'strongboxlaw18.PathLess'. -/
def pathLessUptoCard : Claim7 := { stood := { row := pathLessUptoRow, standIns := [], harness := (true, "cb5e718681435236ae9b57106d7d1b7b6bcbeee305142374a004b9a65b12bc62"), looks := false }, kinds := [], alts := [], laidByText := true, laidKinds := [.data, .pinned], laidTests := true, laidLooks := .later }
def PathLessUptoCardSaid : Prop := Claim7.holds Tryd.pinned (.plain (OpenSpec.upto pathLessSpec)) pathLessUptoCard

/-- THE SECOND FORM's CARD OF 'strongboxlaw18.PathUp'. -/
def pathUpUptoCard : Claim7 := { stood := { row := pathUpUptoRow, standIns := [], harness := (true, "cb5e718681435236ae9b57106d7d1b7b6bcbeee305142374a004b9a65b12bc62"), looks := false }, kinds := [], alts := [], laidByText := true, laidKinds := [.data, .pinned], laidTests := true, laidLooks := .later }
def PathUpUptoCardSaid : Prop := Claim7.holds Tryd.pinned (.plain (OpenSpec.upto pathUpSpec)) pathUpUptoCard

/-- THE SECOND FORM's CARD OF 'strongboxlaw18.PathWhole'. -/
def pathWholeUptoCard : Claim7 := { stood := { row := pathWholeUptoRow, standIns := [], harness := (true, "cb5e718681435236ae9b57106d7d1b7b6bcbeee305142374a004b9a65b12bc62"), looks := false }, kinds := [], alts := [], laidByText := true, laidKinds := [.data, .pinned], laidTests := true, laidLooks := .later }
def PathWholeUptoCardSaid : Prop := Claim7.holds Tryd.pinned (.plain (OpenSpec.upto pathWholeSpec)) pathWholeUptoCard

/-- THE SECOND FORM's CARD OF 'strongboxlaw19.NodeMakes'. -/
def nodeMakesUptoCard : Claim7 := { stood := { row := nodeMakesUptoRow, standIns := [], harness := (true, "cb5e718681435236ae9b57106d7d1b7b6bcbeee305142374a004b9a65b12bc62"), looks := false }, kinds := [], alts := [], laidByText := true, laidKinds := [.data, .pinned], laidTests := true, laidLooks := .later }
def NodeMakesUptoCardSaid : Prop := Claim7.holds Tryd.pinned (.plain (OpenSpec.upto nodeMakesSpec)) nodeMakesUptoCard

/-- THE SECOND FORM's CARD OF 'strongboxlaw18.PathTells'. -/
def pathTellsUptoCard : Claim7 := { stood := { row := pathTellsUptoRow, standIns := [], harness := (true, "cb5e718681435236ae9b57106d7d1b7b6bcbeee305142374a004b9a65b12bc62"), looks := false }, kinds := [], alts := [], laidByText := true, laidKinds := [.data, .pinned], laidTests := true, laidLooks := .later }
def PathTellsUptoCardSaid : Prop := Claim7.holds Tryd.pinned (.plain (OpenSpec.upto pathTellsSpec)) pathTellsUptoCard

/-- THE SECOND FORM's CARD OF 'strongboxlaw19.NodeNames'. -/
def nodeNamesUptoCard : Claim7 := { stood := { row := nodeNamesUptoRow, standIns := [], harness := (true, "cb5e718681435236ae9b57106d7d1b7b6bcbeee305142374a004b9a65b12bc62"), looks := false }, kinds := [], alts := [], laidByText := true, laidKinds := [.data, .pinned], laidTests := true, laidLooks := .later }
def NodeNamesUptoCardSaid : Prop := Claim7.holds Tryd.pinned (.plain (OpenSpec.upto nodeNamesSpec)) nodeNamesUptoCard

/-- THE SECOND FORM's CARD OF 'strongboxlaw19.NodeBack'. -/
def nodeBackUptoCard : Claim7 := { stood := { row := nodeBackUptoRow, standIns := [], harness := (true, "cb5e718681435236ae9b57106d7d1b7b6bcbeee305142374a004b9a65b12bc62"), looks := false }, kinds := [], alts := [], laidByText := true, laidKinds := [.data, .pinned], laidTests := true, laidLooks := .later }
def NodeBackUptoCardSaid : Prop := Claim7.holds Tryd.pinned (.plain (OpenSpec.upto nodeBackSpec)) nodeBackUptoCard
end Rows
end Go.Proofs.YtdpfanifagfciaaDoor
