/-
  DERIVED. GIVEN WITH THE SEED: THE CARDS: each row of YtilfjfappnpfoaaDoorRows.lean that lists a variable, with what it lists TIED to the program's text (the seventh form; the later family's looks); each row that meets fmt, with fmt's text TOLD by the authors' own Lean function (tested against real Go, not proved from fmt's source: count such statements apart). THE CARD IS WHAT COUNTS. Prove the row's statement (the work); the ties are given (YtilfjfappnpfoaaDoorTie.lean); close each card by the builder's one call (the guide's Derived/Test/ToyasCard.lean, 'card_holds'). Laid BY PROGRAM, IN A SANDBOX (cutbox-door.mjs). By AI agents, Wed Nov 11 2026. No macro, syntax, notation, axiom, sorry.
-/
import Derived.Test.YtilfjfappnpfoaaDoorRows
import GoSem.ClaimSeven
namespace Go.Proofs.YtilfjfappnpfoaaDoor
namespace Rows

/-- THE TIED CARD OF 'laws.FnExactWishText'. -/
def fnExactWishTextCard : Claim7 := { stood := { row := fnExactWishTextRow, standIns := [], harness := (true, "c423ea4a9c7a6d2753a3231479da5fc8906ec8f46b17ce8b62dd44597eb205fb"), looks := true }, kinds := [], alts := [], laidByText := true, laidKinds := [.data, .data, .data], laidTests := true, laidLooks := .later }
def FnExactWishTextCardSaid : Prop := Claim7.holds Tryd.pinned (.plain (OpenSpec.ofChange fnExactWishTextSpec)) fnExactWishTextCard

/-- THE TIED CARD OF 'laws.FnExactResultText'. -/
def fnExactResultTextCard : Claim7 := { stood := { row := fnExactResultTextRow, standIns := [], harness := (true, "c423ea4a9c7a6d2753a3231479da5fc8906ec8f46b17ce8b62dd44597eb205fb"), looks := true }, kinds := [], alts := [], laidByText := true, laidKinds := [.data, .data, .data], laidTests := true, laidLooks := .later }
def FnExactResultTextCardSaid : Prop := Claim7.holds Tryd.pinned (.plain (OpenSpec.ofChange fnExactResultTextSpec)) fnExactResultTextCard

/-- THE TIED CARD OF 'laws.FnExactMomentText'. -/
def fnExactMomentTextCard : Claim7 := { stood := { row := fnExactMomentTextRow, standIns := [], harness := (true, "c423ea4a9c7a6d2753a3231479da5fc8906ec8f46b17ce8b62dd44597eb205fb"), looks := true }, kinds := [], alts := [], laidByText := true, laidKinds := [.data, .data, .data], laidTests := true, laidLooks := .later }
def FnExactMomentTextCardSaid : Prop := Claim7.holds Tryd.pinned (.plain (OpenSpec.ofChange fnExactMomentTextSpec)) fnExactMomentTextCard

/-- THE TIED CARD OF 'laws.FnExactReadMap'. -/
def fnExactReadMapCard : Claim7 := { stood := { row := fnExactReadMapRow, standIns := [], harness := (true, "c423ea4a9c7a6d2753a3231479da5fc8906ec8f46b17ce8b62dd44597eb205fb"), looks := true }, kinds := [], alts := [], laidByText := true, laidKinds := [.data, .data, .data, .data, .sentinel, .sentinel, .pinned], laidTests := true, laidLooks := .later }
def FnExactReadMapCardSaid : Prop := Claim7.holds Tryd.pinned (.plain (OpenSpec.ofChange fnExactReadMapSpec)) fnExactReadMapCard

/-- THE TIED CARD OF 'laws.FnExactReadEdits'. -/
def fnExactReadEditsCard : Claim7 := { stood := { row := fnExactReadEditsRow, standIns := [], harness := (true, "c423ea4a9c7a6d2753a3231479da5fc8906ec8f46b17ce8b62dd44597eb205fb"), looks := true }, kinds := [], alts := [], laidByText := true, laidKinds := [.data, .data, .data, .data, .sentinel, .sentinel, .pinned], laidTests := true, laidLooks := .later }
def FnExactReadEditsCardSaid : Prop := Claim7.holds Tryd.pinned (.plain (OpenSpec.ofChange fnExactReadEditsSpec)) fnExactReadEditsCard

/-- THE SECOND FORM's CARD OF 'laws.FnExactWishText'. -/
def fnExactWishTextUptoCard : Claim7 := { stood := { row := fnExactWishTextUptoRow, standIns := [], harness := (true, "c423ea4a9c7a6d2753a3231479da5fc8906ec8f46b17ce8b62dd44597eb205fb"), looks := true }, kinds := [], alts := [], laidByText := true, laidKinds := [.data, .data, .data], laidTests := true, laidLooks := .later }
def FnExactWishTextUptoCardSaid : Prop := Claim7.holds Tryd.pinned (.plain (OpenSpec.upto fnExactWishTextSpec)) fnExactWishTextUptoCard

/-- THE SECOND FORM's CARD OF 'laws.FnExactResultText'. -/
def fnExactResultTextUptoCard : Claim7 := { stood := { row := fnExactResultTextUptoRow, standIns := [], harness := (true, "c423ea4a9c7a6d2753a3231479da5fc8906ec8f46b17ce8b62dd44597eb205fb"), looks := true }, kinds := [], alts := [], laidByText := true, laidKinds := [.data, .data, .data], laidTests := true, laidLooks := .later }
def FnExactResultTextUptoCardSaid : Prop := Claim7.holds Tryd.pinned (.plain (OpenSpec.upto fnExactResultTextSpec)) fnExactResultTextUptoCard

/-- THE SECOND FORM's CARD OF 'laws.FnExactMomentText'. -/
def fnExactMomentTextUptoCard : Claim7 := { stood := { row := fnExactMomentTextUptoRow, standIns := [], harness := (true, "c423ea4a9c7a6d2753a3231479da5fc8906ec8f46b17ce8b62dd44597eb205fb"), looks := true }, kinds := [], alts := [], laidByText := true, laidKinds := [.data, .data, .data], laidTests := true, laidLooks := .later }
def FnExactMomentTextUptoCardSaid : Prop := Claim7.holds Tryd.pinned (.plain (OpenSpec.upto fnExactMomentTextSpec)) fnExactMomentTextUptoCard

/-- THE SECOND FORM's CARD OF 'laws.FnExactReadMap'. -/
def fnExactReadMapUptoCard : Claim7 := { stood := { row := fnExactReadMapUptoRow, standIns := [], harness := (true, "c423ea4a9c7a6d2753a3231479da5fc8906ec8f46b17ce8b62dd44597eb205fb"), looks := true }, kinds := [], alts := [], laidByText := true, laidKinds := [.data, .data, .data, .data, .sentinel, .sentinel, .pinned], laidTests := true, laidLooks := .later }
def FnExactReadMapUptoCardSaid : Prop := Claim7.holds Tryd.pinned (.plain (OpenSpec.upto fnExactReadMapSpec)) fnExactReadMapUptoCard

/-- THE SECOND FORM's CARD OF 'laws.FnExactReadEdits'. -/
def fnExactReadEditsUptoCard : Claim7 := { stood := { row := fnExactReadEditsUptoRow, standIns := [], harness := (true, "c423ea4a9c7a6d2753a3231479da5fc8906ec8f46b17ce8b62dd44597eb205fb"), looks := true }, kinds := [], alts := [], laidByText := true, laidKinds := [.data, .data, .data, .data, .sentinel, .sentinel, .pinned], laidTests := true, laidLooks := .later }
def FnExactReadEditsUptoCardSaid : Prop := Claim7.holds Tryd.pinned (.plain (OpenSpec.upto fnExactReadEditsSpec)) fnExactReadEditsUptoCard
end Rows
end Go.Proofs.YtilfjfappnpfoaaDoor
