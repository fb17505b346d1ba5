/-
  DERIVED. GIVEN WITH THE SEED: THE CARDS: each row of YtpfkncmaeamacaaDoorRows.lean that lists a variable, with what it lists TIED to the program's text (the seventh form; the later family's looks); each row that meets fmt, with fmt's text TOLD by the authors' own Lean function (tested against real Go, not proved from fmt's source: count such statements apart). THE CARD IS WHAT COUNTS. Prove the row's statement (the work); the ties are given (YtpfkncmaeamacaaDoorTie.lean); close each card by the builder's one call (the guide's Derived/Test/ToyasCard.lean, 'card_holds'). Laid BY PROGRAM, IN A SANDBOX (cutbox-door.mjs). By AI agents, Wed Nov 11 2026. No macro, syntax, notation, axiom, sorry.
-/
import Derived.Test.YtpfkncmaeamacaaDoorRows
import GoSem.ClaimSeven
namespace Go.Proofs.YtpfkncmaeamacaaDoor
namespace Rows

/-- THE TIED CARD OF 'laws.FnExactMapText'. -/
def fnExactMapTextCard : Claim7 := { stood := { row := fnExactMapTextRow, standIns := [], harness := (true, "c176fc1cc24c0b3c76e4c9a2c39a231ccc617a33f7b41d74bece7b48bc572f54"), looks := false }, kinds := [], alts := [], laidByText := true, laidKinds := [.data, .data, .data], laidTests := true, laidLooks := .later }
def FnExactMapTextCardSaid : Prop := Claim7.holds Tryd.pinned (.plain (OpenSpec.ofChange fnExactMapTextSpec)) fnExactMapTextCard

/-- THE TIED CARD OF 'laws.FnExactEditsText'. -/
def fnExactEditsTextCard : Claim7 := { stood := { row := fnExactEditsTextRow, standIns := [], harness := (true, "c176fc1cc24c0b3c76e4c9a2c39a231ccc617a33f7b41d74bece7b48bc572f54"), looks := false }, kinds := [], alts := [], laidByText := true, laidKinds := [.data, .data, .data], laidTests := true, laidLooks := .later }
def FnExactEditsTextCardSaid : Prop := Claim7.holds Tryd.pinned (.plain (OpenSpec.ofChange fnExactEditsTextSpec)) fnExactEditsTextCard

/-- THE SECOND FORM's CARD OF 'laws.FnExactMapText'. -/
def fnExactMapTextUptoCard : Claim7 := { stood := { row := fnExactMapTextUptoRow, standIns := [], harness := (true, "c176fc1cc24c0b3c76e4c9a2c39a231ccc617a33f7b41d74bece7b48bc572f54"), looks := false }, kinds := [], alts := [], laidByText := true, laidKinds := [.data, .data, .data], laidTests := true, laidLooks := .later }
def FnExactMapTextUptoCardSaid : Prop := Claim7.holds Tryd.pinned (.plain (OpenSpec.upto fnExactMapTextSpec)) fnExactMapTextUptoCard

/-- THE SECOND FORM's CARD OF 'laws.FnExactEditsText'. -/
def fnExactEditsTextUptoCard : Claim7 := { stood := { row := fnExactEditsTextUptoRow, standIns := [], harness := (true, "c176fc1cc24c0b3c76e4c9a2c39a231ccc617a33f7b41d74bece7b48bc572f54"), looks := false }, kinds := [], alts := [], laidByText := true, laidKinds := [.data, .data, .data], laidTests := true, laidLooks := .later }
def FnExactEditsTextUptoCardSaid : Prop := Claim7.holds Tryd.pinned (.plain (OpenSpec.upto fnExactEditsTextSpec)) fnExactEditsTextUptoCard
end Rows
end Go.Proofs.YtpfkncmaeamacaaDoor
