/-
  DERIVED. GIVEN WITH THE SEED: THE CARDS: each row of YtilfjfappnpfoaaGreatDoorRows.lean that lists a variable, with what it lists TIED to the program's text (the seventh form; the later family's looks); each row that meets fmt, with fmt's text TOLD by the authors' own Lean function (tested against real Go, not proved from fmt's source: count such statements apart). THE CARD IS WHAT COUNTS. Prove the row's statement (the work); the ties are given (YtilfjfappnpfoaaGreatDoorTie.lean); close each card by the builder's one call (the guide's Derived/Test/ToyasCard.lean, 'card_holds'). Laid BY PROGRAM, IN A SANDBOX (cutbox-door.mjs). By AI agents, Wed Nov 11 2026. No macro, syntax, notation, axiom, sorry.
-/
import Derived.Test.YtilfjfappnpfoaaGreatDoorRows
import GoSem.ClaimSeven
namespace Go.Proofs.YtilfjfappnpfoaaGreatDoor
namespace Rows

/-- THE TIED CARD OF 'laws.FnExactBaseLines'. -/
def fnExactBaseLinesCard : Claim7 := { stood := { row := fnExactBaseLinesRow, standIns := [], harness := (true, "0cfa39f2161e7001032978c193fba6d4f32283828980e4e71fb372c71c526f0b"), looks := true }, kinds := [], alts := [], laidByText := true, laidKinds := [.data, .data, .data], laidTests := true, laidLooks := .later }
def FnExactBaseLinesCardSaid : Prop := Claim7.holds Tryz.pinned (.plain (OpenSpec.ofChange fnExactBaseLinesSpec)) fnExactBaseLinesCard

/-- THE TIED CARD OF 'laws.FnExactReadWish'. -/
def fnExactReadWishCard : Claim7 := { stood := { row := fnExactReadWishRow, standIns := [], harness := (true, "0cfa39f2161e7001032978c193fba6d4f32283828980e4e71fb372c71c526f0b"), looks := true }, kinds := [], alts := [], laidByText := true, laidKinds := [.data, .data, .data, .data, .sentinel, .sentinel, .pinned], laidTests := true, laidLooks := .later }
def FnExactReadWishCardSaid : Prop := Claim7.holds Tryz.pinned (.plain (OpenSpec.ofChange fnExactReadWishSpec)) fnExactReadWishCard

/-- THE SECOND FORM's CARD OF 'laws.FnExactBaseLines'. -/
def fnExactBaseLinesUptoCard : Claim7 := { stood := { row := fnExactBaseLinesUptoRow, standIns := [], harness := (true, "0cfa39f2161e7001032978c193fba6d4f32283828980e4e71fb372c71c526f0b"), looks := true }, kinds := [], alts := [], laidByText := true, laidKinds := [.data, .data, .data], laidTests := true, laidLooks := .later }
def FnExactBaseLinesUptoCardSaid : Prop := Claim7.holds Tryz.pinned (.plain (OpenSpec.upto fnExactBaseLinesSpec)) fnExactBaseLinesUptoCard

/-- THE SECOND FORM's CARD OF 'laws.FnExactReadWish'. -/
def fnExactReadWishUptoCard : Claim7 := { stood := { row := fnExactReadWishUptoRow, standIns := [], harness := (true, "0cfa39f2161e7001032978c193fba6d4f32283828980e4e71fb372c71c526f0b"), looks := true }, kinds := [], alts := [], laidByText := true, laidKinds := [.data, .data, .data, .data, .sentinel, .sentinel, .pinned], laidTests := true, laidLooks := .later }
def FnExactReadWishUptoCardSaid : Prop := Claim7.holds Tryz.pinned (.plain (OpenSpec.upto fnExactReadWishSpec)) fnExactReadWishUptoCard
end Rows
end Go.Proofs.YtilfjfappnpfoaaGreatDoor
