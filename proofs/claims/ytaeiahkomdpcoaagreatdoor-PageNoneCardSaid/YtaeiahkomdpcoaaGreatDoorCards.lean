/-
  DERIVED. GIVEN WITH THE SEED: THE CARDS: each row of YtaeiahkomdpcoaaGreatDoorRows.lean that lists a variable, with what it lists TIED to the program's text (the seventh form; the later family's looks); each row that meets fmt, with fmt's text TOLD by the authors' own Lean function (tested against real Go, not proved from fmt's source: count such statements apart). THE CARD IS WHAT COUNTS. Prove the row's statement (the work); the ties are given (YtaeiahkomdpcoaaGreatDoorTie.lean); close each card by the builder's one call (the guide's Derived/Test/ToyasCard.lean, 'card_holds'). Laid BY PROGRAM, IN A SANDBOX (cutbox-door.mjs). By AI agents, Wed Nov 11 2026. No macro, syntax, notation, axiom, sorry.
-/
import Derived.Test.YtaeiahkomdpcoaaGreatDoorRows
import GoSem.ClaimSeven
namespace Go.Proofs.YtaeiahkomdpcoaaGreatDoor
namespace Rows

/-- THE TIED CARD OF 'hoardlaw24.PageNone'. -/
def pageNoneCard : Claim7 := { stood := { row := pageNoneRow, standIns := [], harness := (true, "1a68108be468e0289ab080b5e36c6a421fc78b9d0b67a5a1ddf810f9a0d7b8a8"), looks := false }, kinds := [], alts := [], laidByText := true, laidKinds := [.data, .pinned], laidTests := true, laidLooks := .later }
def PageNoneCardSaid : Prop := Claim7.holds Tryz.pinned (.plain (OpenSpec.ofChange pageNoneSpec)) pageNoneCard

/-- THE SECOND FORM's CARD OF 'hoardlaw24.PageNone'. -/
def pageNoneUptoCard : Claim7 := { stood := { row := pageNoneUptoRow, standIns := [], harness := (true, "1a68108be468e0289ab080b5e36c6a421fc78b9d0b67a5a1ddf810f9a0d7b8a8"), looks := false }, kinds := [], alts := [], laidByText := true, laidKinds := [.data, .pinned], laidTests := true, laidLooks := .later }
def PageNoneUptoCardSaid : Prop := Claim7.holds Tryz.pinned (.plain (OpenSpec.upto pageNoneSpec)) pageNoneUptoCard
end Rows
end Go.Proofs.YtaeiahkomdpcoaaGreatDoor
