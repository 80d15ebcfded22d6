/-
  DERIVED. GIVEN WITH THE SEED: THE CARDS: each row of YtaeiahkomdpcoaaDoorRows.lean that lists a variable, with what it lists TIED to the program's text (the seventh form; the later family's looks); each row that meets fmt, with fmt's text TOLD by the authors' own Lean function (tested against real Go, not proved from fmt's source: count such statements apart). THE CARD IS WHAT COUNTS. Prove the row's statement (the work); the ties are given (YtaeiahkomdpcoaaDoorTie.lean); close each card by the builder's one call (the guide's Derived/Test/ToyasCard.lean, 'card_holds'). Laid BY PROGRAM, IN A SANDBOX (cutbox-door.mjs). By AI agents, Wed Nov 11 2026. No macro, syntax, notation, axiom, sorry.
-/
import Derived.Test.YtaeiahkomdpcoaaDoorRows
import GoSem.ClaimSeven
namespace Go.Proofs.YtaeiahkomdpcoaaDoor
namespace Rows

/-- THE TIED CARD OF 'hoardlaw13.NameApart'. -/
def nameApartCard : Claim7 := { stood := { row := nameApartRow, standIns := [], harness := (true, "6cc19f968f7135cb6fb66fecfa91c3da54190d97e309536a7f2f3cb812c88f03"), looks := false }, kinds := [], alts := [], laidByText := true, laidKinds := [.data, .pinned], laidTests := true, laidLooks := .later }
def NameApartCardSaid : Prop := Claim7.holds Tryd.pinned (.plain (OpenSpec.ofChange nameApartSpec)) nameApartCard

/-- THE TIED CARD OF 'hoardlaw13.NameBegins'. -/
def nameBeginsCard : Claim7 := { stood := { row := nameBeginsRow, standIns := [], harness := (true, "6cc19f968f7135cb6fb66fecfa91c3da54190d97e309536a7f2f3cb812c88f03"), looks := false }, kinds := [], alts := [], laidByText := true, laidKinds := [.data, .pinned], laidTests := true, laidLooks := .later }
def NameBeginsCardSaid : Prop := Claim7.holds Tryd.pinned (.plain (OpenSpec.ofChange nameBeginsSpec)) nameBeginsCard

/-- THE TIED CARD OF 'hoardlaw13.NameOrder'. -/
def nameOrderCard : Claim7 := { stood := { row := nameOrderRow, standIns := [], harness := (true, "6cc19f968f7135cb6fb66fecfa91c3da54190d97e309536a7f2f3cb812c88f03"), looks := false }, kinds := [], alts := [], laidByText := true, laidKinds := [.data, .pinned], laidTests := true, laidLooks := .later }
def NameOrderCardSaid : Prop := Claim7.holds Tryd.pinned (.plain (OpenSpec.ofChange nameOrderSpec)) nameOrderCard

/-- THE TIED CARD OF 'hoardlaw13.NameTells'. -/
def nameTellsCard : Claim7 := { stood := { row := nameTellsRow, standIns := [], harness := (true, "6cc19f968f7135cb6fb66fecfa91c3da54190d97e309536a7f2f3cb812c88f03"), looks := false }, kinds := [], alts := [], laidByText := true, laidKinds := [.data, .pinned], laidTests := true, laidLooks := .later }
def NameTellsCardSaid : Prop := Claim7.holds Tryd.pinned (.plain (OpenSpec.ofChange nameTellsSpec)) nameTellsCard

/-- THE TIED CARD OF 'hoardlaw24.PageWhole'. -/
def pageWholeCard : Claim7 := { stood := { row := pageWholeRow, standIns := [], harness := (true, "6cc19f968f7135cb6fb66fecfa91c3da54190d97e309536a7f2f3cb812c88f03"), looks := false }, kinds := [], alts := [], laidByText := true, laidKinds := [.data, .pinned], laidTests := true, laidLooks := .later }
def PageWholeCardSaid : Prop := Claim7.holds Tryd.pinned (.plain (OpenSpec.ofChange pageWholeSpec)) pageWholeCard

/-- THE TIED CARD OF 'hoardlaw24.PageOthers'. -/
def pageOthersCard : Claim7 := { stood := { row := pageOthersRow, standIns := [], harness := (true, "6cc19f968f7135cb6fb66fecfa91c3da54190d97e309536a7f2f3cb812c88f03"), looks := false }, kinds := [], alts := [], laidByText := true, laidKinds := [.data, .pinned], laidTests := true, laidLooks := .later }
def PageOthersCardSaid : Prop := Claim7.holds Tryd.pinned (.plain (OpenSpec.ofChange pageOthersSpec)) pageOthersCard

/-- THE SECOND FORM's CARD OF 'hoardlaw13.NameApart'. -/
def nameApartUptoCard : Claim7 := { stood := { row := nameApartUptoRow, standIns := [], harness := (true, "6cc19f968f7135cb6fb66fecfa91c3da54190d97e309536a7f2f3cb812c88f03"), looks := false }, kinds := [], alts := [], laidByText := true, laidKinds := [.data, .pinned], laidTests := true, laidLooks := .later }
def NameApartUptoCardSaid : Prop := Claim7.holds Tryd.pinned (.plain (OpenSpec.upto nameApartSpec)) nameApartUptoCard

/-- THE SECOND FORM's CARD OF 'hoardlaw13.NameBegins'. -/
def nameBeginsUptoCard : Claim7 := { stood := { row := nameBeginsUptoRow, standIns := [], harness := (true, "6cc19f968f7135cb6fb66fecfa91c3da54190d97e309536a7f2f3cb812c88f03"), looks := false }, kinds := [], alts := [], laidByText := true, laidKinds := [.data, .pinned], laidTests := true, laidLooks := .later }
def NameBeginsUptoCardSaid : Prop := Claim7.holds Tryd.pinned (.plain (OpenSpec.upto nameBeginsSpec)) nameBeginsUptoCard

/-- THE SECOND FORM's CARD OF 'hoardlaw13.NameOrder'. -/
def nameOrderUptoCard : Claim7 := { stood := { row := nameOrderUptoRow, standIns := [], harness := (true, "6cc19f968f7135cb6fb66fecfa91c3da54190d97e309536a7f2f3cb812c88f03"), looks := false }, kinds := [], alts := [], laidByText := true, laidKinds := [.data, .pinned], laidTests := true, laidLooks := .later }
def NameOrderUptoCardSaid : Prop := Claim7.holds Tryd.pinned (.plain (OpenSpec.upto nameOrderSpec)) nameOrderUptoCard

/-- THE SECOND FORM's CARD OF 'hoardlaw13.NameTells'. -/
def nameTellsUptoCard : Claim7 := { stood := { row := nameTellsUptoRow, standIns := [], harness := (true, "6cc19f968f7135cb6fb66fecfa91c3da54190d97e309536a7f2f3cb812c88f03"), looks := false }, kinds := [], alts := [], laidByText := true, laidKinds := [.data, .pinned], laidTests := true, laidLooks := .later }
def NameTellsUptoCardSaid : Prop := Claim7.holds Tryd.pinned (.plain (OpenSpec.upto nameTellsSpec)) nameTellsUptoCard

/-- THE SECOND FORM's CARD OF 'hoardlaw24.PageWhole'. -/
def pageWholeUptoCard : Claim7 := { stood := { row := pageWholeUptoRow, standIns := [], harness := (true, "6cc19f968f7135cb6fb66fecfa91c3da54190d97e309536a7f2f3cb812c88f03"), looks := false }, kinds := [], alts := [], laidByText := true, laidKinds := [.data, .pinned], laidTests := true, laidLooks := .later }
def PageWholeUptoCardSaid : Prop := Claim7.holds Tryd.pinned (.plain (OpenSpec.upto pageWholeSpec)) pageWholeUptoCard

/-- THE SECOND FORM's CARD OF 'hoardlaw24.PageOthers'. -/
def pageOthersUptoCard : Claim7 := { stood := { row := pageOthersUptoRow, standIns := [], harness := (true, "6cc19f968f7135cb6fb66fecfa91c3da54190d97e309536a7f2f3cb812c88f03"), looks := false }, kinds := [], alts := [], laidByText := true, laidKinds := [.data, .pinned], laidTests := true, laidLooks := .later }
def PageOthersUptoCardSaid : Prop := Claim7.holds Tryd.pinned (.plain (OpenSpec.upto pageOthersSpec)) pageOthersUptoCard
end Rows
end Go.Proofs.YtaeiahkomdpcoaaDoor
