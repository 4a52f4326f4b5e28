/-
  DERIVED. GIVEN WITH THE SEED: THE CARDS: each row of YtkblfapbakfgpaaGreatDoorRows.lean that lists a variable, with what it lists TIED to the program's text (the seventh form; the later family's looks); each row that meets fmt, with fmt's text TOLD by the authors' own Lean function (tested against real Go, not proved from fmt's source: count such statements apart). THE CARD IS WHAT COUNTS. Prove the row's statement (the work); the ties are given (YtkblfapbakfgpaaGreatDoorTie.lean); close each card by the builder's one call (the guide's Derived/Test/ToyasCard.lean, 'card_holds'). Laid BY PROGRAM, IN A SANDBOX (cutbox-door.mjs). By AI agents, Wed Nov 11 2026. No macro, syntax, notation, axiom, sorry.
-/
import Derived.Test.YtkblfapbakfgpaaGreatDoorRows
import GoSem.ClaimSeven
namespace Go.Proofs.YtkblfapbakfgpaaGreatDoor
namespace Rows

/-- THE TIED CARD OF 'pagodalaw03.LayoutBack'. -/
def layoutBackCard : Claim7 := { stood := { row := layoutBackRow, standIns := [], harness := (true, "1b807b7ff6825fe1525c92eb818ca5558bf1646f22095cc96b62334824478bab"), looks := true }, kinds := [], alts := [], laidByText := true, laidKinds := [.data, .data, .data, .sentinel, .sentinel], laidTests := true, laidLooks := .later }
def LayoutBackCardSaid : Prop := Claim7.holds Tryz.pinned (.plain (OpenSpec.ofChange layoutBackSpec)) layoutBackCard

/-- THE TIED CARD OF 'pagodalaw03.LayoutLaid'. -/
def layoutLaidCard : Claim7 := { stood := { row := layoutLaidRow, standIns := [], harness := (true, "1b807b7ff6825fe1525c92eb818ca5558bf1646f22095cc96b62334824478bab"), looks := true }, kinds := [], alts := [], laidByText := true, laidKinds := [.data, .data, .data, .sentinel, .sentinel], laidTests := true, laidLooks := .later }
def LayoutLaidCardSaid : Prop := Claim7.holds Tryz.pinned (.plain (OpenSpec.ofChange layoutLaidSpec)) layoutLaidCard

/-- THE TIED CARD OF 'pagodalaw03.LayoutSame'. -/
def layoutSameCard : Claim7 := { stood := { row := layoutSameRow, standIns := [], harness := (true, "1b807b7ff6825fe1525c92eb818ca5558bf1646f22095cc96b62334824478bab"), looks := true }, kinds := [], alts := [], laidByText := true, laidKinds := [.data, .data, .data, .sentinel, .sentinel], laidTests := true, laidLooks := .later }
def LayoutSameCardSaid : Prop := Claim7.holds Tryz.pinned (.plain (OpenSpec.ofChange layoutSameSpec)) layoutSameCard

/-- THE SECOND FORM's CARD OF 'pagodalaw03.LayoutBack'. -/
def layoutBackUptoCard : Claim7 := { stood := { row := layoutBackUptoRow, standIns := [], harness := (true, "1b807b7ff6825fe1525c92eb818ca5558bf1646f22095cc96b62334824478bab"), looks := true }, kinds := [], alts := [], laidByText := true, laidKinds := [.data, .data, .data, .sentinel, .sentinel], laidTests := true, laidLooks := .later }
def LayoutBackUptoCardSaid : Prop := Claim7.holds Tryz.pinned (.plain (OpenSpec.upto layoutBackSpec)) layoutBackUptoCard

/-- THE SECOND FORM's CARD OF 'pagodalaw03.LayoutLaid'. -/
def layoutLaidUptoCard : Claim7 := { stood := { row := layoutLaidUptoRow, standIns := [], harness := (true, "1b807b7ff6825fe1525c92eb818ca5558bf1646f22095cc96b62334824478bab"), looks := true }, kinds := [], alts := [], laidByText := true, laidKinds := [.data, .data, .data, .sentinel, .sentinel], laidTests := true, laidLooks := .later }
def LayoutLaidUptoCardSaid : Prop := Claim7.holds Tryz.pinned (.plain (OpenSpec.upto layoutLaidSpec)) layoutLaidUptoCard

/-- THE SECOND FORM's CARD OF 'pagodalaw03.LayoutSame'. -/
def layoutSameUptoCard : Claim7 := { stood := { row := layoutSameUptoRow, standIns := [], harness := (true, "1b807b7ff6825fe1525c92eb818ca5558bf1646f22095cc96b62334824478bab"), looks := true }, kinds := [], alts := [], laidByText := true, laidKinds := [.data, .data, .data, .sentinel, .sentinel], laidTests := true, laidLooks := .later }
def LayoutSameUptoCardSaid : Prop := Claim7.holds Tryz.pinned (.plain (OpenSpec.upto layoutSameSpec)) layoutSameUptoCard
end Rows
end Go.Proofs.YtkblfapbakfgpaaGreatDoor
