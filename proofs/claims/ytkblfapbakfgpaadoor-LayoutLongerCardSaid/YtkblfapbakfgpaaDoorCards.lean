/-
  DERIVED. GIVEN WITH THE SEED: THE CARDS: each row of YtkblfapbakfgpaaDoorRows.lean that lists a variable, with what it lists TIED to the program's text (the seventh form; the later family's looks); each row that meets fmt, with fmt's text TOLD by the authors' own Lean function (tested against real Go, not proved from fmt's source: count such statements apart). THE CARD IS WHAT COUNTS. Prove the row's statement (the work); the ties are given (YtkblfapbakfgpaaDoorTie.lean); close each card by the builder's one call (the guide's Derived/Test/ToyasCard.lean, 'card_holds'). Laid BY PROGRAM, IN A SANDBOX (cutbox-door.mjs). By AI agents, Wed Nov 11 2026. No macro, syntax, notation, axiom, sorry.
-/
import Derived.Test.YtkblfapbakfgpaaDoorRows
import GoSem.ClaimSeven
namespace Go.Proofs.YtkblfapbakfgpaaDoor
namespace Rows

/-- THE TIED CARD OF 'pagodalaw03.LayoutLays'. -/
def layoutLaysCard : Claim7 := { stood := { row := layoutLaysRow, standIns := [], harness := (true, "d961b14b2c5949772b7259669a492561bdca6f76b86706d263ccf308c339ef68"), looks := false }, kinds := [], alts := [], laidByText := true, laidKinds := [.data, .data, .data], laidTests := true, laidLooks := .later }
def LayoutLaysCardSaid : Prop := Claim7.holds Tryd.pinned (.plain (OpenSpec.ofChange layoutLaysSpec)) layoutLaysCard

/-- THE TIED CARD OF 'pagodalaw03.LayoutAll'. -/
def layoutAllCard : Claim7 := { stood := { row := layoutAllRow, standIns := [], harness := (true, "d961b14b2c5949772b7259669a492561bdca6f76b86706d263ccf308c339ef68"), looks := false }, kinds := [], alts := [], laidByText := true, laidKinds := [.data, .data, .data], laidTests := true, laidLooks := .later }
def LayoutAllCardSaid : Prop := Claim7.holds Tryd.pinned (.plain (OpenSpec.ofChange layoutAllSpec)) layoutAllCard

/-- THE TIED CARD OF 'pagodalaw03.LayoutWider'. -/
def layoutWiderCard : Claim7 := { stood := { row := layoutWiderRow, standIns := [], harness := (true, "d961b14b2c5949772b7259669a492561bdca6f76b86706d263ccf308c339ef68"), looks := false }, kinds := [], alts := [], laidByText := true, laidKinds := [.data, .data, .data], laidTests := true, laidLooks := .later }
def LayoutWiderCardSaid : Prop := Claim7.holds Tryd.pinned (.plain (OpenSpec.ofChange layoutWiderSpec)) layoutWiderCard

/-- THE TIED CARD OF 'pagodalaw03.LayoutLonger'. -/
def layoutLongerCard : Claim7 := { stood := { row := layoutLongerRow, standIns := [], harness := (true, "d961b14b2c5949772b7259669a492561bdca6f76b86706d263ccf308c339ef68"), looks := false }, kinds := [], alts := [], laidByText := true, laidKinds := [.data, .data, .data], laidTests := true, laidLooks := .later }
def LayoutLongerCardSaid : Prop := Claim7.holds Tryd.pinned (.plain (OpenSpec.ofChange layoutLongerSpec)) layoutLongerCard

/-- THE TIED CARD OF 'pagodalaw03.LayoutLong'. -/
def layoutLongCard : Claim7 := { stood := { row := layoutLongRow, standIns := [], harness := (true, "d961b14b2c5949772b7259669a492561bdca6f76b86706d263ccf308c339ef68"), looks := false }, kinds := [], alts := [], laidByText := true, laidKinds := [.data, .data, .data], laidTests := true, laidLooks := .later }
def LayoutLongCardSaid : Prop := Claim7.holds Tryd.pinned (.plain (OpenSpec.ofChange layoutLongSpec)) layoutLongCard

/-- THE TIED CARD OF 'pagodalaw03.LayoutLines'. -/
def layoutLinesCard : Claim7 := { stood := { row := layoutLinesRow, standIns := [], harness := (true, "d961b14b2c5949772b7259669a492561bdca6f76b86706d263ccf308c339ef68"), looks := false }, kinds := [], alts := [], laidByText := true, laidKinds := [.data, .data, .data], laidTests := true, laidLooks := .later }
def LayoutLinesCardSaid : Prop := Claim7.holds Tryd.pinned (.plain (OpenSpec.ofChange layoutLinesSpec)) layoutLinesCard

/-- THE TIED CARD OF 'pagodalaw03.LayoutNarrow'. -/
def layoutNarrowCard : Claim7 := { stood := { row := layoutNarrowRow, standIns := [], harness := (true, "d961b14b2c5949772b7259669a492561bdca6f76b86706d263ccf308c339ef68"), looks := false }, kinds := [], alts := [], laidByText := true, laidKinds := [.data, .data, .data], laidTests := true, laidLooks := .later }
def LayoutNarrowCardSaid : Prop := Claim7.holds Tryd.pinned (.plain (OpenSpec.ofChange layoutNarrowSpec)) layoutNarrowCard

/-- THE SECOND FORM's CARD OF 'pagodalaw03.LayoutLays'. -/
def layoutLaysUptoCard : Claim7 := { stood := { row := layoutLaysUptoRow, standIns := [], harness := (true, "d961b14b2c5949772b7259669a492561bdca6f76b86706d263ccf308c339ef68"), looks := false }, kinds := [], alts := [], laidByText := true, laidKinds := [.data, .data, .data], laidTests := true, laidLooks := .later }
def LayoutLaysUptoCardSaid : Prop := Claim7.holds Tryd.pinned (.plain (OpenSpec.upto layoutLaysSpec)) layoutLaysUptoCard

/-- THE SECOND FORM's CARD OF 'pagodalaw03.LayoutAll'. -/
def layoutAllUptoCard : Claim7 := { stood := { row := layoutAllUptoRow, standIns := [], harness := (true, "d961b14b2c5949772b7259669a492561bdca6f76b86706d263ccf308c339ef68"), looks := false }, kinds := [], alts := [], laidByText := true, laidKinds := [.data, .data, .data], laidTests := true, laidLooks := .later }
def LayoutAllUptoCardSaid : Prop := Claim7.holds Tryd.pinned (.plain (OpenSpec.upto layoutAllSpec)) layoutAllUptoCard

/-- THE SECOND FORM's CARD OF 'pagodalaw03.LayoutWider'. -/
def layoutWiderUptoCard : Claim7 := { stood := { row := layoutWiderUptoRow, standIns := [], harness := (true, "d961b14b2c5949772b7259669a492561bdca6f76b86706d263ccf308c339ef68"), looks := false }, kinds := [], alts := [], laidByText := true, laidKinds := [.data, .data, .data], laidTests := true, laidLooks := .later }
def LayoutWiderUptoCardSaid : Prop := Claim7.holds Tryd.pinned (.plain (OpenSpec.upto layoutWiderSpec)) layoutWiderUptoCard

/-- THE SECOND FORM's CARD OF 'pagodalaw03.LayoutLonger'. -/
def layoutLongerUptoCard : Claim7 := { stood := { row := layoutLongerUptoRow, standIns := [], harness := (true, "d961b14b2c5949772b7259669a492561bdca6f76b86706d263ccf308c339ef68"), looks := false }, kinds := [], alts := [], laidByText := true, laidKinds := [.data, .data, .data], laidTests := true, laidLooks := .later }
def LayoutLongerUptoCardSaid : Prop := Claim7.holds Tryd.pinned (.plain (OpenSpec.upto layoutLongerSpec)) layoutLongerUptoCard

/-- THE SECOND FORM's CARD OF 'pagodalaw03.LayoutLong'. -/
def layoutLongUptoCard : Claim7 := { stood := { row := layoutLongUptoRow, standIns := [], harness := (true, "d961b14b2c5949772b7259669a492561bdca6f76b86706d263ccf308c339ef68"), looks := false }, kinds := [], alts := [], laidByText := true, laidKinds := [.data, .data, .data], laidTests := true, laidLooks := .later }
def LayoutLongUptoCardSaid : Prop := Claim7.holds Tryd.pinned (.plain (OpenSpec.upto layoutLongSpec)) layoutLongUptoCard

/-- THE SECOND FORM's CARD OF 'pagodalaw03.LayoutLines'. -/
def layoutLinesUptoCard : Claim7 := { stood := { row := layoutLinesUptoRow, standIns := [], harness := (true, "d961b14b2c5949772b7259669a492561bdca6f76b86706d263ccf308c339ef68"), looks := false }, kinds := [], alts := [], laidByText := true, laidKinds := [.data, .data, .data], laidTests := true, laidLooks := .later }
def LayoutLinesUptoCardSaid : Prop := Claim7.holds Tryd.pinned (.plain (OpenSpec.upto layoutLinesSpec)) layoutLinesUptoCard

/-- THE SECOND FORM's CARD OF 'pagodalaw03.LayoutNarrow'. -/
def layoutNarrowUptoCard : Claim7 := { stood := { row := layoutNarrowUptoRow, standIns := [], harness := (true, "d961b14b2c5949772b7259669a492561bdca6f76b86706d263ccf308c339ef68"), looks := false }, kinds := [], alts := [], laidByText := true, laidKinds := [.data, .data, .data], laidTests := true, laidLooks := .later }
def LayoutNarrowUptoCardSaid : Prop := Claim7.holds Tryd.pinned (.plain (OpenSpec.upto layoutNarrowSpec)) layoutNarrowUptoCard
end Rows
end Go.Proofs.YtkblfapbakfgpaaDoor
