/-
  DERIVED. GIVEN WITH THE SEED: THE CARDS: each row of YteimebpgmfhgjaaDoorRows.lean that lists a variable, with what it lists TIED to the program's text (the seventh form; the later family's looks); each row that meets fmt, with fmt's text TOLD by the authors' own Lean function (tested against real Go, not proved from fmt's source: count such statements apart). THE CARD IS WHAT COUNTS. Prove the row's statement (the work); the ties are given (YteimebpgmfhgjaaDoorTie.lean); close each card by the builder's one call (the guide's Derived/Test/ToyasCard.lean, 'card_holds'). Laid BY PROGRAM, IN A SANDBOX (cutbox-door.mjs). By AI agents, Wed Nov 11 2026. No macro, syntax, notation, axiom, sorry.
-/
import Derived.Test.YteimebpgmfhgjaaDoorRows
import GoSem.ClaimSeven
namespace Go.Proofs.YteimebpgmfhgjaaDoor
namespace Rows

/-- THE TIED CARD OF 'pagodalaw07.PrimDoes'. -/
def primDoesCard : Claim7 := { stood := { row := primDoesRow, standIns := [], harness := (true, "d8ffe3763c990792cd505a2e09f653d89fc8b603c760e4699052b79e3dee8a1f"), looks := false }, kinds := [], alts := [], laidByText := true, laidKinds := [.data, .data, .data, .data], laidTests := true, laidLooks := .later }
def PrimDoesCardSaid : Prop := Claim7.holds Tryd.pinned (.plain (OpenSpec.ofChange primDoesSpec)) primDoesCard

/-- THE TIED CARD OF 'pagodalaw07.PrimBig'. -/
def primBigCard : Claim7 := { stood := { row := primBigRow, standIns := [], harness := (true, "d8ffe3763c990792cd505a2e09f653d89fc8b603c760e4699052b79e3dee8a1f"), looks := false }, kinds := [], alts := [], laidByText := true, laidKinds := [.data, .data, .data, .data], laidTests := true, laidLooks := .later }
def PrimBigCardSaid : Prop := Claim7.holds Tryd.pinned (.plain (OpenSpec.ofChange primBigSpec)) primBigCard

/-- THE TIED CARD OF 'pagodalaw07.PrimRing'. -/
def primRingCard : Claim7 := { stood := { row := primRingRow, standIns := [], harness := (true, "d8ffe3763c990792cd505a2e09f653d89fc8b603c760e4699052b79e3dee8a1f"), looks := false }, kinds := [], alts := [], laidByText := true, laidKinds := [.data, .data, .data, .data], laidTests := true, laidLooks := .later }
def PrimRingCardSaid : Prop := Claim7.holds Tryd.pinned (.plain (OpenSpec.ofChange primRingSpec)) primRingCard

/-- THE TIED CARD OF 'pagodalaw07.PrimDivides'. -/
def primDividesCard : Claim7 := { stood := { row := primDividesRow, standIns := [], harness := (true, "d8ffe3763c990792cd505a2e09f653d89fc8b603c760e4699052b79e3dee8a1f"), looks := false }, kinds := [], alts := [], laidByText := true, laidKinds := [.data, .data, .data, .data], laidTests := true, laidLooks := .later }
def PrimDividesCardSaid : Prop := Claim7.holds Tryd.pinned (.plain (OpenSpec.ofChange primDividesSpec)) primDividesCard

/-- THE TIED CARD OF 'pagodalaw07.PrimLists'. -/
def primListsCard : Claim7 := { stood := { row := primListsRow, standIns := [], harness := (true, "d8ffe3763c990792cd505a2e09f653d89fc8b603c760e4699052b79e3dee8a1f"), looks := false }, kinds := [], alts := [], laidByText := true, laidKinds := [.data, .data, .data, .data], laidTests := true, laidLooks := .later }
def PrimListsCardSaid : Prop := Claim7.holds Tryd.pinned (.plain (OpenSpec.ofChange primListsSpec)) primListsCard

/-- THE TIED CARD OF 'pagodalaw07.PrimOrder'. -/
def primOrderCard : Claim7 := { stood := { row := primOrderRow, standIns := [], harness := (true, "d8ffe3763c990792cd505a2e09f653d89fc8b603c760e4699052b79e3dee8a1f"), looks := false }, kinds := [], alts := [], laidByText := true, laidKinds := [.data, .data, .data, .data], laidTests := true, laidLooks := .later }
def PrimOrderCardSaid : Prop := Claim7.holds Tryd.pinned (.plain (OpenSpec.ofChange primOrderSpec)) primOrderCard

/-- THE TIED CARD OF 'pagodalaw07.PrimKinds'. -/
def primKindsCard : Claim7 := { stood := { row := primKindsRow, standIns := [], harness := (true, "d8ffe3763c990792cd505a2e09f653d89fc8b603c760e4699052b79e3dee8a1f"), looks := false }, kinds := [], alts := [], laidByText := true, laidKinds := [.data, .data, .data, .data], laidTests := true, laidLooks := .later }
def PrimKindsCardSaid : Prop := Claim7.holds Tryd.pinned (.plain (OpenSpec.ofChange primKindsSpec)) primKindsCard

/-- THE TIED CARD OF 'pagodalaw07.PrimNames'. -/
def primNamesCard : Claim7 := { stood := { row := primNamesRow, standIns := [], harness := (true, "d8ffe3763c990792cd505a2e09f653d89fc8b603c760e4699052b79e3dee8a1f"), looks := false }, kinds := [], alts := [], laidByText := true, laidKinds := [.data, .data, .data, .data], laidTests := true, laidLooks := .later }
def PrimNamesCardSaid : Prop := Claim7.holds Tryd.pinned (.plain (OpenSpec.ofChange primNamesSpec)) primNamesCard

/-- THE SECOND FORM's CARD OF 'pagodalaw07.PrimDoes'. -/
def primDoesUptoCard : Claim7 := { stood := { row := primDoesUptoRow, standIns := [], harness := (true, "d8ffe3763c990792cd505a2e09f653d89fc8b603c760e4699052b79e3dee8a1f"), looks := false }, kinds := [], alts := [], laidByText := true, laidKinds := [.data, .data, .data, .data], laidTests := true, laidLooks := .later }
def PrimDoesUptoCardSaid : Prop := Claim7.holds Tryd.pinned (.plain (OpenSpec.upto primDoesSpec)) primDoesUptoCard

/-- THE SECOND FORM's CARD OF 'pagodalaw07.PrimBig'. -/
def primBigUptoCard : Claim7 := { stood := { row := primBigUptoRow, standIns := [], harness := (true, "d8ffe3763c990792cd505a2e09f653d89fc8b603c760e4699052b79e3dee8a1f"), looks := false }, kinds := [], alts := [], laidByText := true, laidKinds := [.data, .data, .data, .data], laidTests := true, laidLooks := .later }
def PrimBigUptoCardSaid : Prop := Claim7.holds Tryd.pinned (.plain (OpenSpec.upto primBigSpec)) primBigUptoCard

/-- THE SECOND FORM's CARD OF 'pagodalaw07.PrimRing'. -/
def primRingUptoCard : Claim7 := { stood := { row := primRingUptoRow, standIns := [], harness := (true, "d8ffe3763c990792cd505a2e09f653d89fc8b603c760e4699052b79e3dee8a1f"), looks := false }, kinds := [], alts := [], laidByText := true, laidKinds := [.data, .data, .data, .data], laidTests := true, laidLooks := .later }
def PrimRingUptoCardSaid : Prop := Claim7.holds Tryd.pinned (.plain (OpenSpec.upto primRingSpec)) primRingUptoCard

/-- THE SECOND FORM's CARD OF 'pagodalaw07.PrimDivides'. -/
def primDividesUptoCard : Claim7 := { stood := { row := primDividesUptoRow, standIns := [], harness := (true, "d8ffe3763c990792cd505a2e09f653d89fc8b603c760e4699052b79e3dee8a1f"), looks := false }, kinds := [], alts := [], laidByText := true, laidKinds := [.data, .data, .data, .data], laidTests := true, laidLooks := .later }
def PrimDividesUptoCardSaid : Prop := Claim7.holds Tryd.pinned (.plain (OpenSpec.upto primDividesSpec)) primDividesUptoCard

/-- THE SECOND FORM's CARD OF 'pagodalaw07.PrimLists'. -/
def primListsUptoCard : Claim7 := { stood := { row := primListsUptoRow, standIns := [], harness := (true, "d8ffe3763c990792cd505a2e09f653d89fc8b603c760e4699052b79e3dee8a1f"), looks := false }, kinds := [], alts := [], laidByText := true, laidKinds := [.data, .data, .data, .data], laidTests := true, laidLooks := .later }
def PrimListsUptoCardSaid : Prop := Claim7.holds Tryd.pinned (.plain (OpenSpec.upto primListsSpec)) primListsUptoCard

/-- THE SECOND FORM's CARD OF 'pagodalaw07.PrimOrder'. -/
def primOrderUptoCard : Claim7 := { stood := { row := primOrderUptoRow, standIns := [], harness := (true, "d8ffe3763c990792cd505a2e09f653d89fc8b603c760e4699052b79e3dee8a1f"), looks := false }, kinds := [], alts := [], laidByText := true, laidKinds := [.data, .data, .data, .data], laidTests := true, laidLooks := .later }
def PrimOrderUptoCardSaid : Prop := Claim7.holds Tryd.pinned (.plain (OpenSpec.upto primOrderSpec)) primOrderUptoCard

/-- THE SECOND FORM's CARD OF 'pagodalaw07.PrimKinds'. -/
def primKindsUptoCard : Claim7 := { stood := { row := primKindsUptoRow, standIns := [], harness := (true, "d8ffe3763c990792cd505a2e09f653d89fc8b603c760e4699052b79e3dee8a1f"), looks := false }, kinds := [], alts := [], laidByText := true, laidKinds := [.data, .data, .data, .data], laidTests := true, laidLooks := .later }
def PrimKindsUptoCardSaid : Prop := Claim7.holds Tryd.pinned (.plain (OpenSpec.upto primKindsSpec)) primKindsUptoCard

/-- THE SECOND FORM's CARD OF 'pagodalaw07.PrimNames'. -/
def primNamesUptoCard : Claim7 := { stood := { row := primNamesUptoRow, standIns := [], harness := (true, "d8ffe3763c990792cd505a2e09f653d89fc8b603c760e4699052b79e3dee8a1f"), looks := false }, kinds := [], alts := [], laidByText := true, laidKinds := [.data, .data, .data, .data], laidTests := true, laidLooks := .later }
def PrimNamesUptoCardSaid : Prop := Claim7.holds Tryd.pinned (.plain (OpenSpec.upto primNamesSpec)) primNamesUptoCard
end Rows
end Go.Proofs.YteimebpgmfhgjaaDoor
