/-
  DERIVED. GIVEN WITH THE SEED: THE CARDS: each row of YtenpjkcclmmlhaaDoorRows.lean that lists a variable, with what it lists TIED to the program's text (the seventh form; the later family's looks); each row that meets fmt, with fmt's text TOLD by the authors' own Lean function (tested against real Go, not proved from fmt's source: count such statements apart). THE CARD IS WHAT COUNTS. Prove the row's statement (the work); the ties are given (YtenpjkcclmmlhaaDoorTie.lean); close each card by the builder's one call (the guide's Derived/Test/ToyasCard.lean, 'card_holds'). Laid BY PROGRAM, IN A SANDBOX (cutbox-door.mjs). By AI agents, Wed Nov 11 2026. No macro, syntax, notation, axiom, sorry.
-/
import Derived.Test.YtenpjkcclmmlhaaDoorRows
import GoSem.ClaimSeven
namespace Go.Proofs.YtenpjkcclmmlhaaDoor
namespace Rows

/-- THE TIED CARD OF 'pagodalaw02.ReaderReads'. -/
def readerReadsCard : Claim7 := { stood := { row := readerReadsRow, standIns := [], harness := (true, "ed622bfeb38617ecc496d8121d1c64ba8639ecd6eeb00e87b46ea196a974ee18"), looks := true }, kinds := [], alts := [], laidByText := true, laidKinds := [.data, .data, .data, .sentinel, .sentinel], laidTests := true, laidLooks := .later }
def ReaderReadsCardSaid : Prop := Claim7.holds Tryd.pinned (.plain (OpenSpec.ofChange readerReadsSpec)) readerReadsCard

/-- THE TIED CARD OF 'pagodalaw02.ReaderWrites'. -/
def readerWritesCard : Claim7 := { stood := { row := readerWritesRow, standIns := [], harness := (true, "ed622bfeb38617ecc496d8121d1c64ba8639ecd6eeb00e87b46ea196a974ee18"), looks := true }, kinds := [], alts := [], laidByText := true, laidKinds := [.data, .data, .data, .sentinel, .sentinel], laidTests := true, laidLooks := .later }
def ReaderWritesCardSaid : Prop := Claim7.holds Tryd.pinned (.plain (OpenSpec.ofChange readerWritesSpec)) readerWritesCard

/-- THE TIED CARD OF 'pagodalaw02.ReaderLong'. -/
def readerLongCard : Claim7 := { stood := { row := readerLongRow, standIns := [], harness := (true, "ed622bfeb38617ecc496d8121d1c64ba8639ecd6eeb00e87b46ea196a974ee18"), looks := true }, kinds := [], alts := [], laidByText := true, laidKinds := [.data, .data, .data, .sentinel, .sentinel], laidTests := true, laidLooks := .later }
def ReaderLongCardSaid : Prop := Claim7.holds Tryd.pinned (.plain (OpenSpec.ofChange readerLongSpec)) readerLongCard

/-- THE TIED CARD OF 'pagodalaw02.ReaderOffsets'. -/
def readerOffsetsCard : Claim7 := { stood := { row := readerOffsetsRow, standIns := [], harness := (true, "ed622bfeb38617ecc496d8121d1c64ba8639ecd6eeb00e87b46ea196a974ee18"), looks := true }, kinds := [], alts := [], laidByText := true, laidKinds := [.data, .data, .data, .sentinel, .sentinel], laidTests := true, laidLooks := .later }
def ReaderOffsetsCardSaid : Prop := Claim7.holds Tryd.pinned (.plain (OpenSpec.ofChange readerOffsetsSpec)) readerOffsetsCard

/-- THE TIED CARD OF 'pagodalaw02.ReaderStarts'. -/
def readerStartsCard : Claim7 := { stood := { row := readerStartsRow, standIns := [], harness := (true, "ed622bfeb38617ecc496d8121d1c64ba8639ecd6eeb00e87b46ea196a974ee18"), looks := true }, kinds := [], alts := [], laidByText := true, laidKinds := [.data, .data, .data, .sentinel, .sentinel], laidTests := true, laidLooks := .later }
def ReaderStartsCardSaid : Prop := Claim7.holds Tryd.pinned (.plain (OpenSpec.ofChange readerStartsSpec)) readerStartsCard

/-- THE TIED CARD OF 'pagodalaw02.ReaderWritten'. -/
def readerWrittenCard : Claim7 := { stood := { row := readerWrittenRow, standIns := [], harness := (true, "ed622bfeb38617ecc496d8121d1c64ba8639ecd6eeb00e87b46ea196a974ee18"), looks := true }, kinds := [], alts := [], laidByText := true, laidKinds := [.data, .data, .data, .sentinel, .sentinel], laidTests := true, laidLooks := .later }
def ReaderWrittenCardSaid : Prop := Claim7.holds Tryd.pinned (.plain (OpenSpec.ofChange readerWrittenSpec)) readerWrittenCard

/-- THE TIED CARD OF 'pagodalaw02.ReaderBack'. -/
def readerBackCard : Claim7 := { stood := { row := readerBackRow, standIns := [], harness := (true, "ed622bfeb38617ecc496d8121d1c64ba8639ecd6eeb00e87b46ea196a974ee18"), looks := true }, kinds := [], alts := [], laidByText := true, laidKinds := [.data, .data, .data, .sentinel, .sentinel], laidTests := true, laidLooks := .later }
def ReaderBackCardSaid : Prop := Claim7.holds Tryd.pinned (.plain (OpenSpec.ofChange readerBackSpec)) readerBackCard

/-- THE TIED CARD OF 'pagodalaw02.ReaderAll'. -/
def readerAllCard : Claim7 := { stood := { row := readerAllRow, standIns := [], harness := (true, "ed622bfeb38617ecc496d8121d1c64ba8639ecd6eeb00e87b46ea196a974ee18"), looks := true }, kinds := [], alts := [], laidByText := true, laidKinds := [.data, .data, .data, .sentinel, .sentinel], laidTests := true, laidLooks := .later }
def ReaderAllCardSaid : Prop := Claim7.holds Tryd.pinned (.plain (OpenSpec.ofChange readerAllSpec)) readerAllCard

/-- THE TIED CARD OF 'pagodalaw02.ReaderJoins'. -/
def readerJoinsCard : Claim7 := { stood := { row := readerJoinsRow, standIns := [], harness := (true, "ed622bfeb38617ecc496d8121d1c64ba8639ecd6eeb00e87b46ea196a974ee18"), looks := true }, kinds := [], alts := [], laidByText := true, laidKinds := [.data, .data, .data, .sentinel, .sentinel], laidTests := true, laidLooks := .later }
def ReaderJoinsCardSaid : Prop := Claim7.holds Tryd.pinned (.plain (OpenSpec.ofChange readerJoinsSpec)) readerJoinsCard

/-- THE TIED CARD OF 'pagodalaw02.ReaderBare'. -/
def readerBareCard : Claim7 := { stood := { row := readerBareRow, standIns := [], harness := (true, "ed622bfeb38617ecc496d8121d1c64ba8639ecd6eeb00e87b46ea196a974ee18"), looks := true }, kinds := [], alts := [], laidByText := true, laidKinds := [.data, .data, .data, .sentinel, .sentinel], laidTests := true, laidLooks := .later }
def ReaderBareCardSaid : Prop := Claim7.holds Tryd.pinned (.plain (OpenSpec.ofChange readerBareSpec)) readerBareCard

/-- THE TIED CARD OF 'pagodalaw02.ReaderBlanks'. -/
def readerBlanksCard : Claim7 := { stood := { row := readerBlanksRow, standIns := [], harness := (true, "ed622bfeb38617ecc496d8121d1c64ba8639ecd6eeb00e87b46ea196a974ee18"), looks := true }, kinds := [], alts := [], laidByText := true, laidKinds := [.data, .data, .data, .sentinel, .sentinel], laidTests := true, laidLooks := .later }
def ReaderBlanksCardSaid : Prop := Claim7.holds Tryd.pinned (.plain (OpenSpec.ofChange readerBlanksSpec)) readerBlanksCard

/-- THE SECOND FORM's CARD OF 'pagodalaw02.ReaderReads'. -/
def readerReadsUptoCard : Claim7 := { stood := { row := readerReadsUptoRow, standIns := [], harness := (true, "ed622bfeb38617ecc496d8121d1c64ba8639ecd6eeb00e87b46ea196a974ee18"), looks := true }, kinds := [], alts := [], laidByText := true, laidKinds := [.data, .data, .data, .sentinel, .sentinel], laidTests := true, laidLooks := .later }
def ReaderReadsUptoCardSaid : Prop := Claim7.holds Tryd.pinned (.plain (OpenSpec.upto readerReadsSpec)) readerReadsUptoCard

/-- THE SECOND FORM's CARD OF 'pagodalaw02.ReaderWrites'. -/
def readerWritesUptoCard : Claim7 := { stood := { row := readerWritesUptoRow, standIns := [], harness := (true, "ed622bfeb38617ecc496d8121d1c64ba8639ecd6eeb00e87b46ea196a974ee18"), looks := true }, kinds := [], alts := [], laidByText := true, laidKinds := [.data, .data, .data, .sentinel, .sentinel], laidTests := true, laidLooks := .later }
def ReaderWritesUptoCardSaid : Prop := Claim7.holds Tryd.pinned (.plain (OpenSpec.upto readerWritesSpec)) readerWritesUptoCard

/-- THE SECOND FORM's CARD OF 'pagodalaw02.ReaderLong'. -/
def readerLongUptoCard : Claim7 := { stood := { row := readerLongUptoRow, standIns := [], harness := (true, "ed622bfeb38617ecc496d8121d1c64ba8639ecd6eeb00e87b46ea196a974ee18"), looks := true }, kinds := [], alts := [], laidByText := true, laidKinds := [.data, .data, .data, .sentinel, .sentinel], laidTests := true, laidLooks := .later }
def ReaderLongUptoCardSaid : Prop := Claim7.holds Tryd.pinned (.plain (OpenSpec.upto readerLongSpec)) readerLongUptoCard

/-- THE SECOND FORM's CARD OF 'pagodalaw02.ReaderOffsets'. -/
def readerOffsetsUptoCard : Claim7 := { stood := { row := readerOffsetsUptoRow, standIns := [], harness := (true, "ed622bfeb38617ecc496d8121d1c64ba8639ecd6eeb00e87b46ea196a974ee18"), looks := true }, kinds := [], alts := [], laidByText := true, laidKinds := [.data, .data, .data, .sentinel, .sentinel], laidTests := true, laidLooks := .later }
def ReaderOffsetsUptoCardSaid : Prop := Claim7.holds Tryd.pinned (.plain (OpenSpec.upto readerOffsetsSpec)) readerOffsetsUptoCard

/-- THE SECOND FORM's CARD OF 'pagodalaw02.ReaderStarts'. -/
def readerStartsUptoCard : Claim7 := { stood := { row := readerStartsUptoRow, standIns := [], harness := (true, "ed622bfeb38617ecc496d8121d1c64ba8639ecd6eeb00e87b46ea196a974ee18"), looks := true }, kinds := [], alts := [], laidByText := true, laidKinds := [.data, .data, .data, .sentinel, .sentinel], laidTests := true, laidLooks := .later }
def ReaderStartsUptoCardSaid : Prop := Claim7.holds Tryd.pinned (.plain (OpenSpec.upto readerStartsSpec)) readerStartsUptoCard

/-- THE SECOND FORM's CARD OF 'pagodalaw02.ReaderWritten'. -/
def readerWrittenUptoCard : Claim7 := { stood := { row := readerWrittenUptoRow, standIns := [], harness := (true, "ed622bfeb38617ecc496d8121d1c64ba8639ecd6eeb00e87b46ea196a974ee18"), looks := true }, kinds := [], alts := [], laidByText := true, laidKinds := [.data, .data, .data, .sentinel, .sentinel], laidTests := true, laidLooks := .later }
def ReaderWrittenUptoCardSaid : Prop := Claim7.holds Tryd.pinned (.plain (OpenSpec.upto readerWrittenSpec)) readerWrittenUptoCard

/-- THE SECOND FORM's CARD OF 'pagodalaw02.ReaderBack'. -/
def readerBackUptoCard : Claim7 := { stood := { row := readerBackUptoRow, standIns := [], harness := (true, "ed622bfeb38617ecc496d8121d1c64ba8639ecd6eeb00e87b46ea196a974ee18"), looks := true }, kinds := [], alts := [], laidByText := true, laidKinds := [.data, .data, .data, .sentinel, .sentinel], laidTests := true, laidLooks := .later }
def ReaderBackUptoCardSaid : Prop := Claim7.holds Tryd.pinned (.plain (OpenSpec.upto readerBackSpec)) readerBackUptoCard

/-- THE SECOND FORM's CARD OF 'pagodalaw02.ReaderAll'. -/
def readerAllUptoCard : Claim7 := { stood := { row := readerAllUptoRow, standIns := [], harness := (true, "ed622bfeb38617ecc496d8121d1c64ba8639ecd6eeb00e87b46ea196a974ee18"), looks := true }, kinds := [], alts := [], laidByText := true, laidKinds := [.data, .data, .data, .sentinel, .sentinel], laidTests := true, laidLooks := .later }
def ReaderAllUptoCardSaid : Prop := Claim7.holds Tryd.pinned (.plain (OpenSpec.upto readerAllSpec)) readerAllUptoCard

/-- THE SECOND FORM's CARD OF 'pagodalaw02.ReaderJoins'. -/
def readerJoinsUptoCard : Claim7 := { stood := { row := readerJoinsUptoRow, standIns := [], harness := (true, "ed622bfeb38617ecc496d8121d1c64ba8639ecd6eeb00e87b46ea196a974ee18"), looks := true }, kinds := [], alts := [], laidByText := true, laidKinds := [.data, .data, .data, .sentinel, .sentinel], laidTests := true, laidLooks := .later }
def ReaderJoinsUptoCardSaid : Prop := Claim7.holds Tryd.pinned (.plain (OpenSpec.upto readerJoinsSpec)) readerJoinsUptoCard

/-- THE SECOND FORM's CARD OF 'pagodalaw02.ReaderBare'. -/
def readerBareUptoCard : Claim7 := { stood := { row := readerBareUptoRow, standIns := [], harness := (true, "ed622bfeb38617ecc496d8121d1c64ba8639ecd6eeb00e87b46ea196a974ee18"), looks := true }, kinds := [], alts := [], laidByText := true, laidKinds := [.data, .data, .data, .sentinel, .sentinel], laidTests := true, laidLooks := .later }
def ReaderBareUptoCardSaid : Prop := Claim7.holds Tryd.pinned (.plain (OpenSpec.upto readerBareSpec)) readerBareUptoCard

/-- THE SECOND FORM's CARD OF 'pagodalaw02.ReaderBlanks'. -/
def readerBlanksUptoCard : Claim7 := { stood := { row := readerBlanksUptoRow, standIns := [], harness := (true, "ed622bfeb38617ecc496d8121d1c64ba8639ecd6eeb00e87b46ea196a974ee18"), looks := true }, kinds := [], alts := [], laidByText := true, laidKinds := [.data, .data, .data, .sentinel, .sentinel], laidTests := true, laidLooks := .later }
def ReaderBlanksUptoCardSaid : Prop := Claim7.holds Tryd.pinned (.plain (OpenSpec.upto readerBlanksSpec)) readerBlanksUptoCard
end Rows
end Go.Proofs.YtenpjkcclmmlhaaDoor
