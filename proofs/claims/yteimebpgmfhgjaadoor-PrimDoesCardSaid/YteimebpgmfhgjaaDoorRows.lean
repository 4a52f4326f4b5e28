/-
  NARROWER THAN 'FOR EVERY INPUT', by the rows' own cells (each row's printed sentence says how): PrimDoes: loops, laid · PrimBig: laid · PrimRing: laid · PrimDivides: laid · PrimLists: loops, laid · PrimOrder: loops, laid · PrimKinds: loops, laid · PrimNames: laid.
  DERIVED. THE GIVEN ROWS OF THIS SEAT. 8 by the template 'for every input the law returns true; each argument reads behind the call as it read before'; 0 by the template 'total and deterministic' (their statements: YteimebpgmfhgjaaDoorTotals.lean).
  GIVEN WITH THE SEED: the statements are not yours to turn. If you find one false, say at which input.
  Laid BY PROGRAM, IN A SANDBOX (cutbox-rows.mjs): the forced cells as the released guide's own fill.sh prints them over the translation 9b82a2ddef9a3e57… (all of the seat's roots in one cut). By AI agents, Wed Nov 11 2026. No macro, syntax, notation, axiom, sorry.
-/
import Derived.Test.YteimebpgmfhgjaaDoorChecked
import GoSem.Claim
import GoSem.ClaimJoined
import GoSem.ClaimMapViews
import Derived.JoinedTies
import Derived.KernelRfl
namespace Go.Proofs.YteimebpgmfhgjaaDoor
/- THE CELL 'sum', in the pinned program and in every row, IS THE sha256 OF THE DUMP (.gsa) THAT YteimebpgmfhgjaaDoorProg.lean LOADS. Nothing in Lean hashes anything: it is a label: what it is worth is what the hold of that sum in a sandbox is worth. -/
noncomputable def Tryd.pinned : Pinned := { name := "yteimebpgmfhgjaadoor", sum := "9b82a2ddef9a3e5768f5fb9197a9307ae32de880c56afa1448e5266543bef2a7", checked := Tryd.checked }
namespace Rows
def none {H : Type} : Left H := { results := [], args := [] }

/- WHAT THE LISTED PACKAGE-LEVEL VARIABLES READ AS WHEN THE CALL BEGINS. Each datum BY PROGRAM (the guide's laid-datum.mjs) off the statement by which the dump's own 'gosem.cut.vars' lays the variable. In a bare row this is a premise. The card (YteimebpgmfhgjaaDoorCards.lean) ties it to the program's text. -/
def laid_math_bits_deBruijn32tab {H : Type} : DataW H := .agg [.lit (.int .u8 0), .lit (.int .u8 1), .lit (.int .u8 28), .lit (.int .u8 2), .lit (.int .u8 29), .lit (.int .u8 14), .lit (.int .u8 24), .lit (.int .u8 3), .lit (.int .u8 30), .lit (.int .u8 22), .lit (.int .u8 20), .lit (.int .u8 15), .lit (.int .u8 25), .lit (.int .u8 17), .lit (.int .u8 4), .lit (.int .u8 8), .lit (.int .u8 31), .lit (.int .u8 27), .lit (.int .u8 13), .lit (.int .u8 23), .lit (.int .u8 21), .lit (.int .u8 19), .lit (.int .u8 16), .lit (.int .u8 7), .lit (.int .u8 26), .lit (.int .u8 12), .lit (.int .u8 18), .lit (.int .u8 6), .lit (.int .u8 11), .lit (.int .u8 5), .lit (.int .u8 10), .lit (.int .u8 9)]
def laid_math_bits_deBruijn64tab {H : Type} : DataW H := .agg [.lit (.int .u8 0), .lit (.int .u8 1), .lit (.int .u8 56), .lit (.int .u8 2), .lit (.int .u8 57), .lit (.int .u8 49), .lit (.int .u8 28), .lit (.int .u8 3), .lit (.int .u8 61), .lit (.int .u8 58), .lit (.int .u8 42), .lit (.int .u8 50), .lit (.int .u8 38), .lit (.int .u8 29), .lit (.int .u8 17), .lit (.int .u8 4), .lit (.int .u8 62), .lit (.int .u8 47), .lit (.int .u8 59), .lit (.int .u8 36), .lit (.int .u8 45), .lit (.int .u8 43), .lit (.int .u8 51), .lit (.int .u8 22), .lit (.int .u8 53), .lit (.int .u8 39), .lit (.int .u8 33), .lit (.int .u8 30), .lit (.int .u8 24), .lit (.int .u8 18), .lit (.int .u8 12), .lit (.int .u8 5), .lit (.int .u8 63), .lit (.int .u8 55), .lit (.int .u8 48), .lit (.int .u8 27), .lit (.int .u8 60), .lit (.int .u8 41), .lit (.int .u8 37), .lit (.int .u8 16), .lit (.int .u8 46), .lit (.int .u8 35), .lit (.int .u8 44), .lit (.int .u8 21), .lit (.int .u8 52), .lit (.int .u8 32), .lit (.int .u8 23), .lit (.int .u8 11), .lit (.int .u8 54), .lit (.int .u8 26), .lit (.int .u8 40), .lit (.int .u8 15), .lit (.int .u8 34), .lit (.int .u8 20), .lit (.int .u8 31), .lit (.int .u8 10), .lit (.int .u8 25), .lit (.int .u8 14), .lit (.int .u8 19), .lit (.int .u8 9), .lit (.int .u8 13), .lit (.int .u8 8), .lit (.int .u8 7), .lit (.int .u8 6)]
def laid_internal_strconv_uint64pow10 {H : Type} : DataW H := .agg [.lit (.int .u64 1), .lit (.int .u64 10), .lit (.int .u64 100), .lit (.int .u64 1000), .lit (.int .u64 10000), .lit (.int .u64 100000), .lit (.int .u64 1000000), .lit (.int .u64 10000000), .lit (.int .u64 100000000), .lit (.int .u64 1000000000), .lit (.int .u64 10000000000), .lit (.int .u64 100000000000), .lit (.int .u64 1000000000000), .lit (.int .u64 10000000000000), .lit (.int .u64 100000000000000), .lit (.int .u64 1000000000000000), .lit (.int .u64 10000000000000000), .lit (.int .u64 100000000000000000), .lit (.int .u64 1000000000000000000), .lit (.int .u64 10000000000000000000)]
def laid_pagoda_prim_names {H : Type} : DataW H := .slice [.agg [.lit (.string [43]), .lit (.int .i64 2)], .agg [.lit (.string [45]), .lit (.int .i64 2)], .agg [.lit (.string [42]), .lit (.int .i64 2)], .agg [.lit (.string [113, 117, 111, 116]), .lit (.int .i64 2)], .agg [.lit (.string [114, 101, 109]), .lit (.int .i64 2)], .agg [.lit (.string [60]), .lit (.int .i64 2)], .agg [.lit (.string [61]), .lit (.int .i64 2)], .agg [.lit (.string [99, 111, 110, 115]), .lit (.int .i64 2)], .agg [.lit (.string [102, 105, 114, 115, 116]), .lit (.int .i64 1)], .agg [.lit (.string [114, 101, 115, 116]), .lit (.int .i64 1)], .agg [.lit (.string [99, 111, 117, 110, 116]), .lit (.int .i64 1)], .agg [.lit (.string [108, 105, 115, 116, 63]), .lit (.int .i64 1)], .agg [.lit (.string [110, 117, 109, 63]), .lit (.int .i64 1)], .agg [.lit (.string [115, 121, 109, 63]), .lit (.int .i64 1)], .agg [.lit (.string [109, 97, 114, 107]), .lit (.int .i64 2)], .agg [.lit (.string [115, 116, 111, 112]), .lit (.int .i64 1)]] []

/-- 'pagodalaw07.PrimDoes': WHATEVER THE INPUT: true; the input reads as it did. -/
def primDoesSpec : ChangeSpec := { name := "primDoes", fn := fun _ => fun
  | [d1, d2] => { results := [.lit (.bool true)], args := [d1, d2] }
  | _ => none }
def primDoesRow : OpenClaim := { program := "yteimebpgmfhgjaadoor", sum := "9b82a2ddef9a3e5768f5fb9197a9307ae32de880c56afa1448e5266543bef2a7", func := "pagoda/pagodalaw07.PrimDoes", spec := "primDoes", inPlace := ["internal/bytealg.IndexByteString"], unfollowed := true, recurses := true, named := ["pagoda/prim.names", "internal/strconv.uint64pow10", "math/bits.deBruijn32tab", "math/bits.deBruijn64tab"], loops := true, apart := false, laid := [("math/bits.deBruijn32tab", laid_math_bits_deBruijn32tab), ("math/bits.deBruijn64tab", laid_math_bits_deBruijn64tab), ("internal/strconv.uint64pow10", laid_internal_strconv_uint64pow10), ("pagoda/prim.names", laid_pagoda_prim_names)] }
def PrimDoesSaid : Prop := primDoesRow.holds Tryd.pinned (OpenSpec.ofChange primDoesSpec)

/-- ITS FALSE NEIGHBOUR: 'it returns false'. Refute it at one input. -/
def primDoesWrong : ChangeSpec := { name := "primDoes", fn := fun _ => fun
  | [d1, d2] => { results := [.lit (.bool false)], args := [d1, d2] }
  | _ => none }
def PrimDoesWrongFalsely : Prop := primDoesRow.holds Tryd.pinned (OpenSpec.ofChange primDoesWrong)

/-- 'pagodalaw07.PrimBig': WHATEVER THE INPUT: true; the input reads as it did. -/
def primBigSpec : ChangeSpec := { name := "primBig", fn := fun _ => fun
  | [d1, d2] => { results := [.lit (.bool true)], args := [d1, d2] }
  | _ => none }
def primBigRow : OpenClaim := { program := "yteimebpgmfhgjaadoor", sum := "9b82a2ddef9a3e5768f5fb9197a9307ae32de880c56afa1448e5266543bef2a7", func := "pagoda/pagodalaw07.PrimBig", spec := "primBig", inPlace := ["internal/bytealg.IndexByteString"], unfollowed := true, recurses := true, named := ["pagoda/prim.names", "internal/strconv.uint64pow10", "math/bits.deBruijn32tab", "math/bits.deBruijn64tab"], apart := false, laid := [("math/bits.deBruijn32tab", laid_math_bits_deBruijn32tab), ("math/bits.deBruijn64tab", laid_math_bits_deBruijn64tab), ("internal/strconv.uint64pow10", laid_internal_strconv_uint64pow10), ("pagoda/prim.names", laid_pagoda_prim_names)] }
def PrimBigSaid : Prop := primBigRow.holds Tryd.pinned (OpenSpec.ofChange primBigSpec)

/-- ITS FALSE NEIGHBOUR: 'it returns false'. Refute it at one input. -/
def primBigWrong : ChangeSpec := { name := "primBig", fn := fun _ => fun
  | [d1, d2] => { results := [.lit (.bool false)], args := [d1, d2] }
  | _ => none }
def PrimBigWrongFalsely : Prop := primBigRow.holds Tryd.pinned (OpenSpec.ofChange primBigWrong)

/-- 'pagodalaw07.PrimRing': WHATEVER THE INPUT: true; the input reads as it did. -/
def primRingSpec : ChangeSpec := { name := "primRing", fn := fun _ => fun
  | [d1, d2, d3] => { results := [.lit (.bool true)], args := [d1, d2, d3] }
  | _ => none }
def primRingRow : OpenClaim := { program := "yteimebpgmfhgjaadoor", sum := "9b82a2ddef9a3e5768f5fb9197a9307ae32de880c56afa1448e5266543bef2a7", func := "pagoda/pagodalaw07.PrimRing", spec := "primRing", inPlace := ["internal/bytealg.IndexByteString"], unfollowed := true, recurses := true, named := ["pagoda/prim.names", "internal/strconv.uint64pow10", "math/bits.deBruijn32tab", "math/bits.deBruijn64tab"], apart := false, laid := [("math/bits.deBruijn32tab", laid_math_bits_deBruijn32tab), ("math/bits.deBruijn64tab", laid_math_bits_deBruijn64tab), ("internal/strconv.uint64pow10", laid_internal_strconv_uint64pow10), ("pagoda/prim.names", laid_pagoda_prim_names)] }
def PrimRingSaid : Prop := primRingRow.holds Tryd.pinned (OpenSpec.ofChange primRingSpec)

/-- ITS FALSE NEIGHBOUR: 'it returns false'. Refute it at one input. -/
def primRingWrong : ChangeSpec := { name := "primRing", fn := fun _ => fun
  | [d1, d2, d3] => { results := [.lit (.bool false)], args := [d1, d2, d3] }
  | _ => none }
def PrimRingWrongFalsely : Prop := primRingRow.holds Tryd.pinned (OpenSpec.ofChange primRingWrong)

/-- 'pagodalaw07.PrimDivides': WHATEVER THE INPUT: true; the input reads as it did. -/
def primDividesSpec : ChangeSpec := { name := "primDivides", fn := fun _ => fun
  | [d1, d2] => { results := [.lit (.bool true)], args := [d1, d2] }
  | _ => none }
def primDividesRow : OpenClaim := { program := "yteimebpgmfhgjaadoor", sum := "9b82a2ddef9a3e5768f5fb9197a9307ae32de880c56afa1448e5266543bef2a7", func := "pagoda/pagodalaw07.PrimDivides", spec := "primDivides", inPlace := ["internal/bytealg.IndexByteString"], unfollowed := true, recurses := true, named := ["pagoda/prim.names", "internal/strconv.uint64pow10", "math/bits.deBruijn32tab", "math/bits.deBruijn64tab"], apart := false, laid := [("math/bits.deBruijn32tab", laid_math_bits_deBruijn32tab), ("math/bits.deBruijn64tab", laid_math_bits_deBruijn64tab), ("internal/strconv.uint64pow10", laid_internal_strconv_uint64pow10), ("pagoda/prim.names", laid_pagoda_prim_names)] }
def PrimDividesSaid : Prop := primDividesRow.holds Tryd.pinned (OpenSpec.ofChange primDividesSpec)

/-- ITS FALSE NEIGHBOUR: 'it returns false'. Refute it at one input. -/
def primDividesWrong : ChangeSpec := { name := "primDivides", fn := fun _ => fun
  | [d1, d2] => { results := [.lit (.bool false)], args := [d1, d2] }
  | _ => none }
def PrimDividesWrongFalsely : Prop := primDividesRow.holds Tryd.pinned (OpenSpec.ofChange primDividesWrong)

/-- 'pagodalaw07.PrimLists': WHATEVER THE INPUT: true; the input reads as it did. -/
def primListsSpec : ChangeSpec := { name := "primLists", fn := fun _ => fun
  | [d1, d2] => { results := [.lit (.bool true)], args := [d1, d2] }
  | _ => none }
def primListsRow : OpenClaim := { program := "yteimebpgmfhgjaadoor", sum := "9b82a2ddef9a3e5768f5fb9197a9307ae32de880c56afa1448e5266543bef2a7", func := "pagoda/pagodalaw07.PrimLists", spec := "primLists", inPlace := ["internal/bytealg.IndexByteString"], unfollowed := true, recurses := true, named := ["pagoda/prim.names", "internal/strconv.uint64pow10", "math/bits.deBruijn32tab", "math/bits.deBruijn64tab"], loops := true, apart := false, laid := [("math/bits.deBruijn32tab", laid_math_bits_deBruijn32tab), ("math/bits.deBruijn64tab", laid_math_bits_deBruijn64tab), ("internal/strconv.uint64pow10", laid_internal_strconv_uint64pow10), ("pagoda/prim.names", laid_pagoda_prim_names)] }
def PrimListsSaid : Prop := primListsRow.holds Tryd.pinned (OpenSpec.ofChange primListsSpec)

/-- ITS FALSE NEIGHBOUR: 'it returns false'. Refute it at one input. -/
def primListsWrong : ChangeSpec := { name := "primLists", fn := fun _ => fun
  | [d1, d2] => { results := [.lit (.bool false)], args := [d1, d2] }
  | _ => none }
def PrimListsWrongFalsely : Prop := primListsRow.holds Tryd.pinned (OpenSpec.ofChange primListsWrong)

/-- 'pagodalaw07.PrimOrder': WHATEVER THE INPUT: true; the input reads as it did. -/
def primOrderSpec : ChangeSpec := { name := "primOrder", fn := fun _ => fun
  | [d] => { results := [.lit (.bool true)], args := [d] }
  | _ => none }
def primOrderRow : OpenClaim := { program := "yteimebpgmfhgjaadoor", sum := "9b82a2ddef9a3e5768f5fb9197a9307ae32de880c56afa1448e5266543bef2a7", func := "pagoda/pagodalaw07.PrimOrder", spec := "primOrder", inPlace := ["internal/bytealg.IndexByteString"], unfollowed := true, recurses := true, named := ["pagoda/prim.names", "internal/strconv.uint64pow10", "math/bits.deBruijn32tab", "math/bits.deBruijn64tab"], loops := true, apart := false, laid := [("math/bits.deBruijn32tab", laid_math_bits_deBruijn32tab), ("math/bits.deBruijn64tab", laid_math_bits_deBruijn64tab), ("internal/strconv.uint64pow10", laid_internal_strconv_uint64pow10), ("pagoda/prim.names", laid_pagoda_prim_names)] }
def PrimOrderSaid : Prop := primOrderRow.holds Tryd.pinned (OpenSpec.ofChange primOrderSpec)

/-- ITS FALSE NEIGHBOUR: 'it returns false'. Refute it at one input. -/
def primOrderWrong : ChangeSpec := { name := "primOrder", fn := fun _ => fun
  | [d] => { results := [.lit (.bool false)], args := [d] }
  | _ => none }
def PrimOrderWrongFalsely : Prop := primOrderRow.holds Tryd.pinned (OpenSpec.ofChange primOrderWrong)

/-- 'pagodalaw07.PrimKinds': WHATEVER THE INPUT: true; the input reads as it did. -/
def primKindsSpec : ChangeSpec := { name := "primKinds", fn := fun _ => fun
  | [d] => { results := [.lit (.bool true)], args := [d] }
  | _ => none }
def primKindsRow : OpenClaim := { program := "yteimebpgmfhgjaadoor", sum := "9b82a2ddef9a3e5768f5fb9197a9307ae32de880c56afa1448e5266543bef2a7", func := "pagoda/pagodalaw07.PrimKinds", spec := "primKinds", inPlace := ["internal/bytealg.IndexByteString"], unfollowed := true, recurses := true, named := ["pagoda/prim.names", "internal/strconv.uint64pow10", "math/bits.deBruijn32tab", "math/bits.deBruijn64tab"], loops := true, apart := false, laid := [("math/bits.deBruijn32tab", laid_math_bits_deBruijn32tab), ("math/bits.deBruijn64tab", laid_math_bits_deBruijn64tab), ("internal/strconv.uint64pow10", laid_internal_strconv_uint64pow10), ("pagoda/prim.names", laid_pagoda_prim_names)] }
def PrimKindsSaid : Prop := primKindsRow.holds Tryd.pinned (OpenSpec.ofChange primKindsSpec)

/-- ITS FALSE NEIGHBOUR: 'it returns false'. Refute it at one input. -/
def primKindsWrong : ChangeSpec := { name := "primKinds", fn := fun _ => fun
  | [d] => { results := [.lit (.bool false)], args := [d] }
  | _ => none }
def PrimKindsWrongFalsely : Prop := primKindsRow.holds Tryd.pinned (OpenSpec.ofChange primKindsWrong)

/-- 'pagodalaw07.PrimNames': WHATEVER THE INPUT: true; the input reads as it did. -/
def primNamesSpec : ChangeSpec := { name := "primNames", fn := fun _ => fun
  | [d1, d2] => { results := [.lit (.bool true)], args := [d1, d2] }
  | _ => none }
def primNamesRow : OpenClaim := { program := "yteimebpgmfhgjaadoor", sum := "9b82a2ddef9a3e5768f5fb9197a9307ae32de880c56afa1448e5266543bef2a7", func := "pagoda/pagodalaw07.PrimNames", spec := "primNames", inPlace := ["internal/bytealg.IndexByteString"], unfollowed := true, recurses := true, named := ["pagoda/prim.names", "internal/strconv.uint64pow10", "math/bits.deBruijn32tab", "math/bits.deBruijn64tab"], apart := false, laid := [("math/bits.deBruijn32tab", laid_math_bits_deBruijn32tab), ("math/bits.deBruijn64tab", laid_math_bits_deBruijn64tab), ("internal/strconv.uint64pow10", laid_internal_strconv_uint64pow10), ("pagoda/prim.names", laid_pagoda_prim_names)] }
def PrimNamesSaid : Prop := primNamesRow.holds Tryd.pinned (OpenSpec.ofChange primNamesSpec)

/-- ITS FALSE NEIGHBOUR: 'it returns false'. Refute it at one input. -/
def primNamesWrong : ChangeSpec := { name := "primNames", fn := fun _ => fun
  | [d1, d2] => { results := [.lit (.bool false)], args := [d1, d2] }
  | _ => none }
def PrimNamesWrongFalsely : Prop := primNamesRow.holds Tryd.pinned (OpenSpec.ofChange primNamesWrong)

/- THE SECOND FORM. 'bulk': how many values and letters a reading holds, each counted each time it is reached (what is shared counts as often as it is met; a slice's spare places count too). A statement '..UptoSaid' is the law's where the arguments, and the package variables that the reading takes, are together of bulk at most 1048576: NARROWER than '..Said'. Prove '..Said' where nothing that the law and all that it calls make is longer than what came in: it says more and counts as full. Else prove '..UptoSaid'. A law counts once. -/
mutual
def uptoBulk {H : Type} : DataW H → Nat
  | .lit (.string bytes) => bytes.length + 1
  | .lit _ => 1
  | .nil => 1
  | .ptr d => uptoBulk d + 1
  | .slice elems spare => uptoBulkAll elems + uptoBulkAll spare + 1
  | .agg parts => uptoBulkAll parts + 1
  | .iface _ d => uptoBulk d + 1
  | .map entries => uptoBulkEntries entries + 1
  | .held _ => 1
def uptoBulkAll {H : Type} : List (DataW H) → Nat
  | [] => 0
  | d :: r => uptoBulk d + uptoBulkAll r
def uptoBulkEntries {H : Type} : List (Lit × DataW H) → Nat
  | [] => 0
  | x :: r => uptoBulkEntry x + uptoBulkEntries r
def uptoBulkEntry {H : Type} : Lit × DataW H → Nat
  | (.string bytes, d) => bytes.length + uptoBulk d + 1
  | (_, d) => uptoBulk d + 1
 end
def uptoSmall : (H : Type) → List (DataW H) → Bool := fun _ ds => decide (uptoBulkAll ds ≤ 1048576)
def OpenSpec.upto (s : _root_.Go.ChangeSpec) : _root_.Go.OpenSpec := { _root_.Go.OpenSpec.ofChange s with cond := some uptoSmall }

/-- 'pagodalaw07.PrimDoes', WHERE WHAT IT READS IS OF BULK AT MOST 1048576: true; the input reads as it did. -/
def primDoesUptoRow : OpenClaim := { program := "yteimebpgmfhgjaadoor", sum := "9b82a2ddef9a3e5768f5fb9197a9307ae32de880c56afa1448e5266543bef2a7", func := "pagoda/pagodalaw07.PrimDoes", spec := "primDoes", inPlace := ["internal/bytealg.IndexByteString"], unfollowed := true, recurses := true, named := ["pagoda/prim.names", "internal/strconv.uint64pow10", "math/bits.deBruijn32tab", "math/bits.deBruijn64tab"], loops := true, apart := false, laid := [("math/bits.deBruijn32tab", laid_math_bits_deBruijn32tab), ("math/bits.deBruijn64tab", laid_math_bits_deBruijn64tab), ("internal/strconv.uint64pow10", laid_internal_strconv_uint64pow10), ("pagoda/prim.names", laid_pagoda_prim_names)], narrowed := true }
def PrimDoesUptoSaid : Prop := primDoesUptoRow.holds Tryd.pinned (OpenSpec.upto primDoesSpec)

/-- 'pagodalaw07.PrimBig', WHERE WHAT IT READS IS OF BULK AT MOST 1048576: true; the input reads as it did. -/
def primBigUptoRow : OpenClaim := { program := "yteimebpgmfhgjaadoor", sum := "9b82a2ddef9a3e5768f5fb9197a9307ae32de880c56afa1448e5266543bef2a7", func := "pagoda/pagodalaw07.PrimBig", spec := "primBig", inPlace := ["internal/bytealg.IndexByteString"], unfollowed := true, recurses := true, named := ["pagoda/prim.names", "internal/strconv.uint64pow10", "math/bits.deBruijn32tab", "math/bits.deBruijn64tab"], apart := false, laid := [("math/bits.deBruijn32tab", laid_math_bits_deBruijn32tab), ("math/bits.deBruijn64tab", laid_math_bits_deBruijn64tab), ("internal/strconv.uint64pow10", laid_internal_strconv_uint64pow10), ("pagoda/prim.names", laid_pagoda_prim_names)], narrowed := true }
def PrimBigUptoSaid : Prop := primBigUptoRow.holds Tryd.pinned (OpenSpec.upto primBigSpec)

/-- 'pagodalaw07.PrimRing', WHERE WHAT IT READS IS OF BULK AT MOST 1048576: true; the input reads as it did. -/
def primRingUptoRow : OpenClaim := { program := "yteimebpgmfhgjaadoor", sum := "9b82a2ddef9a3e5768f5fb9197a9307ae32de880c56afa1448e5266543bef2a7", func := "pagoda/pagodalaw07.PrimRing", spec := "primRing", inPlace := ["internal/bytealg.IndexByteString"], unfollowed := true, recurses := true, named := ["pagoda/prim.names", "internal/strconv.uint64pow10", "math/bits.deBruijn32tab", "math/bits.deBruijn64tab"], apart := false, laid := [("math/bits.deBruijn32tab", laid_math_bits_deBruijn32tab), ("math/bits.deBruijn64tab", laid_math_bits_deBruijn64tab), ("internal/strconv.uint64pow10", laid_internal_strconv_uint64pow10), ("pagoda/prim.names", laid_pagoda_prim_names)], narrowed := true }
def PrimRingUptoSaid : Prop := primRingUptoRow.holds Tryd.pinned (OpenSpec.upto primRingSpec)

/-- 'pagodalaw07.PrimDivides', WHERE WHAT IT READS IS OF BULK AT MOST 1048576: true; the input reads as it did. -/
def primDividesUptoRow : OpenClaim := { program := "yteimebpgmfhgjaadoor", sum := "9b82a2ddef9a3e5768f5fb9197a9307ae32de880c56afa1448e5266543bef2a7", func := "pagoda/pagodalaw07.PrimDivides", spec := "primDivides", inPlace := ["internal/bytealg.IndexByteString"], unfollowed := true, recurses := true, named := ["pagoda/prim.names", "internal/strconv.uint64pow10", "math/bits.deBruijn32tab", "math/bits.deBruijn64tab"], apart := false, laid := [("math/bits.deBruijn32tab", laid_math_bits_deBruijn32tab), ("math/bits.deBruijn64tab", laid_math_bits_deBruijn64tab), ("internal/strconv.uint64pow10", laid_internal_strconv_uint64pow10), ("pagoda/prim.names", laid_pagoda_prim_names)], narrowed := true }
def PrimDividesUptoSaid : Prop := primDividesUptoRow.holds Tryd.pinned (OpenSpec.upto primDividesSpec)

/-- 'pagodalaw07.PrimLists', WHERE WHAT IT READS IS OF BULK AT MOST 1048576: true; the input reads as it did. -/
def primListsUptoRow : OpenClaim := { program := "yteimebpgmfhgjaadoor", sum := "9b82a2ddef9a3e5768f5fb9197a9307ae32de880c56afa1448e5266543bef2a7", func := "pagoda/pagodalaw07.PrimLists", spec := "primLists", inPlace := ["internal/bytealg.IndexByteString"], unfollowed := true, recurses := true, named := ["pagoda/prim.names", "internal/strconv.uint64pow10", "math/bits.deBruijn32tab", "math/bits.deBruijn64tab"], loops := true, apart := false, laid := [("math/bits.deBruijn32tab", laid_math_bits_deBruijn32tab), ("math/bits.deBruijn64tab", laid_math_bits_deBruijn64tab), ("internal/strconv.uint64pow10", laid_internal_strconv_uint64pow10), ("pagoda/prim.names", laid_pagoda_prim_names)], narrowed := true }
def PrimListsUptoSaid : Prop := primListsUptoRow.holds Tryd.pinned (OpenSpec.upto primListsSpec)

/-- 'pagodalaw07.PrimOrder', WHERE WHAT IT READS IS OF BULK AT MOST 1048576: true; the input reads as it did. -/
def primOrderUptoRow : OpenClaim := { program := "yteimebpgmfhgjaadoor", sum := "9b82a2ddef9a3e5768f5fb9197a9307ae32de880c56afa1448e5266543bef2a7", func := "pagoda/pagodalaw07.PrimOrder", spec := "primOrder", inPlace := ["internal/bytealg.IndexByteString"], unfollowed := true, recurses := true, named := ["pagoda/prim.names", "internal/strconv.uint64pow10", "math/bits.deBruijn32tab", "math/bits.deBruijn64tab"], loops := true, apart := false, laid := [("math/bits.deBruijn32tab", laid_math_bits_deBruijn32tab), ("math/bits.deBruijn64tab", laid_math_bits_deBruijn64tab), ("internal/strconv.uint64pow10", laid_internal_strconv_uint64pow10), ("pagoda/prim.names", laid_pagoda_prim_names)], narrowed := true }
def PrimOrderUptoSaid : Prop := primOrderUptoRow.holds Tryd.pinned (OpenSpec.upto primOrderSpec)

/-- 'pagodalaw07.PrimKinds', WHERE WHAT IT READS IS OF BULK AT MOST 1048576: true; the input reads as it did. -/
def primKindsUptoRow : OpenClaim := { program := "yteimebpgmfhgjaadoor", sum := "9b82a2ddef9a3e5768f5fb9197a9307ae32de880c56afa1448e5266543bef2a7", func := "pagoda/pagodalaw07.PrimKinds", spec := "primKinds", inPlace := ["internal/bytealg.IndexByteString"], unfollowed := true, recurses := true, named := ["pagoda/prim.names", "internal/strconv.uint64pow10", "math/bits.deBruijn32tab", "math/bits.deBruijn64tab"], loops := true, apart := false, laid := [("math/bits.deBruijn32tab", laid_math_bits_deBruijn32tab), ("math/bits.deBruijn64tab", laid_math_bits_deBruijn64tab), ("internal/strconv.uint64pow10", laid_internal_strconv_uint64pow10), ("pagoda/prim.names", laid_pagoda_prim_names)], narrowed := true }
def PrimKindsUptoSaid : Prop := primKindsUptoRow.holds Tryd.pinned (OpenSpec.upto primKindsSpec)

/-- 'pagodalaw07.PrimNames', WHERE WHAT IT READS IS OF BULK AT MOST 1048576: true; the input reads as it did. -/
def primNamesUptoRow : OpenClaim := { program := "yteimebpgmfhgjaadoor", sum := "9b82a2ddef9a3e5768f5fb9197a9307ae32de880c56afa1448e5266543bef2a7", func := "pagoda/pagodalaw07.PrimNames", spec := "primNames", inPlace := ["internal/bytealg.IndexByteString"], unfollowed := true, recurses := true, named := ["pagoda/prim.names", "internal/strconv.uint64pow10", "math/bits.deBruijn32tab", "math/bits.deBruijn64tab"], apart := false, laid := [("math/bits.deBruijn32tab", laid_math_bits_deBruijn32tab), ("math/bits.deBruijn64tab", laid_math_bits_deBruijn64tab), ("internal/strconv.uint64pow10", laid_internal_strconv_uint64pow10), ("pagoda/prim.names", laid_pagoda_prim_names)], narrowed := true }
def PrimNamesUptoSaid : Prop := primNamesUptoRow.holds Tryd.pinned (OpenSpec.upto primNamesSpec)

end Rows
end Go.Proofs.YteimebpgmfhgjaaDoor
