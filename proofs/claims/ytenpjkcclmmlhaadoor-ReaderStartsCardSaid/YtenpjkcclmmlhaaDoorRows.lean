/-
  NARROWER THAN 'FOR EVERY INPUT', by the rows' own cells (each row's printed sentence says how): ReaderReads: laid · ReaderWrites: loops, laid · ReaderLong: laid · ReaderOffsets: laid · ReaderStarts: laid · ReaderWritten: laid · ReaderBack: loops, laid · ReaderAll: laid · ReaderJoins: laid · ReaderBare: laid · ReaderBlanks: laid.
  DERIVED. THE GIVEN ROWS OF THIS SEAT. 11 by the template 'for every input the law returns true; each argument reads behind the call as it read before'; 0 by the template 'total and deterministic' (their statements: YtenpjkcclmmlhaaDoorTotals.lean).
  GIVEN WITH THE SEED: the statements are not yours to turn. If you find one false, say at which input.
  Laid BY PROGRAM, IN A SANDBOX (cutbox-rows.mjs): the forced cells as the released guide's own fill.sh prints them over the translation 6c3f7341d890ddb9… (all of the seat's roots in one cut). By AI agents, Wed Nov 11 2026. No macro, syntax, notation, axiom, sorry.
-/
import Derived.Test.YtenpjkcclmmlhaaDoorChecked
import GoSem.Claim
import GoSem.ClaimJoined
import GoSem.ClaimMapViews
import Derived.JoinedTies
import Derived.KernelRfl
namespace Go.Proofs.YtenpjkcclmmlhaaDoor
/- THE CELL 'sum', in the pinned program and in every row, IS THE sha256 OF THE DUMP (.gsa) THAT YtenpjkcclmmlhaaDoorProg.lean LOADS. Nothing in Lean hashes anything: it is a label: what it is worth is what the hold of that sum in a sandbox is worth. -/
noncomputable def Tryd.pinned : Pinned := { name := "ytenpjkcclmmlhaadoor", sum := "6c3f7341d890ddb94081790ff72e55ead68432d8d62b6edd58bb3f70d80fcd70", checked := Tryd.checked }
namespace Rows
def none {H : Type} : Left H := { results := [], args := [] }

/- WHAT THE LISTED PACKAGE-LEVEL VARIABLES READ AS WHEN THE CALL BEGINS. Each datum BY PROGRAM (the guide's laid-datum.mjs) off the statement by which the dump's own 'gosem.cut.vars' lays the variable. In a bare row this is a premise. The card (YtenpjkcclmmlhaaDoorCards.lean) ties it to the program's text. -/
def laid_math_bits_deBruijn32tab {H : Type} : DataW H := .agg [.lit (.int .u8 0), .lit (.int .u8 1), .lit (.int .u8 28), .lit (.int .u8 2), .lit (.int .u8 29), .lit (.int .u8 14), .lit (.int .u8 24), .lit (.int .u8 3), .lit (.int .u8 30), .lit (.int .u8 22), .lit (.int .u8 20), .lit (.int .u8 15), .lit (.int .u8 25), .lit (.int .u8 17), .lit (.int .u8 4), .lit (.int .u8 8), .lit (.int .u8 31), .lit (.int .u8 27), .lit (.int .u8 13), .lit (.int .u8 23), .lit (.int .u8 21), .lit (.int .u8 19), .lit (.int .u8 16), .lit (.int .u8 7), .lit (.int .u8 26), .lit (.int .u8 12), .lit (.int .u8 18), .lit (.int .u8 6), .lit (.int .u8 11), .lit (.int .u8 5), .lit (.int .u8 10), .lit (.int .u8 9)]
def laid_math_bits_deBruijn64tab {H : Type} : DataW H := .agg [.lit (.int .u8 0), .lit (.int .u8 1), .lit (.int .u8 56), .lit (.int .u8 2), .lit (.int .u8 57), .lit (.int .u8 49), .lit (.int .u8 28), .lit (.int .u8 3), .lit (.int .u8 61), .lit (.int .u8 58), .lit (.int .u8 42), .lit (.int .u8 50), .lit (.int .u8 38), .lit (.int .u8 29), .lit (.int .u8 17), .lit (.int .u8 4), .lit (.int .u8 62), .lit (.int .u8 47), .lit (.int .u8 59), .lit (.int .u8 36), .lit (.int .u8 45), .lit (.int .u8 43), .lit (.int .u8 51), .lit (.int .u8 22), .lit (.int .u8 53), .lit (.int .u8 39), .lit (.int .u8 33), .lit (.int .u8 30), .lit (.int .u8 24), .lit (.int .u8 18), .lit (.int .u8 12), .lit (.int .u8 5), .lit (.int .u8 63), .lit (.int .u8 55), .lit (.int .u8 48), .lit (.int .u8 27), .lit (.int .u8 60), .lit (.int .u8 41), .lit (.int .u8 37), .lit (.int .u8 16), .lit (.int .u8 46), .lit (.int .u8 35), .lit (.int .u8 44), .lit (.int .u8 21), .lit (.int .u8 52), .lit (.int .u8 32), .lit (.int .u8 23), .lit (.int .u8 11), .lit (.int .u8 54), .lit (.int .u8 26), .lit (.int .u8 40), .lit (.int .u8 15), .lit (.int .u8 34), .lit (.int .u8 20), .lit (.int .u8 31), .lit (.int .u8 10), .lit (.int .u8 25), .lit (.int .u8 14), .lit (.int .u8 19), .lit (.int .u8 9), .lit (.int .u8 13), .lit (.int .u8 8), .lit (.int .u8 7), .lit (.int .u8 6)]
def laid_internal_strconv_uint64pow10 {H : Type} : DataW H := .agg [.lit (.int .u64 1), .lit (.int .u64 10), .lit (.int .u64 100), .lit (.int .u64 1000), .lit (.int .u64 10000), .lit (.int .u64 100000), .lit (.int .u64 1000000), .lit (.int .u64 10000000), .lit (.int .u64 100000000), .lit (.int .u64 1000000000), .lit (.int .u64 10000000000), .lit (.int .u64 100000000000), .lit (.int .u64 1000000000000), .lit (.int .u64 10000000000000), .lit (.int .u64 100000000000000), .lit (.int .u64 1000000000000000), .lit (.int .u64 10000000000000000), .lit (.int .u64 100000000000000000), .lit (.int .u64 1000000000000000000), .lit (.int .u64 10000000000000000000)]
def laid_strconv_ErrRange {H : Type} : DataW H := .iface "*errors.errorString" (.ptr (.agg [.lit (.string [118, 97, 108, 117, 101, 32, 111, 117, 116, 32, 111, 102, 32, 114, 97, 110, 103, 101])]))
def laid_strconv_ErrSyntax {H : Type} : DataW H := .iface "*errors.errorString" (.ptr (.agg [.lit (.string [105, 110, 118, 97, 108, 105, 100, 32, 115, 121, 110, 116, 97, 120])]))

/-- 'pagodalaw02.ReaderReads': WHATEVER THE INPUT: true; the input reads as it did. -/
def readerReadsSpec : ChangeSpec := { name := "readerReads", fn := fun _ => fun
  | [d] => { results := [.lit (.bool true)], args := [d] }
  | _ => none }
def readerReadsRow : OpenClaim := { program := "ytenpjkcclmmlhaadoor", sum := "6c3f7341d890ddb94081790ff72e55ead68432d8d62b6edd58bb3f70d80fcd70", func := "pagoda/pagodalaw02.ReaderReads", spec := "readerReads", inPlace := ["internal/bytealg.IndexByteString", "internal/abi.NoEscape"], unfollowed := true, recurses := true, named := ["strconv.ErrSyntax", "strconv.ErrRange", "internal/strconv.uint64pow10", "math/bits.deBruijn32tab", "math/bits.deBruijn64tab"], apart := false, laid := [("math/bits.deBruijn32tab", laid_math_bits_deBruijn32tab), ("math/bits.deBruijn64tab", laid_math_bits_deBruijn64tab), ("internal/strconv.uint64pow10", laid_internal_strconv_uint64pow10), ("strconv.ErrRange", laid_strconv_ErrRange), ("strconv.ErrSyntax", laid_strconv_ErrSyntax)] }
def ReaderReadsSaid : Prop := readerReadsRow.holds Tryd.pinned (OpenSpec.ofChange readerReadsSpec)

/-- ITS FALSE NEIGHBOUR: 'it returns false'. Refute it at one input. -/
def readerReadsWrong : ChangeSpec := { name := "readerReads", fn := fun _ => fun
  | [d] => { results := [.lit (.bool false)], args := [d] }
  | _ => none }
def ReaderReadsWrongFalsely : Prop := readerReadsRow.holds Tryd.pinned (OpenSpec.ofChange readerReadsWrong)

/-- 'pagodalaw02.ReaderWrites': WHATEVER THE INPUT: true; the input reads as it did. -/
def readerWritesSpec : ChangeSpec := { name := "readerWrites", fn := fun _ => fun
  | [d] => { results := [.lit (.bool true)], args := [d] }
  | _ => none }
def readerWritesRow : OpenClaim := { program := "ytenpjkcclmmlhaadoor", sum := "6c3f7341d890ddb94081790ff72e55ead68432d8d62b6edd58bb3f70d80fcd70", func := "pagoda/pagodalaw02.ReaderWrites", spec := "readerWrites", inPlace := ["internal/bytealg.IndexByteString", "internal/abi.NoEscape"], unfollowed := true, recurses := true, named := ["internal/strconv.uint64pow10", "math/bits.deBruijn32tab", "math/bits.deBruijn64tab", "strconv.ErrSyntax", "strconv.ErrRange"], loops := true, apart := false, laid := [("math/bits.deBruijn32tab", laid_math_bits_deBruijn32tab), ("math/bits.deBruijn64tab", laid_math_bits_deBruijn64tab), ("internal/strconv.uint64pow10", laid_internal_strconv_uint64pow10), ("strconv.ErrRange", laid_strconv_ErrRange), ("strconv.ErrSyntax", laid_strconv_ErrSyntax)] }
def ReaderWritesSaid : Prop := readerWritesRow.holds Tryd.pinned (OpenSpec.ofChange readerWritesSpec)

/-- ITS FALSE NEIGHBOUR: 'it returns false'. Refute it at one input. -/
def readerWritesWrong : ChangeSpec := { name := "readerWrites", fn := fun _ => fun
  | [d] => { results := [.lit (.bool false)], args := [d] }
  | _ => none }
def ReaderWritesWrongFalsely : Prop := readerWritesRow.holds Tryd.pinned (OpenSpec.ofChange readerWritesWrong)

/-- 'pagodalaw02.ReaderLong': WHATEVER THE INPUT: true; the input reads as it did. -/
def readerLongSpec : ChangeSpec := { name := "readerLong", fn := fun _ => fun
  | [d] => { results := [.lit (.bool true)], args := [d] }
  | _ => none }
def readerLongRow : OpenClaim := { program := "ytenpjkcclmmlhaadoor", sum := "6c3f7341d890ddb94081790ff72e55ead68432d8d62b6edd58bb3f70d80fcd70", func := "pagoda/pagodalaw02.ReaderLong", spec := "readerLong", inPlace := ["internal/bytealg.IndexByteString", "internal/abi.NoEscape"], unfollowed := true, recurses := true, named := ["internal/strconv.uint64pow10", "math/bits.deBruijn32tab", "math/bits.deBruijn64tab", "strconv.ErrSyntax", "strconv.ErrRange"], apart := false, laid := [("math/bits.deBruijn32tab", laid_math_bits_deBruijn32tab), ("math/bits.deBruijn64tab", laid_math_bits_deBruijn64tab), ("internal/strconv.uint64pow10", laid_internal_strconv_uint64pow10), ("strconv.ErrRange", laid_strconv_ErrRange), ("strconv.ErrSyntax", laid_strconv_ErrSyntax)] }
def ReaderLongSaid : Prop := readerLongRow.holds Tryd.pinned (OpenSpec.ofChange readerLongSpec)

/-- ITS FALSE NEIGHBOUR: 'it returns false'. Refute it at one input. -/
def readerLongWrong : ChangeSpec := { name := "readerLong", fn := fun _ => fun
  | [d] => { results := [.lit (.bool false)], args := [d] }
  | _ => none }
def ReaderLongWrongFalsely : Prop := readerLongRow.holds Tryd.pinned (OpenSpec.ofChange readerLongWrong)

/-- 'pagodalaw02.ReaderOffsets': WHATEVER THE INPUT: true; the input reads as it did. -/
def readerOffsetsSpec : ChangeSpec := { name := "readerOffsets", fn := fun _ => fun
  | [d1, d2] => { results := [.lit (.bool true)], args := [d1, d2] }
  | _ => none }
def readerOffsetsRow : OpenClaim := { program := "ytenpjkcclmmlhaadoor", sum := "6c3f7341d890ddb94081790ff72e55ead68432d8d62b6edd58bb3f70d80fcd70", func := "pagoda/pagodalaw02.ReaderOffsets", spec := "readerOffsets", inPlace := ["internal/bytealg.IndexByteString", "internal/abi.NoEscape"], unfollowed := true, recurses := true, named := ["strconv.ErrSyntax", "strconv.ErrRange", "internal/strconv.uint64pow10", "math/bits.deBruijn32tab", "math/bits.deBruijn64tab"], apart := false, laid := [("math/bits.deBruijn32tab", laid_math_bits_deBruijn32tab), ("math/bits.deBruijn64tab", laid_math_bits_deBruijn64tab), ("internal/strconv.uint64pow10", laid_internal_strconv_uint64pow10), ("strconv.ErrRange", laid_strconv_ErrRange), ("strconv.ErrSyntax", laid_strconv_ErrSyntax)] }
def ReaderOffsetsSaid : Prop := readerOffsetsRow.holds Tryd.pinned (OpenSpec.ofChange readerOffsetsSpec)

/-- ITS FALSE NEIGHBOUR: 'it returns false'. Refute it at one input. -/
def readerOffsetsWrong : ChangeSpec := { name := "readerOffsets", fn := fun _ => fun
  | [d1, d2] => { results := [.lit (.bool false)], args := [d1, d2] }
  | _ => none }
def ReaderOffsetsWrongFalsely : Prop := readerOffsetsRow.holds Tryd.pinned (OpenSpec.ofChange readerOffsetsWrong)

/-- 'pagodalaw02.ReaderStarts': WHATEVER THE INPUT: true; the input reads as it did. -/
def readerStartsSpec : ChangeSpec := { name := "readerStarts", fn := fun _ => fun
  | [d] => { results := [.lit (.bool true)], args := [d] }
  | _ => none }
def readerStartsRow : OpenClaim := { program := "ytenpjkcclmmlhaadoor", sum := "6c3f7341d890ddb94081790ff72e55ead68432d8d62b6edd58bb3f70d80fcd70", func := "pagoda/pagodalaw02.ReaderStarts", spec := "readerStarts", inPlace := ["internal/bytealg.IndexByteString", "internal/abi.NoEscape"], unfollowed := true, recurses := true, named := ["strconv.ErrSyntax", "strconv.ErrRange", "internal/strconv.uint64pow10", "math/bits.deBruijn32tab", "math/bits.deBruijn64tab"], apart := false, laid := [("math/bits.deBruijn32tab", laid_math_bits_deBruijn32tab), ("math/bits.deBruijn64tab", laid_math_bits_deBruijn64tab), ("internal/strconv.uint64pow10", laid_internal_strconv_uint64pow10), ("strconv.ErrRange", laid_strconv_ErrRange), ("strconv.ErrSyntax", laid_strconv_ErrSyntax)] }
def ReaderStartsSaid : Prop := readerStartsRow.holds Tryd.pinned (OpenSpec.ofChange readerStartsSpec)

/-- ITS FALSE NEIGHBOUR: 'it returns false'. Refute it at one input. -/
def readerStartsWrong : ChangeSpec := { name := "readerStarts", fn := fun _ => fun
  | [d] => { results := [.lit (.bool false)], args := [d] }
  | _ => none }
def ReaderStartsWrongFalsely : Prop := readerStartsRow.holds Tryd.pinned (OpenSpec.ofChange readerStartsWrong)

/-- 'pagodalaw02.ReaderWritten': WHATEVER THE INPUT: true; the input reads as it did. -/
def readerWrittenSpec : ChangeSpec := { name := "readerWritten", fn := fun _ => fun
  | [d] => { results := [.lit (.bool true)], args := [d] }
  | _ => none }
def readerWrittenRow : OpenClaim := { program := "ytenpjkcclmmlhaadoor", sum := "6c3f7341d890ddb94081790ff72e55ead68432d8d62b6edd58bb3f70d80fcd70", func := "pagoda/pagodalaw02.ReaderWritten", spec := "readerWritten", inPlace := ["internal/bytealg.IndexByteString", "internal/abi.NoEscape"], unfollowed := true, recurses := true, named := ["strconv.ErrSyntax", "strconv.ErrRange", "internal/strconv.uint64pow10", "math/bits.deBruijn32tab", "math/bits.deBruijn64tab"], apart := false, laid := [("math/bits.deBruijn32tab", laid_math_bits_deBruijn32tab), ("math/bits.deBruijn64tab", laid_math_bits_deBruijn64tab), ("internal/strconv.uint64pow10", laid_internal_strconv_uint64pow10), ("strconv.ErrRange", laid_strconv_ErrRange), ("strconv.ErrSyntax", laid_strconv_ErrSyntax)] }
def ReaderWrittenSaid : Prop := readerWrittenRow.holds Tryd.pinned (OpenSpec.ofChange readerWrittenSpec)

/-- ITS FALSE NEIGHBOUR: 'it returns false'. Refute it at one input. -/
def readerWrittenWrong : ChangeSpec := { name := "readerWritten", fn := fun _ => fun
  | [d] => { results := [.lit (.bool false)], args := [d] }
  | _ => none }
def ReaderWrittenWrongFalsely : Prop := readerWrittenRow.holds Tryd.pinned (OpenSpec.ofChange readerWrittenWrong)

/-- 'pagodalaw02.ReaderBack': WHATEVER THE INPUT: true; the input reads as it did. -/
def readerBackSpec : ChangeSpec := { name := "readerBack", fn := fun _ => fun
  | [d] => { results := [.lit (.bool true)], args := [d] }
  | _ => none }
def readerBackRow : OpenClaim := { program := "ytenpjkcclmmlhaadoor", sum := "6c3f7341d890ddb94081790ff72e55ead68432d8d62b6edd58bb3f70d80fcd70", func := "pagoda/pagodalaw02.ReaderBack", spec := "readerBack", inPlace := ["internal/bytealg.IndexByteString", "internal/abi.NoEscape"], unfollowed := true, recurses := true, named := ["internal/strconv.uint64pow10", "math/bits.deBruijn32tab", "math/bits.deBruijn64tab", "strconv.ErrSyntax", "strconv.ErrRange"], loops := true, apart := false, laid := [("math/bits.deBruijn32tab", laid_math_bits_deBruijn32tab), ("math/bits.deBruijn64tab", laid_math_bits_deBruijn64tab), ("internal/strconv.uint64pow10", laid_internal_strconv_uint64pow10), ("strconv.ErrRange", laid_strconv_ErrRange), ("strconv.ErrSyntax", laid_strconv_ErrSyntax)] }
def ReaderBackSaid : Prop := readerBackRow.holds Tryd.pinned (OpenSpec.ofChange readerBackSpec)

/-- ITS FALSE NEIGHBOUR: 'it returns false'. Refute it at one input. -/
def readerBackWrong : ChangeSpec := { name := "readerBack", fn := fun _ => fun
  | [d] => { results := [.lit (.bool false)], args := [d] }
  | _ => none }
def ReaderBackWrongFalsely : Prop := readerBackRow.holds Tryd.pinned (OpenSpec.ofChange readerBackWrong)

/-- 'pagodalaw02.ReaderAll': WHATEVER THE INPUT: true; the input reads as it did. -/
def readerAllSpec : ChangeSpec := { name := "readerAll", fn := fun _ => fun
  | [d] => { results := [.lit (.bool true)], args := [d] }
  | _ => none }
def readerAllRow : OpenClaim := { program := "ytenpjkcclmmlhaadoor", sum := "6c3f7341d890ddb94081790ff72e55ead68432d8d62b6edd58bb3f70d80fcd70", func := "pagoda/pagodalaw02.ReaderAll", spec := "readerAll", inPlace := ["internal/bytealg.IndexByteString", "internal/abi.NoEscape"], unfollowed := true, recurses := true, named := ["strconv.ErrSyntax", "strconv.ErrRange", "internal/strconv.uint64pow10", "math/bits.deBruijn32tab", "math/bits.deBruijn64tab"], apart := false, laid := [("math/bits.deBruijn32tab", laid_math_bits_deBruijn32tab), ("math/bits.deBruijn64tab", laid_math_bits_deBruijn64tab), ("internal/strconv.uint64pow10", laid_internal_strconv_uint64pow10), ("strconv.ErrRange", laid_strconv_ErrRange), ("strconv.ErrSyntax", laid_strconv_ErrSyntax)] }
def ReaderAllSaid : Prop := readerAllRow.holds Tryd.pinned (OpenSpec.ofChange readerAllSpec)

/-- ITS FALSE NEIGHBOUR: 'it returns false'. Refute it at one input. -/
def readerAllWrong : ChangeSpec := { name := "readerAll", fn := fun _ => fun
  | [d] => { results := [.lit (.bool false)], args := [d] }
  | _ => none }
def ReaderAllWrongFalsely : Prop := readerAllRow.holds Tryd.pinned (OpenSpec.ofChange readerAllWrong)

/-- 'pagodalaw02.ReaderJoins': WHATEVER THE INPUT: true; the input reads as it did. -/
def readerJoinsSpec : ChangeSpec := { name := "readerJoins", fn := fun _ => fun
  | [d1, d2] => { results := [.lit (.bool true)], args := [d1, d2] }
  | _ => none }
def readerJoinsRow : OpenClaim := { program := "ytenpjkcclmmlhaadoor", sum := "6c3f7341d890ddb94081790ff72e55ead68432d8d62b6edd58bb3f70d80fcd70", func := "pagoda/pagodalaw02.ReaderJoins", spec := "readerJoins", inPlace := ["internal/bytealg.IndexByteString", "internal/abi.NoEscape"], unfollowed := true, recurses := true, named := ["strconv.ErrSyntax", "strconv.ErrRange", "internal/strconv.uint64pow10", "math/bits.deBruijn32tab", "math/bits.deBruijn64tab"], apart := false, laid := [("math/bits.deBruijn32tab", laid_math_bits_deBruijn32tab), ("math/bits.deBruijn64tab", laid_math_bits_deBruijn64tab), ("internal/strconv.uint64pow10", laid_internal_strconv_uint64pow10), ("strconv.ErrRange", laid_strconv_ErrRange), ("strconv.ErrSyntax", laid_strconv_ErrSyntax)] }
def ReaderJoinsSaid : Prop := readerJoinsRow.holds Tryd.pinned (OpenSpec.ofChange readerJoinsSpec)

/-- ITS FALSE NEIGHBOUR: 'it returns false'. Refute it at one input. -/
def readerJoinsWrong : ChangeSpec := { name := "readerJoins", fn := fun _ => fun
  | [d1, d2] => { results := [.lit (.bool false)], args := [d1, d2] }
  | _ => none }
def ReaderJoinsWrongFalsely : Prop := readerJoinsRow.holds Tryd.pinned (OpenSpec.ofChange readerJoinsWrong)

/-- 'pagodalaw02.ReaderBare': WHATEVER THE INPUT: true; the input reads as it did. -/
def readerBareSpec : ChangeSpec := { name := "readerBare", fn := fun _ => fun
  | [d] => { results := [.lit (.bool true)], args := [d] }
  | _ => none }
def readerBareRow : OpenClaim := { program := "ytenpjkcclmmlhaadoor", sum := "6c3f7341d890ddb94081790ff72e55ead68432d8d62b6edd58bb3f70d80fcd70", func := "pagoda/pagodalaw02.ReaderBare", spec := "readerBare", inPlace := ["internal/bytealg.IndexByteString", "internal/abi.NoEscape"], unfollowed := true, recurses := true, named := ["strconv.ErrSyntax", "strconv.ErrRange", "internal/strconv.uint64pow10", "math/bits.deBruijn32tab", "math/bits.deBruijn64tab"], apart := false, laid := [("math/bits.deBruijn32tab", laid_math_bits_deBruijn32tab), ("math/bits.deBruijn64tab", laid_math_bits_deBruijn64tab), ("internal/strconv.uint64pow10", laid_internal_strconv_uint64pow10), ("strconv.ErrRange", laid_strconv_ErrRange), ("strconv.ErrSyntax", laid_strconv_ErrSyntax)] }
def ReaderBareSaid : Prop := readerBareRow.holds Tryd.pinned (OpenSpec.ofChange readerBareSpec)

/-- ITS FALSE NEIGHBOUR: 'it returns false'. Refute it at one input. -/
def readerBareWrong : ChangeSpec := { name := "readerBare", fn := fun _ => fun
  | [d] => { results := [.lit (.bool false)], args := [d] }
  | _ => none }
def ReaderBareWrongFalsely : Prop := readerBareRow.holds Tryd.pinned (OpenSpec.ofChange readerBareWrong)

/-- 'pagodalaw02.ReaderBlanks': WHATEVER THE INPUT: true; the input reads as it did. -/
def readerBlanksSpec : ChangeSpec := { name := "readerBlanks", fn := fun _ => fun
  | [d1, d2] => { results := [.lit (.bool true)], args := [d1, d2] }
  | _ => none }
def readerBlanksRow : OpenClaim := { program := "ytenpjkcclmmlhaadoor", sum := "6c3f7341d890ddb94081790ff72e55ead68432d8d62b6edd58bb3f70d80fcd70", func := "pagoda/pagodalaw02.ReaderBlanks", spec := "readerBlanks", inPlace := ["internal/bytealg.IndexByteString", "internal/abi.NoEscape"], unfollowed := true, recurses := true, named := ["strconv.ErrSyntax", "strconv.ErrRange", "internal/strconv.uint64pow10", "math/bits.deBruijn32tab", "math/bits.deBruijn64tab"], apart := false, laid := [("math/bits.deBruijn32tab", laid_math_bits_deBruijn32tab), ("math/bits.deBruijn64tab", laid_math_bits_deBruijn64tab), ("internal/strconv.uint64pow10", laid_internal_strconv_uint64pow10), ("strconv.ErrRange", laid_strconv_ErrRange), ("strconv.ErrSyntax", laid_strconv_ErrSyntax)] }
def ReaderBlanksSaid : Prop := readerBlanksRow.holds Tryd.pinned (OpenSpec.ofChange readerBlanksSpec)

/-- ITS FALSE NEIGHBOUR: 'it returns false'. Refute it at one input. -/
def readerBlanksWrong : ChangeSpec := { name := "readerBlanks", fn := fun _ => fun
  | [d1, d2] => { results := [.lit (.bool false)], args := [d1, d2] }
  | _ => none }
def ReaderBlanksWrongFalsely : Prop := readerBlanksRow.holds Tryd.pinned (OpenSpec.ofChange readerBlanksWrong)

/- THE SECOND FORM. 'bulk': how many values and letters a reading holds, each counted each time it is reached (what is shared counts as often as it is met; a slice's spare places count too). A statement '..UptoSaid' is the law's where the arguments, and the package variables that the reading takes, are together of bulk at most 1048576: NARROWER than '..Said'. Prove '..Said' where nothing that the law and all that it calls make is longer than what came in: it says more and counts as full. Else prove '..UptoSaid'. A law counts once. -/
mutual
def uptoBulk {H : Type} : DataW H → Nat
  | .lit (.string bytes) => bytes.length + 1
  | .lit _ => 1
  | .nil => 1
  | .ptr d => uptoBulk d + 1
  | .slice elems spare => uptoBulkAll elems + uptoBulkAll spare + 1
  | .agg parts => uptoBulkAll parts + 1
  | .iface _ d => uptoBulk d + 1
  | .map entries => uptoBulkEntries entries + 1
  | .held _ => 1
def uptoBulkAll {H : Type} : List (DataW H) → Nat
  | [] => 0
  | d :: r => uptoBulk d + uptoBulkAll r
def uptoBulkEntries {H : Type} : List (Lit × DataW H) → Nat
  | [] => 0
  | x :: r => uptoBulkEntry x + uptoBulkEntries r
def uptoBulkEntry {H : Type} : Lit × DataW H → Nat
  | (.string bytes, d) => bytes.length + uptoBulk d + 1
  | (_, d) => uptoBulk d + 1
 end
def uptoSmall : (H : Type) → List (DataW H) → Bool := fun _ ds => decide (uptoBulkAll ds ≤ 1048576)
def OpenSpec.upto (s : _root_.Go.ChangeSpec) : _root_.Go.OpenSpec := { _root_.Go.OpenSpec.ofChange s with cond := some uptoSmall }

/-- 'pagodalaw02.ReaderReads', WHERE WHAT IT READS IS OF BULK AT MOST 1048576: true; the input reads as it did. -/
def readerReadsUptoRow : OpenClaim := { program := "ytenpjkcclmmlhaadoor", sum := "6c3f7341d890ddb94081790ff72e55ead68432d8d62b6edd58bb3f70d80fcd70", func := "pagoda/pagodalaw02.ReaderReads", spec := "readerReads", inPlace := ["internal/bytealg.IndexByteString", "internal/abi.NoEscape"], unfollowed := true, recurses := true, named := ["strconv.ErrSyntax", "strconv.ErrRange", "internal/strconv.uint64pow10", "math/bits.deBruijn32tab", "math/bits.deBruijn64tab"], apart := false, laid := [("math/bits.deBruijn32tab", laid_math_bits_deBruijn32tab), ("math/bits.deBruijn64tab", laid_math_bits_deBruijn64tab), ("internal/strconv.uint64pow10", laid_internal_strconv_uint64pow10), ("strconv.ErrRange", laid_strconv_ErrRange), ("strconv.ErrSyntax", laid_strconv_ErrSyntax)], narrowed := true }
def ReaderReadsUptoSaid : Prop := readerReadsUptoRow.holds Tryd.pinned (OpenSpec.upto readerReadsSpec)

/-- 'pagodalaw02.ReaderWrites', WHERE WHAT IT READS IS OF BULK AT MOST 1048576: true; the input reads as it did. -/
def readerWritesUptoRow : OpenClaim := { program := "ytenpjkcclmmlhaadoor", sum := "6c3f7341d890ddb94081790ff72e55ead68432d8d62b6edd58bb3f70d80fcd70", func := "pagoda/pagodalaw02.ReaderWrites", spec := "readerWrites", inPlace := ["internal/bytealg.IndexByteString", "internal/abi.NoEscape"], unfollowed := true, recurses := true, named := ["internal/strconv.uint64pow10", "math/bits.deBruijn32tab", "math/bits.deBruijn64tab", "strconv.ErrSyntax", "strconv.ErrRange"], loops := true, apart := false, laid := [("math/bits.deBruijn32tab", laid_math_bits_deBruijn32tab), ("math/bits.deBruijn64tab", laid_math_bits_deBruijn64tab), ("internal/strconv.uint64pow10", laid_internal_strconv_uint64pow10), ("strconv.ErrRange", laid_strconv_ErrRange), ("strconv.ErrSyntax", laid_strconv_ErrSyntax)], narrowed := true }
def ReaderWritesUptoSaid : Prop := readerWritesUptoRow.holds Tryd.pinned (OpenSpec.upto readerWritesSpec)

/-- 'pagodalaw02.ReaderLong', WHERE WHAT IT READS IS OF BULK AT MOST 1048576: true; the input reads as it did. -/
def readerLongUptoRow : OpenClaim := { program := "ytenpjkcclmmlhaadoor", sum := "6c3f7341d890ddb94081790ff72e55ead68432d8d62b6edd58bb3f70d80fcd70", func := "pagoda/pagodalaw02.ReaderLong", spec := "readerLong", inPlace := ["internal/bytealg.IndexByteString", "internal/abi.NoEscape"], unfollowed := true, recurses := true, named := ["internal/strconv.uint64pow10", "math/bits.deBruijn32tab", "math/bits.deBruijn64tab", "strconv.ErrSyntax", "strconv.ErrRange"], apart := false, laid := [("math/bits.deBruijn32tab", laid_math_bits_deBruijn32tab), ("math/bits.deBruijn64tab", laid_math_bits_deBruijn64tab), ("internal/strconv.uint64pow10", laid_internal_strconv_uint64pow10), ("strconv.ErrRange", laid_strconv_ErrRange), ("strconv.ErrSyntax", laid_strconv_ErrSyntax)], narrowed := true }
def ReaderLongUptoSaid : Prop := readerLongUptoRow.holds Tryd.pinned (OpenSpec.upto readerLongSpec)

/-- 'pagodalaw02.ReaderOffsets', WHERE WHAT IT READS IS OF BULK AT MOST 1048576: true; the input reads as it did. -/
def readerOffsetsUptoRow : OpenClaim := { program := "ytenpjkcclmmlhaadoor", sum := "6c3f7341d890ddb94081790ff72e55ead68432d8d62b6edd58bb3f70d80fcd70", func := "pagoda/pagodalaw02.ReaderOffsets", spec := "readerOffsets", inPlace := ["internal/bytealg.IndexByteString", "internal/abi.NoEscape"], unfollowed := true, recurses := true, named := ["strconv.ErrSyntax", "strconv.ErrRange", "internal/strconv.uint64pow10", "math/bits.deBruijn32tab", "math/bits.deBruijn64tab"], apart := false, laid := [("math/bits.deBruijn32tab", laid_math_bits_deBruijn32tab), ("math/bits.deBruijn64tab", laid_math_bits_deBruijn64tab), ("internal/strconv.uint64pow10", laid_internal_strconv_uint64pow10), ("strconv.ErrRange", laid_strconv_ErrRange), ("strconv.ErrSyntax", laid_strconv_ErrSyntax)], narrowed := true }
def ReaderOffsetsUptoSaid : Prop := readerOffsetsUptoRow.holds Tryd.pinned (OpenSpec.upto readerOffsetsSpec)

/-- 'pagodalaw02.ReaderStarts', WHERE WHAT IT READS IS OF BULK AT MOST 1048576: true; the input reads as it did. -/
def readerStartsUptoRow : OpenClaim := { program := "ytenpjkcclmmlhaadoor", sum := "6c3f7341d890ddb94081790ff72e55ead68432d8d62b6edd58bb3f70d80fcd70", func := "pagoda/pagodalaw02.ReaderStarts", spec := "readerStarts", inPlace := ["internal/bytealg.IndexByteString", "internal/abi.NoEscape"], unfollowed := true, recurses := true, named := ["strconv.ErrSyntax", "strconv.ErrRange", "internal/strconv.uint64pow10", "math/bits.deBruijn32tab", "math/bits.deBruijn64tab"], apart := false, laid := [("math/bits.deBruijn32tab", laid_math_bits_deBruijn32tab), ("math/bits.deBruijn64tab", laid_math_bits_deBruijn64tab), ("internal/strconv.uint64pow10", laid_internal_strconv_uint64pow10), ("strconv.ErrRange", laid_strconv_ErrRange), ("strconv.ErrSyntax", laid_strconv_ErrSyntax)], narrowed := true }
def ReaderStartsUptoSaid : Prop := readerStartsUptoRow.holds Tryd.pinned (OpenSpec.upto readerStartsSpec)

/-- 'pagodalaw02.ReaderWritten', WHERE WHAT IT READS IS OF BULK AT MOST 1048576: true; the input reads as it did. -/
def readerWrittenUptoRow : OpenClaim := { program := "ytenpjkcclmmlhaadoor", sum := "6c3f7341d890ddb94081790ff72e55ead68432d8d62b6edd58bb3f70d80fcd70", func := "pagoda/pagodalaw02.ReaderWritten", spec := "readerWritten", inPlace := ["internal/bytealg.IndexByteString", "internal/abi.NoEscape"], unfollowed := true, recurses := true, named := ["strconv.ErrSyntax", "strconv.ErrRange", "internal/strconv.uint64pow10", "math/bits.deBruijn32tab", "math/bits.deBruijn64tab"], apart := false, laid := [("math/bits.deBruijn32tab", laid_math_bits_deBruijn32tab), ("math/bits.deBruijn64tab", laid_math_bits_deBruijn64tab), ("internal/strconv.uint64pow10", laid_internal_strconv_uint64pow10), ("strconv.ErrRange", laid_strconv_ErrRange), ("strconv.ErrSyntax", laid_strconv_ErrSyntax)], narrowed := true }
def ReaderWrittenUptoSaid : Prop := readerWrittenUptoRow.holds Tryd.pinned (OpenSpec.upto readerWrittenSpec)

/-- 'pagodalaw02.ReaderBack', WHERE WHAT IT READS IS OF BULK AT MOST 1048576: true; the input reads as it did. -/
def readerBackUptoRow : OpenClaim := { program := "ytenpjkcclmmlhaadoor", sum := "6c3f7341d890ddb94081790ff72e55ead68432d8d62b6edd58bb3f70d80fcd70", func := "pagoda/pagodalaw02.ReaderBack", spec := "readerBack", inPlace := ["internal/bytealg.IndexByteString", "internal/abi.NoEscape"], unfollowed := true, recurses := true, named := ["internal/strconv.uint64pow10", "math/bits.deBruijn32tab", "math/bits.deBruijn64tab", "strconv.ErrSyntax", "strconv.ErrRange"], loops := true, apart := false, laid := [("math/bits.deBruijn32tab", laid_math_bits_deBruijn32tab), ("math/bits.deBruijn64tab", laid_math_bits_deBruijn64tab), ("internal/strconv.uint64pow10", laid_internal_strconv_uint64pow10), ("strconv.ErrRange", laid_strconv_ErrRange), ("strconv.ErrSyntax", laid_strconv_ErrSyntax)], narrowed := true }
def ReaderBackUptoSaid : Prop := readerBackUptoRow.holds Tryd.pinned (OpenSpec.upto readerBackSpec)

/-- 'pagodalaw02.ReaderAll', WHERE WHAT IT READS IS OF BULK AT MOST 1048576: true; the input reads as it did. -/
def readerAllUptoRow : OpenClaim := { program := "ytenpjkcclmmlhaadoor", sum := "6c3f7341d890ddb94081790ff72e55ead68432d8d62b6edd58bb3f70d80fcd70", func := "pagoda/pagodalaw02.ReaderAll", spec := "readerAll", inPlace := ["internal/bytealg.IndexByteString", "internal/abi.NoEscape"], unfollowed := true, recurses := true, named := ["strconv.ErrSyntax", "strconv.ErrRange", "internal/strconv.uint64pow10", "math/bits.deBruijn32tab", "math/bits.deBruijn64tab"], apart := false, laid := [("math/bits.deBruijn32tab", laid_math_bits_deBruijn32tab), ("math/bits.deBruijn64tab", laid_math_bits_deBruijn64tab), ("internal/strconv.uint64pow10", laid_internal_strconv_uint64pow10), ("strconv.ErrRange", laid_strconv_ErrRange), ("strconv.ErrSyntax", laid_strconv_ErrSyntax)], narrowed := true }
def ReaderAllUptoSaid : Prop := readerAllUptoRow.holds Tryd.pinned (OpenSpec.upto readerAllSpec)

/-- 'pagodalaw02.ReaderJoins', WHERE WHAT IT READS IS OF BULK AT MOST 1048576: true; the input reads as it did. -/
def readerJoinsUptoRow : OpenClaim := { program := "ytenpjkcclmmlhaadoor", sum := "6c3f7341d890ddb94081790ff72e55ead68432d8d62b6edd58bb3f70d80fcd70", func := "pagoda/pagodalaw02.ReaderJoins", spec := "readerJoins", inPlace := ["internal/bytealg.IndexByteString", "internal/abi.NoEscape"], unfollowed := true, recurses := true, named := ["strconv.ErrSyntax", "strconv.ErrRange", "internal/strconv.uint64pow10", "math/bits.deBruijn32tab", "math/bits.deBruijn64tab"], apart := false, laid := [("math/bits.deBruijn32tab", laid_math_bits_deBruijn32tab), ("math/bits.deBruijn64tab", laid_math_bits_deBruijn64tab), ("internal/strconv.uint64pow10", laid_internal_strconv_uint64pow10), ("strconv.ErrRange", laid_strconv_ErrRange), ("strconv.ErrSyntax", laid_strconv_ErrSyntax)], narrowed := true }
def ReaderJoinsUptoSaid : Prop := readerJoinsUptoRow.holds Tryd.pinned (OpenSpec.upto readerJoinsSpec)

/-- 'pagodalaw02.ReaderBare', WHERE WHAT IT READS IS OF BULK AT MOST 1048576: true; the input reads as it did. -/
def readerBareUptoRow : OpenClaim := { program := "ytenpjkcclmmlhaadoor", sum := "6c3f7341d890ddb94081790ff72e55ead68432d8d62b6edd58bb3f70d80fcd70", func := "pagoda/pagodalaw02.ReaderBare", spec := "readerBare", inPlace := ["internal/bytealg.IndexByteString", "internal/abi.NoEscape"], unfollowed := true, recurses := true, named := ["strconv.ErrSyntax", "strconv.ErrRange", "internal/strconv.uint64pow10", "math/bits.deBruijn32tab", "math/bits.deBruijn64tab"], apart := false, laid := [("math/bits.deBruijn32tab", laid_math_bits_deBruijn32tab), ("math/bits.deBruijn64tab", laid_math_bits_deBruijn64tab), ("internal/strconv.uint64pow10", laid_internal_strconv_uint64pow10), ("strconv.ErrRange", laid_strconv_ErrRange), ("strconv.ErrSyntax", laid_strconv_ErrSyntax)], narrowed := true }
def ReaderBareUptoSaid : Prop := readerBareUptoRow.holds Tryd.pinned (OpenSpec.upto readerBareSpec)

/-- 'pagodalaw02.ReaderBlanks', WHERE WHAT IT READS IS OF BULK AT MOST 1048576: true; the input reads as it did. -/
def readerBlanksUptoRow : OpenClaim := { program := "ytenpjkcclmmlhaadoor", sum := "6c3f7341d890ddb94081790ff72e55ead68432d8d62b6edd58bb3f70d80fcd70", func := "pagoda/pagodalaw02.ReaderBlanks", spec := "readerBlanks", inPlace := ["internal/bytealg.IndexByteString", "internal/abi.NoEscape"], unfollowed := true, recurses := true, named := ["strconv.ErrSyntax", "strconv.ErrRange", "internal/strconv.uint64pow10", "math/bits.deBruijn32tab", "math/bits.deBruijn64tab"], apart := false, laid := [("math/bits.deBruijn32tab", laid_math_bits_deBruijn32tab), ("math/bits.deBruijn64tab", laid_math_bits_deBruijn64tab), ("internal/strconv.uint64pow10", laid_internal_strconv_uint64pow10), ("strconv.ErrRange", laid_strconv_ErrRange), ("strconv.ErrSyntax", laid_strconv_ErrSyntax)], narrowed := true }
def ReaderBlanksUptoSaid : Prop := readerBlanksUptoRow.holds Tryd.pinned (OpenSpec.upto readerBlanksSpec)

end Rows
end Go.Proofs.YtenpjkcclmmlhaaDoor
