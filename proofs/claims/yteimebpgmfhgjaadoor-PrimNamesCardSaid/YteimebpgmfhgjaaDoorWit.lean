/- A world that holds the seat's tables: for the witnesses. Printed by gen.py (this session's). -/
import Derived.Test.YteimebpgmfhgjaaDoorBase
import Derived.Deep.DeepWitnessRowRef
namespace Go.Proofs.YteimebpgmfhgjaaDoor
open Go.ChangeShapes Go.WideShapes Go.ChangeAt Go.RowKit
set_option linter.unusedVariables false
set_option maxRecDepth 100000
namespace Seat
def putG (h : Array Obj) (g : Nat) (cs : Array Value) : Array Obj := h.modify g fun
  | .cells _ t frozen => .cells cs t frozen
  | o => o
noncomputable def laidWorld (os : Os) : World :=
  let w0 := World.holding Tryd.prog os ⟨#[.cells #[.string ⟨#[43]⟩, .int .i64 2, .string ⟨#[45]⟩, .int .i64 2, .string ⟨#[42]⟩, .int .i64 2, .string ⟨#[113, 117, 111, 116]⟩, .int .i64 2, .string ⟨#[114, 101, 109]⟩, .int .i64 2, .string ⟨#[60]⟩, .int .i64 2, .string ⟨#[61]⟩, .int .i64 2, .string ⟨#[99, 111, 110, 115]⟩, .int .i64 2, .string ⟨#[102, 105, 114, 115, 116]⟩, .int .i64 1, .string ⟨#[114, 101, 115, 116]⟩, .int .i64 1, .string ⟨#[99, 111, 117, 110, 116]⟩, .int .i64 1, .string ⟨#[108, 105, 115, 116, 63]⟩, .int .i64 1, .string ⟨#[110, 117, 109, 63]⟩, .int .i64 1, .string ⟨#[115, 121, 109, 63]⟩, .int .i64 1, .string ⟨#[109, 97, 114, 107]⟩, .int .i64 2, .string ⟨#[115, 116, 111, 112]⟩, .int .i64 1] 76], #[], []⟩
  { w0 with heap := putG (putG (putG (putG (w0.heap) 3 #[.int .u8 0, .int .u8 1, .int .u8 28, .int .u8 2, .int .u8 29, .int .u8 14, .int .u8 24, .int .u8 3, .int .u8 30, .int .u8 22, .int .u8 20, .int .u8 15, .int .u8 25, .int .u8 17, .int .u8 4, .int .u8 8, .int .u8 31, .int .u8 27, .int .u8 13, .int .u8 23, .int .u8 21, .int .u8 19, .int .u8 16, .int .u8 7, .int .u8 26, .int .u8 12, .int .u8 18, .int .u8 6, .int .u8 11, .int .u8 5, .int .u8 10, .int .u8 9]) 4 #[.int .u8 0, .int .u8 1, .int .u8 56, .int .u8 2, .int .u8 57, .int .u8 49, .int .u8 28, .int .u8 3, .int .u8 61, .int .u8 58, .int .u8 42, .int .u8 50, .int .u8 38, .int .u8 29, .int .u8 17, .int .u8 4, .int .u8 62, .int .u8 47, .int .u8 59, .int .u8 36, .int .u8 45, .int .u8 43, .int .u8 51, .int .u8 22, .int .u8 53, .int .u8 39, .int .u8 33, .int .u8 30, .int .u8 24, .int .u8 18, .int .u8 12, .int .u8 5, .int .u8 63, .int .u8 55, .int .u8 48, .int .u8 27, .int .u8 60, .int .u8 41, .int .u8 37, .int .u8 16, .int .u8 46, .int .u8 35, .int .u8 44, .int .u8 21, .int .u8 52, .int .u8 32, .int .u8 23, .int .u8 11, .int .u8 54, .int .u8 26, .int .u8 40, .int .u8 15, .int .u8 34, .int .u8 20, .int .u8 31, .int .u8 10, .int .u8 25, .int .u8 14, .int .u8 19, .int .u8 9, .int .u8 13, .int .u8 8, .int .u8 7, .int .u8 6]) 1 #[.int .u64 1, .int .u64 10, .int .u64 100, .int .u64 1000, .int .u64 10000, .int .u64 100000, .int .u64 1000000, .int .u64 10000000, .int .u64 100000000, .int .u64 1000000000, .int .u64 10000000000, .int .u64 100000000000, .int .u64 1000000000000, .int .u64 10000000000000, .int .u64 100000000000000, .int .u64 1000000000000000, .int .u64 10000000000000000, .int .u64 100000000000000000, .int .u64 1000000000000000000, .int .u64 10000000000000000000]) 0 #[.slice (some ⟨(World.settled Tryd.prog os).heap.size + 0, 0, none⟩) 16 16] }
theorem laid_met (os : Os) (args : Array Value) : laidMet Tryd.prog Rows.primDoesRow.laid ((laidWorld os).forCall (fun _ _ => 0) ⟨#[], args, []⟩).memory :=
  laidMet_of_run' 9 (by kernel_rfl) (by kernel_rfl)
theorem own : ownKnob Tryd.prog.godebug = none := by kernel_rfl
end Seat
end Go.Proofs.YteimebpgmfhgjaaDoor
