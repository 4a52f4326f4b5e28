/- Sums, products, differences: what 'number' gives. -/
import Derived.Test.YteimebpgmfhgjaaDoorBase
namespace Go.Proofs.YteimebpgmfhgjaaDoor
open Go.AS
set_option linter.unusedVariables false
set_option linter.unusedSimpArgs false
set_option maxRecDepth 100000
namespace Seat
theorem alive : Pure G0 15 [] (fun r => r = .bool true) := Pure.run (S := S0) 400 (by kernel_rfl)
theorem num_add (a b : Int) : Pure G0 21 [.str ⟨#[43]⟩, .slice 2 [.int .i64 a, .int .i64 b]] (fun r => r = .tup [.int .i64 (IntKind.i64.wrap (a + b)), .bool true]) := Pure.run (S := S0) 400 (by kernel_rfl)
theorem num_sub (a b : Int) : Pure G0 21 [.str ⟨#[45]⟩, .slice 2 [.int .i64 a, .int .i64 b]] (fun r => r = .tup [.int .i64 (IntKind.i64.wrap (a - b)), .bool true]) := Pure.run (S := S0) 400 (by kernel_rfl)
theorem num_mul (a b : Int) : Pure G0 21 [.str ⟨#[42]⟩, .slice 2 [.int .i64 a, .int .i64 b]] (fun r => r = .tup [.int .i64 (IntKind.i64.wrap (a * b)), .bool true]) := Pure.run (S := S0) 400 (by kernel_rfl)
end Seat
end Go.Proofs.YteimebpgmfhgjaaDoor
