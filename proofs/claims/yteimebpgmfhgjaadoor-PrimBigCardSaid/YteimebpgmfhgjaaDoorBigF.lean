/- PrimBig's arguments: two bytes. -/
import Derived.Test.YteimebpgmfhgjaaDoorWit
import Derived.Test.YteimebpgmfhgjaaDoorEng1
namespace Go.Proofs.YteimebpgmfhgjaaDoor.Seat
open Go.ChangeShapes Go.WideShapes Go.ChangeAt Go.RowKit Go.AS
set_option linter.unusedVariables false
set_option maxRecDepth 100000
def flatBT (t : TypeId) : Prop := t = 5
theorem flatB : Flat Tryd.prog flatBT := ⟨fun t ht => by
  obtain rfl := ht
  exact .inr (.inl ⟨_, Tryd.underlying5⟩)⟩
theorem range8 {a : Int} (h : (Lit.int .u8 a).wf = true) : 0 ≤ a ∧ a ≤ 255 := by
  simpa [Lit.wf, IntKind.min, IntKind.max, IntKind.signed, IntKind.bits] using h
end Go.Proofs.YteimebpgmfhgjaaDoor.Seat
