/- PrimOrder: the laws that its walk takes. -/
import Derived.Test.YteimebpgmfhgjaaDoorBase1
import Derived.Test.YteimebpgmfhgjaaDoorDatB
namespace Go.Proofs.YteimebpgmfhgjaaDoor
open Go.AS
set_option linter.unusedVariables false
set_option linter.unusedSimpArgs false
set_option maxRecDepth 100000
namespace Seat
theorem num_lt (a b : Int) : Pure G0 21 [.str ⟨#[60]⟩, .slice 2 [.int .i64 a, .int .i64 b]] (fun r => r = .tup [.int .i64 (bif decide (a < b) then 1 else 0), .bool true]) := by
  cases h : decide (a < b) with
  | true => exact Pure.runO (S := { S0 with orc := orcM [(4, [(3, true)])] }) 400 (o := [(decide (a < b), true), (true, true)]) (by kernel_rfl) (okO_cons h (okO_cons rfl okO_nil))
  | false => exact Pure.runO (S := { S0 with orc := orcM [(4, [(3, false)])] }) 400 (o := [(decide (a < b), false), (false, false)]) (by kernel_rfl) (okO_cons h (okO_cons rfl okO_nil))
noncomputable def ordS (f : Nat) (args : List PV) : Option (PV × Ob) := match lawS f args with
  | some r => some r
  | none => match f, args with
    | 21, [.str ⟨⟨[60]⟩⟩, .slice 2 [.int .i64 a, .int .i64 b]] => some (.tup [.int .i64 (bif decide (a < b) then 1 else 0), .bool true], [])
    | 26, [.agg a, .agg b] => some (.bool (ofCells2 eqD false a b), [(isOk a, true), (isOk b, true)])
    | _, _ => none
theorem ordS_ok (f : Nat) (args : List PV) (r : PV) (o : Ob) (h : ordS f args = some (r, o)) (ho : ∀ p ∈ o, p.1 = p.2) (hpu : pureL args = true) : Pure G0 f args (fun x => x = r) := by
  unfold ordS at h
  split at h
  · rename_i r' hl
    cases h
    exact lawS_ok f args r o hl ho hpu
  · clear hpu
    split at h
    · cases h; exact num_lt _ _
    · rename_i a b _
      cases h
      obtain ⟨d, rfl, h1⟩ := isOk_of (ho (isOk a, true) (List.mem_cons_self ..))
      obtain ⟨e, rfl, h2⟩ := isOk_of (ho (isOk b, true) (List.mem_cons_of_mem _ (List.mem_cons_self ..)))
      rw [ofCells2_at]
      exact equal_ok d e h1 h2
    · cases h
noncomputable def SO (l : List (Nat × List (Nat × Bool))) (v : List (Nat × List (Nat × PV))) : Cfg G0 := { F := F, hF := hF, S := ordS, hS := ordS_ok, orc := orcM l, val := valM v }
end Seat
end Go.Proofs.YteimebpgmfhgjaaDoor
