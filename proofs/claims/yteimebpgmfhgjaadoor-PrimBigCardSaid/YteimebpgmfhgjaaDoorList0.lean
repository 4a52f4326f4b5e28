/- PrimLists, PrimBig: the laws that their walks take. -/
import Derived.Test.YteimebpgmfhgjaaDoorOrd0
import Derived.Test.YteimebpgmfhgjaaDoorClone1
namespace Go.Proofs.YteimebpgmfhgjaaDoor
open Go.AS
set_option linter.unusedVariables false
set_option linter.unusedSimpArgs false
set_option maxRecDepth 100000
namespace Seat
open Classical in
noncomputable def isSm (cs : List PV) : Bool := decide (∃ d : Dat, d.cells = cs ∧ smallD d)
theorem isSm_at {d : Dat} {cs : List PV} (e : d.cells = cs) (ho : smallD d) : isSm cs = true := by
  unfold isSm
  classical exact decide_eq_true ⟨d, e, ho⟩
theorem isSm_of {cs : List PV} (h : isSm cs = true) : ∃ d : Dat, d.cells = cs ∧ smallD d := by
  unfold isSm at h
  classical exact of_decide_eq_true h
noncomputable def listS (f : Nat) (args : List PV) : Option (PV × Ob) := match ordS f args with
  | some r => some r
  | none => match f, args with
    | 56, [.agg cs] => some (.agg cs, [(isSm cs, true)])
    | _, _ => none
theorem listS_ok (f : Nat) (args : List PV) (r : PV) (o : Ob) (h : listS f args = some (r, o)) (ho : ∀ p ∈ o, p.1 = p.2) (hpu : pureL args = true) : Pure G0 f args (fun x => x = r) := by
  unfold listS at h
  split at h
  · rename_i r' hl
    cases h
    exact ordS_ok f args r o hl ho hpu
  · clear hpu
    split at h
    · cases h
      obtain ⟨d, rfl, h1⟩ := isSm_of (ho _ (List.mem_singleton.2 rfl))
      exact clone_ok d h1
    · cases h
noncomputable def SLi (l : List (Nat × List (Nat × Bool))) (v : List (Nat × List (Nat × PV))) : Cfg G0 := { F := F, hF := hF, S := listS, hS := listS_ok, orc := orcM l, val := valM v }
end Seat
end Go.Proofs.YteimebpgmfhgjaaDoor
