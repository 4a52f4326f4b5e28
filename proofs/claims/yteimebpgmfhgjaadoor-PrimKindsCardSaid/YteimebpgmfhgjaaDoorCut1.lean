/- room.cut: the law that the interpreter takes. -/
import Derived.Test.YteimebpgmfhgjaaDoorCut0
namespace Go.Proofs.YteimebpgmfhgjaaDoor
open Go.AS
set_option linter.unusedVariables false
set_option linter.unusedSimpArgs false
set_option maxRecDepth 100000
namespace Seat
def room (n : Int) : Box := ⟨[.int .i64 n], 72⟩
/-- Law of room.cut, of data of less than N. -/
def CutAt (N : Nat) : Prop := ∀ d : Dat, d.size < N → d.ok → ∀ deep left : Int, 1 ≤ deep → deep ≤ 4611686018427387904 → 1 ≤ left → left ≤ 1000000 → PCalls G0 44 [.ptr 0 0, .agg d.cells, .int .i64 deep] [room left] (fun o b => o = .ret (.agg (cutD d deep left).1.cells) ∧ b = [room (cutD d deep left).2])
noncomputable def cutB (N : Nat) (f : Nat) (args : List PV) (x : Box) : Option (PV × Box × Ob) := match f, args, x with
  | 44, [.ptr 0 0, .agg cs, .int .i64 deep], ⟨[.int .i64 left], 72⟩ => some (.agg (ofCells (fun d => (cutD d deep left).1.cells) [] cs), room (ofCells (fun d => (cutD d deep left).2) 0 cs), [(isDat N cs, true), (decide (1 ≤ deep ∧ deep ≤ 4611686018427387904 ∧ 1 ≤ left ∧ left ≤ 1000000), true)])
  | _, _, _ => none
theorem cutB_ok {N : Nat} (ih : CutAt N) : ∀ f xs x r x' o, cutB N f xs x = some (r, x', o) → (∀ p ∈ o, p.1 = p.2) → PCalls G0 f xs [x] (fun o' b' => o' = .ret r ∧ b' = [x']) ∧ r.sc 0 = true ∧ scL 0 x.cs = true ∧ scL 0 x'.cs = true := by
  intro f args x r b o h ho
  unfold cutB at h
  split at h
  · rename_i cs deep left
    cases h
    obtain ⟨d, rfl, h1, h2⟩ := isDat_of (ho _ (List.mem_cons_self ..))
    have h3 : 1 ≤ deep ∧ deep ≤ 4611686018427387904 ∧ 1 ≤ left ∧ left ≤ 1000000 := of_decide_eq_true (ho (decide _, true) (List.mem_cons_of_mem _ (List.mem_cons_self ..)))
    simp only [ofCells_at]
    refine ⟨ih d h1 h2 deep left h3.1 h3.2.1 h3.2.2.1 h3.2.2.2, ?_, rfl, rfl⟩
    cases (cutD d deep left).1; rfl
  · cases h
noncomputable def SC {N : Nat} (ih : CutAt N) (l : List (Nat × List (Nat × Bool))) (v : List (Nat × List (Nat × PV))) : Cfg G0 := { F := F, hF := hF, S := fun _ _ => none, hS := fun _ _ _ _ h => (by cases h), orc := orcM l, val := valM v, B := cutB N, hB := cutB_ok ih, D := fun f => Nat.beq f 44 }
end Seat
end Go.Proofs.YteimebpgmfhgjaaDoor
