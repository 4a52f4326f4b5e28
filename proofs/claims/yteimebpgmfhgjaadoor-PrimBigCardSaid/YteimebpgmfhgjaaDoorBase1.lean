/- The laws that the seat's statements take: Cut, Check, alive. -/
import Derived.Test.YteimebpgmfhgjaaDoorDatC
namespace Go.Proofs.YteimebpgmfhgjaaDoor
open Go.AS
set_option linter.unusedVariables false
set_option linter.unusedSimpArgs false
set_option maxRecDepth 100000
namespace Seat
theorem alive : Pure G0 15 [] (fun r => r = .bool true) := Pure.run (S := S0) 400 (by kernel_rfl)
noncomputable def lawS (f : Nat) (args : List PV) : Option (PV × Ob) := match f, args with
  | 23, [.agg cs, .int .i64 p, .int .i64 dp] => some (.agg (ofCells (fun d => (cutD d dp p).1.cells) [] cs), [(isOk cs, true), (decide (1 ≤ dp ∧ dp ≤ 4611686018427387904 ∧ 1 ≤ p ∧ p ≤ 1000000), true)])
  | 24, [.agg cs] => some (.int .i64 (ofCells chkD 0 cs), [(isGood cs, true)])
  | 15, [] => some (.bool true, [])
  | _, _ => none
theorem lawS_ok (f : Nat) (args : List PV) (r : PV) (o : Ob) (h : lawS f args = some (r, o)) (ho : ∀ p ∈ o, p.1 = p.2) (_ : pureL args = true) : Pure G0 f args (fun x => x = r) := by
  unfold lawS at h
  split at h
  · cases h
    obtain ⟨d, rfl, h1⟩ := isOk_of (ho _ (List.mem_cons_self ..))
    rw [ofCells_at]
    exact cut_ok d h1 _ _ (of_decide_eq_true (ho (decide _, true) (List.mem_cons_of_mem _ (List.mem_cons_self ..))))
  · cases h
    obtain ⟨d, rfl, h1⟩ := isGood_of (ho _ (List.mem_singleton.2 rfl))
    rw [ofCells_at]; exact dcheck_ok d h1
  · cases h; exact alive
  · cases h
noncomputable def SL (l : List (Nat × List (Nat × Bool))) (v : List (Nat × List (Nat × PV))) : Cfg G0 := { F := F, hF := hF, S := lawS, hS := lawS_ok, orc := orcM l, val := valM v }
theorem runSeqN {C : Ctx} {st : AS} {n : AS → Prop} {xs : List (Nat × (AS → Prop))} {r : AS → Prop} {p : PV → AS → Prop} {id : Nat} {ops : Array Oper} {d : Code} (m : Nat) (S : Cfg G0) (k nt : Nat) (hnt : C.nt = nt) (sl : List Nat) {z : AS} {o : Ob} (h : runPL S k nt ops st sl = some (List.replicate m z, o)) (ho : okO o) (hd : SWP G0 C d (QT n xs r p) z) : SWP G0 C (.seq (.region id ops true) d) (QT n xs r p) st :=
  Q.runSeqL S k nt hnt sl h (by rw [List.length_replicate]) ho hd
end Seat
end Go.Proofs.YteimebpgmfhgjaaDoor
