/- A drawn region where it is told which operations may write. -/
import Derived.Test.YteimebpgmfhgjaaDoorList3
namespace Go.AS
section
variable {G : Prg}
/-- A drawn region's ends, of these slots; ds: what may write. -/
noncomputable def runPD (S : Cfg G) (ds : List Nat) (k nt : Nat) (ops : Array Oper) (st : AS) (sl : List Nat) : Option Outs := match runL S (run S k) nt ops ds ops.size (Array.replicate ops.size false) st with
  | some (l, o) => some (l.map (nrm sl), o)
  | none => none
variable {C : Ctx} {Q : AEx → AS → Prop} {st : AS}
theorem SWP.runDQ {id : Nat} {ops : Array Oper} (S : Cfg G) (ds : List Nat) (k nt : Nat) (hnt : C.nt = nt) (sl : List Nat) {l : List AS} {o : Ob} (h : runPD S ds k nt ops st sl = some (l, o)) (ho : okO o) (hK : ∀ s, nrm sl s ∈ l → Q .normal s) : SWP G C (.region id ops true) Q st := by
  unfold runPD at h
  split at h
  · rename_i l' o' hr
    cases h
    subst hnt
    have h1 : SWP G C (.region id ops true) (fun e s => e = .normal ∧ s ∈ l') st := .draw _ _ rfl (runL_ok (run_ok S k) (fun x t ⟨h, _⟩ => by cases h) _ _ _ _ hr ho fun s hs => ⟨rfl, hs⟩)
    exact h1.mono fun e s ⟨he, hs⟩ => by subst he; exact hK s (List.mem_map.2 ⟨s, hs, rfl⟩)
  · cases h
end
end Go.AS
namespace Go.AS
section
variable {G : Prg} {C : Ctx} {Q : AEx → AS → Prop}
theorem fa_nil {α : Type} {p : α → Prop} : ∀ x ∈ ([] : List α), p x := fun _ h => by cases h
theorem fa_cons {α : Type} {p : α → Prop} {a : α} {l : List α} (h : p a) (t : ∀ x ∈ l, p x) : ∀ x ∈ a :: l, p x := List.forall_mem_cons.2 ⟨h, t⟩
/-- Two boxes came in one order or in the other. -/
theorem SWP.either {c : Code} {st z z' : AS} (i j : Nat) (two : st = z ∨ st = z') (hi : C.nb ≤ i) (hj : C.nb ≤ j) (hi2 : i < z'.h.bx.length) (hj2 : j < z'.h.bx.length) (hz : z'.swap i j = z) (h : SWP G C c Q z) : SWP G C c Q st := by
  rcases two with rfl | rfl
  · exact h
  · exact SWP.swap i j hi hj hi2 hj2 (by rw [hz]; exact h)
end
end Go.AS
