/- Abstract states (own engine), part X: a call that is given some of the boxes, under other numbers. -/
import Derived.Test.YteimebpgmfhgjaaDoorEngV
namespace Go.AS
open Go.RowKit
set_option linter.unusedVariables false
set_option linter.unusedSimpArgs false
section
variable {G : Prg} {C : Ctx} {Q : AEx → AS → Prop} {K : AS → Prop} {st : AS}
/-- A call that is given boxes, run. -/
noncomputable def callX (S : Cfg G) (n : Nat) (f : Nat) (args : List PV) (bx : List Box) : Option (PV × List Box × Ob) := match run S n (.call f args bx) with
  | some (_, ⟨(_, r) :: _, ⟨b, _⟩⟩, o) => some (r, b, o)
  | _ => none
theorem PCalls.run {S : Cfg G} (n : Nat) {f : Nat} {args : List PV} {bx b : List Box} {r : PV} {o : Ob} (h : callX S n f args bx = some (r, b, o)) (ho : okO o) : PCalls G f args bx (fun o' b' => o' = .ret r ∧ b' = b) := by
  unfold callX at h
  split at h
  · rename_i e k r' tl b' rw o' hrec
    cases h
    obtain ⟨k', r', tl', bx', rw', he, hc⟩ := run_ok S n _ _ _ _ hrec ho
    cases he
    exact hc
  · cases h
/-- Either of two, the second of ds. -/
theorem SAny.twoL {ops : Array Oper} {ds : List Nat} {n : Nat} {i j : Nat} {oi oj : Oper} {l : Array Bool} (li lj : Array Bool) (hi : ops[i]? = some oi) (hj : ops[j]? = some oj) (hgi : oi.guard = none) (hgj : oj.guard = none) (hc : readyOk ops l [(i, li), (j, lj)] = true) (hjd : decide (j ∈ ds) = true)
    (h1 : SOpG G C oi Q (SAny G C ops Q ds n li) st) (h2 : SOp G C oj Q (SAny G C ops Q ds n lj) st) : SAny G C ops Q ds (n + 1) l st := fun E a w hr => by
  simp only [readyOk, Bool.and_eq_true, beq_iff_eq, List.map_cons, List.map_nil, List.all_cons, List.all_nil, and_true] at hc
  obtain ⟨h3, rfl, rfl⟩ := hc
  refine ⟨fun h0 => (by rw [h0] at h3; cases h3), fun k hk => ?_⟩
  rw [h3] at hk
  rcases (by simpa using hk : k = i ∨ k = j) with rfl | rfl
  · exact wpOp_plain hi hgi (Oper.wp_mono (fun a' w' ⟨hgr, s, E', k, r⟩ => ⟨fun _ => hgr, k E' a' w' r⟩) (h1 E a w hr))
  · exact wpOp_plain hj hgj (Oper.wp_mono (fun a' w' ⟨s, E', k, r⟩ => ⟨fun hn => absurd (of_decide_eq_true hjd) hn, k E' a' w' r⟩) (h2 E a w hr))
end
end Go.AS
