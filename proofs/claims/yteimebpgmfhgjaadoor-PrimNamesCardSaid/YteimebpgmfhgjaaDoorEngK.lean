/- Abstract states (own engine), part K: small words for the seats' texts. -/
import Derived.Test.YteimebpgmfhgjaaDoorEngJ
namespace Go.AS
open Go.RowKit

theorem TD.ok_of {P : Program} {t : TypeId} {td : TD} {d : TypeDesc} (h : P.underlying t = some d) (hk : td.k.ok d)
    (hi : (P.info? t).map (fun i => (i.size, i.bytes, i.zero.map fun z => z.cells.toList.map cellOf)) = some (td.size, td.bytes, some td.zero)) : td.ok P t := by
  refine ⟨⟨d, h, hk⟩, ?_⟩
  cases hp : P.info? t with
  | none => rw [hp] at hi; cases hi
  | some i =>
    rw [hp] at hi
    simp only [Option.map_some, Option.some.injEq, Prod.mk.injEq] at hi
    obtain ⟨h1, h2, h3⟩ := hi
    cases hz : i.zero with
    | none => rw [hz] at h3; cases h3
    | some z =>
      rw [hz] at h3
      simp only [Option.map_some, Option.some.injEq] at h3
      exact ⟨i, z, rfl, h1, h2, hz, h3⟩
theorem lookup_ok {P : Program} : ∀ {l : List (Nat × TD)}, (∀ p ∈ l, p.2.ok P p.1) → ∀ t td, l.lookup t = some td → td.ok P t := by
  intro l
  induction l with
  | nil => intro _ t td h; simp at h
  | cons p l ih =>
    intro h t td hl
    obtain ⟨q, d⟩ := p
    rw [List.lookup_cons] at hl
    by_cases hq : t = q
    · subst hq
      simp at hl
      subst hl
      exact h _ List.mem_cons_self
    · have : (t == q) = false := by simpa using hq
      rw [this] at hl
      exact ih (fun p hp => h p (List.mem_cons_of_mem _ hp)) t td hl
end Go.AS
