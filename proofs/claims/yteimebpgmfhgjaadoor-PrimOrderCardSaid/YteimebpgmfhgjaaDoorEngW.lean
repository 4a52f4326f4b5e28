/- Abstract states (own engine), part W: in a region that draws its order, what hangs on no world. -/
import Derived.Test.YteimebpgmfhgjaaDoorEngV
namespace Go.AS
open Go.RowKit
set_option linter.unusedVariables false
set_option linter.unusedSimpArgs false
section
variable {P : Program} {ops : Array Oper} {Q : Exit → Act → World → Prop} {ds : List Nat}
theorem wpG_free {i : Nat} {oi : Oper} {v : Value} (hi : ops[i]? = some oi) (hsel : ∀ (j : Nat) (o : Oper) cs b, ops[j]? = some o → o.op ≠ .select cs b)
    (hQ : ∀ c a w, Q (.panic c) (a.put oi.dst v) w → Q (.panic c) a w) :
    ∀ (fuel : Nat) (l : Array Bool) (a : Act) (w : World),
      (∀ j oj, ops[j]? = some oj → j ≠ i → l.getD j true = false → (∀ e ∈ oj.after, Region.binds .any e = true → e.on ≠ i) → oi.apart ops oj = true) →
      i ∈ Region.ready .any ops l → YieldsIf P ops (fun _ => True) oi v a →
      wpG P ops Q ds fuel (l.setIfInBounds i true) (a.put oi.dst v) w → wpG P ops Q ds (fuel + 1) l a w := by
  intro fuel
  induction fuel with
  | zero =>
    intro l a w _ hr hy H
    refine ⟨fun h => (by rw [h] at hr; cases hr), fun j hj => ?_⟩
    by_cases hji : j = i
    · subst hji; exact hy.wpOp hi trivial ⟨fun _ => ⟨Gr.refl w, Nat.le_refl _⟩, H⟩
    · have := ready_mono hj hji
      rw [H.1] at this
      cases this
  | succ fuel ih =>
    intro l a w hfree hr hy H
    refine ⟨fun h => (by rw [h] at hr; cases hr), fun j hj => ?_⟩
    by_cases hji : j = i
    · subst hji; exact hy.wpOp hi trivial ⟨fun _ => ⟨Gr.refl w, Nat.le_refl _⟩, H⟩
    · have h1 := H.2 j (ready_mono hj hji)
      obtain ⟨hjun, oj, hoj, hall⟩ := mem_ready.1 hj
      have hiun := (mem_ready.1 hr).1
      have hif := getD_listed hiun
      have hnot : ∀ e ∈ oj.after, Region.binds .any e = true → e.on ≠ i := fun e he hb heq => by
        have h1 := hall e he hb
        rw [heq, hif] at h1
        cases h1
      have h2 := wpOp_putIf hoj (hfree j oj hoj hji hjun hnot) (fun cs b => hsel i oi cs b hi) (fun cs b => hsel j oj cs b hoj) hQ hy h1
      have un : ∀ k, (l.setIfInBounds j true).getD k true = false → l.getD k true = false := fun k hun => by
        by_cases hjk : j = k
        · subst hjk; exact hjun
        · rw [getD_set_of hjk] at hun; exact hun
      refine wpOp_mono (fun a' w' h3 => ⟨h3.2.1, ih (l.setIfInBounds j true) a' w' (fun k ok hk hki hun hno => hfree k ok hk hki (un k hun) hno) (ready_mono hr (Ne.symm hji)) h3.1 ?_⟩) h2
      rw [Array.setIfInBounds_comm _ _ hji]
      exact h3.2.2
end
/-- What hangs on no world. -/
def mval (G : Prg) (st : AS) : Op → Option PV
  | .move x | .assign x => some (st.ev G.Γ x)
  | _ => none
def freeOk (ops : Array Oper) (l l' : Array Bool) (i : Nat) : Bool := Region.noSelect ops && Region.free .any ops l i && (Region.ready .any ops l).contains i && (l.setIfInBounds i true == l')
theorem SAny.free {G : Prg} {C : Ctx} {Q : AEx → AS → Prop} {st : AS} {ops : Array Oper} {ds : List Nat} {n : Nat} {i : Nat} {o : Oper} {l l' : Array Bool} {x : PV} (hi : ops[i]? = some o) (hg : o.guard = none) (hx : mval G st o.op = some x) (hd : dstOk C.nt o.dst = true) (hc : freeOk ops l l' i = true)
    (hQ : PanicT Q) (h : SAny G C ops Q ds n l' (st.put o.dst x)) : SAny G C ops Q ds (n + 1) l st := fun E a w hr => by
  have key : ∃ v, YieldsIf G.P ops (fun _ => True) o v a ∧ VRep E w x v := by
    unfold mval at hx
    split at hx
    · rename_i y ho
      cases hx
      exact ⟨a.eval y, .inl ⟨by simp [Region.wanted, hg], fun w' _ => by simp [execOp, ho]⟩, ev_rep hr.fr hr.hp y⟩
    · rename_i y ho
      cases hx
      exact ⟨a.eval y, .inl ⟨by simp [Region.wanted, hg], fun w' _ => by simp [execOp, ho]⟩, ev_rep hr.fr hr.hp y⟩
    · cases hx
  obtain ⟨v, hy, hv⟩ := key
  simp only [freeOk, Bool.and_eq_true, beq_iff_eq] at hc
  obtain ⟨⟨⟨h1, h2⟩, h3⟩, rfl⟩ := hc
  exact wpG_free hi (Region.noSelect_spec h1) (fun c a w => hQ.put o.dst v c a w) n l a w (Region.free_spec hi h2) (by simpa using h3) hy (h E _ w (hr.put hd hv))
end Go.AS
