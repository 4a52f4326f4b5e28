/- Abstract states (own engine), part F: states and runs; code; plain operations. -/
import Derived.Test.YteimebpgmfhgjaaDoorEngE
import Derived.Scope
import Derived.Deep.LoopGhost
namespace Go.AS
open Go.RowKit
set_option linter.unusedVariables false
set_option linter.unusedSimpArgs false

structure Ctx where
  w0 : World
  E0 : Env
  nb : Nat
  nt : Nat
  lo : Nat
  wr : Nat → Prop
/-- A function that is handed no rows. -/
@[reducible] def Ctx.of (w0 : World) (E0 : Env) (nb nt : Nat) : Ctx := ⟨w0, E0, nb, nt, w0.heap.size, fun _ => False⟩

structure Rel (G : Prg) (C : Ctx) (E : Env) (st : AS) (a : Act) (w : World) : Prop where
  defers : a.defers = []
  size : a.tmps.size = C.nt
  fr : FRep E w st.t a.tmps
  hp : HRep G.Γ E w st.h
  lo : E.lo = C.lo
  nb : C.nb ≤ E.nb
  β : ∀ i, i < C.nb → E.β i = C.E0.β i
  own : ∀ i, C.nb ≤ i → i < E.nb → C.w0.heap.size ≤ E.β i
  up : ∀ k, C.E0.im k → E.im k
  dn : ∀ k, E.im k → C.E0.im k ∨ C.w0.heap.size ≤ k ∨ C.wr k
  keep : ∀ k, k < C.w0.heap.size → (∀ i, i < C.nb → C.E0.β i ≠ k) → ¬ C.wr k → w.heap[k]? = C.w0.heap[k]?
  os : w.os = C.w0.os
  tape : w.tape = C.w0.tape
  out : w.output = C.w0.output
  sz : C.w0.heap.size ≤ w.heap.size
  rows : ∀ (j : Nat) (s : Row) (k : Nat), st.h.rw[j]? = some (some s) → (E.ρ j).ownBlock = some k → C.w0.heap.size ≤ k ∨ C.wr k

inductive AEx where
  | normal
  | exit (id : Nat)
  | ret
  | panic (x : PV)
def ExR (E : Env) (w : World) : AEx → Exit → Prop
  | .normal, e => e = .normal
  | .exit i, e => e = .exit i
  | .ret, e => e = .ret
  | .panic x, e => ∃ v, e = .panic [{ v, recovered := false }] ∧ VRep E w x v

def Post (G : Prg) (C : Ctx) (Q : AEx → AS → Prop) : Exit → Act → World → Prop := fun e a w => ∃ ae st E, Q ae st ∧ ExR E w ae e ∧ Rel G C E st a w
def SWP (G : Prg) (C : Ctx) (c : Code) (Q : AEx → AS → Prop) (st : AS) : Prop := ∀ E a w, Rel G C E st a w → c.wp G.P (Post G C Q) a w

section
variable {G : Prg} {C : Ctx} {Q Q' : AEx → AS → Prop} {st : AS}

theorem SWP.mono {c : Code} (h : SWP G C c Q st) (hq : ∀ e s, Q e s → Q' e s) : SWP G C c Q' st := fun E a w hr =>
  wp_mono (h E a w hr) fun e a w ⟨ae, s, E', q, x, r⟩ => ⟨ae, s, E', hq _ _ q, x, r⟩
theorem SWP.skip (h : Q .normal st) : SWP G C .skip Q st := fun E a w hr => wp_skip ⟨.normal, st, E, h, rfl, hr⟩
theorem SWP.label {l : Nat} (h : Q .normal st) : SWP G C (.label l) Q st := fun E a w hr => wp_label ⟨.normal, st, E, h, rfl, hr⟩
theorem SWP.exit {i : Nat} (h : Q (.exit i) st) : SWP G C (.exit i) Q st := fun E a w hr => wp_exit ⟨.exit i, st, E, h, rfl, hr⟩
theorem SWP.ret (h : Q .ret st) : SWP G C .ret Q st := fun E a w hr => wp_ret ⟨.ret, st, E, h, rfl, hr⟩
def thenQ (K : AS → Prop) (Q : AEx → AS → Prop) : AEx → AS → Prop
  | .normal, s => K s
  | e, s => Q e s
theorem SWP.seq {c d : Code} (h : SWP G C c (thenQ (SWP G C d Q) Q) st) : SWP G C (.seq c d) Q st := fun E a w hr =>
  wp_seq (wp_mono (h E a w hr) fun e a w ⟨ae, s, E', q, x, r⟩ => by
    cases ae with
    | normal => cases x; exact q E' a w r
    | exit i => cases x; exact ⟨.exit i, s, E', q, rfl, r⟩
    | ret => cases x; exact ⟨.ret, s, E', q, rfl, r⟩
    | panic y => obtain ⟨v, rfl, hv⟩ := x; exact ⟨.panic y, s, E', q, ⟨v, rfl, hv⟩, r⟩)
def blockQ (id : Nat) (Q : AEx → AS → Prop) : AEx → AS → Prop
  | .exit i, s => if i = id then Q .normal s else Q (.exit i) s
  | e, s => Q e s
theorem SWP.block {id : Nat} {c : Code} (h : SWP G C c (blockQ id Q) st) : SWP G C (.block id c) Q st := fun E a w hr =>
  wp_block (wp_mono (h E a w hr) fun e a w ⟨ae, s, E', q, x, r⟩ => by
    cases ae with
    | normal => cases x; exact ⟨.normal, s, E', q, rfl, r⟩
    | exit i =>
      cases x
      simp only [Exit.inBlock]
      simp only [blockQ] at q
      by_cases hi : i = id
      · rw [if_pos hi] at q ⊢; exact ⟨.normal, s, E', q, rfl, r⟩
      · rw [if_neg hi] at q ⊢; exact ⟨.exit i, s, E', q, rfl, r⟩
    | ret => cases x; exact ⟨.ret, s, E', q, rfl, r⟩
    | panic y => obtain ⟨v, rfl, hv⟩ := x; exact ⟨.panic y, s, E', q, ⟨v, rfl, hv⟩, r⟩)
theorem SWP.scope {c : Code} (h : SWP G C c Q st) : SWP G C (.scope c) Q st := fun E a w hr =>
  wp_scope_straight (wp_mono (h E a w hr) fun e a w ⟨ae, s, E', q, x, r⟩ => by
    cases ae with
    | normal => cases x; exact ⟨.normal, s, E', q, rfl, r⟩
    | exit i => cases x; exact ⟨.exit i, s, E', q, rfl, r⟩
    | ret => cases x; exact ⟨.ret, s, E', q, rfl, r⟩
    | panic y => obtain ⟨v, rfl, hv⟩ := x; exact ⟨.panic y, s, E', q, ⟨v, rfl, hv⟩, r⟩)
theorem SWP.cond {x : Operand} {c d : Code} {b : Bool} (hx : st.ev G.Γ x = .bool b) (ht : b = true → SWP G C c Q st) (hf : b = false → SWP G C d Q st) : SWP G C (.cond x c d) Q st := fun E a w hr => by
  have hv := ev_rep hr.fr hr.hp x
  rw [hx] at hv
  exact wp_cond_split hv.bool_inv (fun h => ht h E a w hr) (fun h => hf h E a w hr)
/-- A loop: what holds at its head is a family of states. -/
theorem SWP.loop {c : Code} {σ : Type} (I : σ → AS → Prop) (μ : σ → Nat) (x : σ) (h0 : I x st)
    (hr : ∀ x s, I x s → SWP G C c (thenQ (fun s' => ∃ y, I y s' ∧ μ y < μ x) Q) s) : SWP G C (.loop c) Q st := fun E a w hrel => by
  refine wp_loop_ghost (fun n a' w' => ∃ x s E, μ x = n ∧ I x s ∧ Rel G C E s a' w') (μ x) ⟨x, st, E, rfl, h0, hrel⟩ ?_
  rintro n a' w' ⟨x, s, E, rfl, hI, hrel⟩
  refine wp_mono (hr x s hI E a' w' hrel) fun e a w ⟨ae, s, E', q, ex, r⟩ => ?_
  cases ae with
  | normal =>
    cases ex
    obtain ⟨y, hy, hlt⟩ := q
    exact ⟨μ y, hlt, y, s, E', rfl, hy, r⟩
  | exit i => cases ex; exact ⟨.exit i, s, E', q, rfl, r⟩
  | ret => cases ex; exact ⟨.ret, s, E', q, rfl, r⟩
  | panic y => obtain ⟨v, rfl, hv⟩ := ex; exact ⟨.panic y, s, E', q, ⟨v, rfl, hv⟩, r⟩

/-! ### Operations -/
/-- A region's operations, one behind the other. -/
def SOps (G : Prg) (C : Ctx) (ops : Array Oper) (Q : AEx → AS → Prop) (l : List Oper) (st : AS) : Prop := ∀ E a w, Rel G C E st a w → wpList G.P ops (Post G C Q) l a w
/-- One operation: what is asked of the state behind it. -/
def SOp (G : Prg) (C : Ctx) (o : Oper) (Q : AEx → AS → Prop) (K : AS → Prop) (st : AS) : Prop :=
  ∀ E a w, Rel G C E st a w → o.wp G.P a w (fun a' w' => ∃ s E', K s ∧ Rel G C E' s a' w') (Post G C Q)

theorem SWP.region {id : Nat} {ops : Array Oper} (h : SOps G C ops Q ops.toList st) : SWP G C (.region id ops false) Q st := fun E a w hr => wp_region_list (h E a w hr)
theorem SOps.nil {ops : Array Oper} (h : Q .normal st) : SOps G C ops Q [] st := fun E a w hr => ⟨.normal, st, E, h, rfl, hr⟩
theorem SOps.cons {ops : Array Oper} {o : Oper} {l : List Oper} (hg : o.guard = none) (h : SOp G C o Q (SOps G C ops Q l) st) : SOps G C ops Q (o :: l) st := fun E a w hr =>
  wpList_plain hg fun K hK => Oper.wp_mono (fun a' w' ⟨s, E', k, r⟩ => hK a' w' (k E' a' w' r)) (h E a w hr)

/-- What is written to a slot: the slot is one of the frame's. -/
def dstOk (n : Nat) : Option Tmp → Bool
  | some d => decide (d < n)
  | none => true
theorem Rel.put {E : Env} {a : Act} {w : World} (hr : Rel G C E st a w) {d : Option Tmp} (hd : dstOk C.nt d = true) {x : PV} {v : Value} (hv : VRep E w x v) : Rel G C E (st.put d x) (a.put d v) w := by
  cases d with
  | none => exact hr
  | some d =>
    simp only [dstOk, decide_eq_true_eq] at hd
    exact ⟨hr.defers, by simp [Act.put, hr.size], hr.fr.put (by rw [hr.size]; exact hd) hv, hr.hp, hr.lo, hr.nb, hr.β, hr.own, hr.up, hr.dn, hr.keep, hr.os, hr.tape, hr.out, hr.sz, hr.rows⟩
theorem SOp.val {o : Oper} {K : AS → Prop} {x : PV} (hx : aval G st o.op = some x) (hd : dstOk C.nt o.dst = true) (h : K (st.put o.dst x)) : SOp G C o Q K st := fun E a w hr => by
  obtain ⟨v, hrun, hv⟩ := aval_ok hr.fr hr.hp hx
  unfold Oper.wp
  rw [hrun w (Gr.refl w)]
  exact ⟨_, E, h, hr.put hd hv⟩
theorem SOps.val {ops : Array Oper} {o : Oper} {l : List Oper} {x : PV} (hg : o.guard = none) (hx : aval G st o.op = some x) (hd : dstOk C.nt o.dst = true) (h : SOps G C ops Q l (st.put o.dst x)) : SOps G C ops Q (o :: l) st :=
  .cons hg (.val hx hd h)

/-- An operation behind a guard. -/
theorem SOps.guard {ops : Array Oper} {o : Oper} {l : List Oper} {j : Nat} {want b : Bool} {d : Tmp} (hg : o.guard = some (j, want)) (hj : (ops[j]?).bind (·.dst) = some d) (hb : lk st.t d = .bool b) (hd : dstOk C.nt o.dst = true)
    (h1 : b = want → SOp G C o Q (SOps G C ops Q l) st) (h2 : b = !want → SOps G C ops Q l (st.put o.dst und)) : SOps G C ops Q (o :: l) st := fun E a w hr =>
  wpList_step fun K hK => by
    have hv := hr.fr d
    rw [hb] at hv
    have hy : Region.wanted o (yielded ops a.tmps) = (b == want) := by
      simp only [Region.wanted, hg, yielded, hj]
      have := hv.bool_inv
      have hsz : a.tmps[d]? = some (.bool b) := by
        rw [Array.getD_eq_getD_getElem?] at this
        cases h : a.tmps[d]? with
        | none => rw [h] at this; simp [undef] at this
        | some v => rw [h] at this; simp at this; rw [this]
      simp [hsz]
    rw [hy]
    by_cases hbw : b = want
    · rw [if_pos (by simpa using hbw)]
      exact Oper.wp_mono (fun a' w' ⟨s, E', k, r⟩ => hK a' w' (k E' a' w' r)) (h1 hbw E a w hr)
    · rw [if_neg (by simpa using hbw)]
      exact hK _ _ (h2 (by cases b <;> cases want <;> simp_all) E _ w (hr.put hd (.und _ _)))
/-- An operation behind a guard that isn't wanted itself. -/
theorem SOps.guardU {ops : Array Oper} {o : Oper} {l : List Oper} {j : Nat} {want : Bool} {d : Tmp} (hg : o.guard = some (j, want)) (hj : (ops[j]?).bind (·.dst) = some d) (hb : lk st.t d = und) (hd : dstOk C.nt o.dst = true)
    (h : SOps G C ops Q l (st.put o.dst und)) : SOps G C ops Q (o :: l) st := fun E a w hr =>
  wpList_step fun K hK => by
    have hv := hr.fr d
    rw [hb] at hv
    have hu : a.tmps.getD d undef = undef := hv.und_inv
    have hy : Region.wanted o (yielded ops a.tmps) = false := by
      simp only [Region.wanted, hg, yielded, hj]
      rw [Array.getD_eq_getD_getElem?] at hu
      cases h : a.tmps[d]? with
      | none => simp [h]
      | some v => rw [h] at hu; simp at hu; subst hu; simp [h, undef]
    rw [hy]
    exact hK _ _ (h E _ w (hr.put hd (.und _ _)))
end
end Go.AS
