/- Abstract states (own engine), part M: calls that see the boxes; rows that turn to what is only read; loops in rounds. -/
import Derived.Test.YteimebpgmfhgjaaDoorEngL
namespace Go.AS
open Go.RowKit
set_option linter.unusedVariables false
set_option linter.unusedSimpArgs false

section
variable {G : Prg} {C : Ctx} {Q : AEx → AS → Prop} {K : AS → Prop} {st : AS} {E : Env} {a : Act} {w w' : World}
/-- Behind a call that saw the boxes. -/
theorem Rel.called (hr : Rel G C E st a w) {E' : Env} {bx' : List Box} (hh : HRep G.Γ E' w' ⟨bx', []⟩) (hx : PExt st.h.bx.length { E with nr := 0 } w E' w') :
    Rel G C { E' with ρ := E.ρ, nr := E.nr, lo := E.lo } { st with h := ⟨bx', st.h.rw⟩ } a w' := by
  have hnb := hr.hp.nb
  have hβ : ∀ i, i < E.nb → E'.β i = E.β i := fun i hi => hx.β i (by omega)
  have hsz := hx.sz
  have him : ∀ k, E.im k → w'.heap[k]? = w.heap[k]? := fun k hk => hx.keep k (hr.hp.im_lt k hk) fun i hi => hr.hp.im_b k i (by omega) hk
  have mv : ∀ x v, VRep E w x v → VRep { E' with ρ := E.ρ, nr := E.nr, lo := E.lo } w' x v := fun x v hv => hv.move (by have := hx.more; simp only []; omega) (Nat.le_refl _) hβ (fun _ _ => rfl) hx.up him
  have hnr : E'.nr = 0 := hh.nr
  have mv' : ∀ x v, VRep E' w' x v → VRep { E' with ρ := E.ρ, nr := E.nr, lo := E.lo } w' x v := fun x v hv => hv.move (Nat.le_refl _) (by omega) (fun _ _ => rfl) (fun i hi => by omega) (fun _ h => h) (fun _ _ => rfl)
  have hown : ∀ (j : Nat) (s : Row) (k : Nat), st.h.rw[j]? = some (some s) → (E.ρ j).ownBlock = some k → k < w.heap.size ∧ w'.heap[k]? = w.heap[k]? := fun j s k hj hk => by
    obtain ⟨xs, ho, _⟩ := hr.hp.row j s hj
    have hlt := (ownsRow_lt ho hk).2
    exact ⟨hlt, hx.keep k hlt fun i hi he => hr.hp.brw i j s (by omega) hj (by rw [hk, ← he])⟩
  refine ⟨hr.defers, hr.size, hr.fr.move mv, ⟨hh.nb, hr.hp.nr, Nat.le_trans hr.hp.lo hsz, fun i b hb => ?_, fun j s hj => ?_, hh.inj, fun i j r s k hi hj => hr.hp.rinj i j r s k hi hj, fun i j r hi hj => ?_, hh.im_lt, hh.im_b, fun k j s hj hk => ?_, hh.gl⟩,
    hr.lo, ?_, fun i hi => ?_, fun i h1 h2 => ?_, fun k hk => hx.up k (hr.up k hk), fun k hk => ?_, fun k h1 h2 => ?_, hx.os.trans hr.os, hx.tape.trans hr.tape, hx.out.trans hr.out, Nat.le_trans hr.sz hsz⟩
  · obtain ⟨vs, h1, h2⟩ := hh.box i b hb
    exact ⟨vs, h1, h2.move mv'⟩
  · obtain ⟨xs, ho, hxs, h1⟩ := hr.hp.row j s hj
    exact ⟨xs, ownsRow_move ho fun k hk => (hown j s k hj hk).2, hxs.move hx.up him, h1⟩
  · intro hk
    have h1 := hown j r _ hj hk
    rcases Nat.lt_or_ge i E.nb with hlt | hge
    · exact hr.hp.brw i j r hlt hj (by rw [hk]; simp only []; rw [hβ i hlt])
    · have := hx.own i (by omega) hi
      simp only [] at h1
      omega
  · intro hc
    have h1 := hown j s k hj hc
    rcases hx.dn k hk with h2 | h2
    · exact hr.hp.im_r k j s hj h2 hc
    · omega
  · have h1 := hr.nb; have h2 := hx.more; simp only [] at h2 ⊢; omega
  · simp only []
    rw [hβ i (by have := hr.nb; omega)]
    exact hr.β i hi
  · simp only [] at h2 ⊢
    rcases Nat.lt_or_ge i E.nb with hlt | hge
    · rw [hβ i hlt]; exact hr.own i h1 hlt
    · have h3 := hx.own i (by omega) h2
      have h4 := hr.sz
      omega
  · rcases hx.dn k hk with h | h
    · exact hr.dn k h
    · exact .inr (Nat.le_trans hr.sz h)
  · refine (hx.keep k (Nat.lt_of_lt_of_le h1 hr.sz) fun i hi he => ?_).trans (hr.keep k h1 h2)
    rcases Nat.lt_or_ge i C.nb with hlt | hge
    · exact h2 i hlt (by rw [← hr.β i hlt]; exact he)
    · have := hr.own i hge (by omega)
      simp only [] at he
      omega
theorem callB_hyp (hr : Rel G C E st a w) (hbx : (st.h.bx.all fun b => scL st.h.bx.length b.cs) = true) : HRep G.Γ { E with nr := 0 } w ⟨st.h.bx, []⟩ :=
  ⟨hr.hp.nb, rfl, hr.hp.lo, fun i b hb => by
    obtain ⟨vs, hv, hvr⟩ := hr.hp.box i b hb
    have hsc := List.all_eq_true.1 hbx b (List.mem_of_getElem? hb)
    exact ⟨vs, hv, hvr.1, fun j x v hx hv' => (hvr.2 j x v hx hv').sc (scL_get hsc hx) (by simp [hr.hp.nb]) (fun _ _ => rfl) rfl⟩,
    fun i r h => by simp at h, hr.hp.inj, fun i j r s k h => by simp at h, fun i j r _ h => by simp at h, hr.hp.im_lt, hr.hp.im_b, fun k j r h => by simp at h, hr.hp.gl⟩
theorem SOp.callB {o : Oper} {c : Call} {f : FuncId} {fn : Func} {args : List PV} {R : Out → List Box → Prop} (ho : o.op = .call c) (ht : target st G.Γ c = some (f, args)) (hf : G.P.funcs[f]? = some fn) (hname : (fn.name == "runtime.NumGoroutine") = false) (hb : fn.body.isSome = true)
    (hargs : scL st.h.bx.length args = true) (hbx : (st.h.bx.all fun b => scL st.h.bx.length b.cs) = true) (hd : dstOk C.nt o.dst = true) (hc : PCalls G f args st.h.bx R)
    (h : ∀ r bx', R (.ret r) bx' → K (({ st with h := ⟨bx', st.h.rw⟩ } : AS).put o.dst r)) (hp : ∀ x bx', R (.pan x) bx' → Q (.panic x) { st with h := ⟨bx', st.h.rw⟩ }) : SOp G C o Q K st := fun E a w hr => by
  obtain ⟨vs, hrun, hvs⟩ := target_ok ho ht hf hname hb hr
  unfold Oper.wp
  rw [hrun]
  have hvs' : VReps { E with nr := 0 } w args vs := ⟨hvs.1, fun j x v hx hv => (hvs.2 j x v hx hv).sc (scL_get hargs hx) (by simp [hr.hp.nb]) (fun _ _ => rfl) rfl⟩
  refine (hc { E with nr := 0 } w vs (callB_hyp hr hbx) hvs').mono ?_
  rintro e w' ⟨out, bx', E', hR, ho', hh, hx⟩
  have hr2 := hr.called hh hx
  have hnr : E'.nr = 0 := hh.nr
  have mv' : ∀ x v, VRep E' w' x v → VRep { E' with ρ := E.ρ, nr := E.nr, lo := E.lo } w' x v := fun x v hv => hv.move (Nat.le_refl _) (by omega) (fun _ _ => rfl) (fun i hi => by omega) (fun _ h => h) (fun _ _ => rfl)
  cases out with
  | ret r =>
    obtain ⟨v, rfl, hv⟩ := ho'
    exact ⟨_, _, h r bx' hR, hr2.put hd (mv' _ _ hv)⟩
  | pan x =>
    obtain ⟨v, rfl, hv⟩ := ho'
    exact ⟨.panic x, _, _, hp x bx' hR, ⟨v, rfl, mv' _ _ hv⟩, hr2⟩

/-- Rows that are only read from here on. -/
def frz : List Nat → AS → AS
  | [], s => s
  | r :: rs, s => match s.h.rw[r]? with
    | some (some x) => frz rs (s.freeze r x)
    | _ => frz rs s
theorem Rel.frz {rs : List Nat} : ∀ {st : AS} {E : Env}, Rel G C E st a w → ∃ E', Rel G C E' (frz rs st) a w := by
  induction rs with
  | nil => intro st E h; exact ⟨E, h⟩
  | cons r rs ih =>
    intro st E h
    simp only [AS.frz]
    split
    · rename_i x hx
      obtain ⟨E', h'⟩ := h.freeze hx
      exact ih h'
    · exact ih h
theorem SOp.frz {o : Oper} (rs : List Nat) (h : SOp G C o Q K (frz rs st)) : SOp G C o Q K st := fun E a w hr => by
  obtain ⟨E', hr'⟩ := hr.frz (rs := rs)
  exact h E' a w hr'
theorem SOpG.frz {o : Oper} (rs : List Nat) (h : SOpG G C o Q K (frz rs st)) : SOpG G C o Q K st := fun E a w hr => by
  obtain ⟨E', hr'⟩ := hr.frz (rs := rs)
  exact h E' a w hr'
def AS.adopt (st : AS) (s : Nat) (ty : TypeId) (sz : Nat) : AS := ⟨adoptT s st.h.rw.length st.t, ⟨st.h.bx, st.h.rw ++ [some ⟨[], 0, ty, sz⟩]⟩⟩
theorem SOp.adopt {o : Oper} (s : Nat) (ty : TypeId) (sz : Nat) (hs : lk st.t s = .nil) (h : SOp G C o Q K (st.adopt s ty sz)) : SOp G C o Q K st := fun E a w hr => by
  obtain ⟨E', hr'⟩ := hr.adopt hs ty sz
  exact h E' a w hr'
/-- At an end, all rows. -/
def frzAll (s : AS) : AS := frz (List.range s.h.rw.length) s
def frzQ (Q : AEx → AS → Prop) : AEx → AS → Prop
  | .panic x, s => Q (.panic x) s
  | e, s => Q e (frzAll s)
theorem SWP.frzAll {c : Code} (h : SWP G C c (frzQ Q) st) : SWP G C c Q st := fun E a w hr =>
  wp_mono (h E a w hr) fun e a w ⟨ae, s, E', q, x, r⟩ => by
    cases ae with
    | panic y => exact ⟨_, _, _, q, x, r⟩
    | normal => obtain ⟨E2, r2⟩ := r.frz (rs := List.range s.h.rw.length); exact ⟨.normal, _, E2, q, x, r2⟩
    | ret => obtain ⟨E2, r2⟩ := r.frz (rs := List.range s.h.rw.length); exact ⟨.ret, _, E2, q, x, r2⟩
    | exit i => obtain ⟨E2, r2⟩ := r.frz (rs := List.range s.h.rw.length); exact ⟨.exit i, _, E2, q, x, r2⟩

/-- A loop that comes to an end after so many rounds at most. -/
def SRounds (G : Prg) (C : Ctx) (c : Code) (Q : AEx → AS → Prop) : Nat → AS → Prop
  | 0, _ => False
  | n + 1, s => SWP G C c (thenQ (SRounds G C c Q n) Q) s
theorem SRounds.loop {c : Code} {n : Nat} (h : SRounds G C c Q n st) : SWP G C (.loop c) Q st := by
  refine .loop (fun m s => SRounds G C c Q m s) id n h fun m s hs => ?_
  cases m with
  | zero => exact hs.elim
  | succ m =>
    refine SWP.mono hs fun e s q => ?_
    cases e with
    | normal => exact ⟨m, q, Nat.lt_succ_self m⟩
    | exit i => exact q
    | ret => exact q
    | panic x => exact q
end
end Go.AS
