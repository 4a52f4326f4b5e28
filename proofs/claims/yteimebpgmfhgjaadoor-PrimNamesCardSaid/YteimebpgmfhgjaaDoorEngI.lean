/- Abstract states (own engine), part I: functions' contracts: how one is proved, how one is used. -/
import Derived.Test.YteimebpgmfhgjaaDoorEngH
namespace Go.AS
open Go.RowKit
set_option linter.unusedVariables false
set_option linter.unusedSimpArgs false

/- References to the first m boxes alone. -/
mutual
def PV.sc (m : Nat) : PV → Bool
  | .own _ _ | .rpos _ _ => false
  | .ptr b _ => decide (b < m)
  | .bsl b _ _ => decide (b < m)
  | .func _ cap => scL m cap
  | .agg cs => scL m cs
  | .tup cs => scL m cs
  | .iface _ x => x.sc m
  | .int _ _ | .bool _ | .str _ | .slice _ _ | .nil | .epos _ | .nilptr | .nilfunc | .niliface | .junk => true
def scL (m : Nat) : List PV → Bool
  | [] => true
  | x :: xs => x.sc m && scL m xs
end
theorem scL_get {m : Nat} {xs : List PV} (h : scL m xs = true) {j : Nat} {x : PV} (hj : xs[j]? = some x) : x.sc m = true := by
  induction xs generalizing j with
  | nil => simp at hj
  | cons y ys ih =>
    simp only [scL, Bool.and_eq_true] at h
    cases j with
    | zero => simp at hj; subst hj; exact h.1
    | succ j => exact ih h.2 (by simpa using hj)
theorem VRep.sc {E E' : Env} {w : World} {x : PV} {v : Value} {m : Nat} (h : VRep E w x v) (hs : x.sc m = true) (hm : m ≤ E'.nb) (hβ : ∀ i, i < m → E'.β i = E.β i) (hi : E'.im = E.im) : VRep E' w x v := by
  induction h with
  | imm h => exact .imm (by rw [hi]; exact h)
  | own | rpos => simp [PV.sc] at hs
  | ptr o hb =>
    simp only [PV.sc, decide_eq_true_eq] at hs
    rw [← hβ _ hs]
    exact .ptr o (Nat.lt_of_lt_of_le hs hm)
  | bsl hb hn =>
    simp only [PV.sc, decide_eq_true_eq] at hs
    rw [← hβ _ hs]
    exact .bsl (Nat.lt_of_lt_of_le hs hm) hn
  | func hl _ ih => exact .func hl fun j x v hx hv => ih j x v hx hv (scL_get (by simpa [PV.sc] using hs) hx)
  | agg hl _ ih => exact .agg hl fun j x v hx hv => ih j x v hx hv (scL_get (by simpa [PV.sc] using hs) hx)
  | tup hl _ ih => exact .tup hl fun j x v hx hv => ih j x v hx hv (scL_get (by simpa [PV.sc] using hs) hx)
  | iface t _ ih => exact .iface t (ih (by simpa [PV.sc] using hs))
  | junk v => exact .junk v

inductive Out where
  | ret (r : PV)
  | pan (x : PV)
def OutR (E : Env) (w : World) : Out → Ending → Prop
  | .ret r, e => ∃ v, e = .returned v ∧ VRep E w r v
  | .pan x, e => ∃ v, e = .panicked [{ v, recovered := false }] ∧ VRep E w x v
structure PExt (nb : Nat) (E : Env) (w : World) (E' : Env) (w' : World) : Prop where
  sz : w.heap.size ≤ w'.heap.size
  os : w'.os = w.os
  tape : w'.tape = w.tape
  out : w'.output = w.output
  keep : ∀ k, k < w.heap.size → (∀ i, i < nb → E.β i ≠ k) → w'.heap[k]? = w.heap[k]?
  more : nb ≤ E'.nb
  β : ∀ i, i < nb → E'.β i = E.β i
  up : ∀ k, E.im k → E'.im k
  dn : ∀ k, E'.im k → E.im k ∨ w.heap.size ≤ k
  own : ∀ i, nb ≤ i → i < E'.nb → w.heap.size ≤ E'.β i

/-- What a function does: with these arguments and boxes it ends so, and the boxes are so. -/
def PCalls (G : Prg) (f : FuncId) (args : List PV) (bx : List Box) (R : Out → List Box → Prop) : Prop :=
  ∀ E w vs, HRep G.Γ E w ⟨bx, []⟩ → VReps E w args vs → Calls G.P f vs.toArray w fun e w' => ∃ o bx' E', R o bx' ∧ OutR E' w' o e ∧ HRep G.Γ E' w' ⟨bx', []⟩ ∧ PExt bx.length E w E' w'
theorem PCalls.mono {G : Prg} {f : FuncId} {args : List PV} {bx : List Box} {R R' : Out → List Box → Prop} (h : PCalls G f args bx R) (hr : ∀ o b, R o b → R' o b) : PCalls G f args bx R' := fun E w vs h1 h2 =>
  (h E w vs h1 h2).mono fun e w' ⟨o, b, E', r, rest⟩ => ⟨o, b, E', hr _ _ r, rest⟩
/-- A function that only computes. -/
def Pure (G : Prg) (f : FuncId) (args : List PV) (R : PV → Prop) : Prop := PCalls G f args [] fun o b => b = [] ∧ ∃ r, o = .ret r ∧ R r

def enum (i : Nat) : List PV → List (Nat × PV)
  | [] => []
  | x :: xs => (i, x) :: enum (i + 1) xs
theorem lk_enum {E : Env} {w : World} : ∀ (xs : List PV) (vs : List Value) (i n s : Nat), VReps E w xs vs → VRep E w (lk (enum i xs) s) ((vs ++ List.replicate n undef).getD (s - i) undef) ∨ s < i := by
  intro xs
  induction xs with
  | nil => intro vs i n s h; exact .inl (.junk _)
  | cons x xs ih =>
    intro vs i n s h
    obtain ⟨v, us, rfl, hv, hus⟩ := h.cons_inv
    simp only [enum, lk]
    by_cases hs : i = s
    · subst hs; rw [if_pos rfl]; left; simpa using hv
    · rw [if_neg hs]
      rcases Nat.lt_or_ge s i with hlt | hge
      · exact .inr hlt
      · rcases ih us (i + 1) n s hus with h | h
        · left
          have : s - i = (s - (i + 1)) + 1 := by omega
          rw [this]
          simpa using h
        · omega

/-- What the function gives back. -/
def AS.tmps (G : Prg) (st : AS) : List ResultVar → Option (List PV)
  | [] => some []
  | .tmp t :: r => (st.tmps G r).map (lk st.t t :: ·)
  | .cell a t :: r => match aload G st t (lk st.t a) with
    | some x => (st.tmps G r).map (x :: ·)
    | none => none
def aret (G : Prg) (fn : Func) (st : AS) : Option PV :=
  match st.tmps G fn.results.toList with
  | some [x] => some x
  | some xs => some (.tup xs)
  | none => none
def resVal (tmps : Array Value) : ResultVar → Sem Value
  | .tmp t => pure (tmps.getD t undef)
  | .cell a t => do loadVar t (← asAddr (tmps.getD a undef))
theorem results_eq (fn : Func) (tmps : Array Value) : results fn tmps = (do
  let vs ← fn.results.mapM (resVal tmps)
  pure (if h : vs.size = 1 then vs[0] else .tuple vs)) := by
  unfold results
  congr 1
theorem tmps_ok {G : Prg} {E : Env} {w : World} {st : AS} {tmps : Array Value} (hf : FRep E w st.t tmps) (hh : HRep G.Γ E w st.h) : ∀ (rs : List ResultVar) (xs : List PV), st.tmps G rs = some xs →
    ∃ vs, (rs.mapM (resVal tmps)).run G.P w = .ok vs w ∧ VReps E w xs vs := by
  intro rs
  induction rs with
  | nil => intro xs h; simp only [AS.tmps] at h; cases h; exact ⟨[], by simp, .nil _ _⟩
  | cons r rs ih =>
    intro xs h
    cases r with
    | cell a t =>
      simp only [AS.tmps] at h
      split at h
      · rename_i x hx
        obtain ⟨ys, hys, rfl⟩ := Option.map_eq_some_iff.1 h
        obtain ⟨vs, h1, h2⟩ := ih ys hys
        obtain ⟨u, hu, hur⟩ := aload_ok hh hx (hf a)
        have hu' := hu w (Gr.refl w)
        refine ⟨u :: vs, ?_, .cons hur h2⟩
        have : (resVal tmps (.cell a t)).run G.P w = .ok u w := by
          simp only [resVal]
          rw [← hu']
          simp only [Instr.loadAt, Instr.sureAddr]
          have hp : ∃ ad, tmps.getD a undef = .pointer (some ad) := by
            unfold aload at hx
            split at hx
            · rename_i td cs hT hcs
              split at hx
              · rename_i hsz
                obtain ⟨ad, _, he, _⟩ := cellsAt_ok hh hcs (hf a) (by omega)
                exact ⟨ad, he⟩
              · cases hx
            · cases hx
          obtain ⟨ad, he⟩ := hp
          rw [he]
          simp [asAddr, Result.andThen]
        simp only [List.mapM_cons, Sem.run_bind, Sem.run_pure, h1, Result.andThen, this]
      · cases h
    | tmp t =>
      simp only [AS.tmps] at h
      obtain ⟨ys, hys, rfl⟩ := Option.map_eq_some_iff.1 h
      obtain ⟨vs, h1, h2⟩ := ih ys hys
      exact ⟨tmps.getD t undef :: vs, by simp only [List.mapM_cons, Sem.run_bind, Sem.run_pure, h1, Result.andThen, resVal], .cons (hf t) h2⟩
theorem aret_ok {G : Prg} {E : Env} {w : World} {st : AS} {tmps : Array Value} {fn : Func} {r : PV} (hf : FRep E w st.t tmps) (hh : HRep G.Γ E w st.h) (h : aret G fn st = some r) : ∃ v, (results fn tmps).run G.P w = .ok v w ∧ VRep E w r v := by
  unfold aret at h
  cases ht : st.tmps G fn.results.toList with
  | none => rw [ht] at h; simp at h
  | some xs =>
    obtain ⟨vs, h1, h2⟩ := tmps_ok hf hh _ _ ht
    have hrun : (fn.results.mapM (resVal tmps)).run G.P w = .ok vs.toArray w := by
      rw [Array.mapM_eq_mapM_toList]
      simp only [Sem.run_map, h1, Result.andThen]
    rw [ht] at h
    rw [results_eq]
    simp only [Sem.run_bind, hrun, Result.andThen, Sem.run_pure]
    cases xs with
    | nil =>
      cases h
      obtain rfl := h2.nil_inv
      exact ⟨.tuple #[], rfl, .tup (vs := []) rfl (fun j x v h => by simp at h)⟩
    | cons x xs =>
      obtain ⟨v, us, rfl, hv, hus⟩ := h2.cons_inv
      cases xs with
      | nil =>
        cases h
        obtain rfl := hus.nil_inv
        exact ⟨v, rfl, hv⟩
      | cons y ys =>
        cases h
        obtain ⟨u, us', rfl, hu, hus'⟩ := hus.cons_inv
        exact ⟨.tuple (v :: u :: us').toArray, by simp, .tup (by simp [hus'.1]) h2.2⟩

/-- A function's end: out of the state, what it gives back, and the boxes that stay. -/
def Fin (G : Prg) (fn : Func) (nb : Nat) (R : Out → List Box → Prop) : AEx → AS → Prop
  | .normal, st | .ret, st => ∃ (m : Nat) (r : PV), nb ≤ m ∧ m ≤ st.h.bx.length ∧ aret G fn st = some r ∧ r.sc m = true ∧ ((st.h.bx.take m).all fun b => scL m b.cs) = true ∧ R (.ret r) (st.h.bx.take m)
  | .panic x, st => ∃ (m : Nat), nb ≤ m ∧ m ≤ st.h.bx.length ∧ x.sc m = true ∧ ((st.h.bx.take m).all fun b => scL m b.cs) = true ∧ R (.pan x) (st.h.bx.take m)
  | .exit _, _ => False

theorem close_hp {G : Prg} {C : Ctx} {E : Env} {st : AS} {a : Act} {w : World} (hr : Rel G C E st a w) {m : Nat} (h2 : m ≤ st.h.bx.length) (h3 : ((st.h.bx.take m).all fun b => scL m b.cs) = true) :
    HRep G.Γ { E with nb := m, nr := 0 } w ⟨st.h.bx.take m, []⟩ := by
  have hnb := hr.hp.nb
  refine ⟨by simp; omega, rfl, hr.hp.lo, fun i b hb => ?_, fun j s hj => by simp at hj, fun i j hi hj => hr.hp.inj i j (by simp only [] at hi; omega) (by simp only [] at hj; omega), fun i j r s k hi => by simp at hi, fun i j r hi hj => by simp at hj, hr.hp.im_lt, fun k i hi => hr.hp.im_b k i (by simp only [] at hi; omega), fun k j r hj => by simp at hj, hr.hp.gl⟩
  have hsc : scL m b.cs = true := List.all_eq_true.1 h3 b (List.mem_of_getElem? hb)
  simp only [List.getElem?_take] at hb
  split at hb
  · obtain ⟨vs, hv, hvr⟩ := hr.hp.box i b hb
    exact ⟨vs, hv, hvr.1, fun j x v hx hv' => (hvr.2 j x v hx hv').sc (scL_get hsc hx) (Nat.le_refl _) (fun _ _ => rfl) rfl⟩
  · cases hb
theorem close_ok {G : Prg} {C : Ctx} {E : Env} {st : AS} {a : Act} {w : World} (hr : Rel G C E st a w) (hw : ∀ k, ¬ C.wr k) {m : Nat} (h1 : C.nb ≤ m) (h2 : m ≤ st.h.bx.length) (h3 : ((st.h.bx.take m).all fun b => scL m b.cs) = true) :
    HRep G.Γ { E with nb := m, nr := 0 } w ⟨st.h.bx.take m, []⟩ ∧ PExt C.nb { C.E0 with lo := C.w0.heap.size } C.w0 { E with nb := m, nr := 0 } w := by
  have hnb := hr.hp.nb
  exact ⟨close_hp hr h2 h3,
    ⟨hr.sz, hr.os, hr.tape, hr.out, fun k g1 g2 => hr.keep k g1 g2 (hw k), h1, hr.β, hr.up, fun k hk => (hr.dn k hk).imp id fun h => h.resolve_right (hw k), fun i hi hj => hr.own i hi (by simp only [] at hj; omega)⟩⟩
theorem PCalls.of_swp {G : Prg} {f : FuncId} {fn : Func} {c : Code} {args : List PV} {bx : List Box} {R : Out → List Box → Prop} (hf : G.P.funcs[f]? = some fn) (hb : fn.body = some c) (hn : args.length ≤ fn.ntmps)
    (h : ∀ w0 E0, SWP G (Ctx.of w0 E0 bx.length fn.ntmps) c (Fin G fn bx.length R) ⟨enum 0 args, ⟨bx, []⟩⟩) : PCalls G f args bx R := fun E w vs hh hv => by
  refine calls_of_wp hf hb ?_
  have hE : HRep G.Γ { E with lo := w.heap.size } w ⟨bx, []⟩ := ⟨hh.nb, hh.nr, Nat.le_refl _, fun i b hb => by
    obtain ⟨us, h1, h2⟩ := hh.box i b hb
    exact ⟨us, h1, h2.move fun x v hx => hx.move (Nat.le_refl _) (Nat.le_refl _) (fun _ _ => rfl) (fun _ _ => rfl) (fun _ h => h) (fun _ _ => rfl)⟩, fun i r hr => by simp at hr, hh.inj, hh.rinj, hh.brw, hh.im_lt, hh.im_b, hh.im_r, hh.gl⟩
  have hv' : VReps { E with lo := w.heap.size } w args vs := hv.move fun x v hx => hx.move (Nat.le_refl _) (Nat.le_refl _) (fun _ _ => rfl) (fun _ _ => rfl) (fun _ h => h) (fun _ _ => rfl)
  have hrel : Rel G (Ctx.of w E bx.length fn.ntmps) { E with lo := w.heap.size } ⟨enum 0 args, ⟨bx, []⟩⟩ { tmps := vs.toArray ++ Array.replicate (fn.ntmps - vs.toArray.size) undef, defers := [] } w :=
    ⟨rfl, by simp [hv.1]; omega, fun s => by
      rcases lk_enum args vs 0 (fn.ntmps - vs.length) s hv' with h | h
      · have e : (vs.toArray ++ Array.replicate (fn.ntmps - vs.toArray.size) undef).getD s undef = (vs ++ List.replicate (fn.ntmps - vs.length) undef).getD (s - 0) undef := by
          rw [Array.getD_eq_getD_getElem?, List.getD, ← Array.getElem?_toList]
          simp
        rw [e]
        exact h
      · omega, hE, rfl, by simp [hh.nb], fun _ _ => rfl, fun i h1 h2 => absurd (show i < bx.length from hh.nb ▸ h2) (Nat.not_lt.2 h1), fun _ h => h, fun _ h => .inl h, fun _ _ _ _ => rfl, rfl, rfl, rfl, Nat.le_refl _, fun j s k hj => by simp at hj⟩
  refine wp_mono (h w E _ _ _ hrel) fun e a' w' ⟨ae, s, E', q, x, r⟩ => ?_
  have fin : ∀ (hq : ∃ (m : Nat) (rv : PV), bx.length ≤ m ∧ m ≤ s.h.bx.length ∧ aret G fn s = some rv ∧ rv.sc m = true ∧ ((s.h.bx.take m).all fun b => scL m b.cs) = true ∧ R (.ret rv) (s.h.bx.take m)),
      a'.defers = [] ∧ ∃ v, (results fn a'.tmps).run G.P w' = .ok v w' ∧ ∃ o bx' E', R o bx' ∧ OutR E' w' o (.returned v) ∧ HRep G.Γ E' w' ⟨bx', []⟩ ∧ PExt bx.length E w E' w' := fun ⟨m, rv, h1, h2, h3, h4, h5, h6⟩ => by
    obtain ⟨v, hv1, hv2⟩ := aret_ok r.fr r.hp h3
    obtain ⟨k1, k2⟩ := close_ok r (fun _ h => h) h1 h2 h5
    exact ⟨r.defers, v, hv1, _, _, { E' with nb := m, nr := 0 }, h6, ⟨v, rfl, hv2.sc h4 (Nat.le_refl _) (fun _ _ => rfl) rfl⟩, k1, ⟨k2.sz, k2.os, k2.tape, k2.out, k2.keep, k2.more, k2.β, k2.up, k2.dn, k2.own⟩⟩
  cases ae with
  | normal => cases x; exact fin q
  | ret => cases x; exact fin q
  | exit i => exact q.elim
  | panic y =>
    obtain ⟨v, rfl, hv⟩ := x
    obtain ⟨m, h1, h2, h4, h5, h6⟩ := q
    obtain ⟨k1, k2⟩ := close_ok r (fun _ h => h) h1 h2 h5
    exact ⟨r.defers, _, _, { E' with nb := m, nr := 0 }, h6, ⟨v, rfl, hv.sc h4 (Nat.le_refl _) (fun _ _ => rfl) rfl⟩, k1, ⟨k2.sz, k2.os, k2.tape, k2.out, k2.keep, k2.more, k2.β, k2.up, k2.dn, k2.own⟩⟩

/-! ### A call of a function that only computes -/
section
variable {G : Prg} {C : Ctx} {Q : AEx → AS → Prop} {K : AS → Prop} {st : AS} {E : Env} {a : Act} {w w' : World}
theorem Rel.more (hr : Rel G C E st a w) {im : Nat → Prop} {w' : World} (hs : w.heap.size ≤ w'.heap.size) (hk : ∀ k, k < w.heap.size → w'.heap[k]? = w.heap[k]?) (ho : w'.os = w.os) (ht : w'.tape = w.tape) (hu : w'.output = w.output)
    (hup : ∀ k, E.im k → im k) (hdn : ∀ k, im k → E.im k ∨ w.heap.size ≤ k) (hlt : ∀ k, im k → k < w'.heap.size) : Rel G C (E.more im) st a w' := by
  have hg := hr.grow hs hk ho ht hu
  refine ⟨hg.defers, hg.size, hg.fr.move fun x v hx => hx.more hup, hg.hp.more hup hlt (fun k i h1 h2 => ?_) (fun k j s h1 h2 => ?_), hg.lo, hg.nb, hg.β, hg.own, fun k h => hup k (hg.up k h), fun k h => ?_, hg.keep, hg.os, hg.tape, hg.out, hg.sz, hg.rows⟩
  · rcases hdn k h2 with h2 | h2
    · exact hr.hp.im_b k i h1 h2
    · have := hr.hp.bx_lt h1; omega
  · rcases hdn k h2 with h2 | h2
    · exact hr.hp.im_r k j s h1 h2
    · intro hc
      obtain ⟨xs, ho, _⟩ := hr.hp.row j s h1
      have := (ownsRow_lt ho hc).2
      omega
  · rcases hdn k h with h | h
    · exact hr.dn k h
    · exact .inr (.inl (Nat.le_trans hr.sz h))
theorem callFunc_enter {P : Program} {f : FuncId} {fn : Func} (hf : P.funcs[f]? = some fn) (hname : (fn.name == "runtime.NumGoroutine") = false) (hb : fn.body.isSome = true) (args : Array Value) (w : World) : (callFunc f args).run P w = .ok (.enter f args) w := by
  have hn : fn.body.isNone = false := by cases h : fn.body <;> simp_all
  simp only [callFunc, Sem.run_bind, run_program, Result.andThen, hf, hname, hn, Bool.false_eq_true, if_false, Sem.run_pure]
/-- What is called, and with what. -/
def target (st : AS) (Γ : Glob) (c : Call) : Option (FuncId × List PV) :=
  match c.callee with
  | .value f => match st.ev Γ f with
    | .func (.func g) cap => some (g, c.args.toList.map (st.ev Γ) ++ cap)
    | _ => none
  | _ => none
theorem target_ok {o : Oper} {c : Call} {f : FuncId} {fn : Func} {args : List PV} (ho : o.op = .call c) (ht : target st G.Γ c = some (f, args)) (hf : G.P.funcs[f]? = some fn) (hname : (fn.name == "runtime.NumGoroutine") = false) (hb : fn.body.isSome = true) (hr : Rel G C E st a w) :
    ∃ vs : List Value, (execOp a.eval o).run G.P w = .ok (.enter f vs.toArray) w ∧ VReps E w args vs := by
  obtain ⟨callee, as, ts⟩ := c
  unfold target at ht
  cases callee with
  | invoke _ _ => simp at ht
  | builtin _ => simp at ht
  | value g =>
    simp only [] at ht
    split at ht
    · rename_i g' cap he
      cases ht
      have hg := ev_rep hr.fr hr.hp g
      rw [he] at hg
      obtain ⟨us, hu, hur⟩ := hg.func_inv
      refine ⟨as.toList.map a.eval ++ us, ?_, (evs_rep hr.fr hr.hp as.toList).append hur⟩
      simp only [execOp, ho, Sem.run_bind, resolve, hu, Deferred.ofValue, Sem.run_pure, Result.andThen, invoke]
      rw [callFunc_enter hf hname hb]
      congr 2
      apply Array.ext'
      simp
    · cases ht
theorem SOp.call {o : Oper} {c : Call} {f : FuncId} {fn : Func} {args : List PV} {R : PV → Prop} (ho : o.op = .call c) (ht : target st G.Γ c = some (f, args)) (hf : G.P.funcs[f]? = some fn) (hname : (fn.name == "runtime.NumGoroutine") = false) (hb : fn.body.isSome = true)
    (hp : pureL args = true) (hd : dstOk C.nt o.dst = true) (hc : Pure G f args R) (h : ∀ r, R r → K (st.put o.dst r)) : SOp G C o Q K st := fun E a w hr => by
  obtain ⟨vs, hrun, hvs⟩ := target_ok ho ht hf hname hb hr
  unfold Oper.wp
  rw [hrun]
  have hH : HRep G.Γ { E with nb := 0, nr := 0 } w ⟨[], []⟩ := ⟨rfl, rfl, hr.hp.lo, fun i b hb => by simp at hb, fun i r hr => by simp at hr, fun i j h => by simp at h, fun i j r s k h => by simp at h, fun i j r h => by simp at h, hr.hp.im_lt, fun k i h => by simp at h, fun k j r h => by simp at h, hr.hp.gl⟩
  refine (hc { E with nb := 0, nr := 0 } w vs hH ((hvs.pure hp).v (E := { E with nb := 0, nr := 0 }))).mono ?_
  rintro e w' ⟨out, bx', E', ⟨rfl, r, rfl, hR⟩, ⟨v, rfl, hv⟩, hh, hx⟩
  have hnb : E'.nb = 0 := hh.nb
  have hnr : E'.nr = 0 := hh.nr
  have hr2 := hr.more (im := E'.im) hx.sz (fun k hk => hx.keep k hk (fun i hi => by simp at hi)) hx.os hx.tape hx.out hx.up hx.dn hh.im_lt
  refine ⟨_, _, h r hR, hr2.put hd ?_⟩
  exact hv.move (by omega) (by omega) (fun i hi => by omega) (fun i hi => by omega) (fun k hk => hk) (fun _ _ => rfl)
end
end Go.AS
