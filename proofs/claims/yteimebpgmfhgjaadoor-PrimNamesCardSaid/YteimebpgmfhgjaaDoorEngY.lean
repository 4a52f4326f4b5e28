/- Abstract states (own engine), part Y: what a function does with some boxes, said of more boxes; the interpreter's laws of such functions. -/
import Derived.Test.YteimebpgmfhgjaaDoorEngX
namespace Go.AS
open Go.RowKit
set_option linter.unusedVariables false
set_option linter.unusedSimpArgs false
section
variable {G : Prg}
theorem PCalls.lift {f : FuncId} {ys xs : List PV} {bx bxs : List Box} {R R' : Out → List Box → Prop} (pos : Nat → Nat) (hc : PCalls G f xs bxs R)
    (hl : ys.length = xs.length) (ha : ∀ (j : Nat) (y x : PV), ys[j]? = some y → xs[j]? = some x → ARel pos bxs.length y x)
    (hb : ∀ (i : Nat) (b : Box), bxs[i]? = some b → bx[pos i]? = some b) (hsc : (bxs.all fun b => scL 0 b.cs) = true) (hinj : ∀ i j, i < bxs.length → j < bxs.length → pos i = pos j → i = j)
    (h : ∀ o' b, R o' b → ∃ r bx', o' = .ret r ∧ r.sc 0 = true ∧ ((b.take bxs.length).all fun b => scL 0 b.cs) = true ∧ bx'.length = bx.length ∧ (∀ i, i < bxs.length → bx'[pos i]? = b[i]?) ∧ (∀ j, (∀ i, i < bxs.length → pos i ≠ j) → bx'[j]? = bx[j]?) ∧ R' (.ret r) bx') : PCalls G f ys bx R' := fun E w vs hh hvs => by
  have hget : ∀ i, i < bxs.length → ∃ b, bxs[i]? = some b ∧ bx[pos i]? = some b := fun i hi => ⟨_, List.getElem?_eq_getElem hi, hb i _ (List.getElem?_eq_getElem hi)⟩
  have hnb : E.nb = bx.length := hh.nb.symm ▸ rfl
  have hpos : ∀ i, i < bxs.length → pos i < E.nb := fun i hi => by
    obtain ⟨b, _, h2⟩ := hget i hi
    rw [hnb]
    exact (List.getElem?_eq_some_iff.1 h2).1
  let Ec : Env := { E with β := fun i => E.β (pos i), nb := bxs.length, nr := 0 }
  have hH : HRep G.Γ Ec w ⟨bxs, []⟩ := ⟨rfl, rfl, hh.lo, fun i b hib => by
      obtain ⟨us, h1, h2⟩ := hh.box (pos i) b (hb i b hib)
      exact ⟨us, h1, h2.1, fun j x v hx hv => (h2.2 j x v hx hv).sc (scL_get (List.all_eq_true.1 hsc b (List.mem_of_getElem? hib)) hx) (Nat.zero_le _) (fun _ h => absurd h (Nat.not_lt_zero _)) rfl⟩,
    fun i r h => by simp at h, fun i j hi hj he => hinj i j hi hj (hh.inj _ _ (hpos i hi) (hpos j hj) he), fun i j r s k h => by simp at h, fun i j r _ h => by simp at h, hh.im_lt, fun k i hi hk => hh.im_b k (pos i) (hpos i hi) hk, fun k j r h => by simp at h, hh.gl⟩
  have hargs : VReps Ec w xs vs := ⟨by rw [hvs.1, hl], fun j x v hx hv => by
    have hj := (List.getElem?_eq_some_iff.1 hx).1
    obtain ⟨y, hy⟩ : ∃ y, ys[j]? = some y := ⟨_, List.getElem?_eq_getElem (by rw [hl]; exact hj)⟩
    exact ARel.rep (E := E) (E' := Ec) (ha j y x hy hx) (fun _ _ => rfl) rfl rfl (hvs.2 j y v hy hv)⟩
  refine (hc Ec w vs hH hargs).mono ?_
  rintro e w' ⟨out, b, E', hR, ho', hh', hx⟩
  obtain ⟨r, bx', rfl, hrs, hbs, hlen, hin, hout, hK⟩ := h out b hR
  obtain ⟨v, rfl, hv⟩ := ho'
  have keep : ∀ k, k < w.heap.size → (∀ i, i < bxs.length → E.β (pos i) ≠ k) → w'.heap[k]? = w.heap[k]? := fun k h1 h2 => hx.keep k h1 h2
  have him : ∀ k, E.im k → w'.heap[k]? = w.heap[k]? := fun k hk => keep k (hh.im_lt k hk) fun i hi => hh.im_b k (pos i) (hpos i hi) hk
  let E2 : Env := { E with im := E'.im, nr := 0 }
  have mv : ∀ x v, VRep { E with nr := 0 } w x v → VRep E2 w' x v := fun x v hv => hv.move (Nat.le_refl _) (Nat.le_refl _) (fun _ _ => rfl) (fun _ _ => rfl) hx.up him
  have hnr : E.nr = 0 := hh.nr
  have hE : ({ E with nr := 0 } : Env) = E := by cases E; simp only [] at hnr; subst hnr; rfl
  rw [hE] at mv
  refine ⟨.ret r, bx', E2, hK, ⟨v, rfl, hv.sc hrs (Nat.zero_le _) (fun _ h => absurd h (Nat.not_lt_zero _)) rfl⟩, ⟨by simp only [E2]; rw [hlen]; exact hh.nb, rfl, Nat.le_trans hh.lo hx.sz, fun i bb hi => ?_, fun j s hj => by simp at hj, hh.inj, fun i j r s k h => by simp at h, fun i j r _ h => by simp at h, hh'.im_lt, fun k i hi hk => ?_, fun k j r h => by simp at h, hh'.gl⟩,
    ⟨hx.sz, hx.os, hx.tape, hx.out, fun k h1 h2 => keep k h1 fun i hi => h2 (pos i) (by rw [← hnb]; exact hpos i hi), by simp only [E2]; omega, fun _ _ => rfl, hx.up, hx.dn, fun i h1 h2 => by simp only [E2] at h2; omega⟩⟩
  · simp only [] at hi
    by_cases hp : ∃ i0, i0 < bxs.length ∧ pos i0 = i
    · obtain ⟨i0, h0, rfl⟩ := hp
      rw [hin i0 h0] at hi
      obtain ⟨us, h1, h2⟩ := hh'.box i0 bb hi
      have hm : bb ∈ b.take bxs.length := List.mem_of_getElem? (i := i0) (by rw [List.getElem?_take, if_pos h0]; exact hi)
      refine ⟨us, by rw [hx.β i0 h0] at h1; exact h1, h2.1, fun j x u hx' hu => ?_⟩
      exact (h2.2 j x u hx' hu).sc (scL_get (List.all_eq_true.1 hbs bb hm) hx') (Nat.zero_le _) (fun _ h => absurd h (Nat.not_lt_zero _)) rfl
    · have hno : ∀ i0, i0 < bxs.length → pos i0 ≠ i := fun i0 h0 he => hp ⟨i0, h0, he⟩
      rw [hout i hno] at hi
      obtain ⟨us, h1, h2⟩ := hh.box i bb hi
      have hiE : i < E.nb := by rw [hnb]; exact (List.getElem?_eq_some_iff.1 hi).1
      exact ⟨us, (keep _ (lt_of_some h1) fun i0 h0 he => hno i0 h0 (hh.inj _ _ (hpos i0 h0) hiE he)).trans h1, h2.move mv⟩
  · rcases hx.dn k hk with h2 | h2
    · exact hh.im_b k i hi h2
    · have := hh.bx_lt hi
      intro he
      have he' : E.β i = k := he
      omega
end
section
variable {G : Prg} {C : Ctx} {Q : AEx → AS → Prop} {st : AS} {ops : Array Oper} {ds : List Nat} {n : Nat}
/-- A drawn region's ends, of these slots. -/
noncomputable def runPL (S : Cfg G) (k nt : Nat) (ops : Array Oper) (st : AS) (sl : List Nat) : Option Outs := match runL S (run S k) nt ops (dsOf S.D ops) ops.size (Array.replicate ops.size false) st with
  | some (l, o) => some (l.map (nrm sl), o)
  | none => none
end
section
variable {G : Prg} {C : Ctx} {Q : AEx → AS → Prop} {st : AS} {n : AS → Prop} {xs : List (Nat × (AS → Prop))} {r : AS → Prop} {p : PV → AS → Prop}
theorem SWP.runLQ {id : Nat} {ops : Array Oper} (S : Cfg G) (k nt : Nat) (hnt : C.nt = nt) (sl : List Nat) {l : List AS} {o : Ob} (h : runPL S k nt ops st sl = some (l, o)) (ho : okO o) (hK : ∀ s, nrm sl s ∈ l → Q .normal s) : SWP G C (.region id ops true) Q st := by
  unfold runPL at h
  split at h
  · rename_i l' o' hr
    cases h
    subst hnt
    have h1 : SWP G C (.region id ops true) (fun e s => e = .normal ∧ s ∈ l') st := .draw _ _ rfl (runL_ok (run_ok S k) (fun x t ⟨h, _⟩ => by cases h) _ _ _ _ hr ho fun s hs => ⟨rfl, hs⟩)
    exact h1.mono fun e s ⟨he, hs⟩ => by subst he; exact hK s (List.mem_map.2 ⟨s, hs, rfl⟩)
  · cases h
/-- A drawn region, all of whose ends are one; and what comes behind. -/
theorem Q.runSeqL {id : Nat} {ops : Array Oper} {d : Code} (S : Cfg G) (k nt : Nat) (hnt : C.nt = nt) (sl : List Nat) {z : AS} {l : List AS} {o : Ob} (h : runPL S k nt ops st sl = some (l, o)) (hl : l = List.replicate l.length z) (ho : okO o) (hd : SWP G C d (QT n xs r p) z) : SWP G C (.seq (.region id ops true) d) (QT n xs r p) st :=
  Q.seq fun K hK => .runLQ S k nt hnt sl h ho fun s hs => hK s (.norm sl (by
    rw [hl] at hs
    rw [List.eq_of_mem_replicate hs]
    exact hd))
theorem SAny.norm {ops : Array Oper} {Q : AEx → AS → Prop} {ds : List Nat} {m : Nat} {l : Array Bool} (sl : List Nat) (h : SAny G C ops Q ds m l (nrm sl st)) : SAny G C ops Q ds m l st := fun E a w hr => h E a w (hr.norm sl)
/-- A drawn region, all of whose ends are one. -/
theorem Q.runSeqN {id : Nat} {ops : Array Oper} {d : Code} {n : AS → Prop} {xs : List (Nat × (AS → Prop))} {r : AS → Prop} {p : PV → AS → Prop} (m : Nat) (S : Cfg G) (k nt : Nat) (hnt : C.nt = nt) (sl : List Nat) {z : AS} {o : Ob} (h : runPL S k nt ops st sl = some (List.replicate m z, o)) (ho : okO o) (hd : SWP G C d (QT n xs r p) z) : SWP G C (.seq (.region id ops true) d) (QT n xs r p) st :=
  Q.runSeqL S k nt hnt sl h (by rw [List.length_replicate]) ho hd
/-- A function's entry, that gives a new row. -/
theorem Fn.enterF {f : FuncId} {fn : Func} {c : Code} {args : List PV} {row : Row} {k : Nat} (hf : G.P.funcs[f]? = some fn) (hk : fn.ntmps = k) (hb : fn.body = some c) (hn : args.length ≤ k)
    (h : ∀ (C : Ctx) (fr : AS → Prop), C.nt = k → (∀ s sl, FinF G fn row (nrm sl s) → fr s) → SWP G C c (QT fr [] fr (fun _ _ => False)) ⟨enum 0 args, ⟨[], []⟩⟩) : Fresh G f args row :=
  .of_swp hf hb (by rw [hk]; exact hn) fun w0 E0 => .normQ (by
    refine (h _ (fun s => ∃ sl, FinF G fn row (nrm sl s)) hk (fun s sl h => ⟨sl, h⟩)).mono fun e s q => ?_
    cases e with
    | normal => exact q
    | exit i => exact q.elim
    | ret => exact q
    | panic x => exact q.elim)
/-- What comes last in any order is shown once. -/
theorem SAny.with {ops : Array Oper} {Q : AEx → AS → Prop} {ds : List Nat} {m : Nat} {l : Array Bool} (k : Nat) (l' : Array Bool) (P : AS → Prop) (a : ∀ s, P s → SAny G C ops Q ds k l' s) (b : (∀ s, P s → SAny G C ops Q ds k l' s) → SAny G C ops Q ds m l st) : SAny G C ops Q ds m l st := b a
/-- A function's entry: the boxes that stay are known. -/
theorem Fn.enterB {f : FuncId} {fn : Func} {c : Code} {args : List PV} {bx : List Box} {R : Out → List Box → Prop} {k : Nat} (hf : G.P.funcs[f]? = some fn) (hk : fn.ntmps = k) (hb : fn.body = some c) (hn : args.length ≤ k)
    (h : ∀ (C : Ctx) (fr : AS → Prop) (fp : PV → AS → Prop), C.nt = k → C.nb = bx.length → PanT fp → (∀ s sl, FinR G fn bx.length R (nrm sl s) → fr s) → (∀ x s, FinP bx.length R x s → fp x s) → SWP G C c (QT fr [] fr fp) ⟨enum 0 args, ⟨bx, []⟩⟩) : PCalls G f args bx R :=
  .of_swp hf hb (by rw [hk]; exact hn) fun w0 E0 => .normQ (by
    refine (h _ (fun s => ∃ sl, FinR G fn bx.length R (nrm sl s)) (FinP bx.length R) hk rfl (FinP.panT _ _) (fun s sl h => ⟨sl, h⟩) (fun _ _ h => h)).mono fun e s q => ?_
    rw [Q.fin]
    cases e with
    | normal => exact q
    | exit i => exact q.elim
    | ret => exact q
    | panic x => exact ⟨[], q⟩)
end
section
variable {G : Prg}
/-- A drawn region's ends, of these slots; ds: what may write. -/
noncomputable def runPD (S : Cfg G) (ds : List Nat) (k nt : Nat) (ops : Array Oper) (st : AS) (sl : List Nat) : Option Outs := match runL S (run S k) nt ops ds ops.size (Array.replicate ops.size false) st with
  | some (l, o) => some (l.map (nrm sl), o)
  | none => none
variable {C : Ctx} {Q : AEx → AS → Prop} {st : AS}
theorem SWP.runDQ {id : Nat} {ops : Array Oper} (S : Cfg G) (ds : List Nat) (k nt : Nat) (hnt : C.nt = nt) (sl : List Nat) {l : List AS} {o : Ob} (h : runPD S ds k nt ops st sl = some (l, o)) (ho : okO o) (hK : ∀ s, nrm sl s ∈ l → Q .normal s) : SWP G C (.region id ops true) Q st := by
  unfold runPD at h
  split at h
  · rename_i l' o' hr
    cases h
    subst hnt
    have h1 : SWP G C (.region id ops true) (fun e s => e = .normal ∧ s ∈ l') st := .draw _ _ rfl (runL_ok (run_ok S k) (fun x t ⟨h, _⟩ => by cases h) _ _ _ _ hr ho fun s hs => ⟨rfl, hs⟩)
    exact h1.mono fun e s ⟨he, hs⟩ => by subst he; exact hK s (List.mem_map.2 ⟨s, hs, rfl⟩)
  · cases h
end
end Go.AS
