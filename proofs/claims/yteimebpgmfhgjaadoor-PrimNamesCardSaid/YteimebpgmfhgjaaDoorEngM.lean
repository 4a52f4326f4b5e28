/- Abstract states (own engine), part M: calls that see the boxes; rows that turn to what is only read; loops in rounds. -/
import Derived.Test.YteimebpgmfhgjaaDoorEngL
import Derived.Deep.Onto
namespace Go.AS
open Go.RowKit
set_option linter.unusedVariables false
set_option linter.unusedSimpArgs false

section
variable {G : Prg} {C : Ctx} {Q : AEx → AS → Prop} {K : AS → Prop} {st : AS} {E : Env} {a : Act} {w w' : World}
/-- Behind a call that saw the boxes. -/
theorem Rel.called (hr : Rel G C E st a w) {E' : Env} {bx' : List Box} (hh : HRep G.Γ E' w' ⟨bx', []⟩) (hx : PExt st.h.bx.length { E with nr := 0 } w E' w') :
    Rel G C { E' with ρ := E.ρ, nr := E.nr, lo := E.lo } { st with h := ⟨bx', st.h.rw⟩ } a w' := by
  have hnb := hr.hp.nb
  have hβ : ∀ i, i < E.nb → E'.β i = E.β i := fun i hi => hx.β i (by omega)
  have hsz := hx.sz
  have him : ∀ k, E.im k → w'.heap[k]? = w.heap[k]? := fun k hk => hx.keep k (hr.hp.im_lt k hk) fun i hi => hr.hp.im_b k i (by omega) hk
  have mv : ∀ x v, VRep E w x v → VRep { E' with ρ := E.ρ, nr := E.nr, lo := E.lo } w' x v := fun x v hv => hv.move (by have := hx.more; simp only []; omega) (Nat.le_refl _) hβ (fun _ _ => rfl) hx.up him
  have hnr : E'.nr = 0 := hh.nr
  have mv' : ∀ x v, VRep E' w' x v → VRep { E' with ρ := E.ρ, nr := E.nr, lo := E.lo } w' x v := fun x v hv => hv.move (Nat.le_refl _) (by omega) (fun _ _ => rfl) (fun i hi => by omega) (fun _ h => h) (fun _ _ => rfl)
  have hown : ∀ (j : Nat) (s : Row) (k : Nat), st.h.rw[j]? = some (some s) → (E.ρ j).ownBlock = some k → k < w.heap.size ∧ w'.heap[k]? = w.heap[k]? := fun j s k hj hk => by
    obtain ⟨xs, ho, _⟩ := hr.hp.row j s hj
    have hlt := (ownsRow_lt ho hk).2
    exact ⟨hlt, hx.keep k hlt fun i hi he => hr.hp.brw i j s (by omega) hj (by rw [hk, ← he])⟩
  refine ⟨hr.defers, hr.size, hr.fr.move mv, ⟨hh.nb, hr.hp.nr, Nat.le_trans hr.hp.lo hsz, fun i b hb => ?_, fun j s hj => ?_, hh.inj, fun i j r s k hi hj => hr.hp.rinj i j r s k hi hj, fun i j r hi hj => ?_, hh.im_lt, hh.im_b, fun k j s hj hk => ?_, hh.gl⟩,
    hr.lo, ?_, fun i hi => ?_, fun i h1 h2 => ?_, fun k hk => hx.up k (hr.up k hk), fun k hk => ?_, fun k h1 h2 h3 => ?_, hx.os.trans hr.os, hx.tape.trans hr.tape, hx.out.trans hr.out, Nat.le_trans hr.sz hsz, hr.rows⟩
  · obtain ⟨vs, h1, h2⟩ := hh.box i b hb
    exact ⟨vs, h1, h2.move mv'⟩
  · obtain ⟨xs, ho, hxs, h1⟩ := hr.hp.row j s hj
    exact ⟨xs, ownsRow_move ho fun k hk => (hown j s k hj hk).2, hxs.move hx.up him, h1⟩
  · intro hk
    have h1 := hown j r _ hj hk
    rcases Nat.lt_or_ge i E.nb with hlt | hge
    · exact hr.hp.brw i j r hlt hj (by rw [hk]; simp only []; rw [hβ i hlt])
    · have := hx.own i (by omega) hi
      simp only [] at h1
      omega
  · intro hc
    have h1 := hown j s k hj hc
    rcases hx.dn k hk with h2 | h2
    · exact hr.hp.im_r k j s hj h2 hc
    · omega
  · have h1 := hr.nb; have h2 := hx.more; simp only [] at h2 ⊢; omega
  · simp only []
    rw [hβ i (by have := hr.nb; omega)]
    exact hr.β i hi
  · simp only [] at h2 ⊢
    rcases Nat.lt_or_ge i E.nb with hlt | hge
    · rw [hβ i hlt]; exact hr.own i h1 hlt
    · have h3 := hx.own i (by omega) h2
      have h4 := hr.sz
      omega
  · rcases hx.dn k hk with h | h
    · exact hr.dn k h
    · exact .inr (.inl (Nat.le_trans hr.sz h))
  · refine (hx.keep k (Nat.lt_of_lt_of_le h1 hr.sz) fun i hi he => ?_).trans (hr.keep k h1 h2 h3)
    rcases Nat.lt_or_ge i C.nb with hlt | hge
    · exact h2 i hlt (by rw [← hr.β i hlt]; exact he)
    · have := hr.own i hge (by omega)
      simp only [] at he
      omega
theorem callB_hyp (hr : Rel G C E st a w) (hbx : (st.h.bx.all fun b => scL st.h.bx.length b.cs) = true) : HRep G.Γ { E with nr := 0 } w ⟨st.h.bx, []⟩ :=
  ⟨hr.hp.nb, rfl, hr.hp.lo, fun i b hb => by
    obtain ⟨vs, hv, hvr⟩ := hr.hp.box i b hb
    have hsc := List.all_eq_true.1 hbx b (List.mem_of_getElem? hb)
    exact ⟨vs, hv, hvr.1, fun j x v hx hv' => (hvr.2 j x v hx hv').sc (scL_get hsc hx) (by simp [hr.hp.nb]) (fun _ _ => rfl) rfl⟩,
    fun i r h => by simp at h, hr.hp.inj, fun i j r s k h => by simp at h, fun i j r _ h => by simp at h, hr.hp.im_lt, hr.hp.im_b, fun k j r h => by simp at h, hr.hp.gl⟩
theorem SOp.callB {o : Oper} {c : Call} {f : FuncId} {fn : Func} {args : List PV} {R : Out → List Box → Prop} (ho : o.op = .call c) (ht : target st G.Γ c = some (f, args)) (hf : G.P.funcs[f]? = some fn) (hname : (fn.name == "runtime.NumGoroutine") = false) (hb : fn.body.isSome = true)
    (hargs : scL st.h.bx.length args = true) (hbx : (st.h.bx.all fun b => scL st.h.bx.length b.cs) = true) (hd : dstOk C.nt o.dst = true) (hc : PCalls G f args st.h.bx R)
    (h : ∀ r bx', R (.ret r) bx' → K (({ st with h := ⟨bx', st.h.rw⟩ } : AS).put o.dst r)) (hp : ∀ x bx', R (.pan x) bx' → Q (.panic x) { st with h := ⟨bx', st.h.rw⟩ }) : SOp G C o Q K st := fun E a w hr => by
  obtain ⟨vs, hrun, hvs⟩ := target_ok ho ht hf hname hb hr
  unfold Oper.wp
  rw [hrun]
  have hvs' : VReps { E with nr := 0 } w args vs := ⟨hvs.1, fun j x v hx hv => (hvs.2 j x v hx hv).sc (scL_get hargs hx) (by simp [hr.hp.nb]) (fun _ _ => rfl) rfl⟩
  refine (hc { E with nr := 0 } w vs (callB_hyp hr hbx) hvs').mono ?_
  rintro e w' ⟨out, bx', E', hR, ho', hh, hx⟩
  have hr2 := hr.called hh hx
  have hnr : E'.nr = 0 := hh.nr
  have mv' : ∀ x v, VRep E' w' x v → VRep { E' with ρ := E.ρ, nr := E.nr, lo := E.lo } w' x v := fun x v hv => hv.move (Nat.le_refl _) (by omega) (fun _ _ => rfl) (fun i hi => by omega) (fun _ h => h) (fun _ _ => rfl)
  cases out with
  | ret r =>
    obtain ⟨v, rfl, hv⟩ := ho'
    exact ⟨_, _, h r bx' hR, hr2.put hd (mv' _ _ hv)⟩
  | pan x =>
    obtain ⟨v, rfl, hv⟩ := ho'
    exact ⟨.panic x, _, _, hp x bx' hR, ⟨v, rfl, mv' _ _ hv⟩, hr2⟩

/-- Rows that are only read from here on. -/
def frz : List Nat → AS → AS
  | [], s => s
  | r :: rs, s => match s.h.rw[r]? with
    | some (some x) => frz rs (s.freeze r x)
    | _ => frz rs s
theorem Rel.frz {rs : List Nat} : ∀ {st : AS} {E : Env}, Rel G C E st a w → ∃ E', Rel G C E' (frz rs st) a w := by
  induction rs with
  | nil => intro st E h; exact ⟨E, h⟩
  | cons r rs ih =>
    intro st E h
    simp only [AS.frz]
    split
    · rename_i x hx
      obtain ⟨E', h'⟩ := h.freeze hx
      exact ih h'
    · exact ih h
theorem SOp.frz {o : Oper} (rs : List Nat) (h : SOp G C o Q K (frz rs st)) : SOp G C o Q K st := fun E a w hr => by
  obtain ⟨E', hr'⟩ := hr.frz (rs := rs)
  exact h E' a w hr'
theorem SOpG.frz {o : Oper} (rs : List Nat) (h : SOpG G C o Q K (frz rs st)) : SOpG G C o Q K st := fun E a w hr => by
  obtain ⟨E', hr'⟩ := hr.frz (rs := rs)
  exact h E' a w hr'
def AS.adopt (st : AS) (s : Nat) (ty : TypeId) (sz : Nat) : AS := ⟨adoptT s st.h.rw.length st.t, ⟨st.h.bx, st.h.rw ++ [some ⟨[], 0, ty, sz⟩]⟩⟩
theorem SOp.adopt {o : Oper} (s : Nat) (ty : TypeId) (sz : Nat) (hs : lk st.t s = .nil) (h : SOp G C o Q K (st.adopt s ty sz)) : SOp G C o Q K st := fun E a w hr => by
  obtain ⟨E', hr'⟩ := hr.adopt hs ty sz
  exact h E' a w hr'
/-- At an end, all rows. -/
def frzAll (s : AS) : AS := frz (List.range s.h.rw.length) s
def frzQ (Q : AEx → AS → Prop) : AEx → AS → Prop
  | .panic x, s => Q (.panic x) s
  | e, s => Q e (frzAll s)
theorem SWP.frzAll {c : Code} (h : SWP G C c (frzQ Q) st) : SWP G C c Q st := fun E a w hr =>
  wp_mono (h E a w hr) fun e a w ⟨ae, s, E', q, x, r⟩ => by
    cases ae with
    | panic y => exact ⟨_, _, _, q, x, r⟩
    | normal => obtain ⟨E2, r2⟩ := r.frz (rs := List.range s.h.rw.length); exact ⟨.normal, _, E2, q, x, r2⟩
    | ret => obtain ⟨E2, r2⟩ := r.frz (rs := List.range s.h.rw.length); exact ⟨.ret, _, E2, q, x, r2⟩
    | exit i => obtain ⟨E2, r2⟩ := r.frz (rs := List.range s.h.rw.length); exact ⟨.exit i, _, E2, q, x, r2⟩

/-- A loop that comes to an end after so many rounds at most. -/
def SRounds (G : Prg) (C : Ctx) (c : Code) (Q : AEx → AS → Prop) : Nat → AS → Prop
  | 0, _ => False
  | n + 1, s => SWP G C c (thenQ (SRounds G C c Q n) Q) s
theorem SRounds.loop {c : Code} {n : Nat} (h : SRounds G C c Q n st) : SWP G C (.loop c) Q st := by
  refine .loop (fun m s => SRounds G C c Q m s) id n h fun m s hs => ?_
  cases m with
  | zero => exact hs.elim
  | succ m =>
    refine SWP.mono hs fun e s q => ?_
    cases e with
    | normal => exact ⟨m, q, Nat.lt_succ_self m⟩
    | exit i => exact q
    | ret => exact q
    | panic x => exact q
end
/-- The caller's value, the callee's. -/
inductive ARel (pos : Nat → Nat) (k : Nat) : PV → PV → Prop where
  | pure {x : PV} (h : x.pure = true) : ARel pos k x x
  | ptr {b o : Nat} (h : b < k) : ARel pos k (.ptr (pos b) o) (.ptr b o)
  | bsl {b n m : Nat} (h : b < k) : ARel pos k (.bsl (pos b) n m) (.bsl b n m)
  | junk (y : PV) : ARel pos k y .junk
  | func {fn : Fn} {ys xs : List PV} (hl : ys.length = xs.length) (h : ∀ (j : Nat) (y x : PV), ys[j]? = some y → xs[j]? = some x → ARel pos k y x) : ARel pos k (.func fn ys) (.func fn xs)
theorem ARel.rep {pos : Nat → Nat} {k : Nat} {y x : PV} (h : ARel pos k y x) {E E' : Env} {w : World} (hβ : ∀ i, i < k → E'.β i = E.β (pos i)) (hnb : E'.nb = k) (him : E'.im = E.im) {v : Value} (hv : VRep E w y v) : VRep E' w x v := by
  induction h generalizing v with
  | pure hp => exact .imm (by rw [him]; exact hv.pure hp)
  | ptr hb =>
    obtain ⟨rfl, _⟩ := hv.ptr_inv
    rw [← hβ _ hb]
    exact .ptr _ (by omega)
  | bsl hb =>
    obtain ⟨rfl, _, hn⟩ := hv.bsl_inv
    rw [← hβ _ hb]
    exact .bsl (by omega) hn
  | junk y => exact .junk _
  | func hl _ ih =>
    obtain ⟨vs, rfl, hvs⟩ := hv.func_inv
    refine .func (by rw [hvs.1, hl]) fun j x u hx hu => ?_
    have hj := (List.getElem?_eq_some_iff.1 hx).1
    obtain ⟨y, hy⟩ : ∃ y, _ = some y := ⟨_, List.getElem?_eq_getElem (by rw [hl]; exact hj)⟩
    exact ih j y x hy hx (hvs.2 j y u hy hu)
section
variable {G : Prg} {C : Ctx} {Q : AEx → AS → Prop} {K : AS → Prop} {st : AS}
theorem SOp.callF {o : Oper} {c : Call} {f : FuncId} {fn : Func} {ys xs : List PV} {R : Out → List Box → Prop} (pos : Nat → Nat) (bxs : List Box) (ho : o.op = .call c) (ht : target st G.Γ c = some (f, ys)) (hf : G.P.funcs[f]? = some fn) (hname : (fn.name == "runtime.NumGoroutine") = false) (hfb : fn.body.isSome = true)
    (hl : ys.length = xs.length) (ha : ∀ (j : Nat) (y x : PV), ys[j]? = some y → xs[j]? = some x → ARel pos bxs.length y x)
    (hb : ∀ (i : Nat) (b : Box), bxs[i]? = some b → st.h.bx[pos i]? = some b) (hsc : (bxs.all fun b => scL 0 b.cs) = true) (hinj : ∀ i j, i < bxs.length → j < bxs.length → pos i = pos j → i = j) (hd : dstOk C.nt o.dst = true) (hc : PCalls G f xs bxs R)
    (h : ∀ o' b, R o' b → ∃ r bx', o' = .ret r ∧ r.sc 0 = true ∧ ((b.take bxs.length).all fun b => scL 0 b.cs) = true ∧ bx'.length = st.h.bx.length ∧ (∀ i, i < bxs.length → bx'[pos i]? = b[i]?) ∧ (∀ j, (∀ i, i < bxs.length → pos i ≠ j) → bx'[j]? = st.h.bx[j]?) ∧ K (({ st with h := ⟨bx', st.h.rw⟩ } : AS).put o.dst r)) : SOp G C o Q K st := fun E a w hr => by
  obtain ⟨vs, hrun, hvs⟩ := target_ok ho ht hf hname hfb hr
  unfold Oper.wp
  rw [hrun]
  have hget : ∀ i, i < bxs.length → ∃ b, bxs[i]? = some b ∧ st.h.bx[pos i]? = some b := fun i hi => ⟨_, List.getElem?_eq_getElem hi, hb i _ (List.getElem?_eq_getElem hi)⟩
  have hpos : ∀ i, i < bxs.length → pos i < E.nb := fun i hi => by
    obtain ⟨b, _, h2⟩ := hget i hi
    rw [hr.hp.nb]
    exact (List.getElem?_eq_some_iff.1 h2).1
  let Ec : Env := { E with β := fun i => E.β (pos i), nb := bxs.length, nr := 0 }
  have hH : HRep G.Γ Ec w ⟨bxs, []⟩ := ⟨rfl, rfl, hr.hp.lo, fun i b hib => by
      obtain ⟨us, h1, h2⟩ := hr.hp.box (pos i) b (hb i b hib)
      exact ⟨us, h1, h2.1, fun j x v hx hv => (h2.2 j x v hx hv).sc (scL_get (List.all_eq_true.1 hsc b (List.mem_of_getElem? hib)) hx) (Nat.zero_le _) (fun _ h => absurd h (Nat.not_lt_zero _)) rfl⟩,
    fun i r h => by simp at h, fun i j hi hj he => hinj i j hi hj (hr.hp.inj _ _ (hpos i hi) (hpos j hj) he), fun i j r s k h => by simp at h, fun i j r _ h => by simp at h, hr.hp.im_lt, fun k i hi hk => hr.hp.im_b k (pos i) (hpos i hi) hk, fun k j r h => by simp at h, hr.hp.gl⟩
  have hargs : VReps Ec w xs vs := ⟨by rw [hvs.1, hl], fun j x v hx hv => by
    have hj := (List.getElem?_eq_some_iff.1 hx).1
    obtain ⟨y, hy⟩ : ∃ y, ys[j]? = some y := ⟨_, List.getElem?_eq_getElem (by rw [hl]; exact hj)⟩
    exact ARel.rep (E := E) (E' := Ec) (ha j y x hy hx) (fun _ _ => rfl) rfl rfl (hvs.2 j y v hy hv)⟩
  refine (hc Ec w vs hH hargs).mono ?_
  rintro e w' ⟨out, b, E', hR, ho', hh, hx⟩
  obtain ⟨r, bx', rfl, hrs, hbs, hlen, hin, hout, hK⟩ := h out b hR
  obtain ⟨v, rfl, hv⟩ := ho'
  have hsz := hx.sz
  have keep : ∀ k, k < w.heap.size → (∀ i, i < bxs.length → E.β (pos i) ≠ k) → w'.heap[k]? = w.heap[k]? := fun k h1 h2 => hx.keep k h1 h2
  have him : ∀ k, E.im k → w'.heap[k]? = w.heap[k]? := fun k hk => keep k (hr.hp.im_lt k hk) fun i hi => hr.hp.im_b k (pos i) (hpos i hi) hk
  let E2 : Env := { E with im := E'.im }
  have mv : ∀ x v, VRep E w x v → VRep E2 w' x v := fun x v hv => hv.move (Nat.le_refl _) (Nat.le_refl _) (fun _ _ => rfl) (fun _ _ => rfl) hx.up him
  have hrow : ∀ (j : Nat) (s : Row) (k : Nat), st.h.rw[j]? = some (some s) → (E.ρ j).ownBlock = some k → k < w.heap.size ∧ w'.heap[k]? = w.heap[k]? := fun j s k hj hk => by
    obtain ⟨us, ho, _⟩ := hr.hp.row j s hj
    have hlt := (ownsRow_lt ho hk).2
    exact ⟨hlt, keep k hlt fun i hi he => hr.hp.brw (pos i) j s (hpos i hi) hj (by rw [hk, ← he])⟩
  have hrel : Rel G C E2 { st with h := ⟨bx', st.h.rw⟩ } a w' := by
    refine ⟨hr.defers, hr.size, hr.fr.move mv, ⟨by simp only []; rw [hlen]; exact hr.hp.nb, hr.hp.nr, Nat.le_trans hr.hp.lo hsz, fun i bb hi => ?_, fun j s hj => ?_, hr.hp.inj, hr.hp.rinj, hr.hp.brw, hh.im_lt, fun k i hi hk => ?_, fun k j s hj hk => ?_, hh.gl⟩,
      hr.lo, hr.nb, hr.β, hr.own, fun k hk => hx.up k (hr.up k hk), fun k hk => ?_, fun k h1 h2 h3 => ?_, hx.os.trans hr.os, hx.tape.trans hr.tape, hx.out.trans hr.out, Nat.le_trans hr.sz hsz, hr.rows⟩
    · simp only [] at hi
      by_cases hp : ∃ i0, i0 < bxs.length ∧ pos i0 = i
      · obtain ⟨i0, h0, rfl⟩ := hp
        rw [hin i0 h0] at hi
        obtain ⟨us, h1, h2⟩ := hh.box i0 bb hi
        have hm : bb ∈ b.take bxs.length := List.mem_of_getElem? (i := i0) (by rw [List.getElem?_take, if_pos h0]; exact hi)
        refine ⟨us, by rw [hx.β i0 h0] at h1; exact h1, h2.1, fun j x u hx' hu => ?_⟩
        exact (h2.2 j x u hx' hu).sc (scL_get (List.all_eq_true.1 hbs bb hm) hx') (Nat.zero_le _) (fun _ h => absurd h (Nat.not_lt_zero _)) rfl
      · have hno : ∀ i0, i0 < bxs.length → pos i0 ≠ i := fun i0 h0 he => hp ⟨i0, h0, he⟩
        rw [hout i hno] at hi
        obtain ⟨us, h1, h2⟩ := hr.hp.box i bb hi
        have hiE : i < E.nb := by rw [hr.hp.nb]; exact (List.getElem?_eq_some_iff.1 hi).1
        exact ⟨us, (keep _ (lt_of_some h1) fun i0 h0 he => hno i0 h0 (hr.hp.inj _ _ (hpos i0 h0) hiE he)).trans h1, h2.move mv⟩
    · obtain ⟨us, ho, hxs, h1⟩ := hr.hp.row j s hj
      exact ⟨us, ownsRow_move ho fun k hk => (hrow j s k hj hk).2, hxs.move hx.up him, h1⟩
    · rcases hx.dn k hk with h2 | h2
      · exact hr.hp.im_b k i hi h2
      · have := hr.hp.bx_lt hi
        intro he
        have he' : E.β i = k := he
        omega
    · intro hcn
      have h1 := hrow j s k hj hcn
      rcases hx.dn k hk with h2 | h2
      · exact hr.hp.im_r k j s hj h2 hcn
      · omega
    · rcases hx.dn k hk with h | h
      · exact hr.dn k h
      · exact .inr (.inl (Nat.le_trans hr.sz h))
    · refine (keep k (Nat.lt_of_lt_of_le h1 hr.sz) fun i hi he => ?_).trans (hr.keep k h1 h2 h3)
      rcases Nat.lt_or_ge (pos i) C.nb with hlt | hge
      · exact h2 (pos i) hlt (by rw [← hr.β _ hlt]; exact he)
      · have := hr.own (pos i) hge (hpos i hi)
        omega
  exact ⟨_, _, hK, hrel.put hd (hv.sc hrs (Nat.zero_le _) (fun _ h => absurd h (Nat.not_lt_zero _)) rfl)⟩
end
/-- The callee's word for a value: box b is its box 0. -/
def ren1 (b : Nat) : PV → Option PV
  | .ptr c o => match Nat.beq c b with
    | true => some (.ptr 0 o)
    | false => none
  | y => match y.pure with
    | true => some y
    | false => none
mutual
def ren (b : Nat) : PV → Option PV
  | .func fn cs => match renL b cs with
    | some xs => some (.func fn xs)
    | none => none
  | .ptr c o => ren1 b (.ptr c o)
  | .int k n => some (.int k n)
  | .bool v => some (.bool v)
  | .str s => some (.str s)
  | .slice n cs => some (.slice n cs)
  | .nil => some .nil
  | y => ren1 b y
def renL (b : Nat) : List PV → Option (List PV)
  | [] => some []
  | y :: ys => match ren b y, renL b ys with
    | some x, some xs => some (x :: xs)
    | _, _ => none
end
theorem ren1_ok {b : Nat} {y x : PV} (h : ren1 b y = some x) : ARel (fun _ => b) 1 y x := by
  unfold ren1 at h
  split at h
  · split at h
    · rename_i hb
      cases h
      obtain rfl := Nat.eq_of_beq_eq_true hb
      exact .ptr (pos := fun _ => _) (b := 0) (Nat.lt_succ_self 0)
    · cases h
  · split at h
    · rename_i hp
      cases h
      exact .pure hp
    · cases h
mutual
theorem ren_ok {b : Nat} : ∀ (y x : PV), ren b y = some x → ARel (fun _ => b) 1 y x
  | .func fn cs, x, h => by
    simp only [ren] at h
    split at h
    · rename_i xs hx
      cases h
      obtain ⟨h1, h2⟩ := renL_ok cs xs hx
      exact .func h1 h2
    · cases h
  | .ptr c o, x, h => ren1_ok (by simpa only [ren] using h)
  | .int k n, x, h => by simp only [ren] at h; cases h; exact .pure rfl
  | .bool v, x, h => by simp only [ren] at h; cases h; exact .pure rfl
  | .str s, x, h => by simp only [ren] at h; cases h; exact .pure rfl
  | .slice n cs, x, h => by simp only [ren] at h; cases h; exact .pure rfl
  | .nil, x, h => by simp only [ren] at h; cases h; exact .pure rfl
  | .own _ _, x, h => ren1_ok (by simpa only [ren] using h)
  | .rpos _ _, x, h => ren1_ok (by simpa only [ren] using h)
  | .bsl _ _ _, x, h => ren1_ok (by simpa only [ren] using h)
  | .epos _, x, h => ren1_ok (by simpa only [ren] using h)
  | .nilptr, x, h => ren1_ok (by simpa only [ren] using h)
  | .nilfunc, x, h => ren1_ok (by simpa only [ren] using h)
  | .niliface, x, h => ren1_ok (by simpa only [ren] using h)
  | .agg _, x, h => ren1_ok (by simpa only [ren] using h)
  | .tup _, x, h => ren1_ok (by simpa only [ren] using h)
  | .iface _ _, x, h => ren1_ok (by simpa only [ren] using h)
  | .junk, x, h => ren1_ok (by simpa only [ren] using h)
theorem renL_ok {b : Nat} : ∀ (ys xs : List PV), renL b ys = some xs → ys.length = xs.length ∧ ∀ (j : Nat) (y x : PV), ys[j]? = some y → xs[j]? = some x → ARel (fun _ => b) 1 y x
  | [], xs, h => by simp only [renL] at h; cases h; exact ⟨rfl, fun j y x h => by simp at h⟩
  | y :: ys, xs, h => by
    simp only [renL] at h
    split at h
    · rename_i x xs' hx hxs
      cases h
      obtain ⟨h1, h2⟩ := renL_ok ys xs' hxs
      refine ⟨by simp [h1], fun j y' x' hy hx' => ?_⟩
      cases j with
      | zero => simp at hy hx'; subst hy; subst hx'; exact ren_ok y x hx
      | succ j => exact h2 j y' x' (by simpa using hy) (by simpa using hx')
    · cases h
end
mutual
/-- The box that a value points to. -/
def ptrOf : PV → Option Nat
  | .ptr b _ => some b
  | .func _ cs => ptrOfL cs
  | _ => none
def ptrOfL : List PV → Option Nat
  | [] => none
  | y :: ys => match ptrOf y with
    | some b => some b
    | none => ptrOfL ys
end
/-- A function that only computes, and gives a new row. -/
def Fresh (G : Prg) (f : FuncId) (args : List PV) (row : Row) : Prop :=
  ∀ E w vs, HRep G.Γ E w ⟨[], []⟩ → VReps E w args vs → Calls G.P f vs.toArray w fun e w' => ∃ v ys E', e = .returned v ∧ w'.ownsRow w.heap.size row.ty row.sz v row.n ys ∧ IReps E'.im w' row.cs ys ∧ (∀ u ∈ ys, u.oneCell' = true) ∧ (∀ k, v.ownBlock = some k → ¬ E'.im k) ∧ HRep G.Γ E' w' ⟨[], []⟩ ∧ PExt 0 E w E' w'
section
variable {G : Prg} {C : Ctx} {Q : AEx → AS → Prop} {K : AS → Prop} {st : AS}
theorem SOpG.callFresh {o : Oper} {c : Call} {f : FuncId} {fn : Func} {args : List PV} {row : Row} (ho : o.op = .call c) (ht : target st G.Γ c = some (f, args)) (hf : G.P.funcs[f]? = some fn) (hname : (fn.name == "runtime.NumGoroutine") = false) (hb : fn.body.isSome = true)
    (hp : pureL args = true) (hd : dstOk C.nt o.dst = true) (hc : Fresh G f args row) (h : K ((st.newRow row).put o.dst (.own st.h.rw.length row.n))) : SOpG G C o Q K st := fun E a w hr => by
  obtain ⟨vs, hrun, hvs⟩ := target_ok ho ht hf hname hb hr
  unfold Oper.wp
  rw [hrun]
  have hH : HRep G.Γ { E with nb := 0, nr := 0 } w ⟨[], []⟩ := ⟨rfl, rfl, hr.hp.lo, fun i b hb => by simp at hb, fun i r hr => by simp at hr, fun i j h => by simp at h, fun i j r s k h => by simp at h, fun i j r h => by simp at h, hr.hp.im_lt, fun k i h => by simp at h, fun k j r h => by simp at h, hr.hp.gl⟩
  refine (hc { E with nb := 0, nr := 0 } w vs hH ((hvs.pure hp).v (E := { E with nb := 0, nr := 0 }))).mono ?_
  rintro e w' ⟨v, ys, E', rfl, h1, h2, h3, h4, hh, hx⟩
  have hr2 := hr.more (im := E'.im) hx.sz (fun k hk => hx.keep k hk (fun i hi => by simp at hi)) hx.os hx.tape hx.out hx.up hx.dn hh.im_lt
  obtain ⟨hr3, hv⟩ := hr2.newRow (x := row) (v := v) (xs := ys) (World.ownsRow.mono h1 hr.hp.lo) h2 h3 (fun k i hi hk => by
      have a1 := (World.ownsRow.lt h1 k hk).1
      have a2 := hr.hp.bx_lt (i := i) hi
      intro he
      have he' : E.β i = k := he
      omega) h4 (fun k j s hj hk => by
      obtain ⟨xs, ho, _⟩ := hr.hp.row j s hj
      intro he
      have a1 := (World.ownsRow.lt h1 k hk).1
      have a2 := (ownsRow_lt ho he).2
      omega) (fun k hk => .inl (Nat.le_trans hr.sz (World.ownsRow.lt h1 k hk).1))
  exact ⟨⟨fun k hk => hx.keep k hk (fun i hi => by simp at hi), hx.sz⟩, _, _, h, hr3.put hd hv⟩
def FinF (G : Prg) (fn : Func) (row : Row) (st : AS) : Prop := ∃ r, aret G fn st = some (.own r row.n) ∧ st.h.rw[r]? = some (some row)
theorem Fresh.of_swp {f : FuncId} {fn : Func} {c : Code} {args : List PV} {row : Row} (hf : G.P.funcs[f]? = some fn) (hb : fn.body = some c) (hn : args.length ≤ fn.ntmps)
    (h : ∀ w0 E0, SWP G (Ctx.of w0 E0 0 fn.ntmps) c (QT (FinF G fn row) [] (FinF G fn row) (fun _ _ => False)) ⟨enum 0 args, ⟨[], []⟩⟩) : Fresh G f args row := fun E w vs hh hv => by
  refine calls_of_wp hf hb ?_
  have hE : HRep G.Γ { E with lo := w.heap.size } w ⟨[], []⟩ := ⟨hh.nb, hh.nr, Nat.le_refl _, fun i b hb => by simp at hb, fun i r hr => by simp at hr, hh.inj, hh.rinj, hh.brw, hh.im_lt, hh.im_b, hh.im_r, hh.gl⟩
  have hv' : VReps { E with lo := w.heap.size } w args vs := hv.move fun x v hx => hx.move (Nat.le_refl _) (Nat.le_refl _) (fun _ _ => rfl) (fun _ _ => rfl) (fun _ h => h) (fun _ _ => rfl)
  have hrel : Rel G (Ctx.of w E 0 fn.ntmps) { E with lo := w.heap.size } ⟨enum 0 args, ⟨[], []⟩⟩ { tmps := vs.toArray ++ Array.replicate (fn.ntmps - vs.toArray.size) undef, defers := [] } w :=
    ⟨rfl, by simp [hv.1]; omega, fun s => by
      rcases lk_enum args vs 0 (fn.ntmps - vs.length) s hv' with h | h
      · have e : (vs.toArray ++ Array.replicate (fn.ntmps - vs.toArray.size) undef).getD s undef = (vs ++ List.replicate (fn.ntmps - vs.length) undef).getD (s - 0) undef := by
          rw [Array.getD_eq_getD_getElem?, List.getD, ← Array.getElem?_toList]
          simp
        rw [e]
        exact h
      · omega, hE, rfl, Nat.zero_le _, fun _ _ => rfl, fun i h1 h2 => absurd (show i < 0 by have e : E.nb = 0 := hh.nb; exact Nat.lt_of_lt_of_eq h2 e) (Nat.not_lt_zero _), fun _ h => h, fun _ h => .inl h, fun _ _ _ _ => rfl, rfl, rfl, rfl, Nat.le_refl _, fun j s k hj => by simp at hj⟩
  refine wp_mono (h w E _ _ _ hrel) fun e a' w' ⟨ae, s, E', q, x, r⟩ => ?_
  have fin : FinF G fn row s → a'.defers = [] ∧ ∃ v, (results fn a'.tmps).run G.P w' = .ok v w' ∧ ∃ v' ys E', (Ending.returned v) = .returned v' ∧ w'.ownsRow w.heap.size row.ty row.sz v' row.n ys ∧ IReps E'.im w' row.cs ys ∧ (∀ u ∈ ys, u.oneCell' = true) ∧ (∀ k, v'.ownBlock = some k → ¬ E'.im k) ∧ HRep G.Γ E' w' ⟨[], []⟩ ∧ PExt 0 E w E' w' := fun ⟨rr, h3, h4⟩ => by
    obtain ⟨v, hv1, hv2⟩ := aret_ok r.fr r.hp h3
    obtain ⟨us, ho, hus, h1⟩ := r.hp.row rr row h4
    obtain ⟨k1, k2⟩ := close_ok r (fun _ h => h) (m := 0) (Nat.le_refl _) (Nat.zero_le _) rfl
    have hve : v = E'.ρ rr := by
      cases hv2 with
      | imm h => cases h
      | own hr he hn => subst hn; rw [he]
    refine ⟨r.defers, v, hv1, v, us, { E' with nb := 0, nr := 0 }, rfl, ?_, hus, h1, fun k hk him => ?_, k1, ⟨k2.sz, k2.os, k2.tape, k2.out, k2.keep, k2.more, k2.β, k2.up, k2.dn, k2.own⟩⟩
    · rw [hve]
      have hlo : E'.lo = w.heap.size := r.lo
      rw [← hlo]
      exact ho
    · rw [hve] at hk
      exact r.hp.im_r k rr row h4 him hk
  cases ae with
  | normal => cases x; exact fin q
  | ret => cases x; exact fin q
  | exit i => exact q.elim
  | panic y => exact q.elim
/-- Is a slice of no elements nil? Either may be. -/
theorem SOpG.isNil0 {o : Oper} {t t' : TypeId} {e : TypeId} {td : TD} {x y : Operand} (ho : o.op = .binOp .eql t x y t') (ht : G.T t = some td) (hk : td.k = .slice e) (hx : st.ev G.Γ x = .slice 0 []) (hy : st.ev G.Γ y = .nil) (hd : dstOk C.nt o.dst = true) (h : ∀ b, K (st.put o.dst (.bool b))) : SOpG G C o Q K st := fun E a w hr => by
  have hu := ev_rep hr.fr hr.hp x
  have hv := ev_rep hr.fr hr.hp y
  rw [hx] at hu
  rw [hy] at hv
  obtain ⟨d, hdd, hkk⟩ := (G.hT _ _ ht).und
  rw [hk] at hkk
  simp only [TK.ok] at hkk
  subst hkk
  have hrr : ∀ w, (underlying t).run G.P w = .ok (.slice e) w := fun w => wf_und hdd w
  have hv0 := hv.nil_inv
  have key : ∃ b, (execOp a.eval o).run G.P w = .ok (.value (.bool b)) w := by
    rcases hu.slice_inv with ⟨h0, _, _⟩ | ⟨ad, c, vs, h0, _⟩
    · refine ⟨true, ?_⟩
      have h1 : (Op.equal t (a.eval x) (a.eval y)).run G.P w = .ok true w := by
        rw [h0, hv0, Op.equal, show Op.maxDepth = 9999 + 1 from rfl, Op.equalIn]; simp [hrr, Result.andThen]
      have h2 : binOp .eql t (a.eval x) (a.eval y) = (do pure (.bool (← Op.equal t (a.eval x) (a.eval y)))) := by rw [h0, hv0]; rfl
      have h3 : ∀ op p q, (eqGuard op t p q (a.eval x) (a.eval y)).run G.P w = .ok () w := fun op p q => by rw [h0, hv0]; cases op <;> simp [eqGuard]
      simp [execOp, ho, h1, h2, h3, Result.andThen]
    · refine ⟨false, ?_⟩
      have h1 : (Op.equal t (a.eval x) (a.eval y)).run G.P w = .ok false w := by
        rw [h0, hv0, Op.equal, show Op.maxDepth = 9999 + 1 from rfl, Op.equalIn]; simp [hrr, Result.andThen]
      have h2 : binOp .eql t (a.eval x) (a.eval y) = (do pure (.bool (← Op.equal t (a.eval x) (a.eval y)))) := by rw [h0, hv0]; rfl
      have h3 : ∀ op p q, (eqGuard op t p q (a.eval x) (a.eval y)).run G.P w = .ok () w := fun op p q => by rw [h0, hv0]; cases op <;> simp [eqGuard]
      simp [execOp, ho, h1, h2, h3, Result.andThen]
  obtain ⟨b, hrun⟩ := key
  unfold Oper.wp
  rw [hrun]
  exact ⟨⟨Gr.refl w, Nat.le_refl _⟩, _, E, h b, hr.put hd (.imm (.bool b))⟩
end
def pickS (sl : List Nat) (t : List (Nat × PV)) : List (Nat × PV) := sl.map fun k => (k, lk t k)
theorem lk_pickS (sl : List Nat) (t : List (Nat × PV)) (k : Nat) : lk (pickS sl t) k = .junk ∨ lk (pickS sl t) k = lk t k := by
  induction sl with
  | nil => exact .inl rfl
  | cons s sl ih =>
    simp only [pickS, List.map_cons, lk] at ih ⊢
    split
    · rename_i h; subst h; exact .inr rfl
    · exact ih
/-- The state, of these slots alone. -/
def nrm (sl : List Nat) (s : AS) : AS := ⟨pickS sl s.t, s.h⟩
section
variable {G : Prg} {C : Ctx} {Q : AEx → AS → Prop} {st : AS}
theorem Rel.norm {E : Env} {a : Act} {w : World} (hr : Rel G C E st a w) (sl : List Nat) : Rel G C E (nrm sl st) a w :=
  ⟨hr.defers, hr.size, fun k => by
    simp only [nrm]
    rcases lk_pickS sl st.t k with h | h
    · rw [h]; exact .junk _
    · rw [h]; exact hr.fr k, hr.hp, hr.lo, hr.nb, hr.β, hr.own, hr.up, hr.dn, hr.keep, hr.os, hr.tape, hr.out, hr.sz, hr.rows⟩
theorem SWP.norm {c : Code} (sl : List Nat) (h : SWP G C c Q (nrm sl st)) : SWP G C c Q st := fun E a w hr => h E a w (hr.norm sl)
theorem SWP.normQ {c : Code} (h : SWP G C c (fun e s => ∃ sl, Q e (nrm sl s)) st) : SWP G C c Q st := fun E a w hr =>
  wp_mono (h E a w hr) fun e a w ⟨ae, s, E', ⟨sl, q⟩, x, r⟩ => ⟨ae, _, E', q, x, r.norm sl⟩
end
section
variable {P : Program} {ops : Array Oper} {Q : Exit → Act → World → Prop} {ds : List Nat}
theorem wpG_free {i : Nat} {oi : Oper} {v : Value} (hi : ops[i]? = some oi) (hsel : ∀ (j : Nat) (o : Oper) cs b, ops[j]? = some o → o.op ≠ .select cs b)
    (hQ : ∀ c a w, Q (.panic c) (a.put oi.dst v) w → Q (.panic c) a w) :
    ∀ (fuel : Nat) (l : Array Bool) (a : Act) (w : World),
      (∀ j oj, ops[j]? = some oj → j ≠ i → l.getD j true = false → (∀ e ∈ oj.after, Region.binds .any e = true → e.on ≠ i) → oi.apart ops oj = true) →
      i ∈ Region.ready .any ops l → YieldsIf P ops (fun _ => True) oi v a →
      wpG P ops Q ds fuel (l.setIfInBounds i true) (a.put oi.dst v) w → wpG P ops Q ds (fuel + 1) l a w := by
  intro fuel
  induction fuel with
  | zero =>
    intro l a w _ hr hy H
    refine ⟨fun h => (by rw [h] at hr; cases hr), fun j hj => ?_⟩
    by_cases hji : j = i
    · subst hji; exact hy.wpOp hi trivial ⟨fun _ => ⟨Gr.refl w, Nat.le_refl _⟩, H⟩
    · have := ready_mono hj hji
      rw [H.1] at this
      cases this
  | succ fuel ih =>
    intro l a w hfree hr hy H
    refine ⟨fun h => (by rw [h] at hr; cases hr), fun j hj => ?_⟩
    by_cases hji : j = i
    · subst hji; exact hy.wpOp hi trivial ⟨fun _ => ⟨Gr.refl w, Nat.le_refl _⟩, H⟩
    · have h1 := H.2 j (ready_mono hj hji)
      obtain ⟨hjun, oj, hoj, hall⟩ := mem_ready.1 hj
      have hiun := (mem_ready.1 hr).1
      have hif := getD_listed hiun
      have hnot : ∀ e ∈ oj.after, Region.binds .any e = true → e.on ≠ i := fun e he hb heq => by
        have h1 := hall e he hb
        rw [heq, hif] at h1
        cases h1
      have h2 := wpOp_putIf hoj (hfree j oj hoj hji hjun hnot) (fun cs b => hsel i oi cs b hi) (fun cs b => hsel j oj cs b hoj) hQ hy h1
      have un : ∀ k, (l.setIfInBounds j true).getD k true = false → l.getD k true = false := fun k hun => by
        by_cases hjk : j = k
        · subst hjk; exact hjun
        · rw [getD_set_of hjk] at hun; exact hun
      refine wpOp_mono (fun a' w' h3 => ⟨h3.2.1, ih (l.setIfInBounds j true) a' w' (fun k ok hk hki hun hno => hfree k ok hk hki (un k hun) hno) (ready_mono hr (Ne.symm hji)) h3.1 ?_⟩) h2
      rw [Array.setIfInBounds_comm _ _ hji]
      exact h3.2.2
end
/-- What hangs on no world. -/
def mval (G : Prg) (st : AS) : Op → Option PV
  | .move x | .assign x => some (st.ev G.Γ x)
  | _ => none
def freeOk (ops : Array Oper) (l l' : Array Bool) (i : Nat) : Bool := Region.noSelect ops && Region.free .any ops l i && (Region.ready .any ops l).contains i && (l.setIfInBounds i true == l')
theorem SAny.free {G : Prg} {C : Ctx} {Q : AEx → AS → Prop} {st : AS} {ops : Array Oper} {ds : List Nat} {n : Nat} {i : Nat} {o : Oper} {l l' : Array Bool} {x : PV} (hi : ops[i]? = some o) (hg : o.guard = none) (hx : mval G st o.op = some x) (hd : dstOk C.nt o.dst = true) (hc : freeOk ops l l' i = true)
    (hQ : PanicT Q) (h : SAny G C ops Q ds n l' (st.put o.dst x)) : SAny G C ops Q ds (n + 1) l st := fun E a w hr => by
  have key : ∃ v, YieldsIf G.P ops (fun _ => True) o v a ∧ VRep E w x v := by
    unfold mval at hx
    split at hx
    · rename_i y ho
      cases hx
      exact ⟨a.eval y, .inl ⟨by simp [Region.wanted, hg], fun w' _ => by simp [execOp, ho]⟩, ev_rep hr.fr hr.hp y⟩
    · rename_i y ho
      cases hx
      exact ⟨a.eval y, .inl ⟨by simp [Region.wanted, hg], fun w' _ => by simp [execOp, ho]⟩, ev_rep hr.fr hr.hp y⟩
    · cases hx
  obtain ⟨v, hy, hv⟩ := key
  simp only [freeOk, Bool.and_eq_true, beq_iff_eq] at hc
  obtain ⟨⟨⟨h1, h2⟩, h3⟩, rfl⟩ := hc
  exact wpG_free hi (Region.noSelect_spec h1) (fun c a w => hQ.put o.dst v c a w) n l a w (Region.free_spec hi h2) (by simpa using h3) hy (h E _ w (hr.put hd hv))
/-- Two states are one: the kernel never looks. -/
noncomputable def sameS (x y : AS) : Bool := by
  classical exact decide (x = y)
theorem sameS_self (x : AS) : sameS x x = true := by unfold sameS; classical exact decide_eq_true rfl
theorem of_sameS {x y : AS} (h : sameS x y = true) : x = y := by unfold sameS at h; classical exact of_decide_eq_true h
mutual
/-- A value that points nowhere. -/
def PV.lone : PV → Bool
  | .int _ _ | .bool _ | .str _ | .nil | .nilptr | .nilfunc | .niliface => true
  | .agg cs => loneL cs
  | .tup cs => loneL cs
  | .iface _ x => x.lone
  | _ => false
def loneL : List PV → Bool
  | [] => true
  | x :: xs => x.lone && loneL xs
end
theorem loneL_get {xs : List PV} (h : loneL xs = true) {j : Nat} {x : PV} (hj : xs[j]? = some x) : x.lone = true := by
  induction xs generalizing j with
  | nil => simp at hj
  | cons y ys ih =>
    simp only [loneL, Bool.and_eq_true] at h
    cases j with
    | zero => simp at hj; subst hj; exact h.1
    | succ j => exact ih h.2 (by simpa using hj)
theorem IRep.lone {im im' : Nat → Prop} {w w' : World} {x : PV} {v : Value} (h : IRep im w x v) (hl : x.lone = true) : IRep im' w' x v := by
  induction h with
  | int | bool | str | nil | nilptr | nilfunc | niliface => constructor
  | slice0 | slice | epos | func => simp [PV.lone] at hl
  | iface t _ ih => exact .iface t (ih (by simpa [PV.lone] using hl))
  | agg hn hr ih => exact .agg hn fun j x v hx hv => ih j x v hx hv (loneL_get (by simpa [PV.lone] using hl) hx)
  | tup hn hr ih => exact .tup hn fun j x v hx hv => ih j x v hx hv (loneL_get (by simpa [PV.lone] using hl) hx)
theorem VRep.lone {E E' : Env} {w w' : World} {x : PV} {v : Value} (h : VRep E w x v) (hl : x.lone = true) : VRep E' w' x v := by
  induction h with
  | imm h => exact .imm (h.lone hl)
  | own | rpos | ptr | bsl | func | junk => simp [PV.lone] at hl
  | iface t _ ih => exact .iface t (ih (by simpa [PV.lone] using hl))
  | agg hn hr ih => exact .agg hn fun j x v hx hv => ih j x v hx hv (loneL_get (by simpa [PV.lone] using hl) hx)
  | tup hn hr ih => exact .tup hn fun j x v hx hv => ih j x v hx hv (loneL_get (by simpa [PV.lone] using hl) hx)
section
variable {G : Prg} {C : Ctx} {Q : AEx → AS → Prop} {K : AS → Prop} {st : AS}
theorem SOpG.look {o : Oper} {c : Call} {f : FuncId} {fn : Func} {args : List PV} {R : PV → Prop} (rs : List Nat) (ho : o.op = .call c) (ht : target (AS.frz rs st) G.Γ c = some (f, args)) (hf : G.P.funcs[f]? = some fn) (hname : (fn.name == "runtime.NumGoroutine") = false) (hb : fn.body.isSome = true)
    (hp : pureL args = true) (hd : dstOk C.nt o.dst = true) (hc : Pure G f args R) (h : ∀ r, R r → r.lone = true ∧ K (st.put o.dst r)) : SOpG G C o Q K st := fun E a w hr => by
  obtain ⟨E2, hr2⟩ := hr.frz (rs := rs)
  obtain ⟨vs, hrun, hvs⟩ := target_ok ho ht hf hname hb hr2
  unfold Oper.wp
  rw [hrun]
  have hH : HRep G.Γ { E2 with nb := 0, nr := 0 } w ⟨[], []⟩ := ⟨rfl, rfl, hr2.hp.lo, fun i b hb => by simp at hb, fun i r hr => by simp at hr, fun i j h => by simp at h, fun i j r s k h => by simp at h, fun i j r h => by simp at h, hr2.hp.im_lt, fun k i h => by simp at h, fun k j r h => by simp at h, hr2.hp.gl⟩
  refine (hc { E2 with nb := 0, nr := 0 } w vs hH ((hvs.pure hp).v (E := { E2 with nb := 0, nr := 0 }))).mono ?_
  rintro e w' ⟨out, bx', E', ⟨rfl, r, rfl, hR⟩, ⟨v, rfl, hv⟩, hh, hx⟩
  obtain ⟨h1, h2⟩ := h r hR
  have hr3 := hr.more (im := E.im) hx.sz (fun k hk => hx.keep k hk (fun i hi => by simp at hi)) hx.os hx.tape hx.out (fun k h => h) (fun k h => .inl h) (fun k h => Nat.lt_of_lt_of_le (hr.hp.im_lt k h) hx.sz)
  exact ⟨⟨fun k hk => hx.keep k hk (fun i hi => by simp at hi), hx.sz⟩, _, _, h2, hr3.put hd (hv.lone h1)⟩
end
end Go.AS
