/- Abstract states (own engine), part J: regions that draw their order. -/
import Derived.Test.YteimebpgmfhgjaaDoorEngI
import Derived.OrdersHeld
namespace Go.AS
open Go.RowKit
set_option linter.unusedVariables false
set_option linter.unusedSimpArgs false

/-- Operation d waits for i, by at most so many edges. -/
def waits (ops : Array Oper) (i : Nat) : Nat → Nat → Bool
  | 0, _ => false
  | n + 1, d => match ops[d]? with
    | some o => o.after.any fun e => Region.binds .any e && (e.on == i || waits ops i n e.on)
    | none => false
/-- All that is listed waits for what is listed alone. -/
def Closed (ops : Array Oper) (l : Array Bool) : Prop := ∀ (d : Nat) (o : Oper), ops[d]? = some o → l.getD d false = true → ∀ e ∈ o.after, Region.binds .any e = true → l.getD e.on false = true
def closedB (ops : Array Oper) (l : Array Bool) : Bool := (List.range ops.size).all fun d => !l.getD d false || match ops[d]? with
  | some o => o.after.all fun e => !Region.binds .any e || l.getD e.on false
  | none => true
theorem closed_of {ops : Array Oper} {l : Array Bool} (h : closedB ops l = true) : Closed ops l := fun d o ho hd e he hb => by
  have hlt := (Array.getElem?_eq_some_iff.1 ho).1
  have h1 := List.all_eq_true.1 h d (List.mem_range.2 hlt)
  rw [hd, ho] at h1
  simp only [Bool.not_true, Bool.false_or] at h1
  have h2 := Array.all_eq_true'.1 h1 e he
  rw [hb] at h2
  simpa using h2
theorem getD_set_self {l : Array Bool} {i : Nat} {b : Bool} (h : i < l.size) : (l.setIfInBounds i true).getD i b = true := by
  simp [Array.getD, h]
theorem getD_set_of {l : Array Bool} {i j : Nat} {b : Bool} (hij : i ≠ j) : (l.setIfInBounds i true).getD j b = l.getD j b := by
  simp [Array.getD_eq_getD_getElem?, hij]
theorem getD_true_set {l : Array Bool} {i j : Nat} (h : l.getD j false = true) : (l.setIfInBounds i true).getD j false = true := by
  by_cases hij : i = j
  · subst hij
    rcases Nat.lt_or_ge i l.size with hlt | hge
    · exact getD_set_self hlt
    · simp [Array.getD, Nat.not_lt.2 hge] at h
  · rw [getD_set_of hij]; exact h
theorem Closed.set {ops : Array Oper} {l : Array Bool} (h : Closed ops l) {i : Nat} (hi : i ∈ Region.ready .any ops l) : Closed ops (l.setIfInBounds i true) := fun d o ho hd e he hb => by
  by_cases hdi : i = d
  · subst hdi
    obtain ⟨_, o', ho', hall⟩ := mem_ready.1 hi
    rw [ho] at ho'
    cases ho'
    exact getD_true_set (hall e he hb)
  · rw [getD_set_of hdi] at hd
    exact getD_true_set (h d o ho hd e he hb)
theorem waits_listed {ops : Array Oper} {l : Array Bool} {i : Nat} (hc : Closed ops l) : ∀ (n d : Nat), waits ops i n d = true → l.getD d false = true → l.getD i false = true := by
  intro n
  induction n with
  | zero => intro d h; simp [waits] at h
  | succ n ih =>
    intro d h hd
    simp only [waits] at h
    cases ho : ops[d]? with
    | none => rw [ho] at h; cases h
    | some o =>
      rw [ho] at h
      obtain ⟨e, he, hb⟩ := Array.any_eq_true'.1 h
      simp only [Bool.and_eq_true, Bool.or_eq_true, beq_iff_eq] at hb
      have h1 := hc d o ho hd e he hb.1
      rcases hb.2 with h2 | h2
      · rw [h2] at h1; exact h1
      · exact ih e.on h2 h1
theorem getD_listed {l : Array Bool} {i : Nat} (h : l.getD i true = false) : l.getD i false = false := by
  rcases Nat.lt_or_ge i l.size with hlt | hge
  · simp [Array.getD, hlt] at h ⊢; exact h
  · simp [Array.getD, Nat.not_lt.2 hge] at h
theorem waits_not_ready {ops : Array Oper} {l : Array Bool} {i d n : Nat} (hc : Closed ops l) (hw : waits ops i n d = true) (hun : l.getD i true = false) : d ∉ Region.ready .any ops l := fun hd => by
  obtain ⟨_, o, ho, hall⟩ := mem_ready.1 hd
  have hf := getD_listed hun
  cases n with
  | zero => simp [waits] at hw
  | succ n =>
    simp only [waits, ho] at hw
    obtain ⟨e, he, hb⟩ := Array.any_eq_true'.1 hw
    simp only [Bool.and_eq_true, Bool.or_eq_true, beq_iff_eq] at hb
    have h1 := hall e he hb.1
    rcases hb.2 with h2 | h2
    · rw [h2, hf] at h1; cases h1
    · have := waits_listed hc n e.on h2 h1
      rw [hf] at this; cases this

section
variable {P : Program} {ops : Array Oper} {Q : Exit → Act → World → Prop} {ds : List Nat}
/-- Whatever order is drawn; and every operation but those of ds leaves what was there as it was. -/
def wpG (P : Program) (ops : Array Oper) (Q : Exit → Act → World → Prop) (ds : List Nat) : Nat → Array Bool → Act → World → Prop
  | 0, l, a, w => Region.ready .any ops l = [] ∧ Q .normal a w
  | n + 1, l, a, w => (Region.ready .any ops l = [] → Q .normal a w) ∧
    ∀ i ∈ Region.ready .any ops l, wpOp P ops Q i (fun a' w' => (i ∉ ds → Gr w w' ∧ w.heap.size ≤ w'.heap.size) ∧ wpG P ops Q ds n (l.setIfInBounds i true) a' w') a w
theorem wpAny_of_G : ∀ (n : Nat) (l : Array Bool) (a : Act) (w : World), wpG P ops Q ds n l a w → wpAny P .any ops Q n l a w
  | 0, _, _, _, h => h
  | n + 1, _, _, _, h => ⟨h.1, fun i hi => wpOp_mono (fun a' w' h' => wpAny_of_G n _ a' w' h'.2) (h.2 i hi)⟩
theorem Gr.trans {a b c : World} (h : Gr a b) (k : Gr b c) (hs : a.heap.size ≤ b.heap.size) : Gr a c := fun i hi => (k i (Nat.lt_of_lt_of_le hi hs)).trans (h i hi)
/-- Worlds that have grown out of w. -/
def From (w0 : World) : World → Prop := fun w => Gr w0 w ∧ w0.heap.size ≤ w.heap.size
theorem wpG_first {i : Nat} {oi : Oper} {v : Value} {w0 : World} (hi : ops[i]? = some oi) (hsel : ∀ (j : Nat) (o : Oper) cs b, ops[j]? = some o → o.op ≠ .select cs b)
    (hQ : ∀ c a w, Q (.panic c) (a.put oi.dst v) w → Q (.panic c) a w) (n : Nat) :
    ∀ (fuel : Nat) (l : Array Bool) (a : Act) (w : World),
      (∀ j oj, ops[j]? = some oj → j ≠ i → l.getD j true = false → (∀ e ∈ oj.after, Region.binds .any e = true → e.on ≠ i) → oi.apart ops oj = true) →
      Closed ops l → (∀ d ∈ ds, l.getD d true = false → waits ops i n d = true) → i ∈ Region.ready .any ops l → YieldsIf P ops (From w0) oi v a → From w0 w →
      wpG P ops Q ds fuel (l.setIfInBounds i true) (a.put oi.dst v) w → wpG P ops Q ds (fuel + 1) l a w := by
  intro fuel
  induction fuel with
  | zero =>
    intro l a w _ _ _ hr hy hS H
    refine ⟨fun h => (by rw [h] at hr; cases hr), fun j hj => ?_⟩
    by_cases hji : j = i
    · subst hji; exact hy.wpOp hi hS ⟨fun _ => ⟨Gr.refl w, Nat.le_refl _⟩, H⟩
    · have := ready_mono hj hji
      rw [H.1] at this
      cases this
  | succ fuel ih =>
    intro l a w hfree hc hd hr hy hS H
    refine ⟨fun h => (by rw [h] at hr; cases hr), fun j hj => ?_⟩
    by_cases hji : j = i
    · subst hji; exact hy.wpOp hi hS ⟨fun _ => ⟨Gr.refl w, Nat.le_refl _⟩, H⟩
    · have h1 := H.2 j (ready_mono hj hji)
      obtain ⟨hjun, oj, hoj, hall⟩ := mem_ready.1 hj
      have hiun := (mem_ready.1 hr).1
      have hif := getD_listed hiun
      have hnot : ∀ e ∈ oj.after, Region.binds .any e = true → e.on ≠ i := fun e he hb heq => by
        have h1 := hall e he hb
        rw [heq, hif] at h1
        cases h1
      have hjd : j ∉ ds := fun hm => waits_not_ready hc (hd j hm hjun) hiun hj
      have h2 := wpOp_putIf hoj (hfree j oj hoj hji hjun hnot) (fun cs b => hsel i oi cs b hi) (fun cs b => hsel j oj cs b hoj) hQ hy h1
      have un : ∀ k, (l.setIfInBounds j true).getD k true = false → l.getD k true = false := fun k hun => by
        by_cases hjk : j = k
        · subst hjk; exact hjun
        · rw [getD_set_of hjk] at hun; exact hun
      refine wpOp_mono (fun a' w' h3 => ⟨fun _ => h3.2.1 hjd, ih (l.setIfInBounds j true) a' w' (fun k ok hk hki hun hno => hfree k ok hk hki (un k hun) hno) (hc.set hj) (fun d hm hun => hd d hm (un d hun)) (ready_mono hr (Ne.symm hji)) h3.1 ?_ ?_⟩) h2
      · have h4 := h3.2.1 hjd
        exact ⟨hS.1.trans h4.1 hS.2, Nat.le_trans hS.2 h4.2⟩
      · rw [Array.setIfInBounds_comm _ _ hji]
        exact h3.2.2
def takeOk (ops : Array Oper) (ds : List Nat) (l l' : Array Bool) (i : Nat) : Bool :=
  Region.noSelect ops && Region.free .any ops l i && (Region.ready .any ops l).contains i && closedB ops l && (ds.all fun d => l.getD d true || waits ops i ops.size d) && (l.setIfInBounds i true == l')
end

section
variable {G : Prg} {C : Ctx} {Q : AEx → AS → Prop} {st : AS} {ops : Array Oper} {ds : List Nat} {n : Nat}
/-- Abstract: whatever order is drawn from here on. -/
def SAny (G : Prg) (C : Ctx) (ops : Array Oper) (Q : AEx → AS → Prop) (ds : List Nat) (n : Nat) (l : Array Bool) (st : AS) : Prop :=
  ∀ E a w, Rel G C E st a w → wpG G.P ops (Post G C Q) ds n l a w
/-- An operation that leaves what was there as it was. -/
def SOpG (G : Prg) (C : Ctx) (o : Oper) (Q : AEx → AS → Prop) (K : AS → Prop) (st : AS) : Prop :=
  ∀ E a w, Rel G C E st a w → o.wp G.P a w (fun a' w' => (Gr w w' ∧ w.heap.size ≤ w'.heap.size) ∧ ∃ s E', K s ∧ Rel G C E' s a' w') (Post G C Q)
theorem SOpG.op {o : Oper} {K : AS → Prop} (h : SOpG G C o Q K st) : SOp G C o Q K st := fun E a w hr => Oper.wp_mono (fun a' w' h => h.2) (h E a w hr)
theorem SWP.draw {id : Nat} (ds : List Nat) (l : Array Bool) (hl : Array.replicate ops.size false = l) (h : SAny G C ops Q ds ops.size l st) : SWP G C (.region id ops true) Q st := fun E a w hr => by
  subst hl
  have hr' : Rel G C E st a { w with drawn := w.drawn + 1 } := ⟨hr.defers, hr.size, hr.fr.move fun x v hv => hv.move (Nat.le_refl _) (Nat.le_refl _) (fun _ _ => rfl) (fun _ _ => rfl) (fun _ h => h) (fun _ _ => rfl), hr.hp.grow (Nat.le_refl _) (fun _ _ => rfl), hr.lo, hr.nb, hr.β, hr.own, hr.up, hr.dn, hr.keep, hr.os, hr.tape, hr.out, hr.sz, hr.rows⟩
  exact wp_region_any G.mo (wpAny_of_G _ _ _ _ (h E a _ hr'))
/-- Behind a panic the frame isn't looked at. -/
def PanicT (Q : AEx → AS → Prop) : Prop := ∀ x s, Q (.panic x) s → Q (.panic x) { s with t := [] }
theorem PanicT.fin (G : Prg) (fn : Func) (nb : Nat) (R : Out → List Box → Prop) : PanicT (Fin G fn nb R) := fun x s h => h
theorem PanicT.then {K : AS → Prop} (h : PanicT Q) : PanicT (thenQ K Q) := fun x s hq => h x s hq
theorem PanicT.block {id : Nat} (h : PanicT Q) : PanicT (blockQ id Q) := fun x s hq => h x s hq
theorem PanicT.put (h : PanicT Q) (d : Option Tmp) (v : Value) (c : List PanicEntry) (a : Act) (w : World) (hp : Post G C Q (.panic c) (a.put d v) w) : Post G C Q (.panic c) a w := by
  obtain ⟨ae, s, E, q, x, r⟩ := hp
  cases ae with
  | normal => cases x
  | exit i => cases x
  | ret => cases x
  | panic y =>
    have hsz : a.tmps.size = C.nt := by rw [← r.size]; cases d <;> simp [Act.put]
    have hdf : a.defers = [] := by rw [← r.defers]; cases d <;> rfl
    exact ⟨.panic y, { s with t := [] }, E, h y s q, x, ⟨hdf, hsz, fun s => .junk _, r.hp, r.lo, r.nb, r.β, r.own, r.up, r.dn, r.keep, r.os, r.tape, r.out, r.sz, r.rows⟩⟩
theorem SAny.take {i : Nat} {o : Oper} {l : Array Bool} (l' : Array Bool) {x : PV} (hi : ops[i]? = some o) (hg : o.guard = none) (hx : aval G st o.op = some x) (hd : dstOk C.nt o.dst = true) (hc : takeOk ops ds l l' i = true)
    (hQ : PanicT Q)
    (h : SAny G C ops Q ds n l' (st.put o.dst x)) : SAny G C ops Q ds (n + 1) l st := fun E a w hr => by
  obtain ⟨v, hrun, hv⟩ := aval_ok hr.fr hr.hp hx
  simp only [takeOk, Bool.and_eq_true, beq_iff_eq] at hc
  obtain ⟨⟨⟨⟨⟨h1, h2⟩, h3⟩, h4⟩, h5⟩, rfl⟩ := hc
  refine wpG_first (w0 := w) hi (Region.noSelect_spec h1) (fun c a w => hQ.put o.dst v c a w) ops.size n l a w (Region.free_spec hi h2) (closed_of h4)
    (fun d hm hun => by have := List.all_eq_true.1 h5 d hm; rw [hun] at this; simpa using this) (by simpa using h3) (.inl ⟨by simp [Region.wanted, hg], fun w' hw' => hrun w' hw'.1⟩) ⟨Gr.refl w, Nat.le_refl _⟩ ?_
  exact h E _ w (hr.put hd hv)
theorem SAny.done {l : Array Bool} (hr : (Region.ready .any ops l == []) = true) (h : Q .normal st) : SAny G C ops Q ds n l st := fun E a w hrel => by
  have hr' : Region.ready .any ops l = [] := by simpa using hr
  have hp : Post G C Q .normal a w := ⟨.normal, st, E, h, rfl, hrel⟩
  cases n with
  | zero => exact ⟨hr', hp⟩
  | succ n => exact ⟨fun _ => hp, fun i hi => by rw [hr'] at hi; cases hi⟩
theorem wpOp_plain {P : Program} {Q : Exit → Act → World → Prop} {i : Nat} {o : Oper} (hi : ops[i]? = some o) (hg : o.guard = none) {K : Act → World → Prop} {a : Act} {w : World} (h : o.wp P a w K Q) : wpOp P ops Q i K a w := by
  unfold wpOp
  simp only [hi, Region.wanted, hg, if_true]
  exact .inl h
def readyOk (ops : Array Oper) (l : Array Bool) (rs : List (Nat × Array Bool)) : Bool := (Region.ready .any ops l == rs.map (·.1)) && rs.all fun p => l.setIfInBounds p.1 true == p.2
/-- One alone may come up. -/
theorem SAny.one {i : Nat} {o : Oper} {l : Array Bool} (l' : Array Bool) (hi : ops[i]? = some o) (hg : o.guard = none) (hc : readyOk ops l [(i, l')] = true) (h : SOpG G C o Q (SAny G C ops Q ds n l') st) : SAny G C ops Q ds (n + 1) l st := fun E a w hr => by
  simp only [readyOk, Bool.and_eq_true, beq_iff_eq, List.map_cons, List.map_nil, List.all_cons, List.all_nil, and_true] at hc
  obtain ⟨h1, rfl⟩ := hc
  refine ⟨fun h0 => (by rw [h0] at h1; cases h1), fun j hj => ?_⟩
  rw [h1] at hj
  obtain rfl : j = i := by simpa using hj
  exact wpOp_plain hi hg (Oper.wp_mono (fun a' w' ⟨hgr, s, E', k, r⟩ => ⟨fun _ => hgr, k E' a' w' r⟩) (h E a w hr))
/-- One alone, of ds. -/
theorem SAny.last {i : Nat} {o : Oper} {l : Array Bool} (l' : Array Bool) (hi : ops[i]? = some o) (hg : o.guard = none) (hc : readyOk ops l [(i, l')] = true) (hd : (decide (i ∈ ds)) = true) (h : SOp G C o Q (SAny G C ops Q ds n l') st) : SAny G C ops Q ds (n + 1) l st := fun E a w hr => by
  simp only [readyOk, Bool.and_eq_true, beq_iff_eq, List.map_cons, List.map_nil, List.all_cons, List.all_nil, and_true] at hc
  obtain ⟨h1, rfl⟩ := hc
  refine ⟨fun h0 => (by rw [h0] at h1; cases h1), fun j hj => ?_⟩
  rw [h1] at hj
  obtain rfl : j = i := by simpa using hj
  exact wpOp_plain hi hg (Oper.wp_mono (fun a' w' ⟨s, E', k, r⟩ => ⟨fun hn => absurd (of_decide_eq_true hd) hn, k E' a' w' r⟩) (h E a w hr))
/-- Either of two. -/
theorem SAny.two {i j : Nat} {oi oj : Oper} {l : Array Bool} (li lj : Array Bool) (hi : ops[i]? = some oi) (hj : ops[j]? = some oj) (hgi : oi.guard = none) (hgj : oj.guard = none) (hc : readyOk ops l [(i, li), (j, lj)] = true)
    (h1 : SOpG G C oi Q (SAny G C ops Q ds n li) st) (h2 : SOpG G C oj Q (SAny G C ops Q ds n lj) st) : SAny G C ops Q ds (n + 1) l st := fun E a w hr => by
  simp only [readyOk, Bool.and_eq_true, beq_iff_eq, List.map_cons, List.map_nil, List.all_cons, List.all_nil, and_true] at hc
  obtain ⟨h3, rfl, rfl⟩ := hc
  refine ⟨fun h0 => (by rw [h0] at h3; cases h3), fun k hk => ?_⟩
  rw [h3] at hk
  rcases (by simpa using hk : k = i ∨ k = j) with rfl | rfl
  · exact wpOp_plain hi hgi (Oper.wp_mono (fun a' w' ⟨hgr, s, E', k, r⟩ => ⟨fun _ => hgr, k E' a' w' r⟩) (h1 E a w hr))
  · exact wpOp_plain hj hgj (Oper.wp_mono (fun a' w' ⟨hgr, s, E', k, r⟩ => ⟨fun _ => hgr, k E' a' w' r⟩) (h2 E a w hr))
theorem SOpG.box {o : Oper} {K : AS → Prop} {t : TypeId} {x : Operand} (ho : o.op = .box t x) (hp : (st.ev G.Γ x).part = true) (hd : dstOk C.nt o.dst = true) (h : K (st.newBox (st.ev G.Γ x).cells t o.dst)) : SOpG G C o Q K st := fun E a w hr => by
  have hv := (ev_rep hr.fr hr.hp x).cells' hp
  unfold Oper.wp execOp
  simp only [ho, Instr.box, newVar, newRow, Sem.run_bind, run_newObj, Sem.run_pure, Result.andThen, Oper.upon]
  have := hr.newBoxPut hv t hd
  rw [Array.toArray_toList] at this
  exact ⟨⟨fun k hk => Below.heap_alloc w _ k hk, by simp⟩, _, E.newBox w.heap.size, h, this⟩
theorem SOpG.alloc {o : Oper} {K : AS → Prop} {t : TypeId} {td : TD} (ho : o.op = .alloc t) (ht : G.T t = some td) (hd : dstOk C.nt o.dst = true) (h : K (st.newBox td.zero t o.dst)) : SOpG G C o Q K st := fun E a w hr => by
  obtain ⟨i, z, hi, _, _, hz, hc⟩ := (G.hT _ _ ht).info
  have hv : VReps E w td.zero z.cells.toList := by rw [← hc]; exact cellsOf_rep _
  unfold Oper.wp execOp
  simp only [ho, Instr.alloc, zeroValue, typeInfo, newVar, newRow, Sem.run_bind, run_program, run_newObj, Sem.run_pure, Result.andThen, hi, hz, Oper.upon]
  have := hr.newBoxPut hv t hd
  rw [Array.toArray_toList] at this
  exact ⟨⟨fun k hk => Below.heap_alloc w _ k hk, by simp⟩, _, E.newBox w.heap.size, h, this⟩
theorem SOpG.buildSlice {o : Oper} {K : AS → Prop} {t e : TypeId} {tdt td : TD} {len : Nat} {parts : Array (Nat × Operand)} {out : List PV} (ho : o.op = .buildSlice t len parts) (ht : G.T t = some tdt) (hk : tdt.k = .slice e) (hte : G.T e = some td)
    (hout : abuildSlice td.size len (parts.toList.map fun p => (p.1, st.ev G.Γ p.2)) = some out) (hlim : len * td.size ≤ 16777216) (hp : pureL out = true) (h1 : allOne out = true) (hd : dstOk C.nt o.dst = true)
    (h : K (st.put o.dst (.slice len out))) : SOpG G C o Q K st := fun E a w hr => by
  obtain ⟨us, hrun, hus, hul⟩ := run_buildSlice (E := E) (w := w) (qs := parts.map fun p => (p.1, a.eval p.2)) ht hk hte hout hlim (by simp) (by
    have := evs_rep hr.fr hr.hp (parts.toList.map (·.2))
    simpa [Function.comp_def] using this)
  have hn := hr.newIm us e
  have hgr : ∀ k, k < w.heap.size → (w.alloc (.cells us.toArray e)).heap[k]? = w.heap[k]? := fun k hk => Below.heap_alloc w _ k hk
  have hus' : IReps (E.more fun k => E.im k ∨ k = w.heap.size).im (w.alloc (.cells us.toArray e)) out us := (hus.pure hp).move (fun k h => .inl h) (fun k hk => hgr k (hr.hp.im_lt k hk))
  unfold Oper.wp execOp
  simp only [ho, Sem.run_bind, hrun, Result.andThen, Sem.run_pure, Oper.upon]
  refine ⟨⟨hgr, by simp⟩, _, _, h, hn.put hd (.imm (.slice (Nat.le_refl _) hus'.1 (fun _ => .inr rfl) (fun j u hu => ?_) (allOne_ok hus h1) hus'.2))⟩
  rw [cell_of_blk (vs := us) (t := e) (fz := (0, 0)) (heap_alloc_new w _)]
  simpa using hu
theorem SOpG.call {o : Oper} {K : AS → Prop} {c : Call} {f : FuncId} {fn : Func} {args : List PV} {R : PV → Prop} (ho : o.op = .call c) (ht : target st G.Γ c = some (f, args)) (hf : G.P.funcs[f]? = some fn) (hname : (fn.name == "runtime.NumGoroutine") = false) (hb : fn.body.isSome = true)
    (hp : pureL args = true) (hd : dstOk C.nt o.dst = true) (hc : Pure G f args R) (h : ∀ r, R r → K (st.put o.dst r)) : SOpG G C o Q K st := fun E a w hr => by
  obtain ⟨vs, hrun, hvs⟩ := target_ok ho ht hf hname hb hr
  unfold Oper.wp
  rw [hrun]
  have hH : HRep G.Γ { E with nb := 0, nr := 0 } w ⟨[], []⟩ := ⟨rfl, rfl, hr.hp.lo, fun i b hb => by simp at hb, fun i r hr => by simp at hr, fun i j h => by simp at h, fun i j r s k h => by simp at h, fun i j r h => by simp at h, hr.hp.im_lt, fun k i h => by simp at h, fun k j r h => by simp at h, hr.hp.gl⟩
  refine (hc { E with nb := 0, nr := 0 } w vs hH ((hvs.pure hp).v (E := { E with nb := 0, nr := 0 }))).mono ?_
  rintro e w' ⟨out, bx', E', ⟨rfl, r, rfl, hR⟩, ⟨v, rfl, hv⟩, hh, hx⟩
  have hnb : E'.nb = 0 := hh.nb
  have hnr : E'.nr = 0 := hh.nr
  have hr2 := hr.more (im := E'.im) hx.sz (fun k hk => hx.keep k hk (fun i hi => by simp at hi)) hx.os hx.tape hx.out hx.up hx.dn hh.im_lt
  refine ⟨⟨fun k hk => hx.keep k hk (fun i hi => by simp at hi), hx.sz⟩, _, _, h r hR, hr2.put hd ?_⟩
  exact hv.move (by omega) (by omega) (fun i hi => by omega) (fun i hi => by omega) (fun k hk => hk) (fun _ _ => rfl)
theorem SOpG.val {o : Oper} {K : AS → Prop} {x : PV} (hx : aval G st o.op = some x) (hd : dstOk C.nt o.dst = true) (h : K (st.put o.dst x)) : SOpG G C o Q K st := fun E a w hr => by
  obtain ⟨v, hrun, hv⟩ := aval_ok hr.fr hr.hp hx
  unfold Oper.wp
  rw [hrun w (Gr.refl w)]
  exact ⟨⟨Gr.refl w, Nat.le_refl _⟩, _, E, h, hr.put hd hv⟩
end
end Go.AS
