/- Abstract states (own engine), part G: memory: new boxes, stores, rows. -/
import Derived.Test.YteimebpgmfhgjaaDoorEngF
namespace Go.AS
open Go.RowKit
set_option linter.unusedVariables false
set_option linter.unusedSimpArgs false

section
variable {G : Prg} {C : Ctx} {Q : AEx → AS → Prop} {K : AS → Prop} {st : AS} {E : Env} {a : Act} {w w' : World}

/-- The world has grown; what was there is as it was. -/
theorem Rel.grow (hr : Rel G C E st a w) (hs : w.heap.size ≤ w'.heap.size) (hk : ∀ k, k < w.heap.size → w'.heap[k]? = w.heap[k]?) (ho : w'.os = w.os) (ht : w'.tape = w.tape) (hu : w'.output = w.output) : Rel G C E st a w' :=
  ⟨hr.defers, hr.size, hr.fr.move fun x v hv => hv.grow hr.hp hk, hr.hp.grow hs hk, hr.lo, hr.nb, hr.β, hr.own, hr.up, hr.dn, fun k h1 h2 h3 => (hk k (Nat.lt_of_lt_of_le h1 hr.sz)).trans (hr.keep k h1 h2 h3), ho.trans hr.os, ht.trans hr.tape, hu.trans hr.out, Nat.le_trans hr.sz hs, hr.rows⟩
theorem Rel.newBox (hr : Rel G C E st a w) {cs : List PV} {vs : List Value} (hv : VReps E w cs vs) (ty : TypeId) :
    Rel G C (E.newBox w.heap.size) { st with h := { st.h with bx := st.h.bx ++ [⟨cs, ty⟩] } } a (w.alloc (.cells vs.toArray ty)) := by
  have hk : ∀ k, k < w.heap.size → (w.alloc (.cells vs.toArray ty)).heap[k]? = w.heap[k]? := fun k hk => Below.heap_alloc w _ k hk
  have hnb := hr.nb
  refine ⟨hr.defers, hr.size, hr.fr.move fun x v hx => (hx.grow hr.hp hk).newBox, hr.hp.newBox hv, hr.lo, by simp [Env.newBox]; omega, fun i hi => ?_, fun i h1 h2 => ?_, hr.up, hr.dn, fun k h1 h2 h3 => (hk k (Nat.lt_of_lt_of_le h1 hr.sz)).trans (hr.keep k h1 h2 h3), hr.os, hr.tape, hr.out, Nat.le_trans hr.sz (by simp), hr.rows⟩
  · simp only [Env.newBox]; rw [if_neg (by omega)]; exact hr.β i hi
  · simp only [Env.newBox] at h2 ⊢
    by_cases he : i = E.nb
    · rw [if_pos he]; exact hr.sz
    · rw [if_neg he]; exact hr.own i h1 (by omega)

def AS.newBox (st : AS) (cs : List PV) (ty : TypeId) (d : Option Tmp) : AS := ({ st with h := { st.h with bx := st.h.bx ++ [⟨cs, ty⟩] } } : AS).put d (.ptr st.h.bx.length 0)
theorem Rel.newBoxPut (hr : Rel G C E st a w) {cs : List PV} {vs : List Value} (hv : VReps E w cs vs) (ty : TypeId) {d : Option Tmp} (hd : dstOk C.nt d = true) :
    Rel G C (E.newBox w.heap.size) (st.newBox cs ty d) (a.put d (.pointer (some ⟨w.heap.size, 0, none⟩))) (w.alloc (.cells vs.toArray ty)) := by
  refine (hr.newBox hv ty).put hd ?_
  have : (.pointer (some ⟨w.heap.size, 0, none⟩) : Value) = .pointer (some ⟨(E.newBox w.heap.size).β st.h.bx.length, 0, none⟩) := by rw [← hr.hp.nb]; simp [Env.newBox]
  rw [this]
  exact .ptr 0 (by rw [← hr.hp.nb]; simp [Env.newBox])
theorem SOp.box {o : Oper} {t : TypeId} {x : Operand} (ho : o.op = .box t x) (hp : (st.ev G.Γ x).part = true) (hd : dstOk C.nt o.dst = true) (h : K (st.newBox (st.ev G.Γ x).cells t o.dst)) : SOp G C o Q K st := fun E a w hr => by
  have hv := (ev_rep hr.fr hr.hp x).cells' hp
  unfold Oper.wp execOp
  simp only [ho, Instr.box, newVar, newRow, Sem.run_bind, run_newObj, Sem.run_pure, Result.andThen, Oper.upon]
  refine ⟨_, E.newBox w.heap.size, h, ?_⟩
  have := hr.newBoxPut hv t hd
  rw [Array.toArray_toList] at this
  exact this
theorem SOp.alloc {o : Oper} {t : TypeId} {td : TD} (ho : o.op = .alloc t) (ht : G.T t = some td) (hd : dstOk C.nt o.dst = true) (h : K (st.newBox td.zero t o.dst)) : SOp G C o Q K st := fun E a w hr => by
  obtain ⟨i, z, hi, _, _, hz, hc⟩ := (G.hT _ _ ht).info
  have hv : VReps E w td.zero z.cells.toList := by rw [← hc]; exact cellsOf_rep _
  unfold Oper.wp execOp
  simp only [ho, Instr.alloc, zeroValue, typeInfo, newVar, newRow, Sem.run_bind, run_program, run_newObj, Sem.run_pure, Result.andThen, hi, hz, Oper.upon]
  refine ⟨_, E.newBox w.heap.size, h, ?_⟩
  have := hr.newBoxPut hv t hd
  rw [Array.toArray_toList] at this
  exact this

/-! ### Stores -/
theorem run_storeCells_put {P : Program} (g : Nat) (t : TypeId) : ∀ (vs : List Value) (o i : Nat) (cur : List Value) (w : World), w.heap[g]? = some (.cells cur.toArray t (0, 0)) → o + i + vs.length ≤ cur.length → (∀ v ∈ vs, v.oneCell' = true) →
    (storeCells ⟨g, o, none⟩ vs i).run P w = .ok () (putBlk w g (splice cur (o + i) vs) t)
  | [], o, i, cur, w, hg, _, _ => by
    simp only [storeCells, splice, Sem.run_pure]
    have he : w.heap.setIfInBounds g (.cells cur.toArray t (0, 0)) = w.heap := by
      apply Array.ext_getElem?
      intro k
      simp only [Array.getElem?_setIfInBounds]
      by_cases hk : g = k
      · subst hk; rw [if_pos rfl, if_pos (lt_of_some hg), hg]
      · rw [if_neg hk]
    simp only [putBlk, he]
  | v :: rest, o, i, cur, w, hg, hl, h1 => by
    have hi : o + i < cur.length := by simp at hl; omega
    have hcell : w.cell? ⟨g, o + i, none⟩ = some cur[o + i] := by simp [World.cell?, hg, hi]
    have hfro : w.frozen? ⟨g, o + i, none⟩ = false := by simp [World.frozen?, hg]
    have hst : (store ((⟨g, o, none⟩ : Addr).add i) v).run P w = .ok () (putBlk w g (cur.set (o + i) v) t) := by
      rw [add_none, run_store P w _ v _ (h1 v (by simp)), hcell]
      simp [hfro, setCell_put hg]
    have ih := run_storeCells_put (P := P) g t rest o (i + 1) (cur.set (o + i) v) (putBlk w g (cur.set (o + i) v) t) (putBlk_at (lt_of_some hg)) (by simp at hl ⊢; omega) (fun x hx => h1 x (by simp [hx]))
    simp only [storeCells, Sem.run_bind, hst, Result.andThen_ok, ih, putBlk_put, splice, Nat.add_assoc]
theorem run_storeAt_put {P : Program} {t : TypeId} {td : TD} (hT : td.ok P t) {g o : Nat} {ty : TypeId} {cur : List Value} {w : World} (hg : w.heap[g]? = some (.cells cur.toArray ty (0, 0))) {v : Value} (hs : v.cells.size = td.size) (hl : o + td.size ≤ cur.length) (h1 : ∀ u ∈ v.cells.toList, u.oneCell' = true) :
    (Instr.storeAt t (.pointer (some ⟨g, o, none⟩)) v).run P w = .ok () (putBlk w g (splice cur o v.cells.toList) ty) := by
  have := run_storeCells_put (P := P) g ty v.cells.toList o 0 cur w hg (by simp [hs]; omega) h1
  simp [Instr.storeAt, Instr.sureAddr, storeVar, wf_size hT w, hs, Result.andThen, this]

theorem Rel.putBox (hr : Rel G C E st a w) {b : Nat} {x : Box} (hb : st.h.bx[b]? = some x) {cs : List PV} {vs : List Value} (hv : VReps E w cs vs) :
    Rel G C E { st with h := { st.h with bx := st.h.bx.set b ⟨cs, x.ty⟩ } } a (putBlk w (E.β b) vs x.ty) := by
  have hin : b < E.nb := by rw [hr.hp.nb]; exact (List.getElem?_eq_some_iff.1 hb).1
  refine ⟨hr.defers, hr.size, hr.fr.move fun x v hx => hx.putBox hr.hp hin, hr.hp.putBox hb hv, hr.lo, hr.nb, hr.β, hr.own, hr.up, hr.dn, fun k h1 h2 h3 => (putBlk_ne fun he => ?_).trans (hr.keep k h1 h2 h3), hr.os, hr.tape, hr.out, (by rw [putBlk_size]; exact hr.sz), hr.rows⟩
  subst he
  rcases Nat.lt_or_ge b C.nb with hlt | hge
  · exact h2 b hlt (hr.β b hlt).symm
  · have := hr.own b hge hin; omega

def allOne : List PV → Bool
  | [] => true
  | x :: xs => x.one && allOne xs
theorem allOne_ok {xs : List PV} {vs : List Value} (h : VReps E w xs vs) (h1 : allOne xs = true) : ∀ u ∈ vs, u.oneCell' = true := by
  induction xs generalizing vs with
  | nil => rw [h.nil_inv]; intro u hu; cases hu
  | cons x xs ih =>
    simp only [allOne, Bool.and_eq_true] at h1
    obtain ⟨v, us, rfl, hv, hus⟩ := h.cons_inv
    intro u hu
    rcases List.mem_cons.1 hu with rfl | hu
    · exact hv.one h1.1
    · exact ih hus h1.2 u hu

/-- A store into a box. -/
def AS.storeBox (st : AS) (b o : Nat) (x : Box) (cs : List PV) : AS := { st with h := { st.h with bx := st.h.bx.set b ⟨splice x.cs o cs, x.ty⟩ } }
theorem put_none (st : AS) (x : PV) : st.put none x = st := rfl
theorem SOp.store {o : Oper} {t : TypeId} {p v : Operand} {b k : Nat} {x : Box} {td : TD} (ho : o.op = .store t p v) (hdst : o.dst = none) (hp : st.ev G.Γ p = .ptr b k) (hb : st.h.bx[b]? = some x) (ht : G.T t = some td)
    (hpart : (st.ev G.Γ v).part = true) (h1 : allOne (st.ev G.Γ v).cells = true) (hsz : (st.ev G.Γ v).cells.length = td.size) (hl : k + td.size ≤ x.cs.length) (h : K (st.storeBox b k x (st.ev G.Γ v).cells)) : SOp G C o Q K st := fun E a w hr => by
  have hpv := ev_rep hr.fr hr.hp p
  rw [hp] at hpv
  obtain ⟨he, hbn⟩ := hpv.ptr_inv
  have hv := (ev_rep hr.fr hr.hp v).cells' hpart
  obtain ⟨cur, hcur, hcr⟩ := hr.hp.box b x hb
  have hrun := run_storeAt_put (P := G.P) (G.hT _ _ ht) (o := k) hcur (v := a.eval v) (by rw [← hsz, ← hv.1]; simp) (by rw [hcr.1]; exact hl) (allOne_ok hv h1)
  unfold Oper.wp execOp
  simp only [ho, he, Sem.run_bind, hrun, Result.andThen, Sem.run_pure, Oper.upon, hdst, Act.put]
  exact ⟨_, E, h, hr.putBox hb (hcr.splice hv k)⟩

/-! ### Rows -/
/-- A row has turned: its value is new. -/
def Env.setRow (E : Env) (r : Nat) (v : Value) : Env := { E with ρ := fun i => if i = r then v else E.ρ i }
def killT (r : Nat) : List (Nat × PV) → List (Nat × PV)
  | [] => []
  | (i, x) :: l => (i, x.kill r) :: killT r l
theorem lk_killT (r : Nat) (t : List (Nat × PV)) (s : Nat) : lk (killT r t) s = (lk t s).kill r := by
  induction t with
  | nil => rfl
  | cons p t ih =>
    obtain ⟨i, x⟩ := p
    simp only [killT, lk]
    split
    · rfl
    · exact ih
def killB (r : Nat) : List Box → List Box
  | [] => []
  | b :: l => ⟨killL r b.cs, b.ty⟩ :: killB r l
theorem killB_map (r : Nat) (l : List Box) : killB r l = l.map fun b => ⟨killL r b.cs, b.ty⟩ := by induction l with | nil => rfl | cons b l ih => simp [killB, ih]
def fzT (r : Nat) (cells : List PV) : List (Nat × PV) → List (Nat × PV)
  | [] => []
  | (i, x) :: l => (i, x.fz r cells) :: fzT r cells l
theorem lk_fzT (r : Nat) (cells : List PV) (t : List (Nat × PV)) (s : Nat) : lk (fzT r cells t) s = (lk t s).fz r cells := by
  induction t with
  | nil => rfl
  | cons p t ih =>
    obtain ⟨i, x⟩ := p
    simp only [fzT, lk]
    split
    · rfl
    · exact ih
def fzB (r : Nat) (cells : List PV) : List Box → List Box
  | [] => []
  | b :: l => ⟨fzL r cells b.cs, b.ty⟩ :: fzB r cells l
theorem fzB_map (r : Nat) (cells : List PV) (l : List Box) : fzB r cells l = l.map fun b => ⟨fzL r cells b.cs, b.ty⟩ := by induction l with | nil => rfl | cons b l ih => simp [fzB, ih]

def AS.setRow (st : AS) (r : Nat) (x : Row) : AS := ⟨killT r st.t, ⟨killB r st.h.bx, st.h.rw.set r (some x)⟩⟩
def AS.freeze (st : AS) (r : Nat) (x : Row) : AS := ⟨fzT r x.cs st.t, ⟨fzB r x.cs st.h.bx, st.h.rw.set r none⟩⟩
def AS.newRow (st : AS) (x : Row) : AS := ⟨st.t, ⟨st.h.bx, st.h.rw ++ [some x]⟩⟩

/-- A row's cells, as what is only read. -/
theorem row_irep {r : Row} {v : Value} {lo : Nat} {xs : List Value} {im : Nat → Prop} (ho : w.ownsRow lo r.ty r.sz v r.n xs) (hx : IReps im w r.cs xs) (h1x : ∀ u ∈ xs, u.oneCell' = true) (hi : ∀ k, v.ownBlock = some k → im k) :
    (∀ A m c, v = .slice A m c → IRep im w (.slice m r.cs) (.slice A m c)) ∧ (∀ a m c, v = .slice (some a) m c → ∀ o, IRep im w (.epos (r.cs.drop o)) (.pointer (some (a.add o)))) := by
  obtain ⟨hl, hz⟩ := ho
  refine ⟨fun A m c he => ?_, fun a m c he o => ?_⟩
  · rcases hz with ⟨h1, h2⟩ | ⟨g, cap, cur, h1, _, hg, hnc, _, hs, ht⟩
    · rw [he] at h1
      cases h1
      have : xs = [] := List.eq_nil_of_length_eq_zero (by rw [hl, h2]; simp)
      subst this
      have : r.cs = [] := List.eq_nil_of_length_eq_zero hx.1.symm
      rw [this]
      exact .slice0
    · rw [he] at h1
      cases h1
      refine .slice hnc hx.1 (fun _ => hi _ (by rw [he]; rfl)) (fun j u hu => ?_) h1x hx.2
      rw [← ht, List.getElem?_take] at hu
      split at hu
      · rw [cell_of_blk (vs := cur.toList) (by simpa using hg)]; simpa using hu
      · cases hu
  · rcases hz with ⟨h1, h2⟩ | ⟨g, cap, cur, h1, _, hg, hnc, _, hs, ht⟩
    · rw [he] at h1; cases h1
    · rw [he] at h1
      cases h1
      have hd := hx.drop o
      refine .epos hd.1 (fun _ => by rw [block_of_add]; exact hi _ (by rw [he]; rfl)) (fun j u hu => ?_) hd.2
      rw [add_of_add]
      rw [List.getElem?_drop, ← ht, List.getElem?_take] at hu
      split at hu
      · rw [cell_of_blk (vs := cur.toList) (by simpa using hg)]; simpa using hu
      · cases hu

/-- From now on the row is only read. -/
theorem Rel.freeze (hr : Rel G C E st a w) {r : Nat} {x : Row} (hx : st.h.rw[r]? = some (some x)) : ∃ E', Rel G C E' (st.freeze r x) a w := by
  obtain ⟨xs, ho, hxs, h1⟩ := hr.hp.row r x hx
  let im : Nat → Prop := fun k => E.im k ∨ (E.ρ r).ownBlock = some k
  have hi : ∀ k, E.im k → im k := fun k h => .inl h
  have hown : ∀ k, (E.ρ r).ownBlock = some k → E.lo ≤ k ∧ k < w.heap.size := fun k hk => ownsRow_lt ho hk
  have hir := row_irep (im := im) ho (hxs.move hi (fun _ _ => rfl)) h1 (fun k hk => .inr hk)
  have mv : ∀ y v, VRep E w y v → VRep (E.more im) w (y.fz r x.cs) v := fun y v hv => hv.fz (n := 0) hi (fun A m c he => hir.1 A m c he) (fun a m c he o => hir.2 a m c he o)
  have gone : ∀ (j : Nat) (s : Row), (st.h.rw.set r none)[j]? = some (some s) → j ≠ r ∧ st.h.rw[j]? = some (some s) := fun j s hj => by
    by_cases hjr : r = j
    · subst hjr
      rw [List.getElem?_set_self (List.getElem?_eq_some_iff.1 hx).1] at hj
      cases hj
    · rw [List.getElem?_set_ne hjr] at hj
      exact ⟨Ne.symm hjr, hj⟩
  refine ⟨E.more im, hr.defers, hr.size, fun s => ?_, ?_, hr.lo, hr.nb, hr.β, hr.own, fun k h => .inl (hr.up k h), fun k h => ?_, hr.keep, hr.os, hr.tape, hr.out, hr.sz, fun j s k hj hk => hr.rows j s k (gone j s hj).2 hk⟩
  · simp only [AS.freeze]; rw [lk_fzT]; exact mv _ _ (hr.fr s)
  · refine ⟨by simp [AS.freeze, fzB_map, Env.more, hr.hp.nb], by simp [AS.freeze, Env.more, hr.hp.nr], hr.hp.lo, fun i b hb => ?_, fun j s hj => ?_, hr.hp.inj, fun i j s t k hi' hj' => ?_, fun i j s hi' hj' => ?_, fun k hk => ?_, fun k i hi' hk => ?_, fun k j s hj' hk => ?_, fun g cs hg => (hr.hp.gl g cs hg).move hi (fun _ _ => rfl)⟩
    · simp only [AS.freeze, fzB_map, List.getElem?_map] at hb
      obtain ⟨b0, hb0, rfl⟩ := Option.map_eq_some_iff.1 hb
      obtain ⟨vs, hv, hvr⟩ := hr.hp.box i b0 hb0
      exact ⟨vs, hv, hvr.fz mv⟩
    · obtain ⟨_, hj⟩ := gone j s hj
      obtain ⟨ys, hoy, hy, h1y⟩ := hr.hp.row j s hj
      exact ⟨ys, hoy, hy.move hi (fun _ _ => rfl), h1y⟩
    · exact hr.hp.rinj i j s t k (gone i s hi').2 (gone j t hj').2
    · exact hr.hp.brw i j s hi' (gone j s hj').2
    · rcases hk with hk | hk
      · exact hr.hp.im_lt k hk
      · exact (hown k hk).2
    · rcases hk with hk | hk
      · exact hr.hp.im_b k i hi' hk
      · exact fun he => hr.hp.brw i r x hi' hx (by rw [show E.β i = k from he]; exact hk)
    · obtain ⟨hne, hj⟩ := gone j s hj'
      rcases hk with hk | hk
      · exact hr.hp.im_r k j s hj hk
      · exact fun he => hne (hr.hp.rinj j r s x k hj hx he hk)
  · rcases h with h | h
    · exact hr.dn k h
    · exact .inr (hr.rows r x k hx h)
theorem SWP.freeze {c : Code} (r : Nat) (x : Row) (hx : st.h.rw[r]? = some (some x)) (h : SWP G C c Q (st.freeze r x)) : SWP G C c Q st := fun E a w hr => by
  obtain ⟨E', hr'⟩ := hr.freeze hx
  exact h E' a w hr'
theorem SOps.freeze {ops : Array Oper} {l : List Oper} (r : Nat) (x : Row) (hx : st.h.rw[r]? = some (some x)) (h : SOps G C ops Q l (st.freeze r x)) : SOps G C ops Q l st := fun E a w hr => by
  obtain ⟨E', hr'⟩ := hr.freeze hx
  exact h E' a w hr'

/-- A new row, its block (if any) new. -/
theorem Rel.newRow (hr : Rel G C E st a w) {x : Row} {v : Value} {xs : List Value} (ho : w.ownsRow E.lo x.ty x.sz v x.n xs) (hx : IReps E.im w x.cs xs) (h1 : ∀ u ∈ xs, u.oneCell' = true)
    (hnb : ∀ k i, i < E.nb → v.ownBlock = some k → E.β i ≠ k) (hni : ∀ k, v.ownBlock = some k → ¬ E.im k) (hnr : ∀ (k j : Nat) (s : Row), st.h.rw[j]? = some (some s) → v.ownBlock = some k → (E.ρ j).ownBlock ≠ some k)
    (hnw : ∀ k, v.ownBlock = some k → C.w0.heap.size ≤ k ∨ C.wr k) :
    Rel G C (E.newRow v) (st.newRow x) a w ∧ VRep (E.newRow v) w (.own st.h.rw.length x.n) v := by
  refine ⟨⟨hr.defers, hr.size, hr.fr.move fun x v hx => hx.newRow, hr.hp.newRow ho hx h1 hnb hni hnr, hr.lo, hr.nb, hr.β, hr.own, hr.up, hr.dn, hr.keep, hr.os, hr.tape, hr.out, hr.sz, fun j s k hj hk => by
    simp only [AS.newRow] at hj
    rcases Nat.lt_trichotomy j st.h.rw.length with hlt | heq | hgt
    · rw [List.getElem?_append_left hlt] at hj
      refine hr.rows j s k hj ?_
      have : ¬ j = E.nr := by rw [hr.hp.nr]; omega
      simpa [Env.newRow, this] using hk
    · refine hnw k ?_
      have : j = E.nr := by rw [hr.hp.nr]; exact heq
      simpa [Env.newRow, this] using hk
    · rw [List.getElem?_eq_none (by simp; omega)] at hj
      cases hj⟩, ?_⟩
  have hform : ∃ A c, v = .slice A x.n c := by
    rcases ho.2 with ⟨h, h2⟩ | ⟨g, cap, cur, h, _⟩
    · exact ⟨none, 0, by rw [h, h2]⟩
    · exact ⟨_, _, h⟩
  obtain ⟨A, c, rfl⟩ := hform
  exact .own (m := x.n) (by rw [← hr.hp.nr]; simp [Env.newRow]) (by rw [← hr.hp.nr]; simp [Env.newRow]) rfl
/-- The nil slice in a slot, taken for an (empty) row of the call's own. -/
def adoptT (s : Nat) (r : Nat) (t : List (Nat × PV)) : List (Nat × PV) := (s, .own r 0) :: t
theorem Rel.adopt (hr : Rel G C E st a w) {s : Nat} (hs : lk st.t s = .nil) (ty : TypeId) (sz : Nat) : ∃ E', Rel G C E' ⟨adoptT s st.h.rw.length st.t, ⟨st.h.bx, st.h.rw ++ [some ⟨[], 0, ty, sz⟩]⟩⟩ a w := by
  obtain ⟨h1, h2⟩ := hr.newRow (x := ⟨[], 0, ty, sz⟩) (v := .slice none 0 0) (xs := []) (World.ownsRow_nil w _ _ _) ⟨rfl, fun j x v h => by simp at h⟩ (fun u hu => by cases hu) (fun k i _ h => by simp [Value.ownBlock] at h) (fun k h => by simp [Value.ownBlock] at h) (fun k j s _ h => by simp [Value.ownBlock] at h) (fun k h => by simp [Value.ownBlock] at h)
  refine ⟨_, h1.defers, h1.size, fun q => ?_, h1.hp, h1.lo, h1.nb, h1.β, h1.own, h1.up, h1.dn, h1.keep, h1.os, h1.tape, h1.out, h1.sz, h1.rows⟩
  simp only [adoptT, lk]
  split
  · rename_i he
    subst he
    have := hr.fr s
    rw [hs] at this
    rw [this.nil_inv]
    exact h2
  · exact h1.fr q
end
end Go.AS
