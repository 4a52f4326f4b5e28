/- Abstract states (own engine), part B: the heap of boxes and rows, and what each step does to it. -/
import Derived.Test.YteimebpgmfhgjaaDoorEngA
namespace Go.AS
open Go.RowKit
set_option linter.unusedVariables false

structure Box where
  cs : List PV
  ty : TypeId
  deriving Inhabited
structure Row where
  cs : List PV
  n : Nat
  ty : TypeId
  sz : Nat
  deriving Inhabited
structure Hp where
  bx : List Box
  rw : List (Option Row)
  deriving Inhabited

abbrev Glob := Nat → Option (List PV)

structure HRep (Γ : Glob) (E : Env) (w : World) (H : Hp) : Prop where
  nb : E.nb = H.bx.length
  nr : E.nr = H.rw.length
  lo : E.lo ≤ w.heap.size
  box : ∀ (i : Nat) (b : Box), H.bx[i]? = some b → ∃ vs : List Value, w.heap[E.β i]? = some (.cells vs.toArray b.ty (0, 0)) ∧ VReps E w b.cs vs
  row : ∀ (i : Nat) (r : Row), H.rw[i]? = some (some r) → ∃ xs : List Value, w.ownsRow E.lo r.ty r.sz (E.ρ i) r.n xs ∧ IReps E.im w r.cs xs ∧ ∀ u ∈ xs, u.oneCell' = true
  inj : ∀ i j, i < E.nb → j < E.nb → E.β i = E.β j → i = j
  rinj : ∀ (i j : Nat) (r s : Row) (k : Nat), H.rw[i]? = some (some r) → H.rw[j]? = some (some s) → (E.ρ i).ownBlock = some k → (E.ρ j).ownBlock = some k → i = j
  brw : ∀ (i j : Nat) (r : Row), i < E.nb → H.rw[j]? = some (some r) → (E.ρ j).ownBlock ≠ some (E.β i)
  im_lt : ∀ k, E.im k → k < w.heap.size
  im_b : ∀ k i, i < E.nb → E.im k → E.β i ≠ k
  im_r : ∀ (k j : Nat) (r : Row), H.rw[j]? = some (some r) → E.im k → (E.ρ j).ownBlock ≠ some k
  gl : ∀ (g : Nat) (cs : List PV), Γ g = some cs → IRep E.im w (.epos cs) (.pointer (some ⟨g, 0, none⟩))

section
variable {Γ : Glob} {E : Env} {w w' : World} {H : Hp}

theorem lt_of_some {α : Type} {a : Array α} {i : Nat} {x : α} (h : a[i]? = some x) : i < a.size := (Array.getElem?_eq_some_iff.1 h).1
theorem HRep.bx_lt (h : HRep Γ E w H) {i : Nat} (hi : i < E.nb) : E.β i < w.heap.size := by
  obtain ⟨vs, hv, _⟩ := h.box i _ (List.getElem?_eq_getElem (by rw [← h.nb]; exact hi))
  exact lt_of_some hv
theorem ownsRow_move {base : Nat} {e : TypeId} {size n : Nat} {v : Value} {xs : List Value} (h : w.ownsRow base e size v n xs) (hm : ∀ k, v.ownBlock = some k → w'.heap[k]? = w.heap[k]?) : w'.ownsRow base e size v n xs := by
  obtain ⟨h1, h2⟩ := h
  refine ⟨h1, ?_⟩
  rcases h2 with h2 | ⟨g, cap, cur, rfl, hg, hh, r⟩
  · exact .inl h2
  · exact .inr ⟨g, cap, cur, rfl, hg, (hm g (by simp [Value.ownBlock])).trans hh, r⟩
theorem ownsRow_lt {base : Nat} {e : TypeId} {size n : Nat} {v : Value} {xs : List Value} (h : w.ownsRow base e size v n xs) {k : Nat} (hk : v.ownBlock = some k) : base ≤ k ∧ k < w.heap.size := h.lt k hk

theorem IReps.move {im im' : Nat → Prop} {xs : List PV} {vs : List Value} (h : IReps im w xs vs) (hi : ∀ k, im k → im' k) (hw : ∀ k, im k → w'.heap[k]? = w.heap[k]?) : IReps im' w' xs vs :=
  ⟨h.1, fun j x v hx hv => (h.2 j x v hx hv).move hi hw⟩
/-- Old blocks stay; the environment as it was. -/
theorem HRep.grow (h : HRep Γ E w H) (hs : w.heap.size ≤ w'.heap.size) (hk : ∀ k, k < w.heap.size → w'.heap[k]? = w.heap[k]?) : HRep Γ E w' H := by
  have mv : ∀ x v, VRep E w x v → VRep E w' x v := fun x v hv => hv.move (Nat.le_refl _) (Nat.le_refl _) (fun _ _ => rfl) (fun _ _ => rfl) (fun _ h => h) (fun k hi => hk k (h.im_lt k hi))
  refine ⟨h.nb, h.nr, Nat.le_trans h.lo hs, fun i b hb => ?_, fun i r hr => ?_, h.inj, h.rinj, h.brw, fun k hi => Nat.lt_of_lt_of_le (h.im_lt k hi) hs, h.im_b, h.im_r, fun g cs hg => (h.gl g cs hg).move (fun _ h => h) (fun k hi => hk k (h.im_lt k hi))⟩
  · obtain ⟨vs, hv, hr⟩ := h.box i b hb
    exact ⟨vs, (hk _ (lt_of_some hv)).trans hv, hr.move mv⟩
  · obtain ⟨xs, ho, hx, h1⟩ := h.row i r hr
    exact ⟨xs, ownsRow_move ho (fun k hk' => hk k (ownsRow_lt ho hk').2), hx.move (fun _ h => h) (fun k hi => hk k (h.im_lt k hi)), h1⟩
theorem VRep.grow {x : PV} {v : Value} (hv : VRep E w x v) (h : HRep Γ E w H) (hk : ∀ k, k < w.heap.size → w'.heap[k]? = w.heap[k]?) : VRep E w' x v :=
  hv.move (Nat.le_refl _) (Nat.le_refl _) (fun _ _ => rfl) (fun _ _ => rfl) (fun _ h => h) (fun k hi => hk k (h.im_lt k hi))
theorem VReps.grow {xs : List PV} {vs : List Value} (hv : VReps E w xs vs) (h : HRep Γ E w H) (hk : ∀ k, k < w.heap.size → w'.heap[k]? = w.heap[k]?) : VReps E w' xs vs := hv.move fun _ _ hx => hx.grow h hk

/-- More is immutable: new blocks. -/
def Env.more (E : Env) (im : Nat → Prop) : Env := { E with im := im }
theorem VRep.more {x : PV} {v : Value} {im : Nat → Prop} (hv : VRep E w x v) (hi : ∀ k, E.im k → im k) : VRep (E.more im) w x v :=
  hv.move (Nat.le_refl _) (Nat.le_refl _) (fun _ _ => rfl) (fun _ _ => rfl) hi (fun _ _ => rfl)
theorem HRep.more {im : Nat → Prop} (h : HRep Γ E w H) (hi : ∀ k, E.im k → im k) (hl : ∀ k, im k → k < w.heap.size) (hb : ∀ k i, i < E.nb → im k → E.β i ≠ k)
    (hr : ∀ (k j : Nat) (r : Row), H.rw[j]? = some (some r) → im k → (E.ρ j).ownBlock ≠ some k) : HRep Γ (E.more im) w H := by
  have mv : ∀ x v, VRep E w x v → VRep (E.more im) w x v := fun x v hv => hv.more hi
  refine ⟨h.nb, h.nr, h.lo, fun i b hb => ?_, fun i r hr => ?_, h.inj, h.rinj, h.brw, hl, hb, hr, fun g cs hg => (h.gl g cs hg).move hi (fun k _ => rfl)⟩
  · obtain ⟨vs, hv, hr⟩ := h.box i b hb
    exact ⟨vs, hv, hr.move mv⟩
  · obtain ⟨xs, ho, hx, h1⟩ := h.row i r hr
    exact ⟨xs, ho, hx.move hi (fun _ _ => rfl), h1⟩

/-- A new box. -/
def Env.newBox (E : Env) (k : Nat) : Env := { E with β := fun i => if i = E.nb then k else E.β i, nb := E.nb + 1 }
theorem VRep.newBox {x : PV} {v : Value} {k : Nat} (hv : VRep E w x v) : VRep (E.newBox k) w x v :=
  hv.move (by simp [Env.newBox]) (Nat.le_refl _) (fun i hi => by simp only [Env.newBox]; rw [if_neg (by omega)]) (fun _ _ => rfl) (fun _ h => h) (fun _ _ => rfl)
theorem HRep.newBox (h : HRep Γ E w H) {vs : List Value} {cs : List PV} {ty : TypeId} (hv : VReps E w cs vs) :
    HRep Γ (E.newBox w.heap.size) (w.alloc (.cells vs.toArray ty)) { H with bx := H.bx ++ [⟨cs, ty⟩] } := by
  have hg : HRep Γ E (w.alloc (.cells vs.toArray ty)) H := h.grow (by simp) (fun k hk => Below.heap_alloc w _ k hk)
  have mv : ∀ x v, VRep E (w.alloc (.cells vs.toArray ty)) x v → VRep (E.newBox w.heap.size) (w.alloc (.cells vs.toArray ty)) x v := fun x v hx => hx.newBox
  have hold : ∀ i, i < E.nb → (E.newBox w.heap.size).β i = E.β i := fun i hi => by simp only [Env.newBox]; rw [if_neg (by omega)]
  have hnew : (E.newBox w.heap.size).β E.nb = w.heap.size := by simp [Env.newBox]
  refine ⟨by simp [Env.newBox, h.nb], h.nr, hg.lo, fun i b hb => ?_, fun i r hr => ?_, fun i j hi hj he => ?_, h.rinj, fun i j r hi hj => ?_, hg.im_lt, fun k i hi hk => ?_, h.im_r, hg.gl⟩
  · rcases Nat.lt_or_ge i H.bx.length with hlt | hge
    · rw [List.getElem?_append_left hlt] at hb
      obtain ⟨us, hu, hr⟩ := hg.box i b hb
      exact ⟨us, by rw [hold i (by rw [h.nb]; exact hlt)]; exact hu, hr.move mv⟩
    · rw [List.getElem?_append_right hge] at hb
      have : i - H.bx.length = 0 := by
        rcases Nat.eq_zero_or_pos (i - H.bx.length) with h0 | h0
        · exact h0
        · rw [List.getElem?_eq_none (by simp; omega)] at hb; cases hb
      rw [this] at hb
      obtain rfl : (⟨cs, ty⟩ : Box) = b := by simpa using hb
      have hi : i = E.nb := by rw [h.nb]; omega
      subst hi
      exact ⟨vs, by rw [hnew]; exact heap_alloc_new w _, (hv.grow h (fun k hk => Below.heap_alloc w _ k hk)).move mv⟩
  · exact hg.row i r hr
  · simp only [Env.newBox] at hi hj he
    by_cases h1 : i = E.nb <;> by_cases h2 : j = E.nb
    · omega
    · rw [if_pos h1, if_neg h2] at he
      have := h.bx_lt (i := j) (by omega); omega
    · rw [if_neg h1, if_pos h2] at he
      have := h.bx_lt (i := i) (by omega); omega
    · rw [if_neg h1, if_neg h2] at he
      exact h.inj i j (by omega) (by omega) he
  · simp only [Env.newBox] at hi ⊢
    by_cases h1 : i = E.nb
    · rw [if_pos h1]
      obtain ⟨xs, ho, _⟩ := h.row j r hj
      intro hc
      have := (ownsRow_lt ho hc).2
      omega
    · rw [if_neg h1]; exact h.brw i j r (by omega) hj
  · simp only [Env.newBox] at hi ⊢
    by_cases h1 : i = E.nb
    · rw [if_pos h1]
      have := h.im_lt k hk
      omega
    · rw [if_neg h1]; exact h.im_b k i (by omega) hk

/-- One block written anew. -/
def putBlk (w : World) (g : Nat) (cells : List Value) (t : TypeId) : World := { w with heap := w.heap.setIfInBounds g (.cells cells.toArray t (0, 0)) }
theorem putBlk_size (w : World) (g : Nat) (cells : List Value) (t : TypeId) : (putBlk w g cells t).heap.size = w.heap.size := by simp [putBlk]
theorem putBlk_at {g : Nat} {cells : List Value} {t : TypeId} (hg : g < w.heap.size) : (putBlk w g cells t).heap[g]? = some (.cells cells.toArray t (0, 0)) := by
  simp [putBlk, hg]
theorem putBlk_ne {g k : Nat} {cells : List Value} {t : TypeId} (hk : k ≠ g) : (putBlk w g cells t).heap[k]? = w.heap[k]? := by
  simp only [putBlk, Array.getElem?_setIfInBounds]
  rw [if_neg (Ne.symm hk)]
theorem putBlk_put {g : Nat} {cs ds : List Value} {t u : TypeId} : putBlk (putBlk w g cs t) g ds u = putBlk w g ds u := by
  simp only [putBlk]
  congr 1
  apply Array.ext_getElem?
  intro i
  simp only [Array.getElem?_setIfInBounds, Array.size_setIfInBounds]
  by_cases hi : g = i
  · simp [hi]
  · simp [hi]
theorem setCell_put {g o : Nat} {cells : List Value} {t : TypeId} (hg : w.heap[g]? = some (.cells cells.toArray t (0, 0))) (v : Value) : w.setCell ⟨g, o, none⟩ v = putBlk w g (cells.set o v) t := by
  simp only [World.setCell, putBlk]
  congr 1
  apply Array.ext_getElem?
  intro i
  simp only [Array.getElem?_modify, Array.getElem?_setIfInBounds]
  by_cases hi : g = i
  · subst hi
    rw [if_pos rfl, if_pos rfl, hg, if_pos (lt_of_some hg)]
    simp
  · rw [if_neg hi, if_neg hi]

def splice {α : Type} (l : List α) (o : Nat) : List α → List α
  | [] => l
  | x :: r => splice (l.set o x) (o + 1) r
theorem splice_length {α : Type} (l : List α) (o : Nat) (xs : List α) : (splice l o xs).length = l.length := by
  induction xs generalizing l o with
  | nil => rfl
  | cons x r ih => rw [splice, ih]; simp
theorem VReps.splice {xs ys : List PV} {vs us : List Value} (h : VReps E w xs vs) (k : VReps E w ys us) (o : Nat) : VReps E w (splice xs o ys) (AS.splice vs o us) := by
  induction ys generalizing xs vs us o with
  | nil => rw [k.nil_inv]; exact h
  | cons y ys ih =>
    obtain ⟨u, us', rfl, hu, hus⟩ := k.cons_inv
    exact ih (h.set o hu) hus (o + 1)
theorem splice_take {α : Type} (l : List α) (o n : Nat) (xs : List α) (h : o + xs.length ≤ n) : (splice l o xs).take n = splice (l.take n) o xs := by
  induction xs generalizing l o with
  | nil => rfl
  | cons x r ih =>
    simp only [List.length_cons] at h
    rw [splice, splice, ih _ _ (by omega)]
    congr 1
    exact List.take_set

/-- A box written anew. -/
theorem HRep.putBox (h : HRep Γ E w H) {i : Nat} {b : Box} (hb : H.bx[i]? = some b) {cs : List PV} {vs : List Value} (hv : VReps E w cs vs) :
    HRep Γ E (putBlk w (E.β i) vs b.ty) { H with bx := H.bx.set i ⟨cs, b.ty⟩ } := by
  have hin : i < E.nb := by rw [h.nb]; exact (List.getElem?_eq_some_iff.1 hb).1
  have hlt := h.bx_lt hin
  have hne : ∀ k, E.im k → k ≠ E.β i := fun k hk he => h.im_b k i hin hk he.symm
  have mv : ∀ x v, VRep E w x v → VRep E (putBlk w (E.β i) vs b.ty) x v := fun x v hx => hx.move (Nat.le_refl _) (Nat.le_refl _) (fun _ _ => rfl) (fun _ _ => rfl) (fun _ h => h) (fun k hk => putBlk_ne (hne k hk))
  refine ⟨by simp [h.nb], h.nr, by rw [putBlk_size]; exact h.lo, fun j c hc => ?_, fun j r hr => ?_, h.inj, h.rinj, h.brw, fun k hk => by rw [putBlk_size]; exact h.im_lt k hk, h.im_b, h.im_r, fun g cs hg => (h.gl g cs hg).move (fun _ h => h) (fun k hk => putBlk_ne (hne k hk))⟩
  · by_cases hij : i = j
    · subst hij
      simp only [] at hc
      rw [List.getElem?_set_self (by rw [← h.nb]; exact hin)] at hc
      cases hc
      exact ⟨vs, putBlk_at hlt, hv.move mv⟩
    · simp only [] at hc
      rw [List.getElem?_set_ne hij] at hc
      obtain ⟨us, hu, hr⟩ := h.box j c hc
      have hjn : j < E.nb := by rw [h.nb]; exact (List.getElem?_eq_some_iff.1 hc).1
      exact ⟨us, (putBlk_ne (fun he => hij (h.inj i j hin hjn he.symm))).trans hu, hr.move mv⟩
  · obtain ⟨xs, ho, hx, h1⟩ := h.row j r hr
    exact ⟨xs, ownsRow_move ho (fun k hk => putBlk_ne (fun he => h.brw i j r hin hr (he ▸ hk))), hx.move (fun _ h => h) (fun k hk => putBlk_ne (hne k hk)), h1⟩
theorem VRep.putBox (h : HRep Γ E w H) {i : Nat} (hin : i < E.nb) {vs : List Value} {t : TypeId} {x : PV} {v : Value} (hx : VRep E w x v) : VRep E (putBlk w (E.β i) vs t) x v :=
  hx.move (Nat.le_refl _) (Nat.le_refl _) (fun _ _ => rfl) (fun _ _ => rfl) (fun _ h => h) (fun k hk => putBlk_ne (fun he => h.im_b k i hin hk he.symm))

/-- A new row. -/
def Env.newRow (E : Env) (v : Value) : Env := { E with ρ := fun i => if i = E.nr then v else E.ρ i, nr := E.nr + 1 }
theorem VRep.newRow {x : PV} {v u : Value} (hv : VRep E w x v) : VRep (E.newRow u) w x v :=
  hv.move (Nat.le_refl _) (by simp [Env.newRow]) (fun _ _ => rfl) (fun i hi => by simp only [Env.newRow]; rw [if_neg (by omega)]) (fun _ h => h) (fun _ _ => rfl)
theorem HRep.newRow (h : HRep Γ E w H) {r : Row} {v : Value} {xs : List Value} (ho : w.ownsRow E.lo r.ty r.sz v r.n xs) (hx : IReps E.im w r.cs xs) (h1 : ∀ u ∈ xs, u.oneCell' = true)
    (hnb : ∀ k i, i < E.nb → v.ownBlock = some k → E.β i ≠ k) (hni : ∀ k, v.ownBlock = some k → ¬ E.im k) (hnr : ∀ (k j : Nat) (s : Row), H.rw[j]? = some (some s) → v.ownBlock = some k → (E.ρ j).ownBlock ≠ some k) :
    HRep Γ (E.newRow v) w { H with rw := H.rw ++ [some r] } := by
  have mv : ∀ x u, VRep E w x u → VRep (E.newRow v) w x u := fun x u hx => hx.newRow
  have hnew : (E.newRow v).ρ E.nr = v := by simp [Env.newRow]
  have hold : ∀ i, i ≠ E.nr → (E.newRow v).ρ i = E.ρ i := fun i hi => by simp only [Env.newRow]; rw [if_neg hi]
  have split : ∀ (j : Nat) (s : Row), (H.rw ++ [some r])[j]? = some (some s) → (H.rw[j]? = some (some s) ∧ j ≠ E.nr) ∨ (j = E.nr ∧ s = r) := fun j s hj => by
    rcases Nat.lt_or_ge j H.rw.length with hlt | hge
    · rw [List.getElem?_append_left hlt] at hj
      exact .inl ⟨hj, by rw [h.nr]; omega⟩
    · rw [List.getElem?_append_right hge] at hj
      have h0 : j - H.rw.length = 0 := by
        rcases Nat.eq_zero_or_pos (j - H.rw.length) with h0 | h0
        · exact h0
        · rw [List.getElem?_eq_none (by simp; omega)] at hj; cases hj
      rw [h0] at hj
      exact .inr ⟨by rw [h.nr]; omega, by simpa using hj.symm⟩
  refine ⟨h.nb, by simp [Env.newRow, h.nr], h.lo, fun i b hb => ?_, fun j s hj => ?_, h.inj, fun i j s t k hi hj hki hkj => ?_, fun i j s hi hj => ?_, h.im_lt, h.im_b, fun k j s hj hk => ?_, h.gl⟩
  · obtain ⟨us, hu, hr⟩ := h.box i b hb
    exact ⟨us, hu, hr.move mv⟩
  · rcases split j s hj with ⟨hj, hne⟩ | ⟨rfl, rfl⟩
    · obtain ⟨ys, hoy, hy, h1y⟩ := h.row j s hj
      exact ⟨ys, by rw [hold j hne]; exact hoy, hy, h1y⟩
    · exact ⟨xs, by rw [hnew]; exact ho, hx, h1⟩
  · rcases split i s hi with ⟨hi', hni'⟩ | ⟨hi', hs'⟩ <;> rcases split j t hj with ⟨hj', hnj⟩ | ⟨hj', ht'⟩
    · rw [hold i hni'] at hki; rw [hold j hnj] at hkj
      exact h.rinj i j s t k hi' hj' hki hkj
    · rw [hold i hni'] at hki; rw [hj', hnew] at hkj
      exact absurd hki (hnr k i s hi' hkj)
    · rw [hi', hnew] at hki; rw [hold j hnj] at hkj
      exact absurd hkj (hnr k j t hj' hki)
    · rw [hi', hj']
  · rcases split j s hj with ⟨hj, hne⟩ | ⟨rfl, rfl⟩
    · rw [hold j hne]; exact h.brw i j s hi hj
    · rw [hnew]; exact fun hc => hnb _ i hi hc rfl
  · rcases split j s hj with ⟨hj, hne⟩ | ⟨rfl, rfl⟩
    · rw [hold j hne]; exact h.im_r k j s hj hk
    · rw [hnew]; exact fun hc => hni k hc hk

end

/-! ### Handles on a row: none left; or turned into what is only read -/
mutual
def PV.kill (r : Nat) : PV → PV
  | .own q n => if q = r then .junk else .own q n
  | .rpos q o => if q = r then .junk else .rpos q o
  | .func fn cap => .func fn (killL r cap)
  | .agg cs => .agg (killL r cs)
  | .tup cs => .tup (killL r cs)
  | .iface t x => .iface t (x.kill r)
  | .int k n => .int k n
  | .bool b => .bool b
  | .str s => .str s
  | .slice n cs => .slice n cs
  | .nil => .nil
  | .epos cs => .epos cs
  | .ptr b o => .ptr b o
  | .bsl b n m => .bsl b n m
  | .nilptr => .nilptr
  | .nilfunc => .nilfunc
  | .niliface => .niliface
  | .junk => .junk
def killL (r : Nat) : List PV → List PV
  | [] => []
  | x :: xs => x.kill r :: killL r xs
end
mutual
def PV.fz (r : Nat) (cells : List PV) : PV → PV
  | .own q n => if q = r then .slice n cells else .own q n
  | .rpos q o => if q = r then .epos (cells.drop o) else .rpos q o
  | .func fn cap => .func fn (fzL r cells cap)
  | .agg cs => .agg (fzL r cells cs)
  | .tup cs => .tup (fzL r cells cs)
  | .iface t x => .iface t (x.fz r cells)
  | .int k n => .int k n
  | .bool b => .bool b
  | .str s => .str s
  | .slice n cs => .slice n cs
  | .nil => .nil
  | .epos cs => .epos cs
  | .ptr b o => .ptr b o
  | .bsl b n m => .bsl b n m
  | .nilptr => .nilptr
  | .nilfunc => .nilfunc
  | .niliface => .niliface
  | .junk => .junk
def fzL (r : Nat) (cells : List PV) : List PV → List PV
  | [] => []
  | x :: xs => x.fz r cells :: fzL r cells xs
end
theorem killL_map (r : Nat) (xs : List PV) : killL r xs = xs.map (PV.kill r) := by induction xs with | nil => rfl | cons x xs ih => simp [killL, ih]
theorem fzL_map (r : Nat) (cells xs : List PV) : fzL r cells xs = xs.map (PV.fz r cells) := by induction xs with | nil => rfl | cons x xs ih => simp [fzL, ih]

/- What holds no reference at all. -/
mutual
def PV.pure : PV → Bool
  | .own _ _ | .rpos _ _ | .ptr _ _ | .bsl _ _ _ | .junk => false
  | .func _ cap => cap.isEmpty
  | .agg cs => pureL cs
  | .tup cs => pureL cs
  | .iface _ x => x.pure
  | .int _ _ | .bool _ | .str _ | .slice _ _ | .nil | .epos _ | .nilptr | .nilfunc | .niliface => true
def pureL : List PV → Bool
  | [] => true
  | x :: xs => x.pure && pureL xs
end
theorem pureL_get {xs : List PV} (h : pureL xs = true) {j : Nat} {x : PV} (hj : xs[j]? = some x) : x.pure = true := by
  induction xs generalizing j with
  | nil => simp at hj
  | cons y ys ih =>
    simp only [pureL, Bool.and_eq_true] at h
    cases j with
    | zero => simp at hj; subst hj; exact h.1
    | succ j => exact ih h.2 (by simpa using hj)
theorem VRep.pure {E : Env} {w : World} {x : PV} {v : Value} (h : VRep E w x v) (hp : x.pure = true) : IRep E.im w x v := by
  induction h with
  | imm h => exact h
  | own | rpos | ptr | bsl | junk => simp [PV.pure] at hp
  | func hl _ _ =>
    simp [PV.pure] at hp
    subst hp
    have := List.eq_nil_of_length_eq_zero hl
    subst this
    exact .func _
  | agg hl _ ih => exact .agg hl fun j x v hx hv => ih j x v hx hv (pureL_get (by simpa [PV.pure] using hp) hx)
  | tup hl _ ih => exact .tup hl fun j x v hx hv => ih j x v hx hv (pureL_get (by simpa [PV.pure] using hp) hx)
  | iface t _ ih => exact .iface t (ih (by simpa [PV.pure] using hp))
theorem VReps.pure {E : Env} {w : World} {xs : List PV} {vs : List Value} (h : VReps E w xs vs) (hp : pureL xs = true) : IReps E.im w xs vs := ⟨h.1, fun j x v hx hv => (h.2 j x v hx hv).pure (pureL_get hp hx)⟩

theorem IRep.kill {im : Nat → Prop} {w : World} {x : PV} {v : Value} (r : Nat) (h : IRep im w x v) : IRep im w (x.kill r) v := by
  induction h with
  | agg hl _ ih => exact .agg (by rw [killL_map]; simpa using hl) (fun j x v hx hv => by
      rw [killL_map, List.getElem?_map] at hx
      obtain ⟨y, hy, rfl⟩ := Option.map_eq_some_iff.1 hx
      exact ih j y v hy hv)
  | tup hl _ ih => exact .tup (by rw [killL_map]; simpa using hl) (fun j x v hx hv => by
      rw [killL_map, List.getElem?_map] at hx
      obtain ⟨y, hy, rfl⟩ := Option.map_eq_some_iff.1 hx
      exact ih j y v hy hv)
  | iface t _ ih => exact .iface t ih
  | slice hn hl hb hc h1 hr _ => exact .slice hn hl hb hc h1 hr
  | epos hl hb hc hr _ => exact .epos hl hb hc hr
  | func fn => simp only [PV.kill, killL]; exact .func fn
  | _ => constructor
theorem IRep.fz {im : Nat → Prop} {w : World} {x : PV} {v : Value} (r : Nat) (cells : List PV) (h : IRep im w x v) : IRep im w (x.fz r cells) v := by
  induction h with
  | agg hl _ ih => exact .agg (by rw [fzL_map]; simpa using hl) (fun j x v hx hv => by
      rw [fzL_map, List.getElem?_map] at hx
      obtain ⟨y, hy, rfl⟩ := Option.map_eq_some_iff.1 hx
      exact ih j y v hy hv)
  | tup hl _ ih => exact .tup (by rw [fzL_map]; simpa using hl) (fun j x v hx hv => by
      rw [fzL_map, List.getElem?_map] at hx
      obtain ⟨y, hy, rfl⟩ := Option.map_eq_some_iff.1 hx
      exact ih j y v hy hv)
  | iface t _ ih => exact .iface t ih
  | slice hn hl hb hc h1 hr _ => exact .slice hn hl hb hc h1 hr
  | epos hl hb hc hr _ => exact .epos hl hb hc hr
  | func fn => simp only [PV.fz, fzL]; exact .func fn
  | _ => constructor
/-- Row r has turned. -/
theorem VRep.kill {E E' : Env} {w w' : World} {x : PV} {v : Value} {r : Nat} (h : VRep E w x v) (hb : E'.nb = E.nb) (hr : E'.nr = E.nr) (hβ : E'.β = E.β) (hρ : ∀ i, i ≠ r → E'.ρ i = E.ρ i) (hi : ∀ k, E.im k → E'.im k) (hw : ∀ k, E.im k → w'.heap[k]? = w.heap[k]?) :
    VRep E' w' (x.kill r) v := by
  induction h with
  | imm h => exact .imm ((h.move hi hw).kill r)
  | @own q n A m c hq h hn =>
    simp only [PV.kill]
    split
    · exact .junk _
    · exact .own (by rw [hr]; exact hq) (by rw [hρ _ (by assumption)]; exact h) hn
  | @rpos q o a m c hq h =>
    simp only [PV.kill]
    split
    · exact .junk _
    · exact .rpos (by rw [hr]; exact hq) (by rw [hρ _ (by assumption)]; exact h)
  | ptr o hb' => rw [← hβ]; exact .ptr o (by rw [hb]; exact hb')
  | bsl hb' hn => rw [← hβ]; exact .bsl (by rw [hb]; exact hb') hn
  | func hl _ ih => exact .func (by rw [killL_map]; simpa using hl) (fun j x v hx hv => by
      rw [killL_map, List.getElem?_map] at hx
      obtain ⟨y, hy, rfl⟩ := Option.map_eq_some_iff.1 hx
      exact ih j y v hy hv)
  | agg hl _ ih => exact .agg (by rw [killL_map]; simpa using hl) (fun j x v hx hv => by
      rw [killL_map, List.getElem?_map] at hx
      obtain ⟨y, hy, rfl⟩ := Option.map_eq_some_iff.1 hx
      exact ih j y v hy hv)
  | tup hl _ ih => exact .tup (by rw [killL_map]; simpa using hl) (fun j x v hx hv => by
      rw [killL_map, List.getElem?_map] at hx
      obtain ⟨y, hy, rfl⟩ := Option.map_eq_some_iff.1 hx
      exact ih j y v hy hv)
  | iface t _ ih => exact .iface t ih
  | junk v => exact .junk v
theorem VReps.kill {E E' : Env} {w w' : World} {xs : List PV} {vs : List Value} {r : Nat} (h : VReps E w xs vs) (hm : ∀ x v, VRep E w x v → VRep E' w' (x.kill r) v) : VReps E' w' (killL r xs) vs :=
  ⟨by rw [killL_map]; simpa using h.1, fun j x v hx hv => by
    rw [killL_map, List.getElem?_map] at hx
    obtain ⟨y, hy, rfl⟩ := Option.map_eq_some_iff.1 hx
    exact hm y v (h.2 j y v hy hv)⟩
/-- Row r is only read from now on. -/
theorem VRep.fz {E : Env} {w : World} {x : PV} {v : Value} {r n : Nat} {im : Nat → Prop} {cells : List PV} (h : VRep E w x v) (hi : ∀ k, E.im k → im k) (hv : ∀ A m c, E.ρ r = .slice A m c → IRep im w (.slice m cells) (.slice A m c))
    (hp : ∀ a m c, E.ρ r = .slice (some a) m c → ∀ o, IRep im w (.epos (cells.drop o)) (.pointer (some (a.add o)))) : VRep (E.more im) w (x.fz r cells) v := by
  induction h with
  | imm h => exact .imm ((h.move hi (fun _ _ => rfl)).fz r cells)
  | @own q n A m c hq h hn =>
    simp only [PV.fz]
    split
    · rename_i he
      subst he; subst hn
      exact .imm (hv _ _ _ h)
    · exact .own hq h hn
  | @rpos q o a m c hq h =>
    simp only [PV.fz]
    split
    · rename_i he
      subst he
      exact .imm (hp _ _ _ h o)
    · exact .rpos hq h
  | ptr o hb' => exact .ptr o hb'
  | bsl hb' hn => exact .bsl hb' hn
  | func hl _ ih => exact .func (by rw [fzL_map]; simpa using hl) (fun j x v hx hv => by
      rw [fzL_map, List.getElem?_map] at hx
      obtain ⟨y, hy, rfl⟩ := Option.map_eq_some_iff.1 hx
      exact ih j y v hy hv)
  | agg hl _ ih => exact .agg (by rw [fzL_map]; simpa using hl) (fun j x v hx hv => by
      rw [fzL_map, List.getElem?_map] at hx
      obtain ⟨y, hy, rfl⟩ := Option.map_eq_some_iff.1 hx
      exact ih j y v hy hv)
  | tup hl _ ih => exact .tup (by rw [fzL_map]; simpa using hl) (fun j x v hx hv => by
      rw [fzL_map, List.getElem?_map] at hx
      obtain ⟨y, hy, rfl⟩ := Option.map_eq_some_iff.1 hx
      exact ih j y v hy hv)
  | iface t _ ih => exact .iface t ih
  | junk v => exact .junk v
theorem VReps.fz {E E' : Env} {w : World} {xs : List PV} {vs : List Value} {r : Nat} {cells : List PV} (h : VReps E w xs vs) (hm : ∀ x v, VRep E w x v → VRep E' w (x.fz r cells) v) : VReps E' w (fzL r cells xs) vs :=
  ⟨by rw [fzL_map]; simpa using h.1, fun j x v hx hv => by
    rw [fzL_map, List.getElem?_map] at hx
    obtain ⟨y, hy, rfl⟩ := Option.map_eq_some_iff.1 hx
    exact hm y v (h.2 j y v hy hv)⟩
end Go.AS
