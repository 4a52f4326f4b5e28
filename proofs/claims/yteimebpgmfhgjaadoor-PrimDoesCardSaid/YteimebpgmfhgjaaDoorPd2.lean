/- Texts of this session, packed: EngW, Eng2, EngN, EngO, EngP, EngQ, EngR, EngT, EngU, EngV, EngX, EngY, Eng5, Eng6, Own0, EngZ. -/
import Derived.Test.YteimebpgmfhgjaaDoorPd1
namespace Go.AS
open Go.RowKit
set_option linter.unusedVariables false
set_option linter.unusedSimpArgs false
/- References to these boxes and rows alone. -/
mutual
def PV.scP (p q : Nat → Bool) : PV → Bool
  | .own r _ => q r
  | .rpos r _ => q r
  | .ptr b _ => p b
  | .bsl b _ _ => p b
  | .func _ cap => scPL p q cap
  | .agg cs => scPL p q cs
  | .tup cs => scPL p q cs
  | .iface _ x => x.scP p q
  | .int _ _ | .bool _ | .str _ | .slice _ _ | .nil | .epos _ | .nilptr | .nilfunc | .niliface | .exact _ | .sl _ _ _ | .junk => true
def scPL (p q : Nat → Bool) : List PV → Bool
  | [] => true
  | x :: xs => x.scP p q && scPL p q xs
end
/- The same, under other numbers. -/
mutual
def PV.mv2 (f g : Nat → Nat) : PV → PV
  | .ptr b o => .ptr (f b) o
  | .bsl b n m => .bsl (f b) n m
  | .own r n => .own (g r) n
  | .rpos r n => .rpos (g r) n
  | .func fn cs => .func fn (mv2L f g cs)
  | .agg cs => .agg (mv2L f g cs)
  | .tup cs => .tup (mv2L f g cs)
  | .iface t x => .iface t (x.mv2 f g)
  | .int k n => .int k n
  | .bool b => .bool b
  | .str s => .str s
  | .slice n cs => .slice n cs
  | .nil => .nil
  | .epos cs => .epos cs
  | .nilptr => .nilptr
  | .nilfunc => .nilfunc
  | .niliface => .niliface
  | .exact v => .exact v
  | .sl F n cs => .sl F n cs
  | .junk => .junk
def mv2L (f g : Nat → Nat) : List PV → List PV
  | [] => []
  | x :: xs => x.mv2 f g :: mv2L f g xs
end
/- Handles on these rows are none any more. -/
mutual
def PV.killP (q : Nat → Bool) : PV → PV
  | .own r n => match q r with
    | true => .junk
    | false => .own r n
  | .rpos r o => match q r with
    | true => .junk
    | false => .rpos r o
  | .func fn cap => .func fn (killPL q cap)
  | .agg cs => .agg (killPL q cs)
  | .tup cs => .tup (killPL q cs)
  | .iface t x => .iface t (x.killP q)
  | .int k n => .int k n
  | .bool b => .bool b
  | .str s => .str s
  | .slice n cs => .slice n cs
  | .nil => .nil
  | .epos cs => .epos cs
  | .ptr b o => .ptr b o
  | .bsl b n m => .bsl b n m
  | .nilptr => .nilptr
  | .nilfunc => .nilfunc
  | .niliface => .niliface
  | .exact v => .exact v
  | .sl F n cs => .sl F n cs
  | .junk => .junk
def killPL (q : Nat → Bool) : List PV → List PV
  | [] => []
  | x :: xs => x.killP q :: killPL q xs
end
theorem mv2L_map (f g : Nat → Nat) (l : List PV) : mv2L f g l = l.map (·.mv2 f g) := by induction l with | nil => rfl | cons x xs ih => simp [mv2L, ih]
theorem killPL_map (q : Nat → Bool) (l : List PV) : killPL q l = l.map (·.killP q) := by induction l with | nil => rfl | cons x xs ih => simp [killPL, ih]
theorem scPL_get {p q : Nat → Bool} {l : List PV} (h : scPL p q l = true) {j : Nat} {x : PV} (hj : l[j]? = some x) : x.scP p q = true := by
  induction l generalizing j with
  | nil => simp at hj
  | cons y ys ih =>
    simp only [scPL, Bool.and_eq_true] at h
    cases j with
    | zero => simp at hj; subst hj; exact h.1
    | succ j => exact ih h.2 (by simpa using hj)
theorem map_get {α β : Type} {f : α → β} {l : List α} {j : Nat} {y : β} (h : (l.map f)[j]? = some y) : ∃ x, l[j]? = some x ∧ y = f x := by
  rw [List.getElem?_map] at h
  obtain ⟨x, h1, h2⟩ := Option.map_eq_some_iff.1 h
  exact ⟨x, h1, h2.symm⟩
theorem IRep.mv2 {im im' : Nat → Prop} {w w' : World} {f g : Nat → Nat} {x : PV} {v : Value} (h : IRep im w x v) (hi : ∀ k, im k → im' k) (hw : ∀ k, im k → w'.heap[k]? = w.heap[k]?) : IRep im' w' (x.mv2 f g) v := by
  induction h with
  | int k n => exact .int k n
  | bool b => exact .bool b
  | str s => exact .str s
  | nil => exact .nil
  | slice0 => exact .slice0
  | slice hn hl hb hc h1 hr ih => exact (IRep.slice hn hl hb hc h1 hr).move hi hw
  | epos hl hb hc hr ih => exact (IRep.epos hl hb hc hr).move hi hw
  | nilptr => exact .nilptr
  | nilfunc => exact .nilfunc
  | niliface => exact .niliface
  | exact h => exact .exact h
  | sl h h1 hF _ => exact (IRep.sl h h1 hF).move hi hw
  | func fn => exact .func fn
  | iface t _ ih => exact .iface t ih
  | agg hl hr ih =>
    refine .agg (by simp [mv2L_map, hl]) fun j x v hx hv => ?_
    rw [mv2L_map] at hx
    obtain ⟨y, hy, rfl⟩ := map_get hx
    exact ih j y v hy hv
  | tup hl hr ih =>
    refine .tup (by simp [mv2L_map, hl]) fun j x v hx hv => ?_
    rw [mv2L_map] at hx
    obtain ⟨y, hy, rfl⟩ := map_get hx
    exact ih j y v hy hv
theorem VRep.mv2 {E E' : Env} {w w' : World} {p q : Nat → Bool} {f g : Nat → Nat} {x : PV} {v : Value} (h : VRep E w x v) (hs : x.scP p q = true)
    (hf : ∀ b, p b = true → b < E.nb → f b < E'.nb ∧ E'.β (f b) = E.β b) (hg : ∀ r, q r = true → r < E.nr → g r < E'.nr ∧ E'.ρ (g r) = E.ρ r)
    (hi : ∀ k, E.im k → E'.im k) (hw : ∀ k, E.im k → w'.heap[k]? = w.heap[k]?) : VRep E' w' (x.mv2 f g) v := by
  induction h with
  | imm h => exact .imm (h.mv2 hi hw)
  | own hr he hn => have h := hg _ hs hr; exact .own h.1 (h.2.trans he) hn
  | rpos hr he => have h := hg _ hs hr; exact .rpos h.1 (h.2.trans he)
  | ptr o hb => have h := hf _ hs hb; rw [← h.2]; exact .ptr o h.1
  | bsl hb hn => have h := hf _ hs hb; rw [← h.2]; exact .bsl h.1 hn
  | func hl hr ih =>
    refine .func (by simp [mv2L_map, hl]) fun j x v hx hv => ?_
    rw [mv2L_map] at hx
    obtain ⟨y, hy, rfl⟩ := map_get hx
    exact ih j y v hy hv (scPL_get (by simpa [PV.scP] using hs) hy)
  | agg hl hr ih =>
    refine .agg (by simp [mv2L_map, hl]) fun j x v hx hv => ?_
    rw [mv2L_map] at hx
    obtain ⟨y, hy, rfl⟩ := map_get hx
    exact ih j y v hy hv (scPL_get (by simpa [PV.scP] using hs) hy)
  | tup hl hr ih =>
    refine .tup (by simp [mv2L_map, hl]) fun j x v hx hv => ?_
    rw [mv2L_map] at hx
    obtain ⟨y, hy, rfl⟩ := map_get hx
    exact ih j y v hy hv (scPL_get (by simpa [PV.scP] using hs) hy)
  | iface t _ ih => exact .iface t (ih (by simpa [PV.scP] using hs))
  | junk v => exact .junk v
theorem IRep.killP {im im' : Nat → Prop} {w w' : World} {q : Nat → Bool} {x : PV} {v : Value} (h : IRep im w x v) (hi : ∀ k, im k → im' k) (hw : ∀ k, im k → w'.heap[k]? = w.heap[k]?) : IRep im' w' (x.killP q) v := by
  induction h with
  | int k n => exact .int k n
  | bool b => exact .bool b
  | str s => exact .str s
  | nil => exact .nil
  | slice0 => exact .slice0
  | slice hn hl hb hc h1 hr ih => exact (IRep.slice hn hl hb hc h1 hr).move hi hw
  | epos hl hb hc hr ih => exact (IRep.epos hl hb hc hr).move hi hw
  | nilptr => exact .nilptr
  | nilfunc => exact .nilfunc
  | niliface => exact .niliface
  | exact h => exact .exact h
  | sl h h1 hF _ => exact (IRep.sl h h1 hF).move hi hw
  | func fn => exact .func fn
  | iface t _ ih => exact .iface t ih
  | agg hl hr ih =>
    refine .agg (by simp [killPL_map, hl]) fun j x v hx hv => ?_
    rw [killPL_map] at hx
    obtain ⟨y, hy, rfl⟩ := map_get hx
    exact ih j y v hy hv
  | tup hl hr ih =>
    refine .tup (by simp [killPL_map, hl]) fun j x v hx hv => ?_
    rw [killPL_map] at hx
    obtain ⟨y, hy, rfl⟩ := map_get hx
    exact ih j y v hy hv
theorem VRep.killP {E E' : Env} {w w' : World} {q : Nat → Bool} {x : PV} {v : Value} (h : VRep E w x v)
    (hb : E.nb ≤ E'.nb) (hβ : ∀ b, b < E.nb → E'.β b = E.β b) (hr : E.nr ≤ E'.nr) (hρ : ∀ r, q r = false → r < E.nr → E'.ρ r = E.ρ r)
    (hi : ∀ k, E.im k → E'.im k) (hw : ∀ k, E.im k → w'.heap[k]? = w.heap[k]?) : VRep E' w' (x.killP q) v := by
  induction h with
  | imm h => exact .imm (h.killP hi hw)
  | @own r n A m c hlt he hn =>
    simp only [PV.killP]
    cases hq : q r with
    | true => exact .junk _
    | false => exact .own (Nat.lt_of_lt_of_le hlt hr) ((hρ r hq hlt).trans he) hn
  | @rpos r o a m c hlt he =>
    simp only [PV.killP]
    cases hq : q r with
    | true => exact .junk _
    | false => exact .rpos (Nat.lt_of_lt_of_le hlt hr) ((hρ r hq hlt).trans he)
  | ptr o hlt => rw [← hβ _ hlt]; exact .ptr o (Nat.lt_of_lt_of_le hlt hb)
  | bsl hlt hn => rw [← hβ _ hlt]; exact .bsl (Nat.lt_of_lt_of_le hlt hb) hn
  | func hl hr ih =>
    refine .func (by simp [killPL_map, hl]) fun j x v hx hv => ?_
    rw [killPL_map] at hx
    obtain ⟨y, hy, rfl⟩ := map_get hx
    exact ih j y v hy hv
  | agg hl hr ih =>
    refine .agg (by simp [killPL_map, hl]) fun j x v hx hv => ?_
    rw [killPL_map] at hx
    obtain ⟨y, hy, rfl⟩ := map_get hx
    exact ih j y v hy hv
  | tup hl hr ih =>
    refine .tup (by simp [killPL_map, hl]) fun j x v hx hv => ?_
    rw [killPL_map] at hx
    obtain ⟨y, hy, rfl⟩ := map_get hx
    exact ih j y v hy hv
  | iface t _ ih => exact .iface t ih
  | junk v => exact .junk v
def WrH (E : Env) (H : Hp) (k : Nat) : Prop := ∃ (j : Nat) (s : Row), H.rw[j]? = some (some s) ∧ (E.ρ j).ownBlock = some k
structure RExt (H : Hp) (E : Env) (w : World) (H' : Hp) (E' : Env) (w' : World) : Prop where
  sz : w.heap.size ≤ w'.heap.size
  os : w'.os = w.os
  tape : w'.tape = w.tape
  out : w'.output = w.output
  keep : ∀ k, k < w.heap.size → (∀ i, i < H.bx.length → E.β i ≠ k) → ¬ WrH E H k → w'.heap[k]? = w.heap[k]?
  nb : H.bx.length ≤ H'.bx.length
  nr : H.rw.length ≤ H'.rw.length
  β : ∀ i, i < H.bx.length → E'.β i = E.β i
  up : ∀ k, E.im k → E'.im k
  dn : ∀ k, E'.im k → E.im k ∨ w.heap.size ≤ k ∨ WrH E H k
  own : ∀ i, H.bx.length ≤ i → i < H'.bx.length → w.heap.size ≤ E'.β i
  rows : ∀ (j : Nat) (s : Row) (k : Nat), H'.rw[j]? = some (some s) → (E'.ρ j).ownBlock = some k → w.heap.size ≤ k ∨ WrH E H k
  lo : E'.lo = E.lo
def RCalls (G : Prg) (f : FuncId) (args : List PV) (H : Hp) (R : Out → Hp → Prop) : Prop :=
  ∀ E w vs, HRep G.Γ E w H → VReps E w args vs → Calls G.P f vs.toArray w fun e w' => ∃ o H' E', R o H' ∧ OutR E' w' o e ∧ HRep G.Γ E' w' H' ∧ RExt H E w H' E' w'
def belowN (m : Nat) (k : Nat) : Bool := Nat.blt k m
def Hp.scB (m n : Nat) (H : Hp) : Bool := H.bx.all fun b => scPL (belowN m) (belowN n) b.cs
def Hp.take (m n : Nat) (H : Hp) : Hp := ⟨H.bx.take m, H.rw.take n⟩
def FinHR (G : Prg) (fn : Func) (nb nr : Nat) (R : Out → Hp → Prop) (st : AS) : Prop := ∃ (m n : Nat) (r : PV), nb ≤ m ∧ m ≤ st.h.bx.length ∧ nr ≤ n ∧ n ≤ st.h.rw.length ∧ aret G fn st = some r ∧ r.scP (belowN m) (belowN n) = true ∧ (st.h.take m n).scB m n = true ∧ R (.ret r) (st.h.take m n)
def FinHP (nb nr : Nat) (R : Out → Hp → Prop) (x : PV) (st : AS) : Prop := ∃ (m n : Nat), nb ≤ m ∧ m ≤ st.h.bx.length ∧ nr ≤ n ∧ n ≤ st.h.rw.length ∧ x.scP (belowN m) (belowN n) = true ∧ (st.h.take m n).scB m n = true ∧ R (.pan x) (st.h.take m n)
theorem bltI {a b : Nat} : Nat.blt a b = true ↔ a < b := by rw [Nat.blt_eq]
theorem belowN_iff {m k : Nat} : belowN m k = true ↔ k < m := by unfold belowN; rw [Nat.blt_eq]
mutual
theorem PV.mv2_id : ∀ x : PV, x.mv2 id id = x
  | .ptr _ _ | .bsl _ _ _ | .own _ _ | .rpos _ _ | .int _ _ | .bool _ | .str _ | .slice _ _ | .nil | .epos _ | .nilptr | .nilfunc | .niliface | .exact _ | .sl _ _ _ | .junk => rfl
  | .func fn cs => by rw [PV.mv2, mv2L_id cs]
  | .agg cs => by rw [PV.mv2, mv2L_id cs]
  | .tup cs => by rw [PV.mv2, mv2L_id cs]
  | .iface t x => by rw [PV.mv2, PV.mv2_id x]
theorem mv2L_id : ∀ l : List PV, mv2L id id l = l
  | [] => rfl
  | x :: xs => by rw [mv2L, PV.mv2_id x, mv2L_id xs]
end
theorem VRep.sc2 {E E' : Env} {w : World} {m n : Nat} {x : PV} {v : Value} (h : VRep E w x v) (hs : x.scP (belowN m) (belowN n) = true) (hb : m ≤ E'.nb) (hr : n ≤ E'.nr) (hβ : ∀ i, i < m → E'.β i = E.β i) (hρ : ∀ i, i < n → E'.ρ i = E.ρ i) (hi : ∀ k, E.im k → E'.im k) : VRep E' w x v := by
  have := h.mv2 (f := id) (g := id) (E' := E') (w' := w) hs (fun b hp _ => ⟨Nat.lt_of_lt_of_le (belowN_iff.1 hp) hb, hβ b (belowN_iff.1 hp)⟩) (fun r hp _ => ⟨Nat.lt_of_lt_of_le (belowN_iff.1 hp) hr, hρ r (belowN_iff.1 hp)⟩) hi (fun _ _ => rfl)
  rwa [PV.mv2_id] at this
theorem closeH {G : Prg} {C : Ctx} {E : Env} {st : AS} {a : Act} {w : World} (hr : Rel G C E st a w) {m n : Nat} (h2 : m ≤ st.h.bx.length) (h2' : n ≤ st.h.rw.length) (h3 : (st.h.take m n).scB m n = true) :
    HRep G.Γ { E with nb := m, nr := n } w (st.h.take m n) := by
  have hnb := hr.hp.nb
  have hnr := hr.hp.nr
  have hrow : ∀ (j : Nat) (s : Row), (st.h.take m n).rw[j]? = some (some s) → j < n ∧ st.h.rw[j]? = some (some s) := fun j s hj => by
    simp only [Hp.take, List.getElem?_take] at hj
    split at hj
    · rename_i h; exact ⟨h, hj⟩
    · cases hj
  refine ⟨by simp [Hp.take]; omega, by simp [Hp.take]; omega, hr.hp.lo, fun i b hb => ?_, fun j s hj => hr.hp.row j s (hrow j s hj).2, fun i j hi hj => hr.hp.inj i j (by simp only [] at hi; omega) (by simp only [] at hj; omega), fun i j r s k hi hj => hr.hp.rinj i j r s k (hrow i r hi).2 (hrow j s hj).2, fun i j r hi hj => hr.hp.brw i j r (by simp only [] at hi; omega) (hrow j r hj).2, hr.hp.im_lt, fun k i hi => hr.hp.im_b k i (by simp only [] at hi; omega), fun k j r hj => hr.hp.im_r k j r (hrow j r hj).2, hr.hp.gl⟩
  have hsc : scPL (belowN m) (belowN n) b.cs = true := List.all_eq_true.1 h3 b (List.mem_of_getElem? hb)
  simp only [Hp.take, List.getElem?_take] at hb
  split at hb
  · obtain ⟨vs, hv, hvr⟩ := hr.hp.box i b hb
    exact ⟨vs, hv, hvr.1, fun j x v hx hv' => (hvr.2 j x v hx hv').sc2 (scPL_get hsc hx) (Nat.le_refl _) (Nat.le_refl _) (fun _ _ => rfl) (fun _ _ => rfl) (fun _ h => h)⟩
  · cases hb
theorem RCalls.of_swp {G : Prg} {f : FuncId} {fn : Func} {c : Code} {args : List PV} {H : Hp} {R : Out → Hp → Prop} (hf : G.P.funcs[f]? = some fn) (hb : fn.body = some c) (hn : args.length ≤ fn.ntmps)
    (h : ∀ C : Ctx, C.nt = fn.ntmps → C.nb = H.bx.length → SWP G C c (QT (FinHR G fn H.bx.length H.rw.length R) [] (FinHR G fn H.bx.length H.rw.length R) (FinHP H.bx.length H.rw.length R)) ⟨enum 0 args, H⟩) : RCalls G f args H R := fun E w vs hh hv => by
  refine calls_of_wp hf hb ?_
  have hrel : Rel G ⟨w, E, H.bx.length, fn.ntmps, E.lo, WrH E H, []⟩ E ⟨enum 0 args, H⟩ { tmps := vs.toArray ++ Array.replicate (fn.ntmps - vs.toArray.size) undef, defers := [] } w :=
    ⟨rfl, by simp [hv.1]; omega, fun s => by
      rcases lk_enum args vs 0 (fn.ntmps - vs.length) s hv with h | h
      · have e : (vs.toArray ++ Array.replicate (fn.ntmps - vs.toArray.size) undef).getD s undef = (vs ++ List.replicate (fn.ntmps - vs.length) undef).getD (s - 0) undef := by
          rw [Array.getD_eq_getD_getElem?, List.getD, ← Array.getElem?_toList]
          simp
        rw [e]
        exact h
      · omega, hh, rfl, by simp [hh.nb], fun _ _ => rfl, fun i h1 h2 => absurd (show i < H.bx.length from hh.nb ▸ h2) (Nat.not_lt.2 h1), fun _ h => h, fun _ h => .inl h, fun _ _ _ _ => rfl, rfl, rfl, rfl, Nat.le_refl _, fun j s k hj hk => .inr ⟨j, s, hj, hk⟩⟩
  refine wp_mono (h _ rfl rfl E _ _ hrel) fun e a' w' ⟨ae, s, E', q, x, r⟩ => ?_
  have fin : ∀ (m n : Nat), H.bx.length ≤ m → m ≤ s.h.bx.length → H.rw.length ≤ n → n ≤ s.h.rw.length → (s.h.take m n).scB m n = true →
      HRep G.Γ { E' with nb := m, nr := n } w' (s.h.take m n) ∧ RExt H E w (s.h.take m n) { E' with nb := m, nr := n } w' := fun m n h1 h2 h3 h4 h5 => by
    have hnb := r.hp.nb
    have hlen : (s.h.take m n).bx.length = m := by simp [Hp.take]; omega
    have hlen2 : (s.h.take m n).rw.length = n := by simp [Hp.take]; omega
    refine ⟨closeH r h2 h4 h5, ⟨r.sz, r.os, r.tape, r.out, r.keep, by omega, by omega, r.β, r.up, r.dn, fun i hi hj => r.own i hi (by rw [hlen] at hj; omega), fun j t k hj hk => ?_, r.lo⟩⟩
    simp only [Hp.take, List.getElem?_take] at hj
    split at hj
    · exact r.rows j t k hj hk
    · cases hj
  have fret : FinHR G fn H.bx.length H.rw.length R s → a'.defers = [] ∧ ∃ v, (results fn a'.tmps).run G.P w' = .ok v w' ∧ ∃ o H' E', R o H' ∧ OutR E' w' o (.returned v) ∧ HRep G.Γ E' w' H' ∧ RExt H E w H' E' w' := fun ⟨m, n, rv, h1, h2, h3, h4, h5, h6, h7, h8⟩ => by
    obtain ⟨v, hv1, hv2⟩ := aret_ok r.fr r.hp h5
    obtain ⟨k1, k2⟩ := fin m n h1 h2 h3 h4 h7
    exact ⟨r.defers, v, hv1, _, _, { E' with nb := m, nr := n }, h8, ⟨v, rfl, hv2.sc2 h6 (Nat.le_refl _) (Nat.le_refl _) (fun _ _ => rfl) (fun _ _ => rfl) (fun _ h => h)⟩, k1, k2⟩
  cases ae with
  | normal => cases x; exact fret q
  | ret => cases x; exact fret q
  | exit i => exact q.elim
  | panic y =>
    obtain ⟨v, rfl, hv⟩ := x
    obtain ⟨m, n, h1, h2, h3, h4, h6, h7, h8⟩ := q
    obtain ⟨k1, k2⟩ := fin m n h1 h2 h3 h4 h7
    exact ⟨r.defers, _, _, { E' with nb := m, nr := n }, h8, ⟨v, rfl, hv.sc2 h6 (Nat.le_refl _) (Nat.le_refl _) (fun _ _ => rfl) (fun _ _ => rfl) (fun _ h => h)⟩, k1, k2⟩
def idxN : List Nat → Nat → Option Nat
  | [], _ => none
  | i :: is, k => match Nat.beq k i with
    | true => some 0
    | false => match idxN is k with
      | some j => some (j + 1)
      | none => none
def hasN (l : List Nat) (k : Nat) : Bool := match idxN l k with
  | some _ => true
  | none => false
def posN (l : List Nat) (k : Nat) : Nat := match idxN l k with
  | some i => i
  | none => 0
def nodupN : List Nat → Bool
  | [] => true
  | i :: is => match hasN is i with
    | true => false
    | false => nodupN is
def getN : List Nat → Nat → Nat
  | [], _ => 0
  | i :: _, 0 => i
  | _ :: is, k + 1 => getN is k
def sel (l : List Nat) (n j : Nat) : Option Nat := match idxN l j with
  | some i => some i
  | none => match Nat.blt j n with
    | true => none
    | false => some (l.length + (j - n))
def bak (l : List Nat) (n i : Nat) : Nat := match Nat.blt i l.length with
  | true => getN l i
  | false => n + (i - l.length)
theorem idxN_some : ∀ {l : List Nat} {k i : Nat}, idxN l k = some i → i < l.length ∧ getN l i = k
  | [], k, i, h => by cases h
  | a :: l, k, i, h => by
    simp only [idxN] at h
    split at h
    · rename_i he; cases h; exact ⟨by simp, (Nat.eq_of_beq_eq_true he).symm⟩
    · split at h
      · rename_i j hj; cases h; have := idxN_some hj; exact ⟨by simp; exact this.1, this.2⟩
      · cases h
theorem idxN_lt : ∀ {l : List Nat} {i : Nat}, nodupN l = true → i < l.length → idxN l (getN l i) = some i
  | [], i, _, h => by simp at h
  | a :: l, 0, _, h => by simp [getN, idxN, Nat.beq_refl]
  | a :: l, i + 1, hn, h => by
    simp only [nodupN] at hn
    split at hn
    · cases hn
    · rename_i hh
      have ih := idxN_lt (i := i) hn (by simpa using h)
      have hne : Nat.beq (getN l i) a = false := by
        cases hb : Nat.beq (getN l i) a with
        | false => rfl
        | true =>
          have := Nat.eq_of_beq_eq_true hb
          rw [this] at ih
          simp [hasN, ih] at hh
      simp only [getN, idxN, hne, ih]
theorem getN_inj {l : List Nat} (hn : nodupN l = true) {i j : Nat} (hi : i < l.length) (hj : j < l.length) (h : getN l i = getN l j) : i = j := by
  have h1 := idxN_lt hn hi
  have h2 := idxN_lt hn hj
  rw [h, h2] at h1
  exact (Option.some.inj h1).symm
theorem getN_get : ∀ {l : List Nat} {i k : Nat}, l[i]? = some k → i < l.length ∧ getN l i = k
  | [], i, k, h => by simp at h
  | a :: l, 0, k, h => by simp at h; exact ⟨by simp, h⟩
  | a :: l, i + 1, k, h => by have := getN_get (l := l) (i := i) (k := k) (by simpa using h); exact ⟨by simp; exact this.1, this.2⟩
theorem hasN_pos {l : List Nat} {k : Nat} (h : hasN l k = true) : posN l k < l.length ∧ getN l (posN l k) = k := by
  unfold hasN at h
  unfold posN
  split at h
  · rename_i i hi; exact idxN_some hi
  · cases h
theorem hasN_getN {l : List Nat} {i : Nat} (hn : nodupN l = true) (h : i < l.length) : hasN l (getN l i) = true := by
  unfold hasN; rw [idxN_lt hn h]
theorem sel_some {l : List Nat} {n j i : Nat} (h : sel l n j = some i) : j = bak l n i ∧ ((i < l.length ∧ hasN l j = true) ∨ (l.length ≤ i ∧ n ≤ j ∧ j = n + (i - l.length))) := by
  unfold sel at h
  split at h
  · rename_i i' hi
    cases h
    obtain ⟨h1, h2⟩ := idxN_some hi
    refine ⟨?_, .inl ⟨h1, by simp [hasN, hi]⟩⟩
    unfold bak
    rw [show Nat.blt i l.length = true from bltI.2 h1]
    exact h2.symm
  · split at h
    · cases h
    · rename_i hb
      cases h
      have hge : n ≤ j := by
        rcases Nat.lt_or_ge j n with hlt | hge
        · rw [bltI.2 hlt] at hb; cases hb
        · exact hge
      have hnb : Nat.blt (l.length + (j - n)) l.length = false := by
        cases hc : Nat.blt (l.length + (j - n)) l.length with
        | false => rfl
        | true => have := bltI.1 hc; omega
      refine ⟨?_, .inr ⟨by omega, hge, by omega⟩⟩
      unfold bak
      rw [hnb]
      simp only []
      omega
theorem sel_none {l : List Nat} {n j : Nat} (h : sel l n j = none) : j < n ∧ hasN l j = false := by
  unfold sel at h
  split at h
  · cases h
  · rename_i hi
    split at h
    · rename_i hb; exact ⟨bltI.1 hb, by simp [hasN, hi]⟩
    · cases h
theorem sel_old {l : List Nat} {n j : Nat} (hj : j < n) (h : hasN l j = false) : sel l n j = none := by
  unfold hasN at h
  unfold sel
  split at h
  · cases h
  · rw [show Nat.blt j n = true from bltI.2 hj]
theorem sel_bak {l : List Nat} {n i : Nat} (hn : nodupN l = true) (hl : ∀ k, k < l.length → getN l k < n) : sel l n (bak l n i) = some i := by
  unfold bak
  split
  · rename_i hb
    have := idxN_lt hn (bltI.1 hb)
    unfold sel
    rw [this]
  · rename_i hb
    have hge : l.length ≤ i := by
      rcases Nat.lt_or_ge i l.length with hlt | hge
      · rw [bltI.2 hlt] at hb; cases hb
      · exact hge
    unfold sel
    cases hi : idxN l (n + (i - l.length)) with
    | some k => have := idxN_some hi; have := hl k this.1; omega
    | none =>
      have : Nat.blt (n + (i - l.length)) n = false := by
        cases hc : Nat.blt (n + (i - l.length)) n with
        | false => rfl
        | true => have := bltI.1 hc; omega
      rw [this]
      simp only []
      congr 1
      omega
theorem bak_lt {l : List Nat} {n i m : Nat} (hl : ∀ k, k < l.length → getN l k < n) (hi : i < m) : bak l n i < n + (m - l.length) := by
  unfold bak
  split
  · rename_i hb; have := hl i (bltI.1 hb); omega
  · rename_i hb
    have hge : l.length ≤ i := by
      rcases Nat.lt_or_ge i l.length with hlt | hge
      · rw [bltI.2 hlt] at hb; cases hb
      · exact hge
    omega
def Hp.give (H : Hp) (pb pr : List Nat) : Hp :=
  ⟨pb.map fun b => match H.bx[b]? with
    | some x => ⟨mv2L (posN pb) (posN pr) x.cs, x.ty⟩
    | none => ⟨[], 0⟩,
   pr.map fun r => match H.rw[r]? with
    | some x => x
    | none => none⟩
def giveB (H : Hp) (pb pr : List Nat) : List Nat → Bool
  | [] => true
  | b :: bs => (match H.bx[b]? with
    | some x => scPL (hasN pb) (hasN pr) x.cs
    | none => false) && giveB H pb pr bs
def giveR (H : Hp) : List Nat → Bool
  | [] => true
  | r :: rs => Nat.blt r H.rw.length && giveR H rs
def giveOk (H : Hp) (pb pr : List Nat) : Bool := giveB H pb pr pb && giveR H pr && nodupN pb && nodupN pr
theorem giveB_get {H : Hp} {pb pr : List Nat} : ∀ {l : List Nat} {i : Nat}, giveB H pb pr l = true → i < l.length → ∃ x, H.bx[getN l i]? = some x ∧ scPL (hasN pb) (hasN pr) x.cs = true
  | [], i, _, h => by simp at h
  | b :: l, 0, h, _ => by
    simp only [giveB, Bool.and_eq_true] at h
    have h1 := h.1
    split at h1
    · rename_i x hx; exact ⟨x, hx, h1⟩
    · cases h1
  | b :: l, i + 1, h, hi => by
    simp only [giveB, Bool.and_eq_true] at h
    exact giveB_get (l := l) (i := i) h.2 (by simpa using hi)
theorem giveR_get {H : Hp} : ∀ {l : List Nat} {i : Nat}, giveR H l = true → i < l.length → getN l i < H.rw.length
  | [], i, _, h => by simp at h
  | b :: l, 0, h, _ => by simp only [giveR, Bool.and_eq_true] at h; exact bltI.1 h.1
  | b :: l, i + 1, h, hi => by simp only [giveR, Bool.and_eq_true] at h; exact giveR_get (l := l) (i := i) h.2 (by simpa using hi)
def Hp.back (H : Hp) (pb pr : List Nat) (H' : Hp) : Hp :=
  ⟨(List.range (H.bx.length + (H'.bx.length - pb.length))).map fun j => match sel pb H.bx.length j with
    | some i => match H'.bx[i]? with
      | some b => ⟨mv2L (bak pb H.bx.length) (bak pr H.rw.length) b.cs, b.ty⟩
      | none => ⟨[], 0⟩
    | none => match H.bx[j]? with
      | some b => ⟨killPL (hasN pr) b.cs, b.ty⟩
      | none => ⟨[], 0⟩,
   (List.range (H.rw.length + (H'.rw.length - pr.length))).map fun j => match sel pr H.rw.length j with
    | some i => match H'.rw[i]? with
      | some r => r
      | none => none
    | none => match H.rw[j]? with
      | some r => r
      | none => none⟩
def killPT (q : Nat → Bool) : List (Nat × PV) → List (Nat × PV)
  | [] => []
  | (i, x) :: l => (i, x.killP q) :: killPT q l
theorem lk_killPT (q : Nat → Bool) (t : List (Nat × PV)) (s : Nat) : lk (killPT q t) s = (lk t s).killP q := by
  induction t with
  | nil => rfl
  | cons p t ih =>
    obtain ⟨i, x⟩ := p
    simp only [killPT, lk]
    split
    · rfl
    · exact ih
def AS.back (st : AS) (pb pr : List Nat) (H' : Hp) : AS := ⟨killPT (hasN pr) st.t, st.h.back pb pr H'⟩
theorem VReps.mv2 {E E' : Env} {w w' : World} {p q : Nat → Bool} {f g : Nat → Nat} {xs : List PV} {vs : List Value} (h : VReps E w xs vs) (hs : scPL p q xs = true)
    (hm : ∀ x v, VRep E w x v → x.scP p q = true → VRep E' w' (x.mv2 f g) v) : VReps E' w' (mv2L f g xs) vs := by
  refine ⟨by rw [mv2L_map, List.length_map]; exact h.1, fun j x v hx hv => ?_⟩
  rw [mv2L_map] at hx
  obtain ⟨y, hy, rfl⟩ := map_get hx
  exact hm y v (h.2 j y v hy hv) (scPL_get hs hy)
section
variable {G : Prg} {C : Ctx} {Q : AEx → AS → Prop} {K : AS → Prop} {st : AS} {E : Env} {a : Act} {w w' : World}
theorem give_rw {H : Hp} {pb pr : List Nat} {i : Nat} {s : Row} (h : (H.give pb pr).rw[i]? = some (some s)) : i < pr.length ∧ H.rw[getN pr i]? = some (some s) := by
  simp only [Hp.give] at h
  obtain ⟨j, hj, hs⟩ := map_get h
  obtain ⟨h1, h2⟩ := getN_get hj
  refine ⟨h1, ?_⟩
  rw [h2]
  split at hs
  · rename_i x hx; rw [hx, ← hs]
  · cases hs
theorem give_bx {H : Hp} {pb pr : List Nat} {i : Nat} {b : Box} (h : (H.give pb pr).bx[i]? = some b) (hg : giveB H pb pr pb = true) : i < pb.length ∧ ∃ x, H.bx[getN pb i]? = some x ∧ scPL (hasN pb) (hasN pr) x.cs = true ∧ b = ⟨mv2L (posN pb) (posN pr) x.cs, x.ty⟩ := by
  simp only [Hp.give] at h
  obtain ⟨j, hj, hs⟩ := map_get h
  obtain ⟨h1, h2⟩ := getN_get hj
  obtain ⟨x, hx, hsc⟩ := giveB_get hg h1
  refine ⟨h1, x, hx, hsc, ?_⟩
  rw [h2] at hx
  rw [hx] at hs
  exact hs
theorem Rel.gave (hr : Rel G C E st a w) {pb pr : List Nat} (hg : giveOk st.h pb pr = true) :
    HRep G.Γ { E with β := fun i => E.β (getN pb i), ρ := fun i => E.ρ (getN pr i), nb := pb.length, nr := pr.length } w (st.h.give pb pr) := by
  simp only [giveOk, Bool.and_eq_true] at hg
  obtain ⟨⟨⟨hgb, hgr⟩, hnb⟩, hnr⟩ := hg
  have blt : ∀ i, i < pb.length → getN pb i < E.nb := fun i hi => by
    obtain ⟨x, hx, _⟩ := giveB_get hgb hi
    rw [hr.hp.nb]; exact (List.getElem?_eq_some_iff.1 hx).1
  refine ⟨by simp [Hp.give], by simp [Hp.give], hr.hp.lo, fun i b hb => ?_, fun i r hi => ?_, fun i j hi hj he => getN_inj hnb hi hj (hr.hp.inj _ _ (blt i hi) (blt j hj) he), fun i j r s k hi hj hki hkj => ?_, fun i j r hi hj => ?_, hr.hp.im_lt, fun k i hi hk => hr.hp.im_b k _ (blt i hi) hk, fun k j r hj hk => ?_, hr.hp.gl⟩
  · obtain ⟨hi, x, hx, hsc, rfl⟩ := give_bx hb hgb
    obtain ⟨vs, h1, h2⟩ := hr.hp.box _ x hx
    refine ⟨vs, h1, h2.mv2 hsc fun y v hv hs => hv.mv2 hs (fun b hp _ => ?_) (fun q hq _ => ?_) (fun _ h => h) (fun _ _ => rfl)⟩
    · have := hasN_pos hp; exact ⟨this.1, by simp only [this.2]⟩
    · have := hasN_pos hq; exact ⟨this.1, by simp only [this.2]⟩
  · obtain ⟨hi, h⟩ := give_rw hi
    exact hr.hp.row _ r h
  · obtain ⟨hi, h1⟩ := give_rw hi
    obtain ⟨hj, h2⟩ := give_rw hj
    exact getN_inj hnr hi hj (hr.hp.rinj _ _ r s k h1 h2 hki hkj)
  · obtain ⟨hj, h2⟩ := give_rw hj
    exact hr.hp.brw _ _ r (blt i hi) h2
  · obtain ⟨hj, h2⟩ := give_rw hj
    exact hr.hp.im_r k _ r h2 hk
theorem bak_old {l : List Nat} {n i : Nat} (h : i < l.length) : bak l n i = getN l i := by
  unfold bak; rw [show Nat.blt i l.length = true from bltI.2 h]
theorem Rel.backed (hr : Rel G C E st a w) {pb pr : List Nat} (hg : giveOk st.h pb pr = true) {H' : Hp} {E' : Env} (hh : HRep G.Γ E' w' H')
    (hx : RExt (st.h.give pb pr) { E with β := fun i => E.β (getN pb i), ρ := fun i => E.ρ (getN pr i), nb := pb.length, nr := pr.length } w H' E' w') (hsc : H'.scB H'.bx.length H'.rw.length = true) :
    ∃ E2, Rel G C E2 (st.back pb pr H') a w' ∧ ∀ x v, VRep E' w' x v → x.scP (belowN H'.bx.length) (belowN H'.rw.length) = true → VRep E2 w' (x.mv2 (bak pb st.h.bx.length) (bak pr st.h.rw.length)) v := by
  simp only [giveOk, Bool.and_eq_true] at hg
  obtain ⟨⟨⟨hgb, hgr⟩, hnb⟩, hnr⟩ := hg
  have eb := hr.hp.nb
  have er := hr.hp.nr
  have eb' := hh.nb
  have er' := hh.nr
  have lb : (st.h.give pb pr).bx.length = pb.length := by simp [Hp.give]
  have lr : (st.h.give pb pr).rw.length = pr.length := by simp [Hp.give]
  have hnb' : pb.length ≤ H'.bx.length := by have := hx.nb; omega
  have hnr' : pr.length ≤ H'.rw.length := by have := hx.nr; omega
  have blt : ∀ i, i < pb.length → getN pb i < st.h.bx.length := fun i hi => by
    obtain ⟨x, hx, _⟩ := giveB_get hgb hi
    exact (List.getElem?_eq_some_iff.1 hx).1
  have rlt : ∀ i, i < pr.length → getN pr i < st.h.rw.length := fun i hi => giveR_get hgr hi
  let E2 : Env := { β := fun j => match sel pb st.h.bx.length j with
      | some i => E'.β i
      | none => E.β j, ρ := fun j => match sel pr st.h.rw.length j with
      | some i => E'.ρ i
      | none => E.ρ j, im := E'.im, lo := E.lo, nb := st.h.bx.length + (H'.bx.length - pb.length), nr := st.h.rw.length + (H'.rw.length - pr.length) }
  have wr1 : ∀ k, WrH { E with β := fun i => E.β (getN pb i), ρ := fun i => E.ρ (getN pr i), nb := pb.length, nr := pr.length } (st.h.give pb pr) k → ∃ (j : Nat) (s : Row), hasN pr j = true ∧ st.h.rw[j]? = some (some s) ∧ (E.ρ j).ownBlock = some k := by
    rintro k ⟨i, s, hi, hk⟩
    obtain ⟨h1, h2⟩ := give_rw hi
    exact ⟨_, s, hasN_getN hnr h1, h2, hk⟩
  have rowlt : ∀ (j : Nat) (s : Row) (k : Nat), st.h.rw[j]? = some (some s) → (E.ρ j).ownBlock = some k → k < w.heap.size := fun j s k hj hk => by
    obtain ⟨us, ho, _⟩ := hr.hp.row j s hj
    exact (ownsRow_lt ho hk).2
  have keepR : ∀ k, k < w.heap.size → (∀ i, i < pb.length → E.β (getN pb i) ≠ k) → (∀ (j : Nat) (s : Row), hasN pr j = true → st.h.rw[j]? = some (some s) → (E.ρ j).ownBlock ≠ some k) → w'.heap[k]? = w.heap[k]? := fun k h1 h2 h3 =>
    hx.keep k h1 (by rw [lb]; exact h2) (fun hw => by
      obtain ⟨j, s, h4, h5, h6⟩ := wr1 k hw
      exact h3 j s h4 h5 h6)
  have him : ∀ k, E.im k → w'.heap[k]? = w.heap[k]? := fun k hk => keepR k (hr.hp.im_lt k hk) (fun i hi => hr.hp.im_b k _ (by rw [eb]; exact blt i hi) hk) (fun j s _ h5 => hr.hp.im_r k j s h5 hk)
  have β2 : ∀ j, j < st.h.bx.length → E2.β j = E.β j := fun j hj => by
    simp only [E2]
    cases hs : sel pb st.h.bx.length j with
    | none => rfl
    | some i =>
      obtain ⟨e, ⟨h1, _⟩ | ⟨_, h2, _⟩⟩ := sel_some hs
      · have := hx.β i (by rw [lb]; exact h1)
        simp only [] at this ⊢
        rw [this, e, bak_old h1]
      · omega
  have ρ2 : ∀ r, hasN pr r = false → r < st.h.rw.length → E2.ρ r = E.ρ r := fun r h1 h2 => by
    simp only [E2]; rw [sel_old h2 h1]
  have mvK : ∀ x v, VRep E w x v → VRep E2 w' (x.killP (hasN pr)) v := fun x v hv => hv.killP (by simp only [E2]; omega) (fun b hb => β2 b (by omega)) (by simp only [E2]; omega) (fun r h1 h2 => ρ2 r h1 (by omega)) hx.up him
  have mvF : ∀ x v, VRep E' w' x v → x.scP (belowN H'.bx.length) (belowN H'.rw.length) = true → VRep E2 w' (x.mv2 (bak pb st.h.bx.length) (bak pr st.h.rw.length)) v := fun x v hv hs =>
    hv.mv2 hs (fun b hp _ => ⟨bak_lt blt (belowN_iff.1 hp), by simp only [E2]; rw [sel_bak hnb blt]⟩) (fun r hp _ => ⟨bak_lt rlt (belowN_iff.1 hp), by simp only [E2]; rw [sel_bak hnr rlt]⟩) (fun _ h => h) (fun _ _ => rfl)
  have cb : ∀ j, j < E2.nb → (∃ i, sel pb st.h.bx.length j = some i ∧ i < H'.bx.length ∧ E2.β j = E'.β i) ∨ (sel pb st.h.bx.length j = none ∧ j < st.h.bx.length ∧ hasN pb j = false ∧ E2.β j = E.β j) := fun j hj => by
    simp only [E2] at hj
    cases hs : sel pb st.h.bx.length j with
    | some i =>
      refine .inl ⟨i, rfl, ?_, by simp only [E2]; rw [hs]⟩
      obtain ⟨_, ⟨h1, _⟩ | ⟨h1, h2, h3⟩⟩ := sel_some hs <;> omega
    | none => exact .inr ⟨rfl, (sel_none hs).1, (sel_none hs).2, by simp only [E2]; rw [hs]⟩
  have cr : ∀ (j : Nat) (s : Row), (st.h.back pb pr H').rw[j]? = some (some s) → (∃ i, sel pr st.h.rw.length j = some i ∧ H'.rw[i]? = some (some s) ∧ E2.ρ j = E'.ρ i) ∨ (sel pr st.h.rw.length j = none ∧ st.h.rw[j]? = some (some s) ∧ hasN pr j = false ∧ E2.ρ j = E.ρ j) := fun j s hj => by
    simp only [Hp.back] at hj
    obtain ⟨j', hj', hs⟩ := map_get hj
    obtain rfl : j' = j := by
      have hlt := (List.getElem?_eq_some_iff.1 hj').1
      rw [List.getElem?_range (by simpa using hlt)] at hj'
      exact (Option.some.inj hj').symm
    split at hs
    · rename_i i hi
      refine .inl ⟨i, hi, ?_, by simp only [E2]; rw [hi]⟩
      split at hs
      · rename_i r hr'; rw [hr', ← hs]
      · cases hs
    · rename_i hi
      refine .inr ⟨hi, ?_, (sel_none hi).2, by simp only [E2]; rw [hi]⟩
      split at hs
      · rename_i r hr'; rw [hr', ← hs]
      · cases hs
  have newB : ∀ i, pb.length ≤ i → i < H'.bx.length → w.heap.size ≤ E'.β i := fun i h1 h2 => hx.own i (by rw [lb]; exact h1) h2
  have oldB : ∀ i, i < pb.length → E'.β i = E.β (getN pb i) := fun i hi => hx.β i (by rw [lb]; exact hi)
  have rowsW : ∀ (i : Nat) (s : Row) (k : Nat), H'.rw[i]? = some (some s) → (E'.ρ i).ownBlock = some k → w.heap.size ≤ k ∨ ∃ (j : Nat) (s : Row), hasN pr j = true ∧ st.h.rw[j]? = some (some s) ∧ (E.ρ j).ownBlock = some k := fun i s k hi hk => (hx.rows i s k hi hk).imp id (wr1 k)
  have dnW : ∀ k, E'.im k → E.im k ∨ w.heap.size ≤ k ∨ ∃ (j : Nat) (s : Row), hasN pr j = true ∧ st.h.rw[j]? = some (some s) ∧ (E.ρ j).ownBlock = some k := fun k hk => (hx.dn k hk).imp id fun h => h.imp id (wr1 k)
  have nbx : ∀ j, j < st.h.bx.length → j < E.nb := fun j h => by omega
  refine ⟨E2, ⟨hr.defers, hr.size, fun s => ?_, ⟨?_, ?_, Nat.le_trans hr.hp.lo hx.sz, fun j b hb => ?_, fun j s hj => ?_, fun i j hi hj he => ?_, fun i j r s k hi hj hki hkj => ?_, fun i j r hi hj he => ?_, hh.im_lt, fun k i hi hk he => ?_, fun k j r hj hk he => ?_, hh.gl⟩,
    hr.lo, ?_, fun i hi => ?_, fun i h1 h2 => ?_, fun k hk => hx.up k (hr.up k hk), fun k hk => ?_, fun k h1 h2 h3 => ?_, hx.os.trans hr.os, hx.tape.trans hr.tape, hx.out.trans hr.out, Nat.le_trans hr.sz hx.sz, fun j s k hj hk => ?_⟩, mvF⟩
  · simp only [AS.back]; rw [lk_killPT]; exact mvK _ _ (hr.fr s)
  · simp only [E2, AS.back, Hp.back, List.length_map, List.length_range]
  · simp only [E2, AS.back, Hp.back, List.length_map, List.length_range]
  · simp only [AS.back, Hp.back] at hb
    obtain ⟨j', hj', hs⟩ := map_get hb
    have hlt : j < st.h.bx.length + (H'.bx.length - pb.length) := by
      have := (List.getElem?_eq_some_iff.1 hj').1
      simpa using this
    obtain rfl : j' = j := by
      rw [List.getElem?_range hlt] at hj'
      exact (Option.some.inj hj').symm
    rcases cb j' hlt with ⟨i, h1, h2, h3⟩ | ⟨h1, h2, h3, h4⟩
    · rw [h1] at hs
      simp only [] at hs
      rw [List.getElem?_eq_getElem h2] at hs
      simp only [] at hs
      subst hs
      obtain ⟨vs, g1, g2⟩ := hh.box i _ (List.getElem?_eq_getElem h2)
      rw [← h3] at g1
      have hm := List.all_eq_true.1 hsc _ (List.getElem_mem h2)
      exact ⟨vs, g1, g2.mv2 hm mvF⟩
    · rw [h1] at hs
      simp only [] at hs
      rw [List.getElem?_eq_getElem h2] at hs
      simp only [] at hs
      subst hs
      obtain ⟨vs, g1, g2⟩ := hr.hp.box j' _ (List.getElem?_eq_getElem h2)
      refine ⟨vs, ?_, by rw [killPL_map, List.length_map]; exact g2.1, fun q x v hq hv => ?_⟩
      · rw [h4]
        refine (keepR _ (hr.hp.bx_lt (nbx _ h2)) (fun i hi he => ?_) (fun r s _ h5 h6 => hr.hp.brw j' r s (nbx _ h2) h5 h6)).trans g1
        have := hr.hp.inj _ _ (nbx _ (blt i hi)) (nbx _ h2) he
        rw [← this, hasN_getN hnb hi] at h3
        cases h3
      · rw [killPL_map] at hq
        obtain ⟨y, hy, rfl⟩ := map_get hq
        exact mvK y v (g2.2 q y v hy hv)
  · rcases cr j s hj with ⟨i, h1, h2, h3⟩ | ⟨h1, h2, h3, h4⟩
    · obtain ⟨us, g1, g2, g3⟩ := hh.row i s h2
      refine ⟨us, ?_, g2, g3⟩
      rw [h3]
      have := hx.lo
      simp only [] at this
      rw [this] at g1
      exact g1
    · obtain ⟨us, g1, g2, g3⟩ := hr.hp.row j s h2
      refine ⟨us, ?_, g2.move hx.up him, g3⟩
      rw [h4]
      refine ownsRow_move g1 fun k hk => keepR k (rowlt j s k h2 hk) (fun i hi he => hr.hp.brw _ j s (nbx _ (blt i hi)) h2 (by rw [hk, ← he])) (fun r s' hp h5 h6 => ?_)
      rw [hr.hp.rinj j r s s' k h2 h5 hk h6, hp] at h3
      cases h3
  · rcases cb i hi with ⟨i', h1, h2, h3⟩ | ⟨h1, h2, h3, h4⟩ <;> rcases cb j hj with ⟨j', g1, g2, g3⟩ | ⟨g1, g2, g3, g4⟩
    · rw [h3, g3] at he
      have := hh.inj i' j' (by omega) (by omega) he
      rw [(sel_some h1).1, (sel_some g1).1, this]
    · rw [h3, g4] at he
      rcases Nat.lt_or_ge i' pb.length with hl | hl
      · rw [oldB i' hl] at he
        have := hr.hp.inj _ _ (nbx _ (blt i' hl)) (nbx _ g2) he
        rw [← this, hasN_getN hnb hl] at g3
        cases g3
      · have a1 := newB i' hl h2
        have a2 := hr.hp.bx_lt (nbx _ g2)
        omega
    · rw [h4, g3] at he
      rcases Nat.lt_or_ge j' pb.length with hl | hl
      · rw [oldB j' hl] at he
        have := hr.hp.inj _ _ (nbx _ h2) (nbx _ (blt j' hl)) he
        rw [this, hasN_getN hnb hl] at h3
        cases h3
      · have a1 := newB j' hl g2
        have a2 := hr.hp.bx_lt (nbx _ h2)
        omega
    · rw [h4, g4] at he
      exact hr.hp.inj _ _ (nbx _ h2) (nbx _ g2) he
  · rcases cr i r hi with ⟨i', h1, h2, h3⟩ | ⟨h1, h2, h3, h4⟩ <;> rcases cr j s hj with ⟨j', g1, g2, g3⟩ | ⟨g1, g2, g3, g4⟩
    · rw [h3] at hki; rw [g3] at hkj
      have := hh.rinj i' j' r s k h2 g2 hki hkj
      rw [(sel_some h1).1, (sel_some g1).1, this]
    · rw [h3] at hki; rw [g4] at hkj
      rcases rowsW i' r k h2 hki with hw | ⟨j0, s0, q1, q2, q3⟩
      · have := rowlt j s k g2 hkj; omega
      · rw [hr.hp.rinj j j0 s s0 k g2 q2 hkj q3, q1] at g3
        cases g3
    · rw [h4] at hki; rw [g3] at hkj
      rcases rowsW j' s k g2 hkj with hw | ⟨j0, s0, q1, q2, q3⟩
      · have := rowlt i r k h2 hki; omega
      · rw [hr.hp.rinj i j0 r s0 k h2 q2 hki q3, q1] at h3
        cases h3
    · rw [h4] at hki; rw [g4] at hkj
      exact hr.hp.rinj i j r s k h2 g2 hki hkj
  · rcases cb i hi with ⟨i', h1, h2, h3⟩ | ⟨h1, h2, h3, h4⟩ <;> rcases cr j r hj with ⟨j', g1, g2, g3⟩ | ⟨g1, g2, g3, g4⟩
    · rw [h3, g3] at he
      exact hh.brw i' j' r (by omega) g2 he
    · rw [h3, g4] at he
      rcases Nat.lt_or_ge i' pb.length with hl | hl
      · rw [oldB i' hl] at he
        exact hr.hp.brw _ j r (nbx _ (blt i' hl)) g2 he
      · have a1 := newB i' hl h2
        have a2 := rowlt j r _ g2 he
        omega
    · rw [h4, g3] at he
      rcases rowsW j' r _ g2 he with hw | ⟨j0, s0, q1, q2, q3⟩
      · have := hr.hp.bx_lt (nbx _ h2); omega
      · exact hr.hp.brw i j0 s0 (nbx _ h2) q2 q3
    · rw [h4, g4] at he
      exact hr.hp.brw i j r (nbx _ h2) g2 he
  · rcases cb i hi with ⟨i', h1, h2, h3⟩ | ⟨h1, h2, h3, h4⟩
    · rw [h3] at he
      exact hh.im_b k i' (by omega) hk he
    · rw [h4] at he
      rcases dnW k hk with h | h | ⟨j0, s0, q1, q2, q3⟩
      · exact hr.hp.im_b k i (nbx _ h2) h he
      · have := hr.hp.bx_lt (nbx _ h2); omega
      · exact hr.hp.brw i j0 s0 (nbx _ h2) q2 (by rw [q3, he])
  · rcases cr j r hj with ⟨j', g1, g2, g3⟩ | ⟨g1, g2, g3, g4⟩
    · rw [g3] at he
      exact hh.im_r k j' r g2 hk he
    · rw [g4] at he
      rcases dnW k hk with h | h | ⟨j0, s0, q1, q2, q3⟩
      · exact hr.hp.im_r k j r g2 h he
      · have := rowlt j r k g2 he; omega
      · rw [hr.hp.rinj j j0 r s0 k g2 q2 he q3, q1] at g3
        cases g3
  · have := hr.nb; simp only [E2]; omega
  · rw [β2 i (by have := hr.nb; omega)]; exact hr.β i hi
  · rcases Nat.lt_or_ge i st.h.bx.length with hl | hl
    · rw [β2 i hl]; exact hr.own i h1 (nbx _ hl)
    · rcases cb i h2 with ⟨i', g1, g2, g3⟩ | ⟨_, g2, _⟩
      · rw [g3]
        obtain ⟨_, ⟨q1, q2⟩ | ⟨q1, _⟩⟩ := sel_some g1
        · have e := (sel_some g1).1
          rw [bak_old q1] at e
          have := blt i' q1
          omega
        · exact Nat.le_trans hr.sz (newB i' q1 g2)
      · omega
  · rcases dnW k hk with h | h | ⟨j0, s0, q1, q2, q3⟩
    · exact hr.dn k h
    · exact .inr (.inl (Nat.le_trans hr.sz h))
    · exact .inr (hr.rows j0 s0 k q2 q3)
  · refine (keepR k (Nat.lt_of_lt_of_le h1 hr.sz) (fun i hi he => ?_) (fun j s _ h5 h6 => ?_)).trans (hr.keep k h1 h2 h3)
    · rcases Nat.lt_or_ge (getN pb i) C.nb with hl | hl
      · exact h2 _ hl (by rw [← hr.β _ hl]; exact he)
      · have := hr.own _ hl (nbx _ (blt i hi))
        omega
    · rcases hr.rows j s k h5 h6 with h | h
      · omega
      · exact h3 h
  · rcases cr j s hj with ⟨j', g1, g2, g3⟩ | ⟨g1, g2, g3, g4⟩
    · rw [g3] at hk
      rcases rowsW j' s k g2 hk with h | ⟨j0, s0, q1, q2, q3⟩
      · exact .inl (Nat.le_trans hr.sz h)
      · exact hr.rows j0 s0 k q2 q3
    · rw [g4] at hk
      exact hr.rows j s k g2 hk
theorem SOp.callR {o : Oper} {c : Call} {f : FuncId} {fn : Func} {ys : List PV} {R : Out → Hp → Prop} (pb pr : List Nat) (ho : o.op = .call c) (ht : target st G c = some (f, ys)) (hf : G.P.funcs[f]? = some fn) (hname : (fn.name == "runtime.NumGoroutine") = false) (hfb : fn.body.isSome = true)
    (hsp : scPL (hasN pb) (hasN pr) ys = true) (hg : giveOk st.h pb pr = true) (hd : dstOk C.nt o.dst = true) (hc : RCalls G f (mv2L (posN pb) (posN pr) ys) (st.h.give pb pr) R)
    (h : ∀ r H', R (.ret r) H' → r.scP (belowN H'.bx.length) (belowN H'.rw.length) = true ∧ H'.scB H'.bx.length H'.rw.length = true ∧ K ((st.back pb pr H').put o.dst (r.mv2 (bak pb st.h.bx.length) (bak pr st.h.rw.length))))
    (hp : ∀ x H', R (.pan x) H' → x.scP (belowN H'.bx.length) (belowN H'.rw.length) = true ∧ H'.scB H'.bx.length H'.rw.length = true ∧ Q (.panic (x.mv2 (bak pb st.h.bx.length) (bak pr st.h.rw.length))) (st.back pb pr H')) : SOp G C o Q K st := fun E a w hr => by
  obtain ⟨vs, hrun, hvs⟩ := target_ok ho ht hf hname hfb hr
  unfold Oper.wp
  rw [hrun]
  have hvs' := hvs.mv2 (E' := { E with β := fun i => E.β (getN pb i), ρ := fun i => E.ρ (getN pr i), nb := pb.length, nr := pr.length }) (w' := w) hsp fun y v hv hs => hv.mv2 hs (fun b hp _ => by
    have := hasN_pos hp; exact ⟨this.1, by simp only [this.2]⟩) (fun q hq _ => by
    have := hasN_pos hq; exact ⟨this.1, by simp only [this.2]⟩) (fun _ h => h) (fun _ _ => rfl)
  refine (hc _ w vs (hr.gave hg) hvs').mono ?_
  rintro e w' ⟨out, H', E', hR, ho', hh, hx⟩
  cases out with
  | ret r =>
    obtain ⟨v, rfl, hv⟩ := ho'
    obtain ⟨h1, h2, h3⟩ := h r H' hR
    obtain ⟨E2, hr2, mv⟩ := hr.backed hg hh hx h2
    exact ⟨_, E2, h3, hr2.put hd (mv r v hv h1)⟩
  | pan x =>
    obtain ⟨v, rfl, hv⟩ := ho'
    obtain ⟨h1, h2, h3⟩ := hp x H' hR
    obtain ⟨E2, hr2, mv⟩ := hr.backed hg hh hx h2
    exact ⟨_, _, E2, h3, ⟨v, rfl, mv x v hv h1⟩, hr2⟩
end
end Go.AS
namespace Go.AS
open Go.RowKit Go.Lib
set_option linter.unusedVariables false
set_option linter.unusedSimpArgs false
theorem bytesPL_map : ∀ l : List UInt8, bytesPL l = l.map fun b => PV.int .u8 b.toNat
  | [] => rfl
  | b :: l => by rw [bytesPL, bytesPL_map l]; rfl
theorem bytesPL_length (l : List UInt8) : (bytesPL l).length = l.length := by rw [bytesPL_map, List.length_map]
theorem bytesPV_length (s : ByteArray) : (bytesPV s).length = s.size := by rw [bytesPV, bytesPL_length]; rfl
def isBytes8 : List PV → Bool
  | [] => true
  | .int .u8 z :: xs => decide (0 ≤ z) && decide (z < 256) && isBytes8 xs
  | _ => false
theorem bytesOf_length : ∀ l : List PV, (bytesOf l).length = l.length
  | [] => rfl
  | x :: l => by simp [bytesOf, bytesOf_length l]
theorem bytes8_vals {im : Nat → Prop} {w : World} : ∀ (cs : List PV) (vs : List Value), isBytes8 cs = true → IReps im w cs vs → vs = (bytesOf cs).map fun b => Value.int .u8 b.toNat
  | [], vs, _, h => List.eq_nil_of_length_eq_zero h.1
  | .int .u8 z :: cs, [], _, h => by have := h.1; simp at this
  | .int .u8 z :: cs, v :: vs, hb, h => by
    simp only [isBytes8, Bool.and_eq_true, decide_eq_true_eq] at hb
    have h0 := h.2 0 _ v rfl rfl
    cases h0
    have ih := bytes8_vals cs vs hb.2 ⟨by simpa using h.1, fun j x u hx hu => h.2 (j + 1) x u (by simpa using hx) (by simpa using hu)⟩
    simp only [bytesOf, byteOf, List.map_cons]
    rw [← ih]
    congr 2
    have : z.toNat < 256 := by omega
    simp only [UInt8.toNat_ofNat']
    omega
  | .int .i8 _ :: _, _, h, _ | .int .i16 _ :: _, _, h, _ | .int .i32 _ :: _, _, h, _ | .int .i64 _ :: _, _, h, _ | .int .u16 _ :: _, _, h, _ | .int .u32 _ :: _, _, h, _ | .int .u64 _ :: _, _, h, _ => by simp [isBytes8] at h
  | .bool _ :: _, _, h, _ | .str _ :: _, _, h, _ | .slice _ _ :: _, _, h, _ | .nil :: _, _, h, _ | .epos _ :: _, _, h, _ | .own _ _ :: _, _, h, _ | .rpos _ _ :: _, _, h, _ | .ptr _ _ :: _, _, h, _ | .bsl _ _ _ :: _, _, h, _ | .nilptr :: _, _, h, _ | .func _ _ :: _, _, h, _ | .nilfunc :: _, _, h, _ | .agg _ :: _, _, h, _ | .tup _ :: _, _, h, _ | .iface _ _ :: _, _, h, _ | .niliface :: _, _, h, _ | .junk :: _, _, h, _ => by simp [isBytes8] at h
theorem bytesPV_reps (im : Nat → Prop) (w : World) (s : ByteArray) : IReps im w (bytesPV s) (strCells s) := by
  refine ⟨by rw [bytesPV_length, strCells_length], fun j x v hx hv => ?_⟩
  simp only [bytesPV, bytesPL_map, List.getElem?_map] at hx
  simp only [Lib.strCells_eq, Lib.byteCells, List.getElem?_map] at hv
  obtain ⟨b, hb, rfl⟩ := Option.map_eq_some_iff.1 hx
  rw [hb] at hv
  cases hv
  exact .int _ _
theorem run_append_own_str {P : Program} {w : World} (base : Nat) (t u ty e : TypeId) (i : TypeInfo) (z : Value) (ht : P.underlying t = some (.slice e)) (hu : P.underlying u = some .string) (hi : P.info? e = some i) (hz : i.zero = some z) (hzs : z.cells.size = 1)
    (hsize : i.size = 1) (hby : i.bytes = 1) (v : Value) (n : Nat) (xs : List Value) (hown : w.ownsRow base e 1 v n xs) (s : ByteArray) (hm : n + s.size ≤ 140737488355328) (hbase : base ≤ w.heap.size) :
    ∃ v' w', (Builtin.append_ #[t, u] ty #[v, .string s]).run P w = .ok v' w' ∧ w'.ownsRow base e 1 v' (n + s.size) (xs ++ strCells s) ∧ w.grownBy w' v.ownBlock ∧ (v'.ownBlock = v.ownBlock ∨ v'.ownBlock = some w.heap.size) := by
  have hxl : xs.length = n := by simpa using hown.1
  have hlen : (xs ++ strCells s).length = (n + s.size) * 1 := by rw [List.length_append, hxl, strCells_length, Nat.mul_one]
  have h63 : n + s.size ≤ maxLen := by simp only [maxLen]; omega
  have grown : ∀ (old : Nat), old < n + s.size → ∀ (row : Option Nat),
      (w.drew.alloc (.cells (xs.toArray ++ (strCells s).toArray ++ Builtin.zeroCells z.cells (grownCap w (n + s.size) old e - (n + s.size))) e)).ownsRow base e 1
        (.slice (some ⟨w.heap.size, 0, none⟩) (n + s.size) (grownCap w (n + s.size) old e)) (n + s.size) (xs ++ strCells s) ∧
      w.grownBy (w.drew.alloc (.cells (xs.toArray ++ (strCells s).toArray ++ Builtin.zeroCells z.cells (grownCap w (n + s.size) old e - (n + s.size))) e)) row := by
    intro old ho row
    have hge := grownCap_ge w (n + s.size) old e
    refine ⟨⟨hlen, .inr ⟨w.heap.size, _, _, rfl, hbase, heap_alloc_new w.drew _, hge, grownCap_le_maxLen w (n + s.size) old e h63, ?_, ?_⟩⟩, ⟨rfl, rfl, rfl, by simp, fun k hk _ => Below.heap_alloc w.drew _ k hk⟩⟩
    · simp only [Array.size_append, List.size_toArray, size_zeroCells, hzs, hxl, strCells_length]
      omega
    · simp only [Array.toList_append, List.append_assoc]
      rw [← List.append_assoc, ← hlen]
      exact List.take_left
  rcases hown.2 with ⟨rfl, rfl⟩ | ⟨g, cap, cur, rfl, hbg, hg, hnc, hcm, hcs, htake⟩
  · obtain rfl : xs = [] := List.eq_nil_of_length_eq_zero hxl
    by_cases hm0 : s.size = 0
    · have hn : strCells s = [] := List.eq_nil_of_length_eq_zero (by rw [strCells_length]; exact hm0)
      have hf := run_firstCells_string (P := P) w 1 s
      rw [hm0] at hf
      refine ⟨.slice none 0 0, w, by simp [Builtin.append_, run_underlying ht, run_underlying hu, sizeOf, typeInfo, hi, hsize, Builtin.lenOf, hm0, hf], by rw [hm0, hn]; exact World.ownsRow_nil w base e 1, ⟨rfl, rfl, rfl, Nat.le_refl _, fun _ _ _ => rfl⟩, .inl rfl⟩
    · have hr := run_append_nil_string (P := P) w t u ty e i z ht hu hi hz s (by omega) (by omega) (by rw [hby]; omega)
      have hgr := grown 0 (by omega) (Value.ownBlock (.slice none 0 0))
      simp only [Nat.zero_add, List.nil_append, Array.empty_append] at hgr ⊢
      have e1 : (s.data.map fun b => Value.int .u8 b.toNat) = (strCells s).toArray := by
        apply Array.ext'
        simp [strCells]
      rw [e1] at hr
      exact ⟨_, _, hr, hgr.1, hgr.2, .inr rfl⟩
  · by_cases hroom : n + s.size ≤ cap
    · have hcs' : cur.size = cap := by simpa using hcs
      have hr := run_append_room_string (P := P) w t u ty e i ht hu hi hsize g n cap cur hg s hroom (by omega)
      refine ⟨_, _, hr, ⟨hlen, .inr ⟨g, cap, _, rfl, hbg, setRow_heap w g cur _ e _ hg, hroom, hcm, ?_, ?_⟩⟩, ⟨rfl, rfl, rfl, by simp, fun k _ hk => setRow_other w g k _ (fun e => hk (by simp [Value.ownBlock, e]))⟩, .inl rfl⟩
      · simp only [List.size_toArray, List.length_append, List.length_take, List.length_drop, Array.length_toList, strCells_length]
        omega
      · have ht' : cur.toList.take n = xs := by simpa using htake
        rw [ht', ← hlen]
        exact List.take_left
    · have hr := run_append_grow_string (P := P) w t u ty e i z ht hu hi hz ⟨g, 0, none⟩ n cap xs (by rw [hsize]; simpa using hxl) (fun j u hj => hown.cells (g := g) rfl j u hj) s (by omega) (by omega) (by rw [hby]; exact growslice_fits (by omega) (by omega))
      have hgr := grown cap (by omega) (Value.ownBlock (.slice (some ⟨g, 0, none⟩) n cap))
      exact ⟨_, _, hr, hgr.1, hgr.2, .inr rfl⟩
section
variable {G : Prg} {C : Ctx} {Q : AEx → AS → Prop} {K : AS → Prop} {st : AS} {E : Env} {a : Act} {w w' : World}
theorem SOp.appendStr {o : Oper} {s x : Operand} {t u e : TypeId} {tdt tdu td : TD} {r n : Nat} {b : ByteArray} {row : Row} (ho : o.op = .call ⟨.builtin .append, #[s, x], #[t, u]⟩) (hs : st.ev G.Γ s = .own r n) (hx : st.ev G.Γ x = .str b)
    (hrow : st.h.rw[r]? = some (some row)) (ht : G.T t = some tdt) (hk : tdt.k = .slice e) (hu : G.T u = some tdu) (hku : tdu.k = .str) (hte : G.T e = some td) (hty : row.ty = e) (hsz : row.sz = 1) (hs1 : td.size = 1) (hb1 : td.bytes = 1) (hz : td.zero.length = 1)
    (hd : dstOk C.nt o.dst = true) (hm : row.n + b.size ≤ 140737488355328)
    (h : K ((st.setRow r ⟨row.cs ++ bytesPV b, row.n + b.size, row.ty, row.sz⟩).put o.dst (.own r (row.n + b.size)))) : SOp G C o Q K st := fun E a w hr => by
  obtain ⟨d, hu1, hdd⟩ := (G.hT _ _ ht).und
  rw [hk] at hdd
  cases hdd
  obtain ⟨d', hu2, hdd'⟩ := (G.hT _ _ hu).und
  rw [hku] at hdd'
  cases hdd'
  obtain ⟨i, z, hi, his, hiby, hiz, hizc⟩ := (G.hT _ _ hte).info
  have hsv := ev_rep hr.fr hr.hp s
  rw [hs] at hsv
  obtain ⟨hrn, hv, _⟩ := hsv.own_inv
  have hxv := ev_rep hr.fr hr.hp x
  rw [hx] at hxv
  obtain ⟨xs, hox, hxs, h1x⟩ := hr.hp.row r row hrow
  subst hty
  rw [hsz] at hox
  have hzs : z.cells.size = 1 := by
    have : z.cells.toList.length = 1 := by rw [← @List.length_map _ _ z.cells.toList cellOf, hizc, hz]
    simpa using this
  obtain ⟨v', w', hrun, hown, hg, hvb⟩ := run_append_own_str (P := G.P) E.lo t u o.type row.ty i z hu1 hu2 hi hiz hzs (by rw [his, hs1]) (by rw [hiby, hb1]) (E.ρ r) row.n xs hox b hm hr.hp.lo
  have hexec : (execOp a.eval o).run G.P w = .ok (.value v') w' := by
    rw [← hv] at hrun
    rw [hxv.str_inv.symm] at hrun
    simp [execOp, ho, resolve, invoke, builtin, hrun, Result.andThen]
  obtain ⟨h2, h3⟩ := hr.setRow (y := ⟨row.cs ++ bytesPV b, row.n + b.size, row.ty, row.sz⟩) hrow rfl rfl (by rw [hsz]; exact hown) (hxs.append (bytesPV_reps _ _ b)) (fun q hq => (List.mem_append.1 hq).elim (h1x q) (strCells_oneCell b q)) hg hvb
  unfold Oper.wp
  rw [hexec]
  exact ⟨_, _, h, h2.put hd h3⟩
theorem Rel.loseRow (hr : Rel G C E st a w) {r : Nat} {x : Row} (hx : st.h.rw[r]? = some (some x)) (hs : w'.heap.size = w.heap.size) (ho : w'.os = w.os) (ht : w'.tape = w.tape) (hu : w'.output = w.output)
    (hk : ∀ k, (E.ρ r).ownBlock ≠ some k → w'.heap[k]? = w.heap[k]?) : Rel G C E ⟨st.t, ⟨st.h.bx, st.h.rw.set r none⟩⟩ a w' := by
  have him : ∀ k, E.im k → w'.heap[k]? = w.heap[k]? := fun k h => hk k fun he => hr.hp.im_r k r x hx h he
  have mv : ∀ z u, VRep E w z u → VRep E w' z u := fun z u hz => hz.move (Nat.le_refl _) (Nat.le_refl _) (fun _ _ => rfl) (fun _ _ => rfl) (fun _ h => h) him
  have gone : ∀ (j : Nat) (s : Row), (st.h.rw.set r none)[j]? = some (some s) → j ≠ r ∧ st.h.rw[j]? = some (some s) := fun j s hj => by
    by_cases hjr : r = j
    · subst hjr
      rw [List.getElem?_set_self (List.getElem?_eq_some_iff.1 hx).1] at hj
      cases hj
    · rw [List.getElem?_set_ne hjr] at hj
      exact ⟨Ne.symm hjr, hj⟩
  refine ⟨hr.defers, hr.size, hr.fr.move mv, ⟨hr.hp.nb, by simp only [List.length_set]; exact hr.hp.nr, by rw [hs]; exact hr.hp.lo, fun i b hb => ?_, fun j s hj => ?_, hr.hp.inj, fun i j s t k hi hj => hr.hp.rinj i j s t k (gone i s hi).2 (gone j t hj).2, fun i j s hi hj => hr.hp.brw i j s hi (gone j s hj).2, fun k h => by rw [hs]; exact hr.hp.im_lt k h, hr.hp.im_b, fun k j s hj => hr.hp.im_r k j s (gone j s hj).2, ⟨by rw [hs]; exact hr.hp.gl.1, fun g cs hg => (hr.hp.gl.2 g cs hg).move (fun _ h => h) him⟩⟩,
    hr.lo, hr.nb, hr.β, hr.own, hr.up, hr.dn, fun k h1 h2 h3 => (hk k fun he => ?_).trans (hr.keep k h1 h2 h3), ho.trans hr.os, ht.trans hr.tape, hu.trans hr.out, by rw [hs]; exact hr.sz, fun j s k hj => hr.rows j s k (gone j s hj).2⟩
  · obtain ⟨vs, hvs, hvr⟩ := hr.hp.box i b hb
    have hin : i < E.nb := by rw [hr.hp.nb]; exact (List.getElem?_eq_some_iff.1 hb).1
    exact ⟨vs, (hk _ fun he => hr.hp.brw i r x hin hx he).trans hvs, hvr.move mv⟩
  · obtain ⟨hne, hj⟩ := gone j s hj
    obtain ⟨us, g1, g2, g3⟩ := hr.hp.row j s hj
    exact ⟨us, ownsRow_move g1 fun k h => hk k fun he => hne (hr.hp.rinj j r s x k hj hx h he), g2.move (fun _ h => h) him, g3⟩
  · rcases hr.rows r x k hx he with h | h
    · omega
    · exact h3 h
theorem SOp.unsafeString0 {o : Oper} {p l : Operand} {pt it : TypeId} (ho : o.op = .call ⟨.builtin .unsafeString, #[p, l], #[pt, it]⟩) (hp : st.ev G.Γ p = .nilptr) (hl : st.ev G.Γ l = .int .i64 0) (hd : dstOk C.nt o.dst = true)
    (h : K (st.put o.dst (.str ⟨#[]⟩))) : SOp G C o Q K st := fun E a w hr => by
  have hpv := ev_rep hr.fr hr.hp p
  rw [hp] at hpv
  have e1 : a.eval p = .pointer none := by
    generalize a.eval p = v at hpv
    cases hpv with | imm h => cases h; rfl
  have hlv := ev_rep hr.fr hr.hp l
  rw [hl] at hlv
  have e2 : a.eval l = .int .i64 0 := hlv.int_inv
  have hrun := Lib.run_unsafeString_none (P := G.P) (w := w) pt it o.type none
  have hexec : (execOp a.eval o).run G.P w = .ok (.value (.string .empty)) w := by
    simp only [execOp, ho, Sem.run_bind, resolve, Sem.run_pure, Result.andThen, invoke, builtin]
    simp only [List.map_toArray, List.map_cons, List.map_nil, e1, e2, hrun, Result.andThen, Sem.run_pure]
  unfold Oper.wp
  rw [hexec]
  exact ⟨_, E, h, hr.put hd (.imm (.str _))⟩
theorem SOp.unsafeString {o : Oper} {p l : Operand} {pt it e : TypeId} {tdp td : TD} {r n : Nat} {row : Row} (ho : o.op = .call ⟨.builtin .unsafeString, #[p, l], #[pt, it]⟩) (hp : st.ev G.Γ p = .rpos r 0) (hl : st.ev G.Γ l = .int .i64 (n : Int))
    (hrow : st.h.rw[r]? = some (some row)) (hpt : G.T pt = some tdp) (hk : tdp.k = .ptr e) (hte : G.T e = some td) (hs1 : td.size = 1) (hty : row.ty = e) (hsz : row.sz = 1) (hn : row.n = n) (hcl : row.cs.length = n) (hpos : 0 < n) (h63 : n ≤ 9223372036854775807) (hby : isBytes8 row.cs = true) (hd : dstOk C.nt o.dst = true)
    (h : K ((⟨st.t, ⟨st.h.bx, st.h.rw.set r none⟩⟩ : AS).put o.dst (.str (strOf row.cs)))) : SOp G C o Q K st := fun E a w hr => by
  obtain ⟨d, hu1, hdd⟩ := (G.hT _ _ hpt).und
  rw [hk] at hdd
  cases hdd
  have hpv := ev_rep hr.fr hr.hp p
  rw [hp] at hpv
  obtain ⟨hrn, ad, m, c, hρ, he⟩ := hpv.rpos_inv
  have hlv := ev_rep hr.fr hr.hp l
  rw [hl] at hlv
  obtain ⟨xs, hox, hxs, h1x⟩ := hr.hp.row r row hrow
  subst hty
  obtain ⟨g, cap, cur, hρ2, hlo, hg, hnc, hcap, hcs, htk⟩ : ∃ g cap cur, E.ρ r = .slice (some ⟨g, 0, none⟩) row.n cap ∧ E.lo ≤ g ∧ w.heap[g]? = some (.cells cur row.ty (0, 0)) ∧ row.n ≤ cap ∧ cap ≤ maxLen ∧ cur.size = cap * row.sz ∧ cur.toList.take (row.n * row.sz) = xs := by
    rcases hox.2 with ⟨h1, h2⟩ | h1
    · omega
    · exact h1
  rw [hρ] at hρ2
  simp only [Value.slice.injEq, Option.some.injEq] at hρ2
  obtain ⟨rfl, hm, rfl⟩ := hρ2
  have hxv : xs = (bytesOf row.cs).map fun b => Value.int .u8 b.toNat := bytes8_vals _ _ hby hxs
  have hlen : (bytesOf row.cs).length = n := by rw [bytesOf_length]; exact hcl
  have hcell : ∀ j x, (bytesOf row.cs)[j]? = some x → w.cell? ((⟨g, 0, none⟩ : Addr).add j) = some (.int .u8 x.toNat) := fun j x hj => by
    have := World.ownsRow.cells hox (g := g) (by rw [hρ]; rfl) j (.int .u8 x.toNat) (by rw [hxv, List.getElem?_map, hj]; rfl)
    exact this
  have hne : bytesOf row.cs ≠ [] := fun h0 => by rw [h0] at hlen; simp at hlen; omega
  have hrun := run_unsafeString_row (P := G.P) w pt it o.type row.ty hu1 (by
    obtain ⟨i, z, hi, his, _⟩ := (G.hT _ _ hte).info
    simp [Program.cellsOf, hi, his, hs1]) g cur.size (by simp [World.shape?, hg]) (bytesOf row.cs) hne (by rw [hlen, hcs, hsz]; omega) (by rw [hlen]; exact h63) hcell
  rw [hlen] at hrun
  have hexec : (execOp a.eval o).run G.P w = .ok (.value (.string (strOf row.cs))) (w.freeze ⟨g, 0, none⟩ n) := by
    have e1 : a.eval p = .pointer (some ⟨g, 0, none⟩) := by rw [he, add_none]
    have e2 : a.eval l = .int .i64 (n : Int) := hlv.int_inv
    simp only [execOp, ho, Sem.run_bind, resolve, Sem.run_pure, Result.andThen, invoke, builtin]
    simp only [List.map_toArray, List.map_cons, List.map_nil, e1, e2, hrun, Result.andThen, Sem.run_pure]
    rfl
  have hr2 : Rel G C E ⟨st.t, ⟨st.h.bx, st.h.rw.set r none⟩⟩ a (w.freeze ⟨g, 0, none⟩ n) := by
    refine hr.loseRow hrow ?_ ?_ ?_ ?_ fun k hk => ?_
    · unfold World.freeze; split
      · rfl
      · simp
    · unfold World.freeze; split <;> rfl
    · unfold World.freeze; split <;> rfl
    · unfold World.freeze; split <;> rfl
    · unfold World.freeze
      split
      · rfl
      · simp only [Array.getElem?_modify]
        rw [if_neg (fun e => hk (by rw [hρ]; simp [Value.ownBlock, e]))]
  unfold Oper.wp
  rw [hexec]
  exact ⟨_, _, h, hr2.put hd (.imm (.str _))⟩
end
end Go.AS
namespace Go.AS
open Go.RowKit
set_option linter.unusedVariables false
set_option linter.unusedSimpArgs false
def gq (ops : Array Oper) (st : AS) (o : Oper) : Option Bool := match o.guard with
  | none => some true
  | some (j, want) => match (ops[j]?).bind (·.dst) with
    | some d => match lk st.t d with
      | .bool b => some (b == want)
      | .tup [] => some false
      | _ => none
    | none => none
section
variable {G : Prg} {C : Ctx} {Q : AEx → AS → Prop} {K : AS → Prop} {st : AS} {ops : Array Oper} {ds : List Nat} {n : Nat}
theorem gq_ok {E : Env} {w : World} {tmps : Array Value} (hf : FRep E w st.t tmps) {o : Oper} {b : Bool} (h : gq ops st o = some b) : Region.wanted o (yielded ops tmps) = b := by
  unfold gq at h
  split at h
  · rename_i hg; cases h; simp [Region.wanted, hg]
  · rename_i j want hg
    split at h
    · rename_i d hj
      split at h
      · rename_i b' hb
        cases h
        have hv := hf d
        rw [hb] at hv
        simp only [Region.wanted, hg, yielded, hj]
        have := hv.bool_inv
        have hsz : tmps[d]? = some (.bool b') := by
          rw [Array.getD_eq_getD_getElem?] at this
          cases h : tmps[d]? with
          | none => rw [h] at this; simp [undef] at this
          | some v => rw [h] at this; simp at this; rw [this]
        simp [hsz]
      · rename_i hb
        cases h
        have hv := hf d
        rw [hb] at hv
        have hu := hv.und_inv
        simp only [Region.wanted, hg, yielded, hj]
        rw [Array.getD_eq_getD_getElem?] at hu
        cases h : tmps[d]? with
        | none => simp [h]
        | some v => rw [h] at hu; simp at hu; subst hu; simp [h, undef]
      · cases h
    · cases h
def gval (G : Prg) (ops : Array Oper) (st : AS) (o : Oper) : Option PV := match gq ops st o with
  | some true => aval G st o.op
  | some false => some und
  | none => none
theorem SAny.takeG {i : Nat} {o : Oper} {l l' : Array Bool} {x : PV} (hi : ops[i]? = some o) (hx : gval G ops st o = some x) (hd : dstOk C.nt o.dst = true) (hc : takeOk ops ds l l' i = true)
    (hQ : PanicT Q) (h : SAny G C ops Q ds n l' (st.put o.dst x)) : SAny G C ops Q ds (n + 1) l st := fun E a w hr => by
  have key : ∃ v, YieldsIf G.P ops (From w) o v a ∧ VRep E w x v := by
    unfold gval at hx
    split at hx
    · rename_i hg
      obtain ⟨v, hrun, hv⟩ := aval_ok hr.fr hr.hp hx
      exact ⟨v, .inl ⟨gq_ok hr.fr hg, fun w' hw' => hrun w' hw'.1⟩, hv⟩
    · rename_i hg
      cases hx
      exact ⟨undef, .inr ⟨gq_ok hr.fr hg, rfl⟩, .und _ _⟩
    · cases hx
  obtain ⟨v, hy, hv⟩ := key
  simp only [takeOk, Bool.and_eq_true, beq_iff_eq] at hc
  obtain ⟨⟨⟨⟨⟨h1, h2⟩, h3⟩, h4⟩, h5⟩, rfl⟩ := hc
  refine wpG_first (w0 := w) hi (Region.noSelect_spec h1) (fun c a w => hQ.put o.dst v c a w) ops.size n l a w (Region.free_spec hi h2) (closed_of h4)
    (fun d hm hun => by have := List.all_eq_true.1 h5 d hm; rw [hun] at this; simpa using this) (by simpa using h3) hy ⟨Gr.refl w, Nat.le_refl _⟩ ?_
  exact h E _ w (hr.put hd hv)
theorem wpOp_wanted {P : Program} {Q : Exit → Act → World → Prop} {i : Nat} {o : Oper} (hi : ops[i]? = some o) {a : Act} (hg : Region.wanted o (yielded ops a.tmps) = true) {K : Act → World → Prop} {w : World} (h : o.wp P a w K Q) : wpOp P ops Q i K a w := by
  unfold wpOp
  simp only [hi, hg, if_true]
  exact .inl h
theorem wpOp_unwanted {P : Program} {Q : Exit → Act → World → Prop} {i : Nat} {o : Oper} (hi : ops[i]? = some o) {a : Act} (hg : Region.wanted o (yielded ops a.tmps) = false) {K : Act → World → Prop} {w : World} (h : K (a.put o.dst undef) w) : wpOp P ops Q i K a w := by
  unfold wpOp
  simp only [hi, hg]
  exact h
theorem SAny.oneF {i : Nat} {o : Oper} {l l' : Array Bool} (hi : ops[i]? = some o) (hg : gq ops st o = some false) (hd : dstOk C.nt o.dst = true) (hc : readyOk ops l [(i, l')] = true) (h : SAny G C ops Q ds n l' (st.put o.dst und)) : SAny G C ops Q ds (n + 1) l st := fun E a w hr => by
  simp only [readyOk, Bool.and_eq_true, beq_iff_eq, List.map_cons, List.map_nil, List.all_cons, List.all_nil, and_true] at hc
  obtain ⟨h1, rfl⟩ := hc
  refine ⟨fun h0 => (by rw [h0] at h1; cases h1), fun j hj => ?_⟩
  rw [h1] at hj
  obtain rfl : j = i := by simpa using hj
  exact wpOp_unwanted hi (gq_ok hr.fr hg) ⟨fun _ => ⟨Gr.refl w, Nat.le_refl _⟩, h E _ w (hr.put hd (.und _ _))⟩
theorem SAny.oneT {i : Nat} {o : Oper} {l l' : Array Bool} (hi : ops[i]? = some o) (hg : gq ops st o = some true) (hc : readyOk ops l [(i, l')] = true) (h : SOpG G C o Q (SAny G C ops Q ds n l') st) : SAny G C ops Q ds (n + 1) l st := fun E a w hr => by
  simp only [readyOk, Bool.and_eq_true, beq_iff_eq, List.map_cons, List.map_nil, List.all_cons, List.all_nil, and_true] at hc
  obtain ⟨h1, rfl⟩ := hc
  refine ⟨fun h0 => (by rw [h0] at h1; cases h1), fun j hj => ?_⟩
  rw [h1] at hj
  obtain rfl : j = i := by simpa using hj
  exact wpOp_wanted hi (gq_ok hr.fr hg) (Oper.wp_mono (fun a' w' ⟨hgr, s, E', k, r⟩ => ⟨fun _ => hgr, k E' a' w' r⟩) (h E a w hr))
theorem SAny.lastT {i : Nat} {o : Oper} {l l' : Array Bool} (hi : ops[i]? = some o) (hg : gq ops st o = some true) (hc : readyOk ops l [(i, l')] = true) (hd : i ∈ ds) (h : SOp G C o Q (SAny G C ops Q ds n l') st) : SAny G C ops Q ds (n + 1) l st := fun E a w hr => by
  simp only [readyOk, Bool.and_eq_true, beq_iff_eq, List.map_cons, List.map_nil, List.all_cons, List.all_nil, and_true] at hc
  obtain ⟨h1, rfl⟩ := hc
  refine ⟨fun h0 => (by rw [h0] at h1; cases h1), fun j hj => ?_⟩
  rw [h1] at hj
  obtain rfl : j = i := by simpa using hj
  exact wpOp_wanted hi (gq_ok hr.fr hg) (Oper.wp_mono (fun a' w' ⟨s, E', k, r⟩ => ⟨fun hn => absurd hd hn, k E' a' w' r⟩) (h E a w hr))
end
mutual
def PV.refs : PV → List Nat
  | .own r _ | .rpos r _ => [r]
  | .func _ cap => refsL cap
  | .agg cs => refsL cs
  | .tup cs => refsL cs
  | .iface _ x => x.refs
  | .int _ _ | .bool _ | .str _ | .slice _ _ | .nil | .epos _ | .ptr _ _ | .bsl _ _ _ | .nilptr | .nilfunc | .niliface | .exact _ | .sl _ _ _ | .junk => []
def refsL : List PV → List Nat
  | [] => []
  | x :: xs => x.refs ++ refsL xs
end
structure Cfg (G : Prg) where
  F : Nat → Option Func
  hF : ∀ f fn, F f = some fn → G.P.funcs[f]? = some fn ∧ (fn.name == "runtime.NumGoroutine") = false ∧ fn.body.isSome = true
  S : Nat → List PV → Option (PV × List (Bool × Bool))
  hS : ∀ f args r o, S f args = some (r, o) → (∀ p ∈ o, p.1 = p.2) → pureL args = true → Pure G f args (fun x => x = r)
  orc : Nat → Nat → Option Bool := fun _ _ => none
  B : Nat → List PV → Box → Option (PV × Box × List (Bool × Bool)) := fun _ _ _ => none
  hB : ∀ f xs x r x' o, B f xs x = some (r, x', o) → (∀ p ∈ o, p.1 = p.2) → PCalls G f xs [x] (fun o' b' => o' = .ret r ∧ b' = [x']) ∧ r.sc 0 = true ∧ scL 0 x.cs = true ∧ scL 0 x'.cs = true := by intro _ _ _ _ _ _ h; cases h
  D : Nat → Bool := fun _ => false
  val : Nat → Nat → Option PV := fun _ _ => none
  W : Nat → List PV → Option (Row × List (Bool × Bool)) := fun _ _ => none
  hW : ∀ f args row o, W f args = some (row, o) → (∀ p ∈ o, p.1 = p.2) → Fresh G f args row := by intro _ _ _ _ h; cases h
  tst : Bool := false
  V : Nat → List PV → Hp → Option (PV × Hp × List (Bool × Bool)) := fun _ _ _ => none
  hV : ∀ f xs H r H' o, V f xs H = some (r, H', o) → (∀ p ∈ o, p.1 = p.2) → RCalls G f xs H (fun o' H2 => o' = .ret r ∧ H2 = H') ∧ r.scP (belowN H'.bx.length) (belowN H'.rw.length) = true ∧ H'.scB H'.bx.length H'.rw.length = true := by intro _ _ _ _ _ _ h; cases h
  hp : Nat → Bool := fun _ => false
  pn : Nat → Bool := fun _ => false
  P : Nat → List PV → Hp → Option (PV × Hp × List (Bool × Bool)) := fun _ _ _ => none
  hP : ∀ f xs H x H' o, P f xs H = some (x, H', o) → (∀ p ∈ o, p.1 = p.2) → RCalls G f xs H (fun o' H2 => o' = .pan x ∧ H2 = H') ∧ x.scP (belowN H'.bx.length) (belowN H'.rw.length) = true ∧ H'.scB H'.bx.length H'.rw.length = true := by intro _ _ _ _ _ _ h; cases h
  tsb : Bool := false
open Classical in
noncomputable def same (x y : PV) : Bool := decide (x = y)
theorem same_of {x y : PV} (h : x = y) : same x y = true := by unfold same; classical exact decide_eq_true h
theorem of_same {x y : PV} (h : same x y = true) : x = y := by unfold same at h; classical exact of_decide_eq_true h
inductive Cmd where
  | code (nt : Nat) (c : Code) (st : AS)
  | ops (nt : Nat) (l : List SO) (st : AS)
  | op (nt : Nat) (d : Option Tmp) (op : Op) (row g : Bool) (st : AS)
  | any (nt : Nat) (ops : Array Oper) (ds : List Nat) (n : Nat) (l : Array Bool) (st : AS)
  | call (f : Nat) (args : List PV) (bx : List Box)
  | callH (f : Nat) (args : List PV) (H : Hp)
def grows (d : Option Tmp) : List SO → Bool
  | [] => false
  | ⟨_, .call ⟨.builtin .append, ⟨.tmp t :: _⟩, _⟩, _⟩ :: r => (match d with | some k => Nat.beq k t | none => false) || grows d r
  | _ :: r => grows d r
def isDs (D : Nat → Bool) : Op → Bool
  | .store .. | .call ⟨.builtin .append, _, _⟩ | .call ⟨.value (.tmp _), _, _⟩ | .call ⟨.invoke _ _, _, _⟩ | .call ⟨.builtin .unsafeString, _, _⟩ => true
  | .call ⟨.value (.func f), _, _⟩ => D f
  | _ => false
def isRow (ops : Array Oper) (o : Oper) : Bool := match o.op with
  | .buildSlice _ _ _ => grows o.dst (strip ops.toList ops.toList)
  | _ => false
def dsOf (D : Nat → Bool) (ops : Array Oper) : List Nat := (List.range ops.size).filter fun i => match ops[i]? with
  | some o => isDs D o.op || isRow ops o
  | none => false
abbrev Ob := List (Bool × Bool)
def okO (o : Ob) : Prop := ∀ p ∈ o, p.1 = p.2
def told (orc : Nat → Nat → Option Bool) (nt : Nat) (d : Option Tmp) : Bool := match d with
  | some k => match orc nt k with
    | some _ => true
    | none => false
  | none => false
def tval (G : Prg) (st : AS) : Op → Option (PV × Ob)
  | .binOp .quo _ x y _ => match st.ev G.Γ x, st.ev G.Γ y with
    | .int k a, .int j b => match decide (k = j) with
      | true => some (.int k (k.wrap (a.tdiv b)), [(decide (b = 0), false)])
      | false => none
    | _, _ => none
  | .binOp .rem _ x y _ => match st.ev G.Γ x, st.ev G.Γ y with
    | .int k a, .int j b => match decide (k = j) with
      | true => some (.int k (a.tmod b), [(decide (b = 0), false)])
      | false => none
    | _, _ => none
  | .binOp .add _ x y _ => match st.ev G.Γ x, st.ev G.Γ y with
    | .str a, .str b => some (.str (a ++ b), [(Nat.ble (a.size + b.size) 9223372036854775807, true)])
    | _, _ => none
  | .indexAddr t x y => match G.T t, unsl (st.ev G.Γ x), st.ev G.Γ y with
    | some ⟨.slice e, _, _, _⟩, .slice m cs, .int _ i => match G.T e with
      | some td => some (.epos (cs.drop (i.toNat * td.size)), [(decide (0 ≤ i ∧ i < (m : Int)), true)])
      | none => none
    | some ⟨.slice e, _, _, _⟩, .own r n, .int _ i => match G.T e, st.h.rw[r]? with
      | some td, some (some _) => some (.rpos r (i.toNat * td.size), [(decide (0 ≤ i ∧ i < (n : Int)), true)])
      | _, _ => none
    | some ⟨.slice e, _, _, _⟩, .bsl b n _, .int _ i => match G.T e with
      | some td => some (.ptr b (i.toNat * td.size), [(decide (0 ≤ i ∧ i < (n : Int)), true)])
      | none => none
    | _, _, _ => none
  | .load t x => match G.T t, st.cellsAt (st.ev G.Γ x) with
    | some td, some cs => match Nat.ble 1 td.size with
      | true => match td.k.agg with
        | true => some (.agg (cs.take td.size), [(decide (td.size ≤ cs.length), true)])
        | false => match Nat.beq td.size 1 with
          | true => some (cs.headD .junk, [(decide (td.size ≤ cs.length), true)])
          | false => none
      | false => none
    | _, _ => none
  | .index t x y => match G.T t, st.ev G.Γ x, st.ev G.Γ y with
    | some ⟨.str, _, _, _⟩, .str s, .int _ i => some (.int .u8 (bt s i), [(decide (0 ≤ i ∧ i < (s.size : Int)), true)])
    | _, _, _ => none
  | .slice t x lo hi none => match G.T t, unsl (st.ev G.Γ x) with
    | some ⟨.str, _, _, _⟩, .str s => match bound 0 (lo.map (st.ev G.Γ)), bound s.size (hi.map (st.ev G.Γ)) with
      | some l, some h => some (.str (s.extract l.toNat h.toNat), [(decide (0 ≤ l ∧ l ≤ h ∧ h ≤ (s.size : Int)), true)])
      | _, _ => none
    | some ⟨.slice e, _, _, _⟩, .slice n cs => match G.T e, bound 0 (lo.map (st.ev G.Γ)), bound n (hi.map (st.ev G.Γ)) with
      | some td, some l, some h => some (.slice (h.toNat - l.toNat) ((cs.drop (l.toNat * td.size)).take ((h.toNat - l.toNat) * td.size)), [(decide (0 ≤ l ∧ l ≤ h ∧ h ≤ (n : Int) ∧ cs.length = n * td.size), true)])
      | _, _, _ => none
    | _, _ => none
  | .convert s d x => match G.T s, G.T d, st.rowAt (st.ev G.Γ x) with
    | some ⟨.slice e, _, _, _⟩, some ⟨.str, _, _, _⟩, some (n, cs) => match G.T e with
      | some ⟨.int .u8, _, _, _⟩ => some (.str (strOf cs), [(Nat.beq cs.length n, true), (isBytes cs, true)])
      | _ => none
    | _, _, _ => none
  | .call ⟨.builtin .unsafeSliceData, ⟨[x]⟩, _⟩ => match st.ev G.Γ x with
    | .own r n => match st.h.rw[r]? with
      | some (some _) => some (.rpos r 0, [(Nat.ble 1 n, true)])
      | _ => none
    | _ => none
  | _ => none
theorem tval_ok {G : Prg} {st : AS} {op : Op} {x : PV} {o : Ob} (h : tval G st op = some (x, o)) (ho : okO o) : aval G st op = some x := by
  have one : ∀ {p : Bool × Bool}, okO [p] → p.1 = p.2 := fun h => h _ (List.mem_singleton.2 rfl)
  unfold tval at h
  split at h
  · split at h
    · rename_i k a j b hx hy
      split at h
      · rename_i hc
        cases h
        obtain rfl := of_decide_eq_true hc
        have hb : ¬ b = 0 := by simpa using one ho
        simp [aval, hx, hy, abin, hb]
      · cases h
    · cases h
  · split at h
    · rename_i k a j b hx hy
      split at h
      · rename_i hc
        cases h
        obtain rfl := of_decide_eq_true hc
        have hb : ¬ b = 0 := by simpa using one ho
        simp [aval, hx, hy, abin, hb]
      · cases h
    · cases h
  · split at h
    · rename_i a b hx hy
      cases h
      have hb : a.size + b.size ≤ 9223372036854775807 := by simpa using one ho
      simp [aval, hx, hy, abin, hb]
    · cases h
  · split at h
    · rename_i e a b c m cs k i ht hx hy
      split at h
      · rename_i td hte
        cases h
        have hb : 0 ≤ i ∧ i < (m : Int) := by simpa using one ho
        simp [aval, aidx, ht, hx, hy, hte, hb]
      · cases h
    · rename_i e a b c r n k i ht hx hy
      split at h
      · rename_i td row hte hrow
        cases h
        have hb : 0 ≤ i ∧ i < (n : Int) := by simpa using one ho
        simp [aval, aidx, ht, hx, hy, hte, hrow, hb]
      · cases h
    · rename_i e a b c bb n m k i ht hx hy
      split at h
      · rename_i td hte
        cases h
        have hb : 0 ≤ i ∧ i < (n : Int) := by simpa using one ho
        simp [aval, aidx, ht, hx, hy, hte, hb]
      · cases h
    · cases h
  · split at h
    · rename_i td cs ht hx
      split at h
      · rename_i hc
        simp only [Nat.ble_eq] at hc
        split at h
        · rename_i ha
          cases h
          have hb : td.size ≤ cs.length := by simpa using one ho
          simp only [aval, aload, ht, hx]
          rw [if_pos ⟨hb, hc⟩, if_pos ha]
        · rename_i ha
          split at h
          · rename_i h1
            cases h
            have hb : td.size ≤ cs.length := by simpa using one ho
            simp only [aval, aload, ht, hx]
            rw [if_pos ⟨hb, hc⟩, if_neg (by rw [ha]; simp), if_pos (Nat.eq_of_beq_eq_true h1)]
          · cases h
      · cases h
    · cases h
  · split at h
    · rename_i a b c s k i ht hx hy
      cases h
      have hb : 0 ≤ i ∧ i < (s.size : Int) := by simpa using one ho
      simp [aval, aindex, ht, hx, hy, hb]
    · cases h
  · split at h
    · rename_i a b c s ht hx
      split at h
      · rename_i l h' h1 h2
        cases h
        have hb : 0 ≤ l ∧ l ≤ h' ∧ h' ≤ (s.size : Int) := by simpa using one ho
        simp only [aval, aslice, ht, hx, h1, h2]
        rw [if_pos hb]
      · cases h
    · rename_i e a b c n cs ht hx
      split at h
      · rename_i td l h' hte h1 h2
        cases h
        have hb : 0 ≤ l ∧ l ≤ h' ∧ h' ≤ (n : Int) ∧ cs.length = n * td.size := by simpa using one ho
        simp only [aval, aslice, ht, hx, hte, h1, h2]
        rw [if_pos hb]
      · cases h
    · cases h
  · rename_i s d x
    split at h
    · rename_i e _ _ _ _ _ _ n cs h1 h2 h3
      split at h
      · rename_i h4
        cases h
        have hb1 := ho (Nat.beq cs.length n, true) (by simp)
        have hb2 := ho (isBytes cs, true) (by simp)
        simp only [Nat.beq_eq] at hb1 hb2
        have hac : aconv G s d (st.ev G.Γ x) = none := by
          unfold AS.rowAt at h3
          unfold aconv
          rw [h1, h2]
          split at h3 <;> first | (cases h3; done) | (rename_i he; rw [he])
        simp only [aval, hac, aconvB, h1, h2, h3, h4]
        rw [if_pos ⟨hb1, hb2⟩]
      · cases h
    · cases h
  · split at h
    · rename_i r n hx
      split at h
      · rename_i y hy
        cases h
        have hb := one ho
        simp only [Nat.ble_eq] at hb
        simp only [aval, hx, adata, hy]
        rw [if_pos hb]
      · cases h
    · cases h
  · cases h
def gvalT (G : Prg) (orc : Nat → Nat → Option Bool) (nt : Nat) (ops : Array Oper) (st : AS) (o : Oper) : Option (PV × Ob) := match gq ops st o with
  | some true => match told orc nt o.dst, tval G st o.op with
    | true, some r => some r
    | _, _ => match aval G st o.op with
      | some x => some (x, [])
      | none => none
  | some false => some (und, [])
  | none => none
theorem gvalT_ok {G : Prg} {orc : Nat → Nat → Option Bool} {nt : Nat} {ops : Array Oper} {st : AS} {o : Oper} {x : PV} {ob : Ob} (h : gvalT G orc nt ops st o = some (x, ob)) (ho : okO ob) : gval G ops st o = some x := by
  unfold gvalT at h
  unfold gval
  split at h
  · rename_i hg
    split at h
    · rename_i r _ ht
      cases h
      exact tval_ok ht ho
    · split at h
      · rename_i hx; cases h; exact hx
      · cases h
  · rename_i hg
    cases h
    rfl
  · cases h
noncomputable def sub (val : Nat → Nat → Option PV) (nt : Nat) (d : Option Tmp) (x : PV) (o : Ob) : PV × Ob := match d with
  | none => (x, o)
  | some k => match val nt k with
    | none => (x, o)
    | some y => (y, o ++ [(same x y, true)])
theorem sub_ok {val : Nat → Nat → Option PV} {nt : Nat} {d : Option Tmp} {x y : PV} {o ob : Ob} (h : sub val nt d x o = (y, ob)) (ho : okO ob) : y = x ∧ okO o := by
  unfold sub at h
  split at h
  · cases h; exact ⟨rfl, ho⟩
  · split at h
    · cases h; exact ⟨rfl, ho⟩
    · cases h
      exact ⟨(of_same (ho _ (List.mem_append_right _ (List.mem_singleton.2 rfl)))).symm, fun p hp => ho p (List.mem_append_left _ hp)⟩
noncomputable def pick1 (G : Prg) (orc : Nat → Nat → Option Bool) (val : Nat → Nat → Option PV) (nt : Nat) (ops : Array Oper) (ds : List Nat) (l : Array Bool) (st : AS) : List Nat → Option (Array Bool × AS × Ob)
  | [] => none
  | i :: is => match ops[i]? with
    | some o => match gvalT G orc nt ops st o with
      | some (x, ob) => match dstOk nt o.dst && takeOk ops ds l (l.setIfInBounds i true) i with
        | true => match sub val nt o.dst x ob with
          | (y, ob') => some (l.setIfInBounds i true, st.put o.dst y, ob')
        | false => pick1 G orc val nt ops ds l st is
      | none => pick1 G orc val nt ops ds l st is
    | none => pick1 G orc val nt ops ds l st is
theorem pick1_ok {G : Prg} {C : Ctx} {orc : Nat → Nat → Option Bool} {val : Nat → Nat → Option PV} {ops : Array Oper} {ds : List Nat} {l l' : Array Bool} {st s : AS} {ob : Ob} {Q : AEx → AS → Prop} {n : Nat} (hQ : PanicT Q) (ho : okO ob) : ∀ is : List Nat, pick1 G orc val C.nt ops ds l st is = some (l', s, ob) → SAny G C ops Q ds n l' s → SAny G C ops Q ds (n + 1) l st := by
  intro is
  induction is with
  | nil => intro h; cases h
  | cons i is ih =>
    intro h
    simp only [pick1] at h
    split at h
    · rename_i o hi
      split at h
      · rename_i x ob' hx
        split at h
        · rename_i hc
          cases h
          obtain ⟨h2, h3⟩ := sub_ok (y := (sub val C.nt o.dst x ob').1) rfl ho
          simp only [Bool.and_eq_true] at hc
          rw [h2]
          exact fun h => .takeG hi (gvalT_ok hx h3) hc.1 hc.2 hQ h
        · exact ih h
      · exact ih h
    · exact ih h
section
variable {G : Prg} {C : Ctx} {Q : AEx → AS → Prop} {K : AS → Prop} {st : AS}
def SOneG (G : Prg) (C : Ctx) (d : Option Tmp) (op : Op) (Q : AEx → AS → Prop) (K : AS → Prop) (st : AS) : Prop := ∀ o : Oper, o.dst = d → o.op = op → SOpG G C o Q K st
theorem SOneG.one {d : Option Tmp} {op : Op} (h : SOneG G C d op Q K st) : SOne G C d op Q K st := fun o h1 h2 => (h o h1 h2).op
def stepG (G : Prg) (n : Nat) (st : AS) (d : Option Tmp) : Op → Option AS
  | .box t x => match (st.ev G.Γ x).part && dstOk n d with
    | true => some (st.newBox (st.ev G.Γ x).cells t d)
    | false => none
  | .alloc t => match G.T t with
    | some td => match dstOk n d with
      | true => some (st.newBox td.zero t d)
      | false => none
    | none => none
  | op => match aval G st op with
    | some x => match dstOk n d with
      | true => some (st.put d x)
      | false => none
    | none => none
theorem stepG_ok {d : Option Tmp} {op : Op} {s : AS} (h : stepG G C.nt st d op = some s) (hK : K s) : SOneG G C d op Q K st := fun o hd ho => by
  unfold stepG at h
  split at h
  · rename_i t x
    split at h
    · rename_i h1
      cases h
      subst hd
      simp only [Bool.and_eq_true] at h1
      exact .box ho h1.1 h1.2 hK
    · cases h
  · rename_i t
    split at h
    · rename_i td h1
      split at h
      · rename_i h2
        cases h
        subst hd
        exact .alloc ho h1 h2 hK
      · cases h
    · cases h
  · split at h
    · rename_i x h1
      split at h
      · rename_i h2
        cases h
        subst hd
        rw [← ho] at h1
        exact .val h1 h2 hK
      · cases h
    · cases h
def sliceAt (G : Prg) (n : Nat) (st : AS) (d : Option Tmp) (row : Bool) (t : TypeId) (len : Nat) (parts : Array (Nat × Operand)) : Option AS :=
  match G.T t with
  | some ⟨.slice e, _, _, _⟩ => match G.T e with
    | some td => match abuildSlice td.size len (parts.toList.map fun p => (p.1, st.ev G.Γ p.2)) with
      | some out => match Nat.ble (len * td.size) 16777216 && Nat.ble len 16777216 && pureL out && allOne out && dstOk n d with
        | true => some (bif row then (st.newRow ⟨out, len, e, td.size⟩).put d (.own st.h.rw.length len) else st.put d (.slice len out))
        | false => none
      | none => none
    | none => none
  | _ => none
theorem sliceAt_ok {d : Option Tmp} {row : Bool} {t : TypeId} {len : Nat} {parts : Array (Nat × Operand)} {s : AS} (h : sliceAt G C.nt st d row t len parts = some s) (hK : K s) :
    SOne G C d (.buildSlice t len parts) Q K st ∧ (row = false → SOneG G C d (.buildSlice t len parts) Q K st) := by
  unfold sliceAt at h
  split at h
  · rename_i e a b c ht
    split at h
    · rename_i td hte
      split at h
      · rename_i out hout
        split at h
        · rename_i hc
          simp only [Bool.and_eq_true, Nat.ble_eq] at hc
          obtain ⟨⟨⟨⟨h1, h2⟩, h3⟩, h4⟩, h5⟩ := hc
          cases row with
          | true =>
            cases h
            exact ⟨fun o hd ho => by subst hd; exact .buildRow ho ht rfl hte hout h1 h2 h3 h4 h5 hK, fun h => by cases h⟩
          | false =>
            cases h
            have : SOneG G C d (.buildSlice t len parts) Q K st := fun o hd ho => by subst hd; exact .buildSlice ho ht rfl hte hout h1 h3 h4 h5 hK
            exact ⟨this.one, fun _ => this⟩
        · cases h
      · cases h
    · cases h
  · cases h
def stepSl (G : Prg) (n : Nat) (st : AS) (d : Option Tmp) (row : Bool) (t : TypeId) (len : Nat) (parts : Array (Nat × Operand)) : Option AS :=
  sliceAt G n (frz (refsL (parts.toList.map fun p => st.ev G.Γ p.2)) st) d row t len parts
theorem stepSl_ok {d : Option Tmp} {row : Bool} {t : TypeId} {len : Nat} {parts : Array (Nat × Operand)} {s : AS} (h : stepSl G C.nt st d row t len parts = some s) (hK : K s) :
    SOne G C d (.buildSlice t len parts) Q K st ∧ (row = false → SOneG G C d (.buildSlice t len parts) Q K st) := by
  have := sliceAt_ok (Q := Q) h hK
  exact ⟨fun o h1 h2 => .frz _ (this.1 o h1 h2), fun hr o h1 h2 => .frz _ (this.2 hr o h1 h2)⟩
def stepSt (G : Prg) (n : Nat) (tst tsb : Bool) (st0 : AS) (d : Option Tmp) (t : TypeId) (p v : Operand) : Option (AS × Ob) := match d with
  | some _ => none
  | none => match st0.ev G.Γ p with
    | .ptr b k => match st0.h.bx[b]? with
      | some x => match G.T t with
        | some td => match (st0.ev G.Γ v).part && allOne (st0.ev G.Γ v).cells && Nat.beq (st0.ev G.Γ v).cells.length td.size with
          | true => match tsb with
            | true => some (st0.storeBox b k x (st0.ev G.Γ v).cells, [(Nat.ble (k + td.size) x.cs.length, true)])
            | false => match Nat.ble (k + td.size) x.cs.length with
              | true => some (st0.storeBox b k x (st0.ev G.Γ v).cells, [])
              | false => none
          | false => none
        | none => none
      | none => none
    | .rpos _ _ =>
      let st := frz (st0.ev G.Γ v).refs st0
      match st.ev G.Γ p with
      | .rpos r k => match st.h.rw[r]? with
        | some (some x) => match G.T t with
          | some td => match (st.ev G.Γ v).part && allOne (st.ev G.Γ v).cells && pureL (st.ev G.Γ v).cells && Nat.beq (st.ev G.Γ v).cells.length td.size with
            | true => match tst with
              | true => some (st.storeRow r k x (st.ev G.Γ v).cells, [(Nat.ble (k + td.size) x.cs.length, true)])
              | false => match Nat.ble (k + td.size) x.cs.length with
                | true => some (st.storeRow r k x (st.ev G.Γ v).cells, [])
                | false => none
            | false => none
          | none => none
        | _ => none
      | _ => none
    | _ => none
theorem stepSt_ok {d : Option Tmp} {t : TypeId} {p v : Operand} {s : AS} {tst tsb : Bool} {ob : Ob} (h : stepSt G C.nt tst tsb st d t p v = some (s, ob)) (hob : okO ob) (hK : K s) : SOne G C d (.store t p v) Q K st := fun o hd ho => by
  unfold stepSt at h
  split at h
  · cases h
  split at h
  · rename_i b k hp
    split at h
    · rename_i x hb
      split at h
      · rename_i td ht
        split at h
        · rename_i hc
          simp only [Bool.and_eq_true, Nat.beq_eq] at hc
          split at h
          · cases h
            have h5 := hob _ (List.mem_singleton.2 rfl)
            simp only [Nat.ble_eq] at h5
            exact .store ho hd hp hb ht hc.1.1 hc.1.2 hc.2 h5 hK
          · split at h
            · rename_i h5
              cases h
              simp only [Nat.ble_eq] at h5
              exact .store ho hd hp hb ht hc.1.1 hc.1.2 hc.2 h5 hK
            · cases h
        · cases h
      · cases h
    · cases h
  · simp only [] at h
    split at h
    · rename_i r k hp
      split at h
      · rename_i x hx
        split at h
        · rename_i td ht
          split at h
          · rename_i hc
            simp only [Bool.and_eq_true, Nat.beq_eq] at hc
            split at h
            · cases h
              have h5 := hob _ (List.mem_singleton.2 rfl)
              simp only [Nat.ble_eq] at h5
              exact .frz _ (.storeRow ho hd hp hx ht hc.1.1.1 hc.1.1.2 hc.1.2 hc.2 h5 hK)
            · split at h
              · rename_i h5
                cases h
                simp only [Nat.ble_eq] at h5
                exact .frz _ (.storeRow ho hd hp hx ht hc.1.1.1 hc.1.1.2 hc.1.2 hc.2 h5 hK)
              · cases h
          · cases h
        · cases h
      · cases h
    · cases h
  · cases h
def appendAt (G : Prg) (n : Nat) (st : AS) (d : Option Tmp) (tl : Bool) (s x : Operand) (t : TypeId) : Option (AS × Ob) :=
  match st.ev G.Γ s with
  | .own r k => match srcOf (st.ev G.Γ x), st.h.rw[r]?, G.T t with
    | some (m, cs), some (some row), some ⟨.slice e, _, _, _⟩ => match G.T e with
      | some td => match Nat.beq row.ty e && Nat.beq row.sz td.size && Nat.beq td.zero.length td.size && Nat.ble 1 td.size && dstOk n d with
        | true => match tl with
          | true => some ((st.setRow r ⟨row.cs ++ cs, row.n + m, row.ty, row.sz⟩).put d (.own r (row.n + m)), [(Nat.beq cs.length (m * td.size), true), (Nat.ble ((row.n + m) * td.bytes) 140737488355328, true), (Nat.ble (row.n + m) 9223372036854775807, true)])
          | false => match Nat.beq cs.length (m * td.size) && Nat.ble ((row.n + m) * td.bytes) 140737488355328 && Nat.ble (row.n + m) 9223372036854775807 with
            | true => some ((st.setRow r ⟨row.cs ++ cs, row.n + m, row.ty, row.sz⟩).put d (.own r (row.n + m)), [])
            | false => none
        | false => none
      | none => none
    | _, _, _ => none
  | _ => none
theorem appendAt_ok {o : Oper} {s x : Operand} {t : TypeId} {z : AS} (ho : o.op = .call ⟨.builtin .append, #[s, x], #[t, t]⟩) {tl : Bool} {ob : Ob} (h : appendAt G C.nt st o.dst tl s x t = some (z, ob)) (hob : okO ob) (hK : K z) : SOp G C o Q K st := by
  unfold appendAt at h
  split at h
  · rename_i r k hs
    split at h
    · rename_i m cs row e a b c hx hrow ht
      split at h
      · rename_i td hte
        split at h
        · rename_i hc
          simp only [Bool.and_eq_true, Nat.ble_eq, Nat.beq_eq] at hc
          obtain ⟨⟨⟨⟨h1, h2⟩, h3⟩, h4⟩, h6⟩ := hc
          split at h
          · cases h
            have h5 := hob (Nat.beq cs.length (m * td.size), true) (by simp)
            have h7 := hob (Nat.ble ((row.n + m) * td.bytes) 140737488355328, true) (by simp)
            have h8 := hob (Nat.ble (row.n + m) 9223372036854775807, true) (by simp)
            simp only [Nat.ble_eq, Nat.beq_eq] at h5 h7 h8
            exact .append ho hs hx hrow ht rfl hte h1 h2 h3 h4 h5 h6 h7 h8 hK
          · split at h
            · rename_i hc
              cases h
              simp only [Bool.and_eq_true, Nat.ble_eq, Nat.beq_eq] at hc
              exact .append ho hs hx hrow ht rfl hte h1 h2 h3 h4 hc.1.1 h6 hc.1.2 hc.2 hK
            · cases h
        · cases h
      · cases h
    · cases h
  · cases h
def ownAp (G : Prg) (n : Nat) (st : AS) (d : Option Tmp) (tl : Bool) (s x : Operand) (t : TypeId) : Option (AS × Ob) :=
  match s with
  | .tmp k => match lk st.t k with
    | .own _ _ => appendAt G n st d tl (.tmp k) x t
    | .nil => match G.T t with
      | some ⟨.slice e, _, _, _⟩ => match G.T e with
        | some td => appendAt G n (st.adopt k e td.size) d tl (.tmp k) x t
        | none => none
      | _ => none
    | _ => none
  | _ => none
theorem ownAp_ok {o : Oper} {s x : Operand} {t : TypeId} {z : AS} (ho : o.op = .call ⟨.builtin .append, #[s, x], #[t, t]⟩) {tl : Bool} {ob : Ob} (h : ownAp G C.nt st o.dst tl s x t = some (z, ob)) (hob : okO ob) (hK : K z) : SOp G C o Q K st := by
  unfold ownAp at h
  split at h
  · rename_i k
    split at h
    · exact appendAt_ok ho h hob hK
    · rename_i hs
      split at h
      · split at h
        · exact .adopt k _ _ hs (appendAt_ok ho h hob hK)
        · cases h
      · cases h
    · cases h
  · cases h
def appendStrAt (G : Prg) (n : Nat) (st : AS) (d : Option Tmp) (tl : Bool) (s x : Operand) (t u : TypeId) : Option (AS × Ob) :=
  match st.ev G.Γ s with
  | .own r k => match st.ev G.Γ x, st.h.rw[r]?, G.T t, G.T u with
    | .str b, some (some row), some ⟨.slice e, _, _, _⟩, some ⟨.str, _, _, _⟩ => match G.T e with
      | some td => match Nat.beq row.ty e && Nat.beq row.sz 1 && Nat.beq td.size 1 && Nat.beq td.bytes 1 && Nat.beq td.zero.length 1 && dstOk n d with
        | true => match tl with
          | true => some ((st.setRow r ⟨row.cs ++ bytesPV b, row.n + b.size, row.ty, row.sz⟩).put d (.own r (row.n + b.size)), [(Nat.ble (row.n + b.size) 140737488355328, true)])
          | false => match Nat.ble (row.n + b.size) 140737488355328 with
            | true => some ((st.setRow r ⟨row.cs ++ bytesPV b, row.n + b.size, row.ty, row.sz⟩).put d (.own r (row.n + b.size)), [])
            | false => none
        | false => none
      | none => none
    | _, _, _, _ => none
  | _ => none
theorem appendStrAt_ok {o : Oper} {s x : Operand} {t u : TypeId} {z : AS} (ho : o.op = .call ⟨.builtin .append, #[s, x], #[t, u]⟩) {tl : Bool} {ob : Ob} (h : appendStrAt G C.nt st o.dst tl s x t u = some (z, ob)) (hob : okO ob) (hK : K z) : SOp G C o Q K st := by
  unfold appendStrAt at h
  split at h
  · rename_i r k hs
    split at h
    · rename_i b row e a1 a2 a3 b1 b2 b3 hx hrow ht hu
      split at h
      · rename_i td hte
        split at h
        · rename_i hc
          simp only [Bool.and_eq_true, Nat.ble_eq, Nat.beq_eq] at hc
          obtain ⟨⟨⟨⟨⟨h1, h2⟩, h3⟩, h4⟩, h5⟩, h6⟩ := hc
          split at h
          · cases h
            have h7 := hob (Nat.ble (row.n + b.size) 140737488355328, true) (by simp)
            simp only [Nat.ble_eq] at h7
            exact .appendStr ho hs hx hrow ht rfl hu rfl hte h1 h2 h3 h4 h5 h6 h7 hK
          · split at h
            · rename_i hc
              cases h
              simp only [Nat.ble_eq] at hc
              exact .appendStr ho hs hx hrow ht rfl hu rfl hte h1 h2 h3 h4 h5 h6 hc hK
            · cases h
        · cases h
      · cases h
    · cases h
  · cases h
def ownApS (G : Prg) (n : Nat) (st : AS) (d : Option Tmp) (tl : Bool) (s x : Operand) (t u : TypeId) : Option (AS × Ob) :=
  match s with
  | .tmp k => match lk st.t k with
    | .own _ _ => appendStrAt G n st d tl (.tmp k) x t u
    | .nil => match G.T t with
      | some ⟨.slice e, _, _, _⟩ => match G.T e with
        | some td => appendStrAt G n (st.adopt k e td.size) d tl (.tmp k) x t u
        | none => none
      | _ => none
    | _ => none
  | _ => none
theorem ownApS_ok {o : Oper} {s x : Operand} {t u : TypeId} {z : AS} (ho : o.op = .call ⟨.builtin .append, #[s, x], #[t, u]⟩) {tl : Bool} {ob : Ob} (h : ownApS G C.nt st o.dst tl s x t u = some (z, ob)) (hob : okO ob) (hK : K z) : SOp G C o Q K st := by
  unfold ownApS at h
  split at h
  · rename_i k
    split at h
    · exact appendStrAt_ok ho h hob hK
    · rename_i hs
      split at h
      · split at h
        · exact .adopt k _ _ hs (appendStrAt_ok ho h hob hK)
        · cases h
      · cases h
    · cases h
  · cases h
def stepUS (G : Prg) (n : Nat) (st : AS) (d : Option Tmp) (tl : Bool) (p l : Operand) (pt it : TypeId) : Option (AS × Ob) :=
  match st.ev G.Γ p with
  | .nilptr => match st.ev G.Γ l, dstOk n d with
    | .int .i64 0, true => some (st.put d (.str ⟨#[]⟩), [])
    | _, _ => none
  | .rpos r 0 => match st.ev G.Γ l, st.h.rw[r]?, G.T pt with
    | .int .i64 (.ofNat m), some (some row), some ⟨.ptr e, _, _, _⟩ => match G.T e with
      | some td => match Nat.beq row.ty e && Nat.beq row.sz 1 && Nat.beq td.size 1 && dstOk n d with
        | true => match tl with
          | true => some ((⟨st.t, ⟨st.h.bx, st.h.rw.set r none⟩⟩ : AS).put d (.str (strOf row.cs)), [(Nat.beq row.n m, true), (Nat.beq row.cs.length m, true), (Nat.ble 1 m, true), (Nat.ble m 9223372036854775807, true), (isBytes8 row.cs, true)])
          | false => match Nat.beq row.n m && Nat.beq row.cs.length m && Nat.ble 1 m && Nat.ble m 9223372036854775807 && isBytes8 row.cs with
            | true => some ((⟨st.t, ⟨st.h.bx, st.h.rw.set r none⟩⟩ : AS).put d (.str (strOf row.cs)), [])
            | false => none
        | false => none
      | none => none
    | _, _, _ => none
  | _ => none
theorem stepUS_ok {d : Option Tmp} {p l : Operand} {pt it : TypeId} {z : AS} {tl : Bool} {ob : Ob} (h : stepUS G C.nt st d tl p l pt it = some (z, ob)) (hob : okO ob) (hK : K z) : SOne G C d (.call ⟨.builtin .unsafeString, #[p, l], #[pt, it]⟩) Q K st := fun o hd ho => by
  subst hd
  unfold stepUS at h
  split at h
  · rename_i hp
    split at h
    · rename_i hl hd
      cases h
      exact .unsafeString0 ho hp hl hd hK
    · cases h
  · rename_i r hp
    split at h
    · rename_i m row e a1 a2 a3 hl hrow hpt
      split at h
      · rename_i td hte
        split at h
        · rename_i hc
          simp only [Bool.and_eq_true, Nat.beq_eq] at hc
          obtain ⟨⟨⟨h1, h2⟩, h3⟩, h4⟩ := hc
          split at h
          · cases h
            have g1 := hob (Nat.beq row.n m, true) (by simp)
            have g2 := hob (Nat.beq row.cs.length m, true) (by simp)
            have g3 := hob (Nat.ble 1 m, true) (by simp)
            have g4 := hob (Nat.ble m 9223372036854775807, true) (by simp)
            have g5 := hob (isBytes8 row.cs, true) (by simp)
            simp only [Nat.ble_eq, Nat.beq_eq] at g1 g2 g3 g4
            exact .unsafeString ho hp hl hrow hpt rfl hte h3 h1 h2 g1 g2 g3 g4 g5 h4 hK
          · split at h
            · rename_i hc
              cases h
              simp only [Bool.and_eq_true, Nat.ble_eq, Nat.beq_eq] at hc
              obtain ⟨⟨⟨⟨g1, g2⟩, g3⟩, g4⟩, g5⟩ := hc
              exact .unsafeString ho hp hl hrow hpt rfl hte h3 h1 h2 g1 g2 g3 g4 g5 h4 hK
            · cases h
        · cases h
      · cases h
    · cases h
  · cases h
def stepAp (G : Prg) (n : Nat) (st : AS) (d : Option Tmp) (tl : Bool) (s x : Operand) (t t' : TypeId) : Option (AS × Ob) :=
  match Nat.beq t t' with
  | false => ownApS G n st d tl s x t t'
  | true => ownAp G n (frz (st.ev G.Γ x).refs st) d tl s x t
theorem stepAp_ok {d : Option Tmp} {s x : Operand} {t t' : TypeId} {z : AS} {tl : Bool} {ob : Ob} (h : stepAp G C.nt st d tl s x t t' = some (z, ob)) (hob : okO ob) (hK : K z) : SOne G C d (.call ⟨.builtin .append, #[s, x], #[t, t']⟩) Q K st := fun o hd ho => by
  unfold stepAp at h
  split at h
  · subst hd
    exact ownApS_ok ho h hob hK
  · rename_i ht
    obtain rfl : t = t' := Nat.eq_of_beq_eq_true ht
    subst hd
    exact .frz _ (ownAp_ok ho h hob hK)
end
section
variable {G : Prg} {C : Ctx} {Q : AEx → AS → Prop} {st : AS} {ops : Array Oper} {ds : List Nat} {n : Nat}
theorem SAny.all {l : Array Bool} (hne : Region.ready .any ops l ≠ []) (h : ∀ i ∈ Region.ready .any ops l, ∃ o, ops[i]? = some o ∧
    ((gq ops st o = some true ∧ ((i ∈ ds ∧ SOp G C o Q (SAny G C ops Q ds n (l.setIfInBounds i true)) st) ∨ SOpG G C o Q (SAny G C ops Q ds n (l.setIfInBounds i true)) st)) ∨
     (gq ops st o = some false ∧ dstOk C.nt o.dst = true ∧ SAny G C ops Q ds n (l.setIfInBounds i true) (st.put o.dst und)))) : SAny G C ops Q ds (n + 1) l st := fun E a w hr => by
  refine ⟨fun h0 => absurd h0 hne, fun i hi => ?_⟩
  obtain ⟨o, ho, h | ⟨hg, hd, h⟩⟩ := h i hi
  · obtain ⟨hg, ⟨hm, h⟩ | h⟩ := h
    · exact wpOp_wanted ho (gq_ok hr.fr hg) (Oper.wp_mono (fun a' w' ⟨s, E', k, r⟩ => ⟨fun hn => absurd hm hn, k E' a' w' r⟩) (h E a w hr))
    · exact wpOp_wanted ho (gq_ok hr.fr hg) (Oper.wp_mono (fun a' w' ⟨hgr, s, E', k, r⟩ => ⟨fun _ => hgr, k E' a' w' r⟩) (h E a w hr))
  · exact wpOp_unwanted ho (gq_ok hr.fr hg) ⟨fun _ => ⟨Gr.refl w, Nat.le_refl _⟩, h E _ w (hr.put hd (.und _ _))⟩
abbrev Outs := List AS × Ob
def pre (o : Ob) : Option Outs → Option Outs
  | some (l, o') => some (l, o ++ o')
  | none => none
theorem pre_some {o : Ob} {r : Option Outs} {outs : Outs} (h : pre o r = some outs) : ∃ o', r = some (outs.1, o') ∧ outs.2 = o ++ o' := by
  cases r with
  | none => cases h
  | some l => obtain ⟨l, o'⟩ := l; cases h; exact ⟨o', rfl, rfl⟩
def eachOf (f : Nat → Option Outs) : List Nat → Option Outs
  | [] => some ([], [])
  | i :: is => match f i, eachOf f is with
    | some (a, o), some (b, o') => some (a ++ b, o ++ o')
    | _, _ => none
theorem eachOf_some {f : Nat → Option Outs} : ∀ {is : List Nat} {outs : Outs}, eachOf f is = some outs → ∀ i ∈ is, ∃ a, f i = some a ∧ (∀ p ∈ a.1, p ∈ outs.1) ∧ ∀ p ∈ a.2, p ∈ outs.2
  | [], _, _, i, hi => by cases hi
  | j :: is, outs, h, i, hi => by
    simp only [eachOf] at h
    split at h
    · rename_i a o b o' ha hb
      cases h
      rcases List.mem_cons.1 hi with rfl | hi
      · exact ⟨_, ha, fun p hp => List.mem_append_left _ hp, fun p hp => List.mem_append_left _ hp⟩
      · obtain ⟨c, h1, h2, h3⟩ := eachOf_some hb i hi
        exact ⟨c, h1, fun p hp => List.mem_append_right _ (h2 p hp), fun p hp => List.mem_append_right _ (h3 p hp)⟩
    · cases h
def pickF (G : Prg) (nt : Nat) (ops : Array Oper) (l : Array Bool) (st : AS) : List Nat → Option (Array Bool × AS)
  | [] => none
  | i :: is => match ops[i]? with
    | some o => match o.guard, mval G st o.op with
      | none, some v => match dstOk nt o.dst && freeOk ops l (l.setIfInBounds i true) i with
        | true => some (l.setIfInBounds i true, st.put o.dst v)
        | false => pickF G nt ops l st is
      | _, _ => pickF G nt ops l st is
    | none => pickF G nt ops l st is
theorem pickF_ok {l l' : Array Bool} {s : AS} (hQ : PanicT Q) : ∀ is : List Nat, pickF G C.nt ops l st is = some (l', s) → SAny G C ops Q ds n l' s → SAny G C ops Q ds (n + 1) l st := by
  intro is
  induction is with
  | nil => intro h; cases h
  | cons i is ih =>
    intro h
    simp only [pickF] at h
    split at h
    · rename_i o hi
      split at h
      · rename_i v hg hv
        split at h
        · rename_i hc
          cases h
          simp only [Bool.and_eq_true] at hc
          exact fun h => .free hi hg hv hc.1 hc.2 hQ h
        · exact ih h
      · exact ih h
    · exact ih h
end
end Go.AS
namespace Go.AS
open Go.RowKit
set_option linter.unusedVariables false
set_option linter.unusedSimpArgs false
abbrev Rec := Cmd → Option (AEx × AS × Ob)
def app (o : Ob) : Option (AEx × AS × Ob) → Option (AEx × AS × Ob)
  | some (e, s, o') => some (e, s, o ++ o')
  | none => none
theorem okO.left {o o' : Ob} (h : okO (o ++ o')) : okO o := fun p hp => h p (List.mem_append_left _ hp)
theorem okO.right {o o' : Ob} (h : okO (o ++ o')) : okO o' := fun p hp => h p (List.mem_append_right _ hp)
theorem app_some {o o2 : Ob} {r : Option (AEx × AS × Ob)} {e : AEx} {s : AS} (h : app o r = some (e, s, o2)) : ∃ o', r = some (e, s, o') ∧ o2 = o ++ o' := by
  cases r with
  | none => cases h
  | some x => obtain ⟨e', s', o'⟩ := x; cases h; exact ⟨_, rfl, rfl⟩
def way (orc : Nat → Nat → Option Bool) (nt : Nat) (x : Operand) (b : Bool) : Bool × Ob := match x with
  | .tmp t => match orc nt t with
    | some b' => (b', [(b, b')])
    | none => (b, [])
  | _ => (b, [])
theorem way_ok {orc : Nat → Nat → Option Bool} {nt : Nat} {x : Operand} {b : Bool} (h : okO (way orc nt x b).2) : (way orc nt x b).1 = b := by
  unfold way at *
  split at h
  · split at h
    · exact (h _ (List.mem_singleton.2 rfl)).symm
    · rfl
  · rfl
section
variable {G : Prg}
def At (e : AEx) (s : AS) : AEx → AS → Prop := fun e' s' => e' = e ∧ s' = s
def noPan : AEx → Bool
  | _ => true
noncomputable def adj (orc : Nat → Nat → Option Bool) (val : Nat → Nat → Option PV) (nt : Nat) (d : Option Tmp) (s : AS) : Option (AS × Ob) := match d with
  | none => some (s, [])
  | some k => match val nt k with
    | some y => some (⟨(k, y) :: s.t, s.h⟩, [(same (lk s.t k) y, true)])
    | none => match orc nt k with
      | none => some (s, [])
      | some b => match lk s.t k with
        | .bool v => some (⟨(k, .bool b) :: s.t, s.h⟩, [(v, b)])
        | _ => some (s, [])
theorem SRun.same {C : Ctx} {Q : AEx → AS → Prop} {l : List SO} {s s' : AS} (hh : s'.h = s.h) (ht : ∀ k, lk s'.t k = lk s.t k) (h : SRun G C Q l s') : SRun G C Q l s := fun ops os ho E a w hr => by
  refine h ops os ho E a w ⟨hr.defers, hr.size, fun k => ?_, ?_, hr.lo, hr.nb, hr.β, hr.own, hr.up, hr.dn, hr.keep, hr.os, hr.tape, hr.out, hr.sz, by rw [hh]; exact hr.rows⟩
  · rw [ht]; exact hr.fr k
  · rw [hh]; exact hr.hp
theorem adj_eq {orc : Nat → Nat → Option Bool} {val : Nat → Nat → Option PV} {nt : Nat} {d : Option Tmp} {s s' : AS} {o : Ob} (h : adj orc val nt d s = some (s', o)) (ho : okO o) : s'.h = s.h ∧ ∀ k, lk s'.t k = lk s.t k := by
  have put : ∀ (k : Nat) (y : PV), lk s.t k = y → ∀ j, lk ((k, y) :: s.t) j = lk s.t j := fun k y h j => by
    simp only [lk]
    split
    · rename_i hj; subst hj; exact h.symm
    · rfl
  unfold adj at h
  split at h
  · cases h; exact ⟨rfl, fun _ => rfl⟩
  · split at h
    · cases h
      exact ⟨rfl, put _ _ (of_same (ho _ (List.mem_singleton.2 rfl)))⟩
    · split at h
      · cases h; exact ⟨rfl, fun _ => rfl⟩
      · split at h
        · rename_i k _ b hb v hv
          cases h
          have := ho _ (List.mem_singleton.2 rfl)
          simp only [] at this
          subst this
          exact ⟨rfl, put _ _ hv⟩
        · cases h; exact ⟨rfl, fun _ => rfl⟩
theorem SAny.same {C : Ctx} {Q : AEx → AS → Prop} {ops : Array Oper} {ds : List Nat} {n : Nat} {l : Array Bool} {s s' : AS} (hh : s'.h = s.h) (ht : ∀ k, lk s'.t k = lk s.t k) (h : SAny G C ops Q ds n l s') : SAny G C ops Q ds n l s := fun E a w hr => by
  refine h E a w ⟨hr.defers, hr.size, fun k => ?_, ?_, hr.lo, hr.nb, hr.β, hr.own, hr.up, hr.dn, hr.keep, hr.os, hr.tape, hr.out, hr.sz, by rw [hh]; exact hr.rows⟩
  · rw [ht]; exact hr.fr k
  · rw [hh]; exact hr.hp
theorem adj_ok {orc : Nat → Nat → Option Bool} {val : Nat → Nat → Option PV} {nt : Nat} {d : Option Tmp} {s s' : AS} {o : Ob} (h : adj orc val nt d s = some (s', o)) (ho : okO o) {C : Ctx} {Q : AEx → AS → Prop} {l : List SO} (hK : SRun G C Q l s') : SRun G C Q l s := by
  have put : ∀ (k : Nat) (y : PV), lk s.t k = y → ∀ j, lk ((k, y) :: s.t) j = lk s.t j := fun k y h j => by
    simp only [lk]
    split
    · rename_i hj; subst hj; exact h.symm
    · rfl
  unfold adj at h
  split at h
  · cases h; exact hK
  · split at h
    · cases h
      refine SRun.same (s' := _) ?_ (put _ _ (of_same (ho _ (List.mem_singleton.2 rfl)))) hK
      rfl
    · split at h
      · cases h; exact hK
      · split at h
        · rename_i k _ b hb v hv
          cases h
          have := ho _ (List.mem_singleton.2 rfl)
          simp only [] at this
          subst this
          refine SRun.same (s' := _) ?_ (put _ _ hv) hK
          rfl
        · cases h; exact hK
def Good (G : Prg) : Cmd → AEx → AS → Prop
  | .code nt c st, e, s => noPan e = true ∧ (∀ C : Ctx, C.nt = nt → SWP G C c (At e s) st) ∧ ∀ c', c = .loop c' → ∃ m, ∀ C : Ctx, C.nt = nt → SRounds G C c' (At e s) m st
  | .ops nt l st, e, s => noPan e = true ∧ ∀ C : Ctx, C.nt = nt → SRun G C (At e s) l st
  | .op _ _ _ _ _ _, _, _ => False
  | .any nt ops ds n l st, e, s => (∀ x, e = .panic x → s.t = []) ∧ ∀ C : Ctx, C.nt = nt → SAny G C ops (At e s) ds n l st
  | .call f args bx, e, s => ∃ k r tl bx' rw, s = ⟨(k, r) :: tl, ⟨bx', rw⟩⟩ ∧ PCalls G f args bx (fun o b => o = .ret r ∧ b = bx')
  | .callH f args H, e, s => ∃ k r tl H', s = ⟨(k, r) :: tl, H'⟩ ∧ RCalls G f args H (fun o b => o = .ret r ∧ b = H')
def Snd (G : Prg) (rec : Rec) : Prop := ∀ cmd e s o, rec cmd = some (e, s, o) → okO o → Good G cmd e s
def callPure (S : Cfg G) (rec : Rec) (st : AS) (d : Option Tmp) (f : Nat) (args : List PV) : Option (AS × Ob) := match S.F f with
  | none => none
  | some _ => match S.S f args with
    | some (r, o) => some (st.put d r, o)
    | none => match rec (.call f args []) with
      | some (_, ⟨(_, r) :: _, ⟨[], _⟩⟩, o) => some (st.put d r, o)
      | _ => none
def callBox (S : Cfg G) (rec : Rec) (nt : Nat) (d : Option Tmp) (st : AS) (c : Call) : Option (AS × Ob) := match target st G c with
  | some (f, args) => match S.F f with
    | none => none
    | some _ => match scL st.h.bx.length args && (st.h.bx.all fun b => scL st.h.bx.length b.cs) && dstOk nt d with
      | true => match rec (.call f args st.h.bx) with
        | some (_, ⟨(_, r) :: _, ⟨bx', _⟩⟩, o) => some (({ st with h := ⟨bx', st.h.rw⟩ } : AS).put d r, o)
        | _ => none
      | false => none
  | none => none
def callAt (S : Cfg G) (rec : Rec) (nt : Nat) (d : Option Tmp) (g : Bool) (st : AS) (c : Call) : Option (AS × Ob) := match target st G c with
  | some (f, args) => match pureL args && dstOk nt d with
    | true => callPure S rec st d f args
    | false => match g with
      | true => none
      | false => callBox S rec nt d (frzAll st) c
  | none => none
def callRes (S : Cfg G) (rec : Rec) (f : Nat) (args : List PV) : Option (PV × Ob) := match S.F f with
  | none => none
  | some _ => match S.S f args with
    | some (r, o) => some (r, o)
    | none => match rec (.call f args []) with
      | some (_, ⟨(_, r) :: _, ⟨[], _⟩⟩, o) => some (r, o)
      | _ => none
def callLk (S : Cfg G) (rec : Rec) (nt : Nat) (d : Option Tmp) (st : AS) (c : Call) : List Nat → Option (AS × Ob)
  | [] => none
  | i :: is => match target (frz (i :: is) st) G c with
    | some (f, args) => match pureL args && dstOk nt d with
      | true => match callRes S rec f args with
        | some (r, o) => match r.lone with
          | true => some (st.put d r, o)
          | false => some ((frz (i :: is) st).put d r, o)
        | none => none
      | false => none
    | none => none
def callLaw (S : Cfg G) (nt : Nat) (d : Option Tmp) (st : AS) (f : Nat) (args : List PV) : Option (AS × Ob) := match S.F f, S.S f args, dstOk nt d with
  | some _, some (r, o), true => some (st.put d r, (pureL args, true) :: o)
  | _, _, _ => none
def callFr (S : Cfg G) (nt : Nat) (d : Option Tmp) (st : AS) (f : Nat) (args : List PV) : Option (AS × Ob) := match S.F f, S.W f args, dstOk nt d with
  | some _, some (row, o), true => some ((st.newRow row).put d (.own st.h.rw.length row.n), (pureL args, true) :: o)
  | _, _, _ => none
def callBx (S : Cfg G) (nt : Nat) (d : Option Tmp) (st : AS) (f : Nat) (args : List PV) : Option (AS × Ob) := match ptrOfL args with
  | some b => match renL b args, st.h.bx[b]?, S.F f with
    | some xs, some x, some _ => match S.B f xs x, dstOk nt d with
      | some (r, x', o), true => some (({ st with h := ⟨st.h.bx.set b x', st.h.rw⟩ } : AS).put d r, o)
      | _, _ => none
    | _, _, _ => none
  | none => none
/- The boxes that a value points to. -/
mutual
def PV.bxs : PV → List Nat
  | .ptr b _ => [b]
  | .bsl b _ _ => [b]
  | .func _ cap => bxsL cap
  | .agg cs => bxsL cs
  | .tup cs => bxsL cs
  | .iface _ x => x.bxs
  | .own _ _ | .rpos _ _ | .int _ _ | .bool _ | .str _ | .slice _ _ | .nil | .epos _ | .nilptr | .nilfunc | .niliface | .exact _ | .sl _ _ _ | .junk => []
def bxsL : List PV → List Nat
  | [] => []
  | x :: xs => x.bxs ++ bxsL xs
end
def addNs : List Nat → List Nat → List Nat
  | [], l => l
  | k :: ks, l => match hasN l k with
    | true => addNs ks l
    | false => addNs ks (l ++ [k])
def cellsB (H : Hp) : List Nat → List PV
  | [] => []
  | b :: bs => match H.bx[b]? with
    | some x => x.cs ++ cellsB H bs
    | none => cellsB H bs
def reachB (H : Hp) : Nat → List Nat → List Nat
  | 0, l => l
  | n + 1, l => reachB H n (addNs (bxsL (cellsB H l)) l)
def someN : List Nat → List Nat → Bool
  | [], [] => false
  | _, _ => true
def hpRes (S : Cfg G) (rec : Rec) (b : Bool) (f : Nat) (xs : List PV) (H : Hp) : Option (PV × Hp × Ob) := match S.V f xs H with
  | some x => some x
  | none => match S.hp f && b with
    | true => match rec (.callH f xs H) with
      | some (_, ⟨(_, r) :: _, H'⟩, o) => match r.scP (belowN H'.bx.length) (belowN H'.rw.length) && H'.scB H'.bx.length H'.rw.length with
        | true => some (r, H', o)
        | false => none
      | _ => none
    | false => none
def callHp (S : Cfg G) (rec : Rec) (nt : Nat) (d : Option Tmp) (st : AS) (f : Nat) (ys : List PV) : Option (AS × Ob) := match S.F f with
  | none => none
  | some _ =>
    let pb := reachB st.h 3 (addNs (bxsL ys) [])
    let pr := addNs (refsL (cellsB st.h pb)) (addNs (refsL ys) [])
    match scPL (hasN pb) (hasN pr) ys && giveOk st.h pb pr && dstOk nt d with
    | true => match hpRes S rec (someN pb pr) f (mv2L (posN pb) (posN pr) ys) (st.h.give pb pr) with
      | some (r, H', o) => some ((st.back pb pr H').put d (r.mv2 (bak pb st.h.bx.length) (bak pr st.h.rw.length)), o)
      | none => none
    | false => none
def stepCall (S : Cfg G) (rec : Rec) (nt : Nat) (d : Option Tmp) (g : Bool) (st : AS) (c : Call) : Option (AS × Ob) := match target st G c with
  | some (f, args) => match callLaw S nt d st f args with
    | some r => some r
    | none => match callFr S nt d st f args with
      | some r => some r
      | none => match g, callHp S rec nt d st f args with
      | false, some r => some r
      | _, _ => match g, callBx S nt d st f args with
        | false, some r => some r
        | _, _ => match callLk S rec nt d st c (refsL args) with
          | some r => some r
          | none => callAt S rec nt d g (frz (refsL args) st) c
  | none => none
variable {C : Ctx} {Q : AEx → AS → Prop} {K : AS → Prop} {st : AS} {S : Cfg G} {rec : Rec}
theorem callPure_ok (hr : Snd G rec) {d : Option Tmp} {c : Call} {f : Nat} {args : List PV} {z : AS} (ht : target st G c = some (f, args)) (hp : pureL args = true) (hd : dstOk C.nt d = true) {ob : Ob} (h : callPure S rec st d f args = some (z, ob)) (hb : okO ob) (hK : K z) : SOneG G C d (.call c) Q K st := fun o h1 h2 => by
  subst h1
  unfold callPure at h
  split at h
  · cases h
  · rename_i fn hF
    obtain ⟨a1, a2, a3⟩ := S.hF _ _ hF
    split at h
    · rename_i r o hS
      cases h
      exact .call h2 ht a1 a2 a3 hp hd (S.hS _ _ _ _ hS hb hp) fun r' hr' => by rw [hr']; exact hK
    · split at h
      · rename_i e k r tl rw o hrec
        cases h
        obtain ⟨k', r', tl', bx', rw', he, hc⟩ := hr _ _ _ _ hrec hb
        cases he
        exact .call h2 ht a1 a2 a3 hp hd (R := fun x => x = r) (hc.mono fun o b ⟨ho, hb⟩ => ⟨hb, _, ho, rfl⟩) fun r' hr' => by rw [hr']; exact hK
      · cases h
theorem callBox_ok (hr : Snd G rec) {d : Option Tmp} {c : Call} {z : AS} {ob : Ob} (h : callBox S rec C.nt d st c = some (z, ob)) (hob : okO ob) (hK : K z) : SOne G C d (.call c) Q K st := fun o h1 h2 => by
  subst h1
  unfold callBox at h
  split at h
  · rename_i f args ht
    split at h
    · cases h
    · rename_i fn hF
      obtain ⟨a1, a2, a3⟩ := S.hF _ _ hF
      split at h
      · rename_i hc
        simp only [Bool.and_eq_true] at hc
        split at h
        · rename_i e k r tl bx rw o hrec
          cases h
          obtain ⟨k', r', tl', bx', rw', he, hcc⟩ := hr _ _ _ _ hrec hob
          cases he
          exact .callB h2 ht a1 a2 a3 hc.1.1 hc.1.2 hc.2 hcc (fun r' b ⟨h3, h4⟩ => by cases h3; subst h4; exact hK) (fun x b ⟨h3, _⟩ => by cases h3)
        · cases h
      · cases h
  · cases h
theorem callLaw_ok {d : Option Tmp} {c : Call} {f : Nat} {args : List PV} {z : AS} {ob : Ob} (ht : target st G c = some (f, args)) (h : callLaw S C.nt d st f args = some (z, ob)) (hob : okO ob) (hK : K z) : SOneG G C d (.call c) Q K st := fun o h1 h2 => by
  subst h1
  unfold callLaw at h
  split at h
  · rename_i fn r ob' hF hS hd
    cases h
    obtain ⟨a1, a2, a3⟩ := S.hF _ _ hF
    have hp : pureL args = true := hob _ (List.mem_cons_self ..)
    exact .call h2 ht a1 a2 a3 hp hd (S.hS _ _ _ _ hS (fun p hp => hob p (List.mem_cons_of_mem _ hp)) hp) fun r' hr' => by rw [hr']; exact hK
  · cases h
theorem callFr_ok {d : Option Tmp} {c : Call} {f : Nat} {args : List PV} {z : AS} {ob : Ob} (ht : target st G c = some (f, args)) (h : callFr S C.nt d st f args = some (z, ob)) (hob : okO ob) (hK : K z) : SOneG G C d (.call c) Q K st := fun o h1 h2 => by
  subst h1
  unfold callFr at h
  split at h
  · rename_i fn row ob' hF hW hd
    cases h
    obtain ⟨a1, a2, a3⟩ := S.hF _ _ hF
    have hp : pureL args = true := hob _ (List.mem_cons_self ..)
    exact .callFresh h2 ht a1 a2 a3 hp hd (S.hW _ _ _ _ hW (fun p hp => hob p (List.mem_cons_of_mem _ hp))) hK
  · cases h
theorem callBx_ok {d : Option Tmp} {c : Call} {f : Nat} {args : List PV} {z : AS} {ob : Ob} (ht : target st G c = some (f, args)) (h : callBx S C.nt d st f args = some (z, ob)) (hob : okO ob) (hK : K z) : SOne G C d (.call c) Q K st := fun o h1 h2 => by
  subst h1
  unfold callBx at h
  split at h
  · rename_i b hb
    split at h
    · rename_i xs x fn hxs hx hF
      split at h
      · rename_i r x' ob' hB hd
        cases h
        obtain ⟨a1, a2, a3⟩ := S.hF _ _ hF
        obtain ⟨hc, k1, k2, k3⟩ := S.hB _ _ _ _ _ _ hB hob
        obtain ⟨e1, e2⟩ := renL_ok _ _ hxs
        refine .callF (fun _ => b) [x] h2 ht a1 a2 a3 e1 e2 (fun i y hi => ?_) (by simp [k2]) (fun i j hi hj _ => by simp only [List.length_cons, List.length_nil] at hi hj; omega) hd hc ?_
        · match i with
          | 0 => simp at hi; subst hi; exact hx
          | i + 1 => simp at hi
        · rintro o' bb ⟨rfl, rfl⟩
          refine ⟨_, _, rfl, k1, by simp [k3], List.length_set .., fun i hi => ?_, fun j hj => ?_, hK⟩
          · have : i = 0 := by simp only [List.length_cons, List.length_nil] at hi; omega
            subst this
            exact (List.getElem?_set_self (List.getElem?_eq_some_iff.1 hx).1).trans rfl
          · exact List.getElem?_set_ne (hj 0 (by simp))
      · cases h
    · cases h
  · cases h
theorem callRes_ok (hr : Snd G rec) {f : Nat} {args : List PV} {r : PV} {ob : Ob} (hp : pureL args = true) (h : callRes S rec f args = some (r, ob)) (hb : okO ob) : (∃ fn, S.F f = some fn) ∧ Pure G f args (fun x => x = r) := by
  unfold callRes at h
  split at h
  · cases h
  · rename_i fn hF
    refine ⟨⟨_, hF⟩, ?_⟩
    split at h
    · rename_i r' o' hS
      cases h
      exact S.hS _ _ _ _ hS hb hp
    · split at h
      · rename_i e k r' tl rw o hrec
        cases h
        obtain ⟨k', r2, tl', bx', rw', he, hc⟩ := hr _ _ _ _ hrec hb
        cases he
        exact hc.mono fun o b ⟨ho, hb⟩ => ⟨hb, _, ho, rfl⟩
      · cases h
theorem callLk_ok (hr : Snd G rec) {d : Option Tmp} {c : Call} {rs : List Nat} {z : AS} {ob : Ob} (h : callLk S rec C.nt d st c rs = some (z, ob)) (hob : okO ob) (hK : K z) : SOneG G C d (.call c) Q K st := fun o h1 h2 => by
  subst h1
  unfold callLk at h
  split at h
  · cases h
  · split at h
    · rename_i i is f args ht
      split at h
      · rename_i hc
        simp only [Bool.and_eq_true] at hc
        split at h
        · rename_i r ob' hres
          split at h
          · rename_i hl
            cases h
            obtain ⟨⟨fn, hF⟩, hpure⟩ := callRes_ok hr hc.1 hres hob
            obtain ⟨a1, a2, a3⟩ := S.hF _ _ hF
            exact .look _ h2 ht a1 a2 a3 hc.1 hc.2 hpure fun r' hr' => by subst hr'; exact ⟨hl, hK⟩
          · cases h
            obtain ⟨⟨fn, hF⟩, hpure⟩ := callRes_ok hr hc.1 hres hob
            obtain ⟨a1, a2, a3⟩ := S.hF _ _ hF
            exact .frz _ (.call h2 ht a1 a2 a3 hc.1 hc.2 hpure fun r' hr' => by subst hr'; exact hK)
        · cases h
      · cases h
    · cases h
theorem hpRes_ok (hr : Snd G rec) {b : Bool} {f : Nat} {xs : List PV} {H H' : Hp} {r : PV} {ob : Ob} (h : hpRes S rec b f xs H = some (r, H', ob)) (hb : okO ob) : RCalls G f xs H (fun o b => o = .ret r ∧ b = H') ∧ r.scP (belowN H'.bx.length) (belowN H'.rw.length) = true ∧ H'.scB H'.bx.length H'.rw.length = true := by
  unfold hpRes at h
  split at h
  · rename_i x hV
    cases h
    exact S.hV _ _ _ _ _ _ hV hb
  · split at h
    · split at h
      · rename_i e k r' tl H2 o hrec
        split at h
        · rename_i hc
          cases h
          obtain ⟨k', r2, tl', H3, he, hcc⟩ := hr _ _ _ _ hrec hb
          cases he
          simp only [Bool.and_eq_true] at hc
          exact ⟨hcc, hc.1, hc.2⟩
        · cases h
      · cases h
    · cases h
theorem callHp_ok (hr : Snd G rec) {d : Option Tmp} {c : Call} {f : Nat} {ys : List PV} {z : AS} {ob : Ob} (ht : target st G c = some (f, ys)) (h : callHp S rec C.nt d st f ys = some (z, ob)) (hob : okO ob) (hK : K z) : SOne G C d (.call c) Q K st := fun o h1 h2 => by
  subst h1
  unfold callHp at h
  split at h
  · cases h
  · rename_i fn hF
    obtain ⟨a1, a2, a3⟩ := S.hF _ _ hF
    simp only [] at h
    split at h
    · rename_i hc
      simp only [Bool.and_eq_true] at hc
      split at h
      · rename_i r H' ob' hres
        cases h
        obtain ⟨k1, k2, k3⟩ := hpRes_ok hr hres hob
        refine .callR _ _ h2 ht a1 a2 a3 hc.1.1 hc.1.2 hc.2 k1 (fun r' H2 ⟨e1, e2⟩ => ?_) (fun x H2 ⟨e1, _⟩ => by cases e1)
        cases e1
        subst e2
        exact ⟨k2, k3, hK⟩
      · cases h
    · cases h
theorem stepCall_ok (hr : Snd G rec) {d : Option Tmp} {c : Call} {g : Bool} {z : AS} {ob : Ob} (h : stepCall S rec C.nt d g st c = some (z, ob)) (hob : okO ob) (hK : K z) : SOne G C d (.call c) Q K st ∧ (g = true → SOneG G C d (.call c) Q K st) := by
  unfold stepCall at h
  split at h
  · rename_i f0 a0 ht0
    split at h
    · rename_i r hl
      cases h
      have := callLaw_ok (Q := Q) ht0 hl hob hK
      exact ⟨this.one, fun _ => this⟩
    · split at h
      · rename_i r hl1
        cases h
        have := callFr_ok (Q := Q) ht0 hl1 hob hK
        exact ⟨this.one, fun _ => this⟩
      split at h
      · rename_i r hl4
        cases h
        exact ⟨callHp_ok hr ht0 hl4 hob hK, fun h => by cases h⟩
      split at h
      · rename_i r hl2 _
        cases h
        exact ⟨callBx_ok ht0 hl2 hob hK, fun h => by cases h⟩
      split at h
      · rename_i r hl3
        cases h
        have := callLk_ok (Q := Q) hr hl3 hob hK
        exact ⟨this.one, fun _ => this⟩
      unfold callAt at h
      split at h
      · rename_i f args ht
        split at h
        · rename_i hc
          simp only [Bool.and_eq_true] at hc
          have := callPure_ok (C := C) (Q := Q) hr ht hc.1 hc.2 h hob hK
          exact ⟨fun o h1 h2 => .frz _ (this.one o h1 h2), fun _ o h1 h2 => .frz _ (this o h1 h2)⟩
        · split at h
          · cases h
          · exact ⟨fun o h1 h2 => .frz _ (.frz _ (callBox_ok hr h hob hK o h1 h2)), fun h => by cases h⟩
      · cases h
  · cases h
def no : Option AS → Option (AS × Ob)
  | some s => some (s, [])
  | none => none
theorem no_some {r : Option AS} {s : AS} {o : Ob} (h : no r = some (s, o)) : r = some s := by
  cases r with
  | none => cases h
  | some x => cases h; rfl
def opStep (S : Cfg G) (rec : Rec) (nt : Nat) (d : Option Tmp) (row g : Bool) (st : AS) : Op → Option (AS × Ob)
  | .call c => match c with
    | ⟨.value f, ars, ts⟩ => stepCall S rec nt d g st ⟨.value f, ars, ts⟩
    | ⟨.invoke x n, ars, ts⟩ => stepCall S rec nt d g st ⟨.invoke x n, ars, ts⟩
    | ⟨.builtin .append, ⟨[s, x]⟩, ⟨[t, t']⟩⟩ => match g with
      | true => none
      | false => stepAp G nt st d (told S.orc nt d) s x t t'
    | ⟨.builtin .unsafeString, ⟨[s, x]⟩, ⟨[t, t']⟩⟩ => match g with
      | true => none
      | false => stepUS G nt st d (told S.orc nt d) s x t t'
    | ⟨.builtin .unsafeSliceData, ⟨[x]⟩, ts⟩ => match told S.orc nt d, tval G st (.call ⟨.builtin .unsafeSliceData, ⟨[x]⟩, ts⟩) with
      | true, some (x, o) => match dstOk nt d with
        | true => some (st.put d x, o)
        | false => none
      | _, _ => no (stepG G nt st d (.call ⟨.builtin .unsafeSliceData, ⟨[x]⟩, ts⟩))
    | c => no (stepG G nt st d (.call c))
  | .buildSlice t len parts => no (stepSl G nt st d ((row || told S.orc nt d) && !g) t len parts)
  | .store t p v => match g with
    | true => none
    | false => stepSt G nt S.tst S.tsb st d t p v
  | op => match told S.orc nt d, tval G st op with
    | true, some (x, o) => match dstOk nt d with
      | true => some (st.put d x, o)
      | false => none
    | _, _ => no (stepG G nt st d op)
theorem opStep_ok (hr : Snd G rec) {d : Option Tmp} {op : Op} {row g : Bool} {z : AS} {ob : Ob} (h : opStep S rec C.nt d row g st op = some (z, ob)) (hob : okO ob) (hK : K z) : SOne G C d op Q K st ∧ (g = true → SOneG G C d op Q K st) := by
  unfold opStep at h
  split at h
  · split at h
    · exact stepCall_ok hr h hob hK
    · exact stepCall_ok hr h hob hK
    · split at h
      · cases h
      · exact ⟨stepAp_ok h hob hK, fun h => by cases h⟩
    · split at h
      · cases h
      · exact ⟨stepUS_ok h hob hK, fun h => by cases h⟩
    · split at h
      · rename_i x o ht
        split at h
        · rename_i hd
          cases h
          have : SOneG G C d _ Q K st := fun o' h1 h2 => by
            subst h1
            exact .val (by rw [h2]; exact tval_ok ht hob) hd hK
          exact ⟨this.one, fun _ => this⟩
        · cases h
      · have := stepG_ok (Q := Q) (no_some h) hK
        exact ⟨this.one, fun _ => this⟩
    · have := stepG_ok (Q := Q) (no_some h) hK
      exact ⟨this.one, fun _ => this⟩
  · have := stepSl_ok (Q := Q) (no_some h) hK
    exact ⟨this.1, fun hg => this.2 (by rw [hg]; simp)⟩
  · split at h
    · cases h
    · exact ⟨stepSt_ok h hob hK, fun h => by cases h⟩
  · split at h
    · rename_i x o ht
      split at h
      · rename_i hd
        cases h
        have : SOneG G C d op Q K st := fun o' h1 h2 => by
          subst h1
          exact .val (by rw [h2]; exact tval_ok ht hob) hd hK
        exact ⟨this.one, fun _ => this⟩
      · cases h
    · have := stepG_ok (Q := Q) (no_some h) hK
      exact ⟨this.one, fun _ => this⟩
noncomputable def anyOne (S : Cfg G) (rec : Rec) (nt : Nat) (ops : Array Oper) (ds : List Nat) (l : Array Bool) (st : AS) (i : Nat) : Option (Array Bool × AS × Ob) := match ops[i]? with
  | some o => match gq ops st o with
    | some true => match opStep S rec nt o.dst (isRow ops o) (!ds.contains i) st o.op with
      | some (s, ob) => match adj S.orc S.val nt o.dst s with
        | some (s', o2) => some (l.setIfInBounds i true, s', ob ++ o2)
        | none => none
      | none => none
    | some false => match dstOk nt o.dst with
      | true => some (l.setIfInBounds i true, st.put o.dst und, [])
      | false => none
    | none => none
  | none => none
section
variable {C : Ctx} {Q : AEx → AS → Prop} {st : AS} {ops : Array Oper} {ds : List Nat} {n : Nat}
noncomputable def runL (S : Cfg G) (rec : Rec) (nt : Nat) (ops : Array Oper) (ds : List Nat) : Nat → Array Bool → AS → Option Outs
  | 0, l, st => match Region.ready .any ops l with
    | [] => some ([st], [])
    | _ => none
  | n + 1, l, st => match Region.ready .any ops l with
    | [] => some ([st], [])
    | i :: is => match pick1 G S.orc S.val nt ops ds l st (i :: is) with
      | some (l', s, o) => pre o (runL S rec nt ops ds n l' s)
      | none => match pickF G nt ops l st (i :: is) with
        | some (l', s) => runL S rec nt ops ds n l' s
        | none => eachOf (fun j => match anyOne S rec nt ops ds l st j with
          | some (l', s, o) => pre o (runL S rec nt ops ds n l' s)
          | none => none) (i :: is)
theorem anyOne_ok {S : Cfg G} {rec : Rec} (hr : Snd G rec) {l l' : Array Bool} {i : Nat} {s : AS} {ob : Ob} (h : anyOne S rec C.nt ops ds l st i = some (l', s, ob)) (hob : okO ob) (hK : SAny G C ops Q ds n l' s) :
    ∃ o, ops[i]? = some o ∧
    ((gq ops st o = some true ∧ ((i ∈ ds ∧ SOp G C o Q (SAny G C ops Q ds n (l.setIfInBounds i true)) st) ∨ SOpG G C o Q (SAny G C ops Q ds n (l.setIfInBounds i true)) st)) ∨
     (gq ops st o = some false ∧ dstOk C.nt o.dst = true ∧ SAny G C ops Q ds n (l.setIfInBounds i true) (st.put o.dst und))) := by
  unfold anyOne at h
  split at h
  · rename_i o hi
    split at h
    · rename_i hg
      split at h
      · rename_i z ob' hz
        split at h
        · rename_i z2 o3 hz2
          cases h
          obtain ⟨e1, e2⟩ := adj_eq hz2 hob.right
          obtain ⟨k1, k2⟩ := opStep_ok (Q := Q) hr hz hob.left (SAny.same e1 e2 hK)
          refine ⟨o, hi, .inl ⟨hg, ?_⟩⟩
          by_cases hds : i ∈ ds
          · exact .inl ⟨hds, k1 o rfl rfl⟩
          · exact .inr (k2 (by simpa using hds) o rfl rfl)
        · cases h
      · cases h
    · rename_i hg
      split at h
      · rename_i hd
        cases h
        exact ⟨o, hi, .inr ⟨hg, hd, hK⟩⟩
      · cases h
    · cases h
  · cases h
theorem runL_ok {S : Cfg G} {rec : Rec} (hr : Snd G rec) (hQ : PanicT Q) : ∀ (n : Nat) (l : Array Bool) (st : AS) (outs : Outs), runL S rec C.nt ops ds n l st = some outs → okO outs.2 → (∀ s ∈ outs.1, Q .normal s) → SAny G C ops Q ds n l st := by
  intro n
  induction n with
  | zero =>
    intro l st outs h ho hK
    simp only [runL] at h
    split at h
    · rename_i h1
      cases h
      exact .done (by rw [h1]; rfl) (hK _ (List.mem_singleton.2 rfl))
    · cases h
  | succ n ih =>
    intro l st outs h ho hK
    simp only [runL] at h
    split at h
    · rename_i h1
      cases h
      exact .done (by rw [h1]; rfl) (hK _ (List.mem_singleton.2 rfl))
    · rename_i i is hri
      split at h
      · rename_i l' s o hp
        obtain ⟨o', h1, h2⟩ := pre_some h
        rw [h2] at ho
        exact pick1_ok hQ ho.left _ hp (ih _ _ _ h1 ho.right hK)
      · split at h
        · rename_i l' s hp
          exact pickF_ok hQ _ hp (ih _ _ _ h ho hK)
        · refine .all (by rw [hri]; exact List.cons_ne_nil _ _) fun j hj => ?_
          rw [hri] at hj
          obtain ⟨a, h1, h2, h3⟩ := eachOf_some h j hj
          split at h1
          · rename_i l' s o hone
            obtain ⟨o', h4, h5⟩ := pre_some h1
            have ho' : okO (o ++ o') := fun p hp => ho p (h3 p (by rw [h5]; exact hp))
            exact anyOne_ok hr hone ho'.left (by
              have hl : l' = l.setIfInBounds j true := by
                unfold anyOne at hone
                split at hone
                · split at hone
                  · split at hone
                    · split at hone
                      · cases hone; rfl
                      · cases hone
                    · cases hone
                  · split at hone
                    · cases hone; rfl
                    · cases hone
                  · cases hone
                · cases hone
              subst hl
              exact ih _ _ _ h4 ho'.right fun s hs => hK s (h2 s hs))
          · cases h1
end
def slotsOf (ops : Array Oper) (st : AS) : List Nat := ops.toList.filterMap (·.dst) ++ st.t.map (·.1)
noncomputable def drawAll (S : Cfg G) (rec : Rec) (nt : Nat) (ops : Array Oper) (st : AS) : Option (AEx × AS × Ob) := match runL S rec nt ops (dsOf S.D ops) ops.size (Array.replicate ops.size false) st with
  | some (s :: ss, o) => some (.normal, nrm (slotsOf ops st) s, o ++ ss.map fun t => (sameS (nrm (slotsOf ops st) t) (nrm (slotsOf ops st) s), true))
  | _ => none
def panHp (S : Cfg G) (nt : Nat) (d : Option Tmp) (st : AS) (f : Nat) (ys : List PV) : Option (PV × AS × Ob) := match S.pn f, S.F f with
  | true, some _ =>
    let pb := reachB st.h 3 (addNs (bxsL ys) [])
    let pr := addNs (refsL (cellsB st.h pb)) (addNs (refsL ys) [])
    match scPL (hasN pb) (hasN pr) ys && giveOk st.h pb pr && dstOk nt d with
    | true => match S.P f (mv2L (posN pb) (posN pr) ys) (st.h.give pb pr) with
      | some (x, H', o) => some (x.mv2 (bak pb st.h.bx.length) (bak pr st.h.rw.length), st.back pb pr H', o)
      | none => none
    | false => none
  | _, _ => none
def panStep (S : Cfg G) (nt : Nat) (d : Option Tmp) (st : AS) : Op → Option (PV × AS × Ob)
  | .call ⟨.value (.func f), ars, ts⟩ => match S.pn f with
    | true => match target st G ⟨.value (.func f), ars, ts⟩ with
      | some (f', ys) => panHp S nt d st f' ys
      | none => none
    | false => none
  | .panic x => match st.ev G.Γ x with
    | .iface t y => some (.iface t y, st, [])
    | _ => none
  | _ => none
theorem SOp.panicOp {C : Ctx} {Q : AEx → AS → Prop} {K : AS → Prop} {st : AS} {o : Oper} {x : Operand} {t : TypeId} {y : PV} (ho : o.op = .panic x) (hx : st.ev G.Γ x = .iface t y) (hQ : Q (.panic (.iface t y)) st) : SOp G C o Q K st := fun E a w hr => by
  have hv := ev_rep hr.fr hr.hp x
  rw [hx] at hv
  obtain ⟨u, hu, hur⟩ := hv.iface_inv
  have hrun : (execOp a.eval o).run G.P w = .halt (.panic (.iface t u)) w := by
    simp [execOp, ho, hu, Instr.panic, goPanic, Result.andThen]
  unfold Oper.wp
  rw [hrun]
  exact ⟨.panic (.iface t y), st, E, hQ, ⟨_, rfl, .iface t hur⟩, hr⟩
theorem panStep_ok {S : Cfg G} {C : Ctx} {Q : AEx → AS → Prop} {K : AS → Prop} {st z : AS} {d : Option Tmp} {op : Op} {x : PV} {ob : Ob} (h : panStep S C.nt d st op = some (x, z, ob)) (hob : okO ob) (hQ : Q (.panic x) z) : SOne G C d op Q K st := fun o h1 h2 => by
  subst h1
  unfold panStep at h
  split at h
  · split at h
    · split at h
      · rename_i f' ys ht
        unfold panHp at h
        split at h
        · rename_i fn _ hF
          obtain ⟨a1, a2, a3⟩ := S.hF _ _ hF
          simp only [] at h
          split at h
          · rename_i hc
            simp only [Bool.and_eq_true] at hc
            split at h
            · rename_i y H' ob' hres
              cases h
              obtain ⟨k1, k2, k3⟩ := S.hP _ _ _ _ _ _ hres hob
              refine .callR _ _ h2 ht a1 a2 a3 hc.1.1 hc.1.2 hc.2 k1 (fun r' H2 ⟨e1, e2⟩ => by cases e1) (fun x H2 ⟨e1, e2⟩ => ?_)
              cases e1
              subst e2
              exact ⟨k2, k3, hQ⟩
            · cases h
          · cases h
        · cases h
      · cases h
    · cases h
  · split at h
    · rename_i hx
      cases h
      exact .panicOp h2 hx hQ
    · cases h
  · cases h
theorem SAny.oneP {C : Ctx} {Q : AEx → AS → Prop} {st : AS} {ops : Array Oper} {ds : List Nat} {n : Nat} {i : Nat} {o : Oper} {l : Array Bool} (hi : ops[i]? = some o) (hg : o.guard = none) (hri : Region.ready .any ops l = [i]) (h : SOp G C o Q (fun _ => False) st) : SAny G C ops Q ds (n + 1) l st := fun E a w hr => by
  refine ⟨fun h0 => (by rw [h0] at hri; cases hri), fun j hj => ?_⟩
  rw [hri] at hj
  obtain rfl : j = i := by simpa using hj
  exact wpOp_plain hi hg (Oper.wp_mono (fun a' w' ⟨s, E', k, r⟩ => k.elim) (h E a w hr))
def panOne (S : Cfg G) (nt : Nat) (ops : Array Oper) (st : AS) (i : Nat) : Option (PV × AS × Ob) := match ops[i]? with
  | some o => match o.guard with
    | none => panStep S nt o.dst st o.op
    | some _ => none
  | none => none
theorem Oper.wp_monoQ {P : Program} {Q Q' : Exit → Act → World → Prop} {o : Oper} {a : Act} {w : World} {K : Act → World → Prop} (hq : ∀ e a w, Q' e a w → Q e a w) (hh : o.wp P a w K Q') : o.wp P a w K Q := by
  have hout : LetsOut Q' → LetsOut Q := fun ⟨a, w, h⟩ => ⟨a, w, hq _ _ _ h⟩
  unfold Oper.wp at *
  generalize (execOp a.eval o).run P w = r at *
  cases r with
  | ok n w' =>
    cases n <;> simp only [Oper.upon] at hh ⊢ <;>
      first
        | exact Calls.mono hh (fun e w'' he => by cases e <;> first | exact hq _ _ _ he | exact hout he | exact he)
        | exact hh
  | halt x w' => cases x <;> simp only [Oper.upon] at hh ⊢ <;> first | exact hq _ _ _ hh | exact hh
theorem SOp.wkp {C : Ctx} {Q Q' : AEx → AS → Prop} {K : AS → Prop} {st : AS} {o : Oper} (h : SOp G C o Q' K st) (hq : ∀ e s, Q' e s → ∃ t, Q e ⟨t, s.h⟩ ∧ (t = [] ∨ t = s.t)) : SOp G C o Q K st := fun E a w hr => by
  refine Oper.wp_monoQ ?_ (h E a w hr)
  rintro e a' w' ⟨ae, s, E', q, x, r⟩
  obtain ⟨t, q', ht⟩ := hq _ _ q
  refine ⟨ae, ⟨t, s.h⟩, E', q', x, ?_⟩
  rcases ht with rfl | rfl
  · exact ⟨r.defers, r.size, fun s => .junk _, r.hp, r.lo, r.nb, r.β, r.own, r.up, r.dn, r.keep, r.os, r.tape, r.out, r.sz, r.rows⟩
  · exact r
noncomputable def runCode (S : Cfg G) (rec : Rec) (nt : Nat) (st : AS) : Code → Option (AEx × AS × Ob)
  | .skip => some (.normal, st, [])
  | .label _ => some (.normal, st, [])
  | .exit i => some (.exit i, st, [])
  | .ret => some (.ret, st, [])
  | .seq a b => match rec (.code nt a st) with
    | some (.normal, s, o) => app o (rec (.code nt b s))
    | r => r
  | .block id c => match rec (.code nt c st) with
    | some (.exit i, s, o) => match Nat.beq i id with
      | true => some (.normal, s, o)
      | false => some (.exit i, s, o)
    | r => r
  | .scope c => rec (.code nt c st)
  | .cond x a b => match st.ev G.Γ x with
    | .bool v => match way S.orc nt x v with
      | (true, o) => app o (rec (.code nt a st))
      | (false, o) => app o (rec (.code nt b st))
    | _ => none
  | .loop c => match rec (.code nt c st) with
    | some (.normal, s, o) => app o (rec (.code nt (.loop c) s))
    | r => r
  | .region _ ops false => rec (.ops nt (strip ops.toList ops.toList) st)
  | .region _ ops true => match rec (.any nt ops (dsOf S.D ops) ops.size (Array.replicate ops.size false) st) with
    | some r => some r
    | none => drawAll S rec nt ops st
  | _ => none
noncomputable def runOps (S : Cfg G) (rec : Rec) (nt : Nat) (st : AS) : List SO → Option (AEx × AS × Ob)
  | [] => some (.normal, st, [])
  | ⟨d, op, none⟩ :: r => match panStep S nt d st op with
    | some (x, s, o) => some (.panic x, s, o)
    | none => match opStep S rec nt d (grows d r) false st op with
      | some (s, o) => match adj S.orc S.val nt d s with
        | some (s', o2) => app (o ++ o2) (rec (.ops nt r s'))
        | none => none
      | none => none
  | ⟨d, op, some (some t, want)⟩ :: r => match lk st.t t with
    | .bool b => match dstOk nt d with
      | true => match way (fun _ _ => none) nt (.tmp t) b with
        | (v, o) => match v == want with
          | true => match opStep S rec nt d (grows d r) false st op with
            | some (s, o') => match adj S.orc S.val nt d s with
              | some (s', o2) => app (o ++ o' ++ o2) (rec (.ops nt r s'))
              | none => none
            | none => none
          | false => app o (rec (.ops nt r (st.put d und)))
      | false => none
    | .tup [] => match dstOk nt d with
      | true => rec (.ops nt r (st.put d und))
      | false => none
    | _ => none
  | _ => none
noncomputable def runAny (S : Cfg G) (rec : Rec) (nt : Nat) (ops : Array Oper) (ds : List Nat) (l : Array Bool) (st : AS) : Nat → Option (AEx × AS × Ob)
  | 0 => match Region.ready .any ops l with
    | [] => some (.normal, st, [])
    | _ => none
  | n + 1 => match Region.ready .any ops l with
    | [] => some (.normal, st, [])
    | is => match pick1 G S.orc S.val nt ops ds l st is with
      | some (l', s, o) => app o (rec (.any nt ops ds n l' s))
      | none => match is with
        | [i] => match panOne S nt ops st i with
          | some (x, s, o) => some (.panic x, ⟨[], s.h⟩, o)
          | none => match anyOne S rec nt ops ds l st i with
            | some (l', s, o) => app o (rec (.any nt ops ds n l' s))
            | none => none
        | _ => none
def finish (G : Prg) (fn : Func) (nb : Nat) (s : AS) (o : Ob) : Option (AEx × AS × Ob) := match aret G fn s with
  | some r => match r.sc nb && (s.h.bx.take nb).all (fun b => scL nb b.cs) && Nat.ble nb s.h.bx.length with
    | true => some (.ret, ⟨[(0, r)], ⟨s.h.bx.take nb, []⟩⟩, o)
    | false => match r.sc s.h.bx.length && s.h.bx.all (fun b => scL s.h.bx.length b.cs) && Nat.ble nb s.h.bx.length with
      | true => some (.ret, ⟨[(0, r)], ⟨s.h.bx.take s.h.bx.length, []⟩⟩, o)
      | false => none
  | none => none
noncomputable def runCall (S : Cfg G) (rec : Rec) (f : Nat) (args : List PV) (bx : List Box) : Option (AEx × AS × Ob) := match S.F f with
  | some fn => match fn.body, Nat.ble args.length fn.ntmps with
    | some c, true => match rec (.code fn.ntmps c ⟨enum 0 args, ⟨bx, []⟩⟩) with
      | some (.normal, s, o) => finish G fn bx.length (frzAll s) o
      | some (.ret, s, o) => finish G fn bx.length (frzAll s) o
      | _ => none
    | _, _ => none
  | none => none
def topN : List Nat → Nat → Nat
  | [], n => n
  | k :: ks, n => topN ks (match Nat.blt k n with
    | true => n
    | false => k + 1)
def restN : Nat → Nat → List Nat
  | 0, _ => []
  | k + 1, n => n :: restN k (n + 1)
def finishH (G : Prg) (fn : Func) (nb nr m : Nat) (s : AS) (o : Ob) : Option (AEx × AS × Ob) :=
  let n := topN (refsL ((s.h.bx.take m).flatMap (·.cs))) nr
  let s' := frz (restN (s.h.rw.length - n) n) s
  match aret G fn s' with
  | some r => match Nat.ble nb m && Nat.ble m s'.h.bx.length && Nat.ble nr n && Nat.ble n s'.h.rw.length && r.scP (belowN m) (belowN n) && (s'.h.take m n).scB m n with
    | true => some (.ret, ⟨[(0, r)], s'.h.take m n⟩, o)
    | false => none
  | none => none
def orElseR : Option (AEx × AS × Ob) → Option (AEx × AS × Ob) → Option (AEx × AS × Ob)
  | some x, _ => some x
  | none, y => y
noncomputable def runCallH (S : Cfg G) (rec : Rec) (f : Nat) (args : List PV) (H : Hp) : Option (AEx × AS × Ob) := match S.F f with
  | some fn => match fn.body, Nat.ble args.length fn.ntmps with
    | some c, true => match rec (.code fn.ntmps c ⟨enum 0 args, H⟩) with
      | some (.normal, s, o) => orElseR (finishH G fn H.bx.length H.rw.length H.bx.length s o) (finishH G fn H.bx.length H.rw.length s.h.bx.length s o)
      | some (.ret, s, o) => orElseR (finishH G fn H.bx.length H.rw.length H.bx.length s o) (finishH G fn H.bx.length H.rw.length s.h.bx.length s o)
      | _ => none
    | _, _ => none
  | none => none
noncomputable def stepR (S : Cfg G) (rec : Rec) : Rec
  | .code nt c st => runCode S rec nt st c
  | .ops nt l st => runOps S rec nt st l
  | .op _ _ _ _ _ _ => none
  | .any nt ops ds n l st => runAny S rec nt ops ds l st n
  | .call f args bx => runCall S rec f args bx
  | .callH f args H => runCallH S rec f args H
noncomputable def run (S : Cfg G) (n : Nat) : Rec := Nat.rec (fun _ => none) (fun _ ih => stepR S ih) n
theorem At.mono {e : AEx} {s : AS} (h : Q e s) : ∀ e' s', At e s e' s' → Q e' s' := fun _ _ ⟨h1, h2⟩ => by subst h1; subst h2; exact h
theorem panic_At {e : AEx} {s : AS} (h : ∀ x, e = .panic x → s.t = []) : PanicT (At e s) := fun x t ⟨h1, h2⟩ => ⟨h1, by
  have := h x h1.symm
  subst h2
  cases t
  simp only at this
  subst this
  rfl⟩
theorem runCode_ok (hr : Snd G rec) {nt : Nat} {c : Code} {e : AEx} {s : AS} {ob : Ob} (h : runCode S rec nt st c = some (e, s, ob)) (hob : okO ob) : Good G (.code nt c st) e s := by
  have triv : ∀ {c : Code} {e : AEx} {s : AS}, noPan e = true → (∀ c', c ≠ .loop c') → (∀ C : Ctx, C.nt = nt → SWP G C c (At e s) st) → Good G (.code nt c st) e s := fun h1 h2 h3 => ⟨h1, h3, fun c' hc => absurd hc (h2 c')⟩
  cases c with
  | skip => cases h; exact triv rfl (fun _ h => by cases h) fun C hC => .skip ⟨rfl, rfl⟩
  | label l => cases h; exact triv rfl (fun _ h => by cases h) fun C hC => .label ⟨rfl, rfl⟩
  | exit i => cases h; exact triv rfl (fun _ h => by cases h) fun C hC => .exit ⟨rfl, rfl⟩
  | ret => cases h; exact triv rfl (fun _ h => by cases h) fun C hC => .ret ⟨rfl, rfl⟩
  | seq a b =>
    simp only [runCode] at h
    split at h
    · rename_i s1 o h1
      obtain ⟨o', hh, rfl⟩ := app_some h; replace h := hh
      obtain ⟨_, g1, _⟩ := hr _ _ _ _ h1 hob.left
      obtain ⟨n2, g2, _⟩ := hr _ _ _ _ h hob.right
      exact triv n2 (fun _ h => by cases h) fun C hC => .seq ((g1 C hC).mono (At.mono (g2 C hC)))
    · rename_i hne
      obtain ⟨n1, g1, _⟩ := hr _ _ _ _ h hob
      refine triv n1 (fun _ h => by cases h) fun C hC => .seq ((g1 C hC).mono (At.mono ?_))
      cases e with
      | normal => exact absurd h (by intro hh; exact hne _ _ hh)
      | exit i => exact ⟨rfl, rfl⟩
      | ret => exact ⟨rfl, rfl⟩
      | panic x => exact ⟨rfl, rfl⟩
  | block id c =>
    simp only [runCode] at h
    split at h
    · rename_i i s1 o h1
      split at h
      · rename_i hb
        cases h
        obtain ⟨_, g1, _⟩ := hr _ _ _ _ h1 hob
        obtain rfl := Nat.eq_of_beq_eq_true hb
        exact triv rfl (fun _ h => by cases h) fun C hC => .block ((g1 C hC).mono (At.mono (by simp only [blockQ, if_true]; exact ⟨rfl, rfl⟩)))
      · rename_i hb
        cases h
        obtain ⟨_, g1, _⟩ := hr _ _ _ _ h1 hob
        have hne : i ≠ id := fun he => by subst he; rw [Nat.beq_refl] at hb; cases hb
        exact triv rfl (fun _ h => by cases h) fun C hC => .block ((g1 C hC).mono (At.mono (by simp only [blockQ, if_neg hne]; exact ⟨rfl, rfl⟩)))
    · rename_i hne
      obtain ⟨n1, g1, _⟩ := hr _ _ _ _ h hob
      refine triv n1 (fun _ h => by cases h) fun C hC => .block ((g1 C hC).mono (At.mono ?_))
      cases e with
      | exit i => exact absurd h (by intro hh; exact hne _ _ _ hh)
      | normal => exact ⟨rfl, rfl⟩
      | ret => exact ⟨rfl, rfl⟩
      | panic x => exact ⟨rfl, rfl⟩
  | scope c =>
    obtain ⟨n1, g1, _⟩ := hr _ _ _ _ h hob
    exact triv n1 (fun _ h => by cases h) fun C hC => .scope (g1 C hC)
  | cond x a b =>
    simp only [runCode] at h
    split at h
    · rename_i v hx
      split at h
      · rename_i o hw
        obtain ⟨o', hh, rfl⟩ := app_some h; replace h := hh
        obtain ⟨n1, g1, _⟩ := hr _ _ _ _ h hob.right
        have := way_ok (orc := S.orc) (nt := nt) (x := x) (b := v) (by rw [hw]; exact hob.left)
        rw [hw] at this
        simp only [] at this
        subst this
        exact triv n1 (fun _ h => by cases h) fun C hC => .cond hx (fun _ => g1 C hC) (fun h => by cases h)
      · rename_i o hw
        obtain ⟨o', hh, rfl⟩ := app_some h; replace h := hh
        obtain ⟨n1, g1, _⟩ := hr _ _ _ _ h hob.right
        have := way_ok (orc := S.orc) (nt := nt) (x := x) (b := v) (by rw [hw]; exact hob.left)
        rw [hw] at this
        simp only [] at this
        subst this
        exact triv n1 (fun _ h => by cases h) fun C hC => .cond hx (fun h => by cases h) (fun _ => g1 C hC)
    · cases h
  | loop c =>
    simp only [runCode] at h
    have fin : noPan e = true → (∃ m, ∀ C : Ctx, C.nt = nt → SRounds G C c (At e s) m st) → Good G (.code nt (.loop c) st) e s := fun h1 ⟨m, h2⟩ =>
      ⟨h1, fun C hC => (h2 C hC).loop, fun c' hc => by cases hc; exact ⟨m, h2⟩⟩
    split at h
    · rename_i s1 o h1
      obtain ⟨o', hh, rfl⟩ := app_some h; replace h := hh
      obtain ⟨_, g1, _⟩ := hr _ _ _ _ h1 hob.left
      obtain ⟨n2, _, g2⟩ := hr _ _ _ _ h hob.right
      obtain ⟨m, g3⟩ := g2 c rfl
      exact fin n2 ⟨m + 1, fun C hC => (g1 C hC).mono (At.mono (g3 C hC))⟩
    · rename_i hne
      obtain ⟨n1, g1, _⟩ := hr _ _ _ _ h hob
      refine fin n1 ⟨1, fun C hC => (g1 C hC).mono (At.mono ?_)⟩
      cases e with
      | normal => exact absurd h (by intro hh; exact hne _ _ hh)
      | exit i => exact ⟨rfl, rfl⟩
      | ret => exact ⟨rfl, rfl⟩
      | panic x => exact ⟨rfl, rfl⟩
  | region id ops draw =>
    cases draw with
    | false =>
      obtain ⟨_, g1⟩ := hr _ _ _ _ h hob
      exact triv rfl (fun _ h => by cases h) fun C hC => .plain rfl (g1 C hC)
    | true =>
      simp only [runCode] at h
      split at h
      · rename_i r hrr
        cases h
        obtain ⟨_, g1⟩ := hr _ _ _ _ hrr hob
        exact triv rfl (fun _ h => by cases h) fun C hC => .draw _ _ rfl (g1 C hC)
      · unfold drawAll at h
        split at h
        · rename_i z zs o hz
          cases h
          refine triv rfl (fun _ h => by cases h) fun C hC => ?_
          subst hC
          have h1 : SWP G C (.region id ops true) (fun e s => e = .normal ∧ s ∈ z :: zs) st := .draw _ _ rfl (runL_ok hr (fun x t ⟨h, _⟩ => by cases h) _ _ _ _ hz hob.left fun s hs => ⟨rfl, hs⟩)
          refine SWP.normQ (h1.mono fun e s ⟨he, hs⟩ => ⟨slotsOf ops st, he, ?_⟩)
          rcases List.mem_cons.1 hs with rfl | hs
          · rfl
          · exact of_sameS (hob (_, true) (List.mem_append_right _ (List.mem_map.2 ⟨s, hs, rfl⟩)))
        · cases h
  | rangeFunc | goto | refuse => cases h
theorem runOps_ok (hr : Snd G rec) {nt : Nat} {l : List SO} {e : AEx} {s : AS} {ob : Ob} (h : runOps S rec nt st l = some (e, s, ob)) (hob : okO ob) : Good G (.ops nt l st) e s := by
  unfold runOps at h
  split at h
  · cases h; exact ⟨rfl, fun C hC => .nil ⟨rfl, rfl⟩⟩
  · split at h
    · rename_i d op r x z o hz
      cases h
      exact ⟨rfl, fun C hC => .cons (by subst hC; exact panStep_ok hz hob ⟨rfl, rfl⟩)⟩
    split at h
    · rename_i d op r _ z o hz
      split at h
      · rename_i z2 o2 hz2
        obtain ⟨o', hh, rfl⟩ := app_some h; replace h := hh
        obtain ⟨_, g1⟩ := hr _ _ _ _ h hob.right
        exact ⟨rfl, fun C hC => .cons (by subst hC; exact (opStep_ok hr hz hob.left.left (adj_ok hz2 hob.left.right (g1 C rfl))).1)⟩
      · cases h
    · cases h
  · split at h
    · rename_i b hb
      split at h
      · rename_i hd
        split at h
        rename_i v o hw
        split at h
        · rename_i hbw
          split at h
          · rename_i z o2 hz
            split at h
            · rename_i z2 o3 hz2
              obtain ⟨o', hh, rfl⟩ := app_some h; replace h := hh
              obtain ⟨_, g1⟩ := hr _ _ _ _ h hob.right
              have hv := way_ok (by rw [hw]; exact hob.left.left.left)
              rw [hw] at hv
              simp only [] at hv
              subst hv
              exact ⟨rfl, fun C hC => .guard hb (by subst hC; exact hd) (fun _ => by subst hC; exact (opStep_ok hr hz hob.left.left.right (adj_ok hz2 hob.left.right (g1 C rfl))).1) (fun hb' => by rw [hb'] at hbw; simp at hbw)⟩
            · cases h
          · cases h
        · rename_i hbw
          obtain ⟨o', hh, rfl⟩ := app_some h; replace h := hh
          obtain ⟨_, g1⟩ := hr _ _ _ _ h hob.right
          have hv := way_ok (by rw [hw]; exact hob.left)
          rw [hw] at hv
          simp only [] at hv
          subst hv
          exact ⟨rfl, fun C hC => .guard hb (by subst hC; exact hd) (fun hb' => by rw [hb'] at hbw; simp at hbw) (fun _ => g1 C hC)⟩
      · cases h
    · rename_i hb
      split at h
      · rename_i hd
        obtain ⟨_, g1⟩ := hr _ _ _ _ h hob
        exact ⟨rfl, fun C hC => .guardU hb (by subst hC; exact hd) (g1 C hC)⟩
      · cases h
    · cases h
  · cases h
theorem runAny_ok (hr : Snd G rec) {nt : Nat} {ops : Array Oper} {ds : List Nat} {n : Nat} {l : Array Bool} {e : AEx} {s : AS} {ob : Ob} (h : runAny S rec nt ops ds l st n = some (e, s, ob)) (hob : okO ob) : Good G (.any nt ops ds n l st) e s := by
  cases n with
  | zero =>
    simp only [runAny] at h
    split at h
    · rename_i h1
      cases h
      exact ⟨fun x h => (by cases h), fun C hC => .done (by rw [h1]; rfl) ⟨rfl, rfl⟩⟩
    · cases h
  | succ n =>
    simp only [runAny] at h
    split at h
    · rename_i h1
      cases h
      exact ⟨fun x h => (by cases h), fun C hC => .done (by rw [h1]; rfl) ⟨rfl, rfl⟩⟩
    · split at h
      · rename_i l' z o hz
        obtain ⟨o', hh, rfl⟩ := app_some h; replace h := hh
        obtain ⟨g0, g1⟩ := hr _ _ _ _ h hob.right
        exact ⟨g0, fun C hC => by subst hC; exact pick1_ok (panic_At g0) hob.left _ hz (g1 C rfl)⟩
      · split at h
        · rename_i lst i hri
          split at h
          · rename_i x z o hz
            cases h
            refine ⟨fun _ _ => rfl, fun C hC => ?_⟩
            subst hC
            unfold panOne at hz
            split at hz
            · rename_i oo hi
              split at hz
              · rename_i hg
                by_cases hds : i ∈ ds
                · exact .last (l.setIfInBounds i true) hi hg (by simp [readyOk, hri]) (by simpa using hds) (SOp.wkp (panStep_ok (Q := At (.panic x) z) hz hob ⟨rfl, rfl⟩ oo rfl rfl) fun e s ⟨h1, h2⟩ => ⟨[], ⟨h1, by rw [h2]⟩, .inl rfl⟩)
                · exact .oneP hi hg hri (SOp.wkp (K := fun _ => False) (panStep_ok (Q := At (.panic x) z) hz hob ⟨rfl, rfl⟩ oo rfl rfl) fun e s ⟨h1, h2⟩ => ⟨[], ⟨h1, by rw [h2]⟩, .inl rfl⟩)
              · cases hz
            · cases hz
          split at h
          · rename_i l' z o hz
            obtain ⟨o', hh, rfl⟩ := app_some h; replace h := hh
            obtain ⟨g0, g1⟩ := hr _ _ _ _ h hob.right
            refine ⟨g0, fun C hC => ?_⟩
            subst hC
            unfold anyOne at hz
            split at hz
            · rename_i oo hi
              split at hz
              · rename_i hg
                split at hz
                · rename_i z' o2 hz'
                  split at hz
                  · rename_i z2 o3 hz2
                    cases hz
                    obtain ⟨e1, e2⟩ := adj_eq hz2 hob.left.right
                    obtain ⟨k1, k2⟩ := opStep_ok (Q := At e s) hr hz' hob.left.left (SAny.same e1 e2 (g1 C rfl))
                    by_cases hds : i ∈ ds
                    · exact .lastT hi hg (by simp [readyOk, hri]) hds (k1 oo rfl rfl)
                    · exact .oneT hi hg (by simp [readyOk, hri]) (k2 (by simpa using hds) oo rfl rfl)
                  · cases hz
                · cases hz
              · rename_i hg
                split at hz
                · rename_i hd
                  cases hz
                  exact .oneF hi hg hd (by simp [readyOk, hri]) (g1 C rfl)
                · cases hz
              · cases hz
            · cases hz
          · cases h
        · cases h
theorem finish_ok {fn : Func} {nb : Nat} {s z : AS} {e : AEx} {o o2 : Ob} (h : finish G fn nb s o = some (e, z, o2)) : o2 = o ∧ ∃ k r tl bx' rw, z = ⟨(k, r) :: tl, ⟨bx', rw⟩⟩ ∧ ∃ (m : Nat), nb ≤ m ∧ m ≤ s.h.bx.length ∧ aret G fn s = some r ∧ r.sc m = true ∧ ((s.h.bx.take m).all fun b => scL m b.cs) = true ∧ bx' = s.h.bx.take m := by
  unfold finish at h
  split at h
  · rename_i r hr
    split at h
    · rename_i hc
      cases h
      simp only [Bool.and_eq_true, Nat.ble_eq] at hc
      exact ⟨rfl, _, _, _, _, _, rfl, nb, Nat.le_refl _, hc.2, hr, hc.1.1, hc.1.2, rfl⟩
    · split at h
      · rename_i hc
        cases h
        simp only [Bool.and_eq_true, Nat.ble_eq] at hc
        exact ⟨rfl, _, _, _, _, _, rfl, s.h.bx.length, hc.2, Nat.le_refl _, hr, hc.1.1, by rw [List.take_length]; exact hc.1.2, rfl⟩
      · cases h
  · cases h
theorem runCall_ok (hr : Snd G rec) {f : Nat} {args : List PV} {bx : List Box} {e : AEx} {s : AS} {ob : Ob} (h : runCall S rec f args bx = some (e, s, ob)) (hob : okO ob) : Good G (.call f args bx) e s := by
  unfold runCall at h
  split at h
  · rename_i fn hF
    obtain ⟨a1, _, _⟩ := S.hF _ _ hF
    split at h
    · rename_i c hb hn
      have go : ∀ (e0 : AEx) (s0 : AS) (o : Ob), e0 = .normal ∨ e0 = .ret → rec (.code fn.ntmps c ⟨enum 0 args, ⟨bx, []⟩⟩) = some (e0, s0, o) → finish G fn bx.length (frzAll s0) o = some (e, s, ob) → Good G (.call f args bx) e s := fun e0 s0 o he0 h1 h2 => by
        obtain ⟨rfl, k, r, tl, bx', rw, rfl, m, h3, h4, h5, h6, h7, h8⟩ := finish_ok h2
        obtain ⟨_, g1, _⟩ := hr _ _ _ _ h1 hob
        refine ⟨k, r, tl, bx', rw, rfl, .of_swp a1 hb (by simpa using hn) fun w0 E0 => .frzAll ((g1 _ rfl).mono (At.mono ?_))⟩
        rcases he0 with rfl | rfl
        · exact ⟨m, r, h3, h4, h5, h6, h7, rfl, h8.symm⟩
        · exact ⟨m, r, h3, h4, h5, h6, h7, rfl, h8.symm⟩
      split at h
      · rename_i s0 o h1; exact go _ _ _ (.inl rfl) h1 h
      · rename_i s0 o h1; exact go _ _ _ (.inr rfl) h1 h
      · cases h
    · cases h
  · cases h
def frzRQ (Q : AEx → AS → Prop) : AEx → AS → Prop
  | .panic x, s => Q (.panic x) s
  | e, s => ∃ rs, Q e (frz rs s)
theorem SWP.frzR {C : Ctx} {Q : AEx → AS → Prop} {st : AS} {c : Code} (h : SWP G C c (frzRQ Q) st) : SWP G C c Q st := fun E a w hr =>
  wp_mono (h E a w hr) fun e a w ⟨ae, s, E', q, x, r⟩ => by
    cases ae with
    | panic y => exact ⟨_, s, E', q, x, r⟩
    | normal => obtain ⟨rs, q⟩ := q; obtain ⟨E2, r2⟩ := r.frz (rs := rs); exact ⟨.normal, _, E2, q, x, r2⟩
    | ret => obtain ⟨rs, q⟩ := q; obtain ⟨E2, r2⟩ := r.frz (rs := rs); exact ⟨.ret, _, E2, q, x, r2⟩
    | exit i => obtain ⟨rs, q⟩ := q; obtain ⟨E2, r2⟩ := r.frz (rs := rs); exact ⟨.exit i, _, E2, q, x, r2⟩
theorem finishH_ok {fn : Func} {nb nr m : Nat} {s z : AS} {e : AEx} {o o2 : Ob} (h : finishH G fn nb nr m s o = some (e, z, o2)) : o2 = o ∧ ∃ r H' rs, z = ⟨[(0, r)], H'⟩ ∧ FinHR G fn nb nr (fun o b => o = .ret r ∧ b = H') (frz rs s) := by
  unfold finishH at h
  simp only [] at h
  split at h
  · rename_i r hr
    split at h
    · rename_i hc
      cases h
      simp only [Bool.and_eq_true, Nat.ble_eq] at hc
      obtain ⟨⟨⟨⟨⟨h1, h2⟩, h3⟩, h4⟩, h5⟩, h6⟩ := hc
      exact ⟨rfl, r, _, _, rfl, m, _, r, h1, h2, h3, h4, hr, h5, h6, rfl, rfl⟩
    · cases h
  · cases h
theorem orElseR_some {x y : Option (AEx × AS × Ob)} {z : AEx × AS × Ob} (h : orElseR x y = some z) : x = some z ∨ y = some z := by
  cases x with
  | some a => cases h; exact .inl rfl
  | none => exact .inr h
theorem runCallH_ok (hr : Snd G rec) {f : Nat} {args : List PV} {H : Hp} {e : AEx} {s : AS} {ob : Ob} (h : runCallH S rec f args H = some (e, s, ob)) (hob : okO ob) : Good G (.callH f args H) e s := by
  unfold runCallH at h
  split at h
  · rename_i fn hF
    obtain ⟨a1, _, _⟩ := S.hF _ _ hF
    split at h
    · rename_i c hb hn
      have go1 : ∀ (e0 : AEx) (s0 : AS) (o : Ob) (m : Nat), e0 = .normal ∨ e0 = .ret → rec (.code fn.ntmps c ⟨enum 0 args, H⟩) = some (e0, s0, o) → finishH G fn H.bx.length H.rw.length m s0 o = some (e, s, ob) → Good G (.callH f args H) e s := fun e0 s0 o m he0 h1 h2 => by
        obtain ⟨rfl, r, H', rs, rfl, h3⟩ := finishH_ok h2
        obtain ⟨_, g1, _⟩ := hr _ _ _ _ h1 hob
        refine ⟨0, r, [], H', rfl, .of_swp a1 hb (by simpa using hn) fun C hC _ => .frzR ((g1 C hC).mono (At.mono ?_))⟩
        rcases he0 with rfl | rfl
        · exact ⟨rs, h3⟩
        · exact ⟨rs, h3⟩
      have go : ∀ (e0 : AEx) (s0 : AS) (o : Ob), e0 = .normal ∨ e0 = .ret → rec (.code fn.ntmps c ⟨enum 0 args, H⟩) = some (e0, s0, o) → orElseR (finishH G fn H.bx.length H.rw.length H.bx.length s0 o) (finishH G fn H.bx.length H.rw.length s0.h.bx.length s0 o) = some (e, s, ob) → Good G (.callH f args H) e s := fun e0 s0 o he0 h1 h2 => by
        rcases orElseR_some h2 with h2 | h2
        · exact go1 _ _ _ _ he0 h1 h2
        · exact go1 _ _ _ _ he0 h1 h2
      split at h
      · rename_i s0 o h1; exact go _ _ _ (.inl rfl) h1 h
      · rename_i s0 o h1; exact go _ _ _ (.inr rfl) h1 h
      · cases h
    · cases h
  · cases h
theorem run_ok (S : Cfg G) (n : Nat) : Snd G (run S n) := by
  induction n with
  | zero => intro cmd e s o h; cases h
  | succ n ih =>
    intro cmd e s o h hob
    have h' : stepR S (run S n) cmd = some (e, s, o) := h
    cases cmd with
    | code nt c st => exact runCode_ok ih h' hob
    | ops nt l st => exact runOps_ok ih h' hob
    | op => cases h'
    | any nt ops ds n l st => exact runAny_ok ih h' hob
    | call f args bx => exact runCall_ok ih h' hob
    | callH f args H => exact runCallH_ok ih h' hob
noncomputable def call (S : Cfg G) (n : Nat) (f : Nat) (args : List PV) : Option (PV × Ob) := match run S n (.call f args []) with
  | some (_, ⟨(_, r) :: _, ⟨[], _⟩⟩, o) => some (r, o)
  | _ => none
theorem Pure.runO {S : Cfg G} (n : Nat) {f : Nat} {args : List PV} {r : PV} {o : Ob} (h : call S n f args = some (r, o)) (ho : okO o) : Pure G f args (fun x => x = r) := by
  unfold call at h
  split at h
  · rename_i e k r' tl rw o' hrec
    cases h
    obtain ⟨k', r', tl', bx', rw', he, hc⟩ := run_ok S n _ _ _ _ hrec ho
    cases he
    exact hc.mono fun o b ⟨ho, hb⟩ => ⟨hb, _, ho, rfl⟩
  · cases h
theorem Pure.run {S : Cfg G} (n : Nat) {f : Nat} {args : List PV} {r : PV} (h : call S n f args = some (r, [])) : Pure G f args (fun x => x = r) := .runO n h (fun p hp => by cases hp)
end
end Go.AS
namespace Go.AS
open Go.RowKit
set_option linter.unusedVariables false
set_option linter.unusedSimpArgs false
section
variable {H : Type}
def pvAll (f : DataW H → Option (List PV)) (sz : Nat) : List (DataW H) → Option (List PV)
  | [] => some []
  | d :: ds => match f d, pvAll f sz ds with
    | some xs, some ys => if xs.length = sz then some (xs ++ ys) else none
    | _, _ => none
def pvFs (T : TypeId → Option TD) (f : TypeId → DataW H → Option (List PV)) : Nat → List (Nat × TypeId) → List (DataW H) → Option (List PV)
  | _, [], [] => some []
  | o, (off, t) :: fs, d :: ds => match T t, f t d, pvFs T f (o + ((T t).map (·.size)).getD 0) fs ds with
    | some td, some xs, some ys => if off = o ∧ xs.length = td.size then some (xs ++ ys) else none
    | _, _, _ => none
  | _, _, _ => none
def pvs (T : TypeId → Option TD) : Nat → TypeId → DataW H → Option (List PV)
  | 0, _, _ => none
  | n + 1, t, d => match T t, d with
    | some ⟨.int _, _, _, _⟩, .lit (.int k z) => some [.int k z]
    | some ⟨.bool, _, _, _⟩, .lit (.bool b) => some [.bool b]
    | some ⟨.str, _, _, _⟩, .lit (.string bs) => some [.str ⟨bs.toArray⟩]
    | some ⟨.slice _, _, _, _⟩, .nil => some [.nil]
    | some ⟨.slice e, _, _, _⟩, .slice es _ => match T e with
      | some td => match pvAll (pvs T n e) td.size es with
        | some xs => some [.slice es.length xs]
        | none => none
      | none => none
    | some ⟨.struct fs, sz, _, _⟩, .agg ds => match pvFs T (pvs T n) 0 fs ds with
      | some xs => if xs.length = sz then some xs else none
      | none => none
    | some ⟨.array m e, sz, _, _⟩, .agg ds => match T e with
      | some td => match pvAll (pvs T n e) td.size ds with
        | some xs => if ds.length = m ∧ xs.length = sz then some xs else none
        | none => none
      | none => none
    | _, _ => none
end
def old (w : World) : Nat → Prop := fun k => k < w.heap.size
theorem IReps.nil (im : Nat → Prop) (w : World) : IReps im w [] [] := ⟨rfl, fun j x v h => by simp at h⟩
theorem IReps.one {im : Nat → Prop} {w : World} {x : PV} {v : Value} (h : IRep im w x v) : IReps im w [x] [v] := ⟨rfl, fun j y u hy hu => by
  cases j with
  | zero => simp at hy hu; subst hy; subst hu; exact h
  | succ j => simp at hy⟩
theorem cellsOf_td {P : Program} {t : TypeId} {td : TD} (h : td.ok P t) : P.cellsOf t = td.size := by
  obtain ⟨i, z, hi, hs, _⟩ := h.info
  simp [Program.cellsOf, hi, hs]
theorem mapM_opt {α β : Type} {f : α → Option β} : ∀ {l : List α} {r : List β}, l.mapM f = some r → ∀ (i : Nat) (b : β), r[i]? = some b → ∃ a, l[i]? = some a ∧ f a = some b
  | [], r, h, i, b, hb => by simp at h; subst h; simp at hb
  | x :: l, r, h, i, b, hb => by
    simp only [List.mapM_cons, Option.bind_eq_bind, Option.bind_eq_some_iff, Option.pure_def, Option.some.injEq] at h
    obtain ⟨c, hc, r', hr', rfl⟩ := h
    cases i with
    | zero => simp at hb; subst hb; exact ⟨x, rfl, hc⟩
    | succ i => simpa using mapM_opt hr' i b (by simpa using hb)
section
variable {H : Type} {enc : TypeId × Value → H} {G : Prg} {w : World} {base : Nat} {sp : Nat → Bool} {held : Bool}
def Reads (enc : TypeId × Value → H) (G : Prg) (w : World) (base : Nat) (sp : Nat → Bool) (held : Bool) (m : Nat) : Prop :=
  ∀ (n : Nat) (t : TypeId) (cs : List Value) (d : DataW H) (p : List MemPlace) (xs : List PV), DataW.trod enc G.P w base sp held m t cs = some (d, p) → pvs G.T n t d = some xs → IReps (old w) w xs cs ∧ allOne xs = true
theorem allOne_append {xs ys : List PV} (h : allOne xs = true) (k : allOne ys = true) : allOne (xs ++ ys) = true := by
  induction xs with
  | nil => exact k
  | cons x xs ih => simp only [allOne, List.cons_append, Bool.and_eq_true] at h ⊢; exact ⟨h.1, ih h.2⟩
theorem iones {im : Nat → Prop} {xs : List PV} {vs : List Value} (h : IReps im w xs vs) (h1 : allOne xs = true) : ∀ u ∈ vs, u.oneCell' = true :=
  allOne_ok (E := ⟨fun _ => 0, fun _ => .nilFunc, im, 0, 0, 0⟩) (IReps.v (E := ⟨fun _ => 0, fun _ => .nilFunc, im, 0, 0, 0⟩) h) h1
theorem reads_row {m n : Nat} (ih : Reads enc G w base sp held m) {e : TypeId} {td : TD} {a : Addr} (hte : G.T e = some td) : ∀ (es : List (DataW H)) (k : Nat) (xs : List PV),
    (∀ (i : Nat) (d : DataW H), es[i]? = some d → ∃ p, ((w.cells? base (a.add ((k + i) * td.size)) td.size).bind (DataW.trod enc G.P w base sp held m e)) = some (d, p)) → pvAll (pvs G.T n e) td.size es = some xs →
    ∃ vs : List Value, vs.length = es.length * td.size ∧ (∀ (j : Nat) (v : Value), vs[j]? = some v → w.cell? (a.add (k * td.size + j)) = some v) ∧ IReps (old w) w xs vs ∧ allOne xs = true ∧ (0 < vs.length → a.block < w.heap.size) := by
  intro es
  induction es with
  | nil => intro k xs h hx; simp only [pvAll] at hx; cases hx; exact ⟨[], by simp, fun j v h => by simp at h, .nil _ _, rfl, fun h => by simp at h⟩
  | cons d ds ihd =>
    intro k xs h hx
    simp only [pvAll] at hx
    split at hx
    · rename_i ys zs hy hz
      split at hx
      · rename_i hl
        cases hx
        obtain ⟨p, hp⟩ := h 0 d rfl
        obtain ⟨cs, hcs, htr⟩ := Option.bind_eq_some_iff.1 hp
        obtain ⟨hb, hlen, hcell⟩ := World.cells?_some hcs
        obtain ⟨h1, h2⟩ := ih n e cs d p ys htr hy
        obtain ⟨vs, g1, g2, g3, g4, g5⟩ := ihd (k + 1) zs (fun i d' hd' => by
          have := h (i + 1) d' (by simpa using hd')
          rw [show k + (i + 1) = k + 1 + i from by omega] at this
          exact this) hz
        refine ⟨cs ++ vs, by simp [hlen, g1, Nat.add_mul, Nat.add_comm], fun j v hv => ?_, h1.append g3, allOne_append h2 g4, fun hpos => ?_⟩
        · rcases Nat.lt_or_ge j cs.length with hlt | hge
          · rw [List.getElem?_append_left hlt] at hv
            have := hcell j (by omega)
            rw [add_of_add, Nat.add_zero] at this
            rw [this]; exact hv
          · rw [List.getElem?_append_right hge] at hv
            have := g2 _ v hv
            rw [← this]
            congr 2
            rw [Nat.add_mul]
            omega
        · rcases Nat.lt_or_ge 0 cs.length with hlt | hge
          · have := World.cells?_block hcs (by omega)
            rw [block_of_add] at this
            exact this
          · exact g5 (by simp at hpos; omega)
      · cases hx
    · cases hx
theorem reads_fs {m n : Nat} (ih : Reads enc G w base sp held m) {cs : List Value} : ∀ (fs : List Field) (ds : List (DataW H × List MemPlace)) (o : Nat) (xs : List PV),
    fs.mapM (fun f => DataW.trod enc G.P w base sp held m f.type ((cs.drop f.offset).take (G.P.cellsOf f.type))) = some ds → pvFs G.T (pvs G.T n) o (fs.map fun f => (f.offset, f.type)) (ds.map (·.1)) = some xs →
    IReps (old w) w xs ((cs.drop o).take xs.length) ∧ allOne xs = true := by
  intro fs
  induction fs with
  | nil => intro ds o xs h hx; simp at h; subst h; simp only [List.map_nil, pvFs] at hx; cases hx; exact ⟨by simpa using IReps.nil _ _, rfl⟩
  | cons f fs ihf =>
    intro ds o xs h hx
    simp only [List.mapM_cons, Option.bind_eq_bind, Option.bind_eq_some_iff, Option.pure_def, Option.some.injEq] at h
    obtain ⟨d, hd, ds', hds, rfl⟩ := h
    simp only [List.map_cons, pvFs] at hx
    split at hx
    · rename_i td ys zs ht hy hz
      split at hx
      · rename_i hc
        cases hx
        obtain ⟨ho, hl⟩ := hc
        obtain ⟨d1, p1⟩ := d
        obtain ⟨h1, h2⟩ := ih n f.type _ d1 p1 ys hd hy
        rw [ht] at hz
        simp only [Option.map_some, Option.getD_some] at hz
        obtain ⟨h3, h4⟩ := ihf ds' _ zs hds hz
        rw [cellsOf_td (G.hT _ _ ht)] at h1
        refine ⟨?_, allOne_append h2 h4⟩
        have := h1.append h3
        rw [ho] at this
        rw [List.length_append, hl]
        have e : List.take (td.size + zs.length) (cs.drop o) = (cs.drop o).take td.size ++ ((cs.drop (o + td.size)).take zs.length) := by
          rw [List.take_add, List.drop_drop]
        rw [e]
        exact this
      · cases hx
    · cases hx
theorem reads_arr {m n : Nat} (ih : Reads enc G w base sp held m) {cs : List Value} {e : TypeId} {td : TD} (hte : G.T e = some td) : ∀ (ds : List (DataW H)) (k : Nat) (xs : List PV),
    (∀ (i : Nat) (d : DataW H), ds[i]? = some d → ∃ p, DataW.trod enc G.P w base sp held m e ((cs.drop ((k + i) * td.size)).take td.size) = some (d, p)) → pvAll (pvs G.T n e) td.size ds = some xs →
    IReps (old w) w xs ((cs.drop (k * td.size)).take xs.length) ∧ allOne xs = true := by
  intro ds
  induction ds with
  | nil => intro k xs h hx; simp only [pvAll] at hx; cases hx; exact ⟨by simpa using IReps.nil _ _, rfl⟩
  | cons d ds ihd =>
    intro k xs h hx
    simp only [pvAll] at hx
    split at hx
    · rename_i ys zs hy hz
      split at hx
      · rename_i hl
        cases hx
        obtain ⟨p, hp⟩ := h 0 d rfl
        obtain ⟨h1, h2⟩ := ih n e _ d p ys hp hy
        obtain ⟨h3, h4⟩ := ihd (k + 1) zs (fun i d' hd' => by
          have := h (i + 1) d' (by simpa using hd')
          rw [show k + (i + 1) = k + 1 + i from by omega] at this
          exact this) hz
        refine ⟨?_, allOne_append h2 h4⟩
        have := h1.append h3
        rw [List.length_append, hl]
        have e : List.take (td.size + zs.length) (cs.drop (k * td.size)) = (cs.drop (k * td.size)).take td.size ++ ((cs.drop ((k + 1) * td.size)).take zs.length) := by
          rw [List.take_add, List.drop_drop, Nat.add_mul, Nat.one_mul]
        rw [e]
        simpa using this
      · cases hx
    · cases hx
theorem reads (m : Nat) : Reads enc G w base sp held m := by
  induction m with
  | zero => intro n t cs d p xs h; simp [DataW.trod] at h
  | succ m ih =>
    intro n t cs d p xs h hx
    cases n with
    | zero => simp [pvs] at hx
    | succ n =>
      unfold pvs at hx
      split at hx
      · rename_i k0 sz b z k v ht
        cases hx
        obtain ⟨D, hD, hok⟩ := (G.hT _ _ ht).und
        simp only [TK.ok] at hok
        subst hok
        obtain ⟨n', rfl, he, _⟩ := DataW.trod_int hD h
        cases he
        exact ⟨.one (.int _ _), rfl⟩
      · rename_i sz b z v ht
        cases hx
        obtain ⟨D, hD, hok⟩ := (G.hT _ _ ht).und
        simp only [TK.ok] at hok
        subst hok
        simp only [DataW.trod, hD] at h
        split at h <;> simp_all
        obtain ⟨rfl, _⟩ := h
        exact ⟨.one (.bool _), rfl⟩
      · rename_i sz b z v ht
        cases hx
        obtain ⟨D, hD, hok⟩ := (G.hT _ _ ht).und
        simp only [TK.ok] at hok
        subst hok
        simp only [DataW.trod, hD] at h
        split at h <;> simp_all
        obtain ⟨_, rfl, _⟩ := h
        exact ⟨.one (.str _), rfl⟩
      · rename_i e sz b z ht
        cases hx
        obtain ⟨D, hD, hok⟩ := (G.hT _ _ ht).und
        simp only [TK.ok] at hok
        subst hok
        simp only [DataW.trod, hD] at h
        split at h <;> simp_all
        · exact ⟨.one .nil, rfl⟩
        · obtain ⟨_, h⟩ := h
          obtain ⟨el, _, h⟩ := Option.bind_eq_some_iff.1 h
          obtain ⟨r, _, h⟩ := Option.map_eq_some_iff.1 h
          cases h
      · rename_i e sz b z es rest ht
        split at hx
        · rename_i td hte
          split at hx
          · rename_i ys hy
            cases hx
            obtain ⟨D, hD, hok⟩ := (G.hT _ _ ht).und
            simp only [TK.ok] at hok
            subst hok
            simp only [DataW.trod, hD] at h
            split at h <;> simp_all
            rename_i a len cap hee
            obtain ⟨hc, h⟩ := h
            obtain ⟨el, hel, h⟩ := Option.bind_eq_some_iff.1 h
            obtain ⟨r, _, h⟩ := Option.map_eq_some_iff.1 h
            cases h
            have hln : el.length = len := by have := Lib.mapM_length hel; simpa using this
            rw [cellsOf_td (G.hT _ _ hte)] at hel
            obtain ⟨vs, g1, g2, g3, g4, g5⟩ := reads_row ih hte (el.map (·.1)) 0 ys (fun i d hd => by
              rw [List.getElem?_map] at hd
              obtain ⟨x, hx, rfl⟩ := Option.map_eq_some_iff.1 hd
              obtain ⟨i', hi', hf⟩ := mapM_opt hel i x hx
              have : i' = i := by
                rw [List.getElem?_range (by have := (List.getElem?_eq_some_iff.1 hx).1; omega)] at hi'
                exact (Option.some.inj hi').symm
              subst this
              exact ⟨x.2, by rw [Nat.zero_add]; exact hf⟩) hy
            refine ⟨.one ?_, rfl⟩
            rw [List.length_map, hln]
            exact .slice hc.2.1 g3.1 (fun h => g5 h) (fun j v hv => by have := g2 j v hv; rwa [Nat.zero_mul, Nat.zero_add] at this) (iones g3 g4) g3.2
          · cases hx
        · cases hx
      · rename_i fs sz b z ds ht
        split at hx
        · rename_i ys hy
          split at hx
          · rename_i hl
            cases hx
            obtain ⟨D, hD, F, rfl, hF⟩ := (G.hT _ _ ht).und
            simp only [DataW.trod, hD] at h
            have h' : (if cs.length = G.P.cellsOf t then (F.toList.mapM fun f => DataW.trod enc G.P w base sp held m f.type ((cs.drop f.offset).take (G.P.cellsOf f.type))).map fun xs => (DataW.agg (xs.map (·.1)), xs.flatMap (·.2)) else none) = some (.agg ds, p) := by
              rw [← h]
            clear h
            split at h'
            · rename_i hcl
              obtain ⟨xs', hm, he⟩ := Option.map_eq_some_iff.1 h'
              cases he
              obtain ⟨h1, h2⟩ := reads_fs ih F.toList xs' 0 _ hm (by rw [hF]; exact hy)
              rw [cellsOf_td (G.hT _ _ ht)] at hcl
              simp only [] at hcl
              rw [List.drop_zero, List.take_of_length_le (by omega)] at h1
              exact ⟨h1, h2⟩
            · cases h'
          · cases hx
        · cases hx
      · rename_i k e sz b z ds ht
        split at hx
        · rename_i td hte
          split at hx
          · rename_i ys hy
            split at hx
            · rename_i hl
              cases hx
              obtain ⟨D, hD, hok⟩ := (G.hT _ _ ht).und
              simp only [TK.ok] at hok
              subst hok
              simp only [DataW.trod, hD] at h
              have h' : (if cs.length = G.P.cellsOf t then ((List.range k).mapM fun i => DataW.trod enc G.P w base sp held m e ((cs.drop (i * G.P.cellsOf e)).take (G.P.cellsOf e))).map fun xs => (DataW.agg (xs.map (·.1)), xs.flatMap (·.2)) else none) = some (.agg ds, p) := by
                rw [← h]
              clear h
              split at h'
              · rename_i hcl
                obtain ⟨el, hel, he⟩ := Option.map_eq_some_iff.1 h'
                cases he
                rw [cellsOf_td (G.hT _ _ hte)] at hel
                have hln : el.length = k := by have := Lib.mapM_length hel; simpa using this
                obtain ⟨h1, h2⟩ := reads_arr ih hte (cs := cs) (el.map (·.1)) 0 _ (fun i d hd => by
                  rw [List.getElem?_map] at hd
                  obtain ⟨x, hx, rfl⟩ := Option.map_eq_some_iff.1 hd
                  obtain ⟨i', hi', hf⟩ := mapM_opt hel i x hx
                  have : i' = i := by
                    rw [List.getElem?_range (by have := (List.getElem?_eq_some_iff.1 hx).1; omega)] at hi'
                    exact (Option.some.inj hi').symm
                  subst this
                  exact ⟨x.2, by rw [Nat.zero_add]; exact hf⟩) hy
                rw [cellsOf_td (G.hT _ _ ht)] at hcl
                simp only [] at hcl
                rw [Nat.zero_mul, List.drop_zero, List.take_of_length_le (by omega)] at h1
                exact ⟨h1, h2⟩
              · cases h'
            · cases hx
          · cases hx
        · cases hx
      · cases hx
end
end Go.AS
namespace Go.AS
open Go.ChangeShapes Go.WideShapes Go.ChangeAt Go.RowKit
set_option linter.unusedVariables false
set_option linter.unusedSimpArgs false
theorem laid_glob {G : Prg} {w : World} {laid : List (String × DataW Unit)} (h : laidMet G.P laid w) {name : String} {d : DataW Unit} (hm : (name, d) ∈ laid) {g : Nat} (hg : G.P.globalNamed name = some g) {t : TypeId} (ht : (G.P.globals[g]?).map (·.type) = some t)
    {n : Nat} {xs : List PV} (hx : pvs G.T n t d = some xs) : GRep (old w) w xs g := by
  obtain ⟨ps, hl, _⟩ := h
  have key : ∀ (l : List (String × DataW Unit)) (ps : List MemPlace), DataW.LaidVars G.P w l ps → (name, d) ∈ l → GRep (old w) w xs g := by
    intro l
    induction l with
    | nil => intro ps _ hm; cases hm
    | cons x l ih =>
      intro ps hl hm
      obtain ⟨g', t', cs, fuel, p, q, hg', ht', hv, htr, hr, _⟩ := hl
      rcases List.mem_cons.1 hm with rfl | hm
      · simp only [] at hg' ht' hv htr
        obtain rfl := Option.some.inj (hg.symm.trans hg')
        obtain rfl := Option.some.inj (ht.symm.trans ht')
        obtain ⟨h1, _⟩ := reads fuel n t _ d p xs htr hx
        simp only [World.var?, hg, Option.bind_some] at hv
        split at hv
        · rename_i cs' ty fz hh
          cases hv
          have hsz : g < w.heap.size := lt_of_some hh
          refine ⟨.epos h1.1 (fun _ => hsz) (fun j v hv => ?_) h1.2, hsz, _, _, _, hh, by simpa using h1.1⟩
          rw [cell_of_blk (vs := cs.toList) (by simpa using hh)]
          simpa using hv
        · cases hv
      · exact ih q hr hm
  exact key laid ps hl hm
def Unch (w w' : World) : Prop := (∀ k, k < w.heap.size → w'.heap[k]? = w.heap[k]?) ∧ w.heap.size ≤ w'.heap.size ∧ w'.os = w.os ∧ w'.output = w.output
theorem Unch.kept {w w' : World} (h : Unch w w') (may : MemPlace → Prop) : w.keptBut w' may := by
  have h0 := World.keptBut_refl w may
  refine ⟨h.2.2.1, h.2.2.2, fun i hi => ?_⟩
  have := h0.2.2 i hi
  rw [h.1 i hi]
  exact this
theorem post_unch {H : Type} {enc : TypeId × Value → H} {P : Program} {f : Func} {s : ChangeSpec} {apart fresh handsOn again : Bool} {W W' : World} {args : Array Value} {v : Value} {ds gs : List (DataW H)} {before pa pv : List MemPlace}
    (hW : DataW.Whole enc P f.params.toList s.vars apart W args.toList ds gs before)
    (hres : ∀ (b : Nat) (sp : Nat → Bool) (hd : Bool), DataW.TrodAll enc P W' b sp hd f.resultTypes.toList (v.resultList f.resultTypes.size) (s.fn H (ds ++ gs)).results [])
    (hargs : ∀ sp : Nat → Bool, (∀ p ∈ before, sp p.block = true) → DataW.TrodAll enc P W' 0 sp true f.params.toList args.toList (s.fn H (ds ++ gs)).args pa)
    (hvars : ∀ sp : Nat → Bool, (∀ p ∈ before, sp p.block = true) → DataW.TrodVars enc P W' sp s.vars (s.fn H (ds ++ gs)).vars pv)
    (hps : before = pa ++ pv) (hk : Unch W W')
    (hok : ∀ (j : Nat) (t : TypeId) (r : Value), f.resultTypes[j]? = some t → (v.resultList f.resultTypes.size)[j]? = some r → Value.okWide P W' .any 0 t r) :
    s.post enc P f apart fresh handsOn again W args v W' := by
  have hlt := hW.lt
  have hold : ∀ p ∈ before, (fun b => decide (b < W.heap.size)) p.block = true := fun p hp => by simpa using hlt p hp
  refine ⟨ds, gs, before, [], pa, pv, hW, hres _ _ _, hargs _ hold, hvars _ hold, World.keptBut_mono (fun p hp => ⟨hp, ?_⟩) (hk.kept (· ∈ before)), fun _ => ?_⟩
  · rw [hps, List.mem_append] at hp
    exact Or.inr hp
  · obtain ⟨_, _, _, _, _, hz, hn⟩ := hW
    refine ⟨hok, _, _, ([] ++ pa) ++ pv, ⟨[] ++ pa, pv, trodAll_append (hargs _ (fun _ _ => rfl)) (hres _ _ _), hvars _ (fun _ _ => rfl), rfl, ?_, ?_⟩, ?_⟩
    · intro b off hp
      have hm : MemPlace.cell b off ∈ before := by rw [hps]; simpa using hp
      have := hz b off hm
      have hb := hlt _ hm
      simp only [World.frozen?] at this ⊢
      rw [hk.1 b hb]
      exact this
    · intro ha
      have := hn ha
      rw [hps] at this
      simpa using this
    · intro p hp _
      rw [hps]
      simpa using hp
theorem Pure.law {G : Prg} {f : FuncId} {args : List PV} {R : PV → Prop} (h : Pure G f args R) {W : World} {vs : List Value} (hg : ∀ g cs, G.Γ g = some cs → GRep (old W) W cs g) (ha : IReps (old W) W args vs) (h0 : G.Γ.lo ≤ W.heap.size := by exact Nat.zero_le _) :
    Calls G.P f vs.toArray W fun e W' => ∃ r v E, R r ∧ e = .returned v ∧ VRep E W' r v ∧ Unch W W' := by
  have hH : HRep G.Γ ⟨fun _ => 0, fun _ => .nilFunc, old W, W.heap.size, 0, 0⟩ W ⟨[], []⟩ := ⟨rfl, rfl, Nat.le_refl _, fun i b hb => by simp at hb, fun i r hr => by simp at hr, fun i j h => by simp at h, fun i j r s k h => by simp at h, fun i j r h => by simp at h, fun k h => h, fun k i h => by simp at h, fun k j r h => by simp at h, ⟨h0, hg⟩⟩
  refine (h ⟨fun _ => 0, fun _ => .nilFunc, old W, W.heap.size, 0, 0⟩ W vs hH (IReps.v ha)).mono ?_
  rintro e W' ⟨o, bx, E', ⟨rfl, r, rfl, hR⟩, ⟨v, rfl, hv⟩, hh, hx⟩
  exact ⟨r, v, E', hR, rfl, hv, fun k hk => hx.keep k hk (fun i hi => by simp at hi), hx.sz, hx.os, hx.out⟩
end Go.AS
namespace Go.AS
open Go.RowKit
set_option linter.unusedVariables false
set_option linter.unusedSimpArgs false
section
variable {G : Prg} {C : Ctx} {Q : AEx → AS → Prop} {K : AS → Prop} {st : AS}
theorem SWP.frz {c : Code} (rs : List Nat) (h : SWP G C c Q (frz rs st)) : SWP G C c Q st := fun E a w hr => by
  obtain ⟨E', hr'⟩ := hr.frz (rs := rs)
  exact h E' a w hr'
end
attribute [push_cast] opStep told tval no stepG stepSl sliceAt stepSt stepAp ownAp appendAt AS.frz AS.adopt adoptT PV.refs refsL
attribute [push_cast] List.range_succ List.range_zero Nat.beq_refl Nat.ble_eq Nat.beq_eq
end Go.AS
namespace Go.AS
open Go.RowKit
set_option linter.unusedVariables false
set_option linter.unusedSimpArgs false
section
variable {G : Prg} {C : Ctx} {Q : AEx → AS → Prop} {st : AS} {n : AS → Prop} {xs : List (Nat × (AS → Prop))} {r : AS → Prop} {p : PV → AS → Prop}
noncomputable def runP (S : Cfg G) (k nt : Nat) (c : Code) (st : AS) (sl : List Nat) : Option (AEx × AS × Ob) := match run S k (.code nt c st) with
  | some (e, s, o) => some (e, nrm sl s, o)
  | none => none
theorem SWP.runQ {c : Code} (S : Cfg G) (k nt : Nat) (hnt : C.nt = nt) (sl : List Nat) {e : AEx} {z : AS} {o : Ob} (h : runP S k nt c st sl = some (e, z, o)) (ho : okO o) (hK : ∀ s, nrm sl s = z → Q e s) : SWP G C c Q st := by
  unfold runP at h
  split at h
  · rename_i e' s' o' hr
    cases h
    obtain ⟨_, h2, _⟩ := run_ok S k _ _ _ _ hr ho
    exact (h2 C hnt).mono (At.mono (hK _ rfl))
  · cases h
theorem Q.runSeq {c d : Code} (S : Cfg G) (k nt : Nat) (hnt : C.nt = nt) (sl : List Nat) {z : AS} {o : Ob} (h : runP S k nt c st sl = some (.normal, z, o)) (ho : okO o) (hd : SWP G C d (QT n xs r p) z) : SWP G C (.seq c d) (QT n xs r p) st :=
  Q.seq fun K hK => .runQ S k nt hnt sl h ho fun s hs => hK s (.norm sl (by rw [hs]; exact hd))
theorem Q.loopI {c : Code} {σ : Type} (sl : List Nat) (T : σ → AS) (μ : σ → Nat) (x : σ) (h0 : nrm sl st = T x)
    (hr : ∀ x, SWP G C c (QT (fun s => ∃ y, μ y < μ x ∧ nrm sl s = T y) xs r p) (T x)) : SWP G C (.loop c) (QT n xs r p) st :=
  Q.loop (fun x s => nrm sl s = T x) μ x h0 fun x s hs K hK => .norm sl (by
    rw [hs]
    refine (hr x).mono fun e s' q => ?_
    cases e with
    | normal => obtain ⟨y, h1, h2⟩ := q; exact hK y s' h2 h1
    | exit i => exact q
    | ret => exact q
    | panic x => exact q)
theorem Fn.enterN {f : FuncId} {fn : Func} {c : Code} {args : List PV} {bx : List Box} {R : Out → List Box → Prop} {k : Nat} (hf : G.P.funcs[f]? = some fn) (hk : fn.ntmps = k) (hb : fn.body = some c) (hn : args.length ≤ k)
    (h : ∀ (C : Ctx) (fr : AS → Prop) (fp : PV → AS → Prop), C.nt = k → PanT fp → (∀ s sl, FinR G fn bx.length R (nrm sl s) → fr s) → (∀ x s, FinP bx.length R x s → fp x s) → SWP G C c (QT fr [] fr fp) ⟨enum 0 args, ⟨bx, []⟩⟩) : PCalls G f args bx R :=
  .of_swp hf hb (by rw [hk]; exact hn) fun w0 E0 => .normQ (by
    refine (h _ (fun s => ∃ sl, FinR G fn bx.length R (nrm sl s)) (FinP bx.length R) hk (FinP.panT _ _) (fun s sl h => ⟨sl, h⟩) (fun _ _ h => h)).mono fun e s q => ?_
    rw [Q.fin]
    cases e with
    | normal => exact q
    | exit i => exact q.elim
    | ret => exact q
    | panic x => exact ⟨[], q⟩)
end
end Go.AS
namespace Go.AS
set_option linter.unusedVariables false
set_option linter.unusedSimpArgs false
mutual
inductive Dat where
  | mk (k n : Int) (s : ByteArray) (ks : Dats)
inductive Dats where
  | nil
  | cons (d : Dat) (ds : Dats)
end
mutual
def Dat.cells : Dat → List PV
  | .mk k n s ks => [.int .i64 k, .int .i64 n, .str s, .slice ks.len ks.cells]
def Dats.cells : Dats → List PV
  | .nil => []
  | .cons d ds => d.cells ++ ds.cells
def Dats.len : Dats → Nat
  | .nil => 0
  | .cons _ ds => ds.len + 1
end
mutual
def Dat.size : Dat → Nat
  | .mk _ _ _ ks => ks.size + 1
def Dats.size : Dats → Nat
  | .nil => 0
  | .cons d ds => d.size + ds.size + 1
end
mutual
def Dat.ok : Dat → Prop
  | .mk _ _ _ ks => ks.len ≤ 9223372036854775807 ∧ ks.ok
def Dats.ok : Dats → Prop
  | .nil => True
  | .cons d ds => d.ok ∧ ds.ok
end
theorem Dat.cells_len (d : Dat) : d.cells.length = 4 := by cases d; rfl
theorem Dats.cells_len : ∀ ds : Dats, ds.cells.length = ds.len * 4
  | .nil => rfl
  | .cons d ds => by simp only [Dats.cells, Dats.len, List.length_append, Dat.cells_len, Dats.cells_len ds]; omega
theorem Dat.pure (d : Dat) : pureL d.cells = true := by cases d; rfl
theorem Dat.pure1 (d : Dat) : pureL [.agg d.cells] = true := by simp only [pureL, PV.pure, Dat.pure, Bool.and_true]
def Dats.get : Dats → Nat → Dat
  | .nil, _ => .mk 0 0 ⟨#[]⟩ .nil
  | .cons d _, 0 => d
  | .cons _ ds, i + 1 => ds.get i
def Dats.take : Dats → Nat → Dats
  | _, 0 => .nil
  | .nil, _ => .nil
  | .cons d ds, i + 1 => .cons d (ds.take i)
theorem Dats.get_cells : ∀ (ds : Dats) (i : Nat), i < ds.len → (ds.cells.drop (i * 4)).take 4 = (ds.get i).cells
  | .nil, i, h => by simp [Dats.len] at h
  | .cons d ds, 0, h => by
    simp only [Dats.cells, Dats.get, Nat.zero_mul, List.drop_zero]
    rw [List.take_append_of_le_length (by rw [Dat.cells_len]; omega), List.take_of_length_le (by rw [Dat.cells_len]; omega)]
  | .cons d ds, i + 1, h => by
    simp only [Dats.cells, Dats.get]
    have e : (i + 1) * 4 = d.cells.length + i * 4 := by rw [Dat.cells_len]; omega
    rw [e, List.drop_append, ← Dats.get_cells ds i (by simp only [Dats.len] at h; omega)]
    congr 1
    rw [List.drop_eq_nil_of_le (by omega), List.nil_append]
    congr 1
    omega
theorem Dats.get_ok : ∀ (ds : Dats) (i : Nat), i < ds.len → ds.ok → (ds.get i).ok
  | .nil, i, h, _ => by simp [Dats.len] at h
  | .cons d ds, 0, h, ho => ho.1
  | .cons d ds, i + 1, h, ho => Dats.get_ok ds i (by simp only [Dats.len] at h; omega) ho.2
theorem Dats.get_size : ∀ (ds : Dats) (i : Nat), i < ds.len → (ds.get i).size < ds.size
  | .nil, i, h => by simp [Dats.len] at h
  | .cons d ds, 0, h => by simp only [Dats.get, Dats.size]; omega
  | .cons d ds, i + 1, h => by
    have := Dats.get_size ds i (by simp only [Dats.len] at h; omega)
    simp only [Dats.get, Dats.size]; omega
mutual
theorem Dat.inj : ∀ (a b : Dat), a.cells = b.cells → a = b
  | .mk k n s ks, .mk k' n' s' ks', h => by
    simp only [Dat.cells, List.cons.injEq, PV.int.injEq, PV.str.injEq, PV.slice.injEq, true_and, and_true] at h
    obtain ⟨rfl, rfl, rfl, _, h⟩ := h
    rw [Dats.inj ks ks' h]
theorem Dats.inj : ∀ (a b : Dats), a.cells = b.cells → a = b
  | .nil, .nil, _ => rfl
  | .nil, .cons d ds, h => by
    have := congrArg List.length h
    simp only [Dats.cells, List.length_append, Dat.cells_len, List.length_nil] at this
    omega
  | .cons d ds, .nil, h => by
    have := congrArg List.length h
    simp only [Dats.cells, List.length_append, Dat.cells_len, List.length_nil] at this
    omega
  | .cons d ds, .cons e es, h => by
    simp only [Dats.cells] at h
    obtain ⟨h1, h2⟩ := List.append_inj h (by rw [Dat.cells_len, Dat.cells_len])
    rw [Dat.inj d e h1, Dats.inj ds es h2]
end
mutual
def Dat.rng : Dat → Prop
  | .mk _ n _ ks => (-9223372036854775808 ≤ n ∧ n ≤ 9223372036854775807) ∧ ks.rng
def Dats.rng : Dats → Prop
  | .nil => True
  | .cons d ds => d.rng ∧ ds.rng
end
open Classical in
noncomputable def isDat (N : Nat) (cs : List PV) : Bool := decide (∃ d : Dat, d.cells = cs ∧ d.size < N ∧ d.ok)
open Classical in
noncomputable def ofCells {α : Type} (f : Dat → α) (z : α) (cs : List PV) : α := if h : ∃ d : Dat, d.cells = cs then f h.choose else z
theorem ofCells_at {α : Type} (f : Dat → α) (z : α) (d : Dat) : ofCells f z d.cells = f d := by
  have h : ∃ e : Dat, e.cells = d.cells := ⟨d, rfl⟩
  unfold ofCells
  rw [dif_pos h, Dat.inj _ _ h.choose_spec]
theorem isDat_at {N : Nat} {d : Dat} (h : d.size < N) (ho : d.ok) : isDat N d.cells = true := by
  unfold isDat
  classical exact decide_eq_true ⟨d, rfl, h, ho⟩
theorem isDat_of {N : Nat} {cs : List PV} (h : isDat N cs = true) : ∃ d : Dat, d.cells = cs ∧ d.size < N ∧ d.ok := by
  unfold isDat at h
  classical exact of_decide_eq_true h
end Go.AS
namespace Go.AS
open Go.RowKit
set_option linter.unusedVariables false
set_option linter.unusedSimpArgs false
section
variable {G : Prg} {C : Ctx} {Q : AEx → AS → Prop} {K : AS → Prop} {st : AS} {E : Env} {a : Act} {w w' : World}
theorem setRow_put {w : World} {g : Nat} {c : Array Value} {ty : TypeId} (vs : List Value) (h : w.heap[g]? = some (.cells c ty (0, 0))) : w.setRow g vs.toArray = putBlk w g vs ty := by
  unfold World.setRow putBlk
  congr 1
  apply Array.ext_getElem?
  intro i
  rw [Array.getElem?_modify, Array.getElem?_setIfInBounds]
  by_cases hi : g = i
  · subst hi
    rw [if_pos rfl, if_pos rfl, if_pos (lt_of_some h), h]
    rfl
  · rw [if_neg hi, if_neg hi]
theorem Rel.drew (hr : Rel G C E st a w) : Rel G C E st a w.drew :=
  ⟨hr.defers, hr.size, hr.fr.move fun x v hv => hv.move (Nat.le_refl _) (Nat.le_refl _) (fun _ _ => rfl) (fun _ _ => rfl) (fun _ h => h) (fun _ _ => rfl), hr.hp.grow (Nat.le_refl _) (fun _ _ => rfl), hr.lo, hr.nb, hr.β, hr.own, hr.up, hr.dn, hr.keep, hr.os, hr.tape, hr.out, hr.sz, hr.rows⟩
theorem SOp.scrRoom {o : Oper} {s x : Operand} {t e : TypeId} {tdt td : TD} {b n m k : Nat} {cs : List PV} (ho : o.op = .call ⟨.builtin .append, #[s, x], #[t, t]⟩) (hs : st.ev G.Γ s = .bsl b n m) (hx : st.ev G.Γ x = .slice k cs)
    (hb : st.h.bx[b]? = some ⟨List.replicate m .junk, e⟩) (ht : G.T t = some tdt) (hk : tdt.k = .slice e) (hte : G.T e = some td) (hz : td.size = 1) (hlen : cs.length = k) (hk0 : 0 < k) (hroom : n + k ≤ m) (hd : dstOk C.nt o.dst = true)
    (h : K (st.put o.dst (.bsl b (n + k) m))) : SOp G C o Q K st := fun E a w hr => by
  obtain ⟨d, hu, hdd⟩ := (G.hT _ _ ht).und
  rw [hk] at hdd
  cases hdd
  obtain ⟨i, z, hi, his, hiby, hiz, hizc⟩ := (G.hT _ _ hte).info
  have hsv := ev_rep hr.fr hr.hp s
  rw [hs] at hsv
  obtain ⟨hv, hbn, hnm⟩ := hsv.bsl_inv
  have hxv := ev_rep hr.fr hr.hp x
  rw [hx] at hxv
  obtain ⟨cur, hcur, hcr⟩ := hr.hp.box b _ hb
  have hcl : cur.length = m := by rw [hcr.1]; simp
  rcases hxv.slice_inv with ⟨_, h0, _⟩ | ⟨ad, c, vs, h1, h2, h3, h4, h5, h6⟩
  · omega
  · have hvl : vs.length = k := by rw [h5.1, hlen]
    have hrun := run_append_room (P := G.P) w t o.type e i hu hi (E.β b) n m cur.toArray hcur ad k c vs (by rw [his, hz, hvl, Nat.mul_one]) h4 h6 hroom (by rw [his, hz, hvl]; simp; omega)
    unfold Oper.wp execOp
    simp only [ho, resolve, invoke, builtin, Sem.run_bind, Sem.run_pure, Result.andThen_ok, List.map_toArray, List.map_cons, List.map_nil, h1, hv, hrun, Oper.upon]
    rw [setRow_put _ hcur]
    have hp := hr.putBox hb (cs := List.replicate m .junk) (vs := List.take (n * i.size) cur.toArray.toList ++ vs ++ List.drop (n * i.size + vs.length) cur.toArray.toList) (junks_rep _ _ (by
      rw [his, hz, Nat.mul_one]
      simp
      omega))
    have he : ({ st with h := { st.h with bx := st.h.bx.set b ⟨List.replicate m .junk, e⟩ } } : AS) = st := by
      have : st.h.bx.set b ⟨List.replicate m .junk, e⟩ = st.h.bx := by
        apply List.ext_getElem?
        intro j
        by_cases hj : b = j
        · subst hj; rw [List.getElem?_set_self (List.getElem?_eq_some_iff.1 hb).1, hb]
        · rw [List.getElem?_set_ne hj]
      rw [this]
    rw [he] at hp
    exact ⟨_, E, h, hp.put hd (.bsl hbn hroom)⟩
theorem SOp.scrGrow {o : Oper} {s x : Operand} {t e : TypeId} {tdt td : TD} {b n m k : Nat} {cs : List PV} (ho : o.op = .call ⟨.builtin .append, #[s, x], #[t, t]⟩) (hs : st.ev G.Γ s = .bsl b n m) (hx : st.ev G.Γ x = .slice k cs)
    (hb : st.h.bx[b]? = some ⟨List.replicate m .junk, e⟩) (ht : G.T t = some tdt) (hk : tdt.k = .slice e) (hte : G.T e = some td) (hz : td.size = 1) (hzl : td.zero.length = 1) (hlen : cs.length = k) (hk0 : 0 < k) (hroom : m < n + k) (hbig : (n + k) * td.bytes ≤ 140737488355328) (h63 : n + k ≤ 9223372036854775807) (hd : dstOk C.nt o.dst = true)
    (h : ∀ c, n + k ≤ c → K (({ st with h := { st.h with bx := st.h.bx ++ [⟨List.replicate c .junk, e⟩] } } : AS).put o.dst (.bsl st.h.bx.length (n + k) c))) : SOp G C o Q K st := fun E a w hr => by
  obtain ⟨d, hu, hdd⟩ := (G.hT _ _ ht).und
  rw [hk] at hdd
  cases hdd
  obtain ⟨i, z, hi, his, hiby, hiz, hizc⟩ := (G.hT _ _ hte).info
  have hsv := ev_rep hr.fr hr.hp s
  rw [hs] at hsv
  obtain ⟨hv, hbn, hnm⟩ := hsv.bsl_inv
  have hxv := ev_rep hr.fr hr.hp x
  rw [hx] at hxv
  obtain ⟨cur, hcur, hcr⟩ := hr.hp.box b _ hb
  have hcl : cur.length = m := by rw [hcr.1]; simp
  have hzc : z.cells.size = 1 := by rw [← hzl, ← hizc]; simp
  rcases hxv.slice_inv with ⟨_, h0, _⟩ | ⟨ad, c, vs, h1, h2, h3, h4, h5, h6⟩
  · omega
  · have hvl : vs.length = k := by rw [h5.1, hlen]
    have hrun := run_append_grow (P := G.P) w t o.type e i z hu hi hiz ⟨E.β b, 0, none⟩ n m (cur.take n) (by rw [his, hz]; simp; omega) (fun j u hu' => by
      rw [cell_of_blk hcur, Nat.zero_add]
      rw [List.getElem?_take] at hu'
      split at hu'
      · exact hu'
      · cases hu') ad k c vs (by rw [his, hz, hvl, Nat.mul_one]) h4 hroom (by omega) (growslice_fits hroom (by rw [hiby]; exact hbig))
    unfold Oper.wp execOp
    simp only [ho, resolve, invoke, builtin, Sem.run_bind, Sem.run_pure, Result.andThen_ok, List.map_toArray, List.map_cons, List.map_nil, h1, hv, hrun, Oper.upon]
    have hc := grownCap_ge w (n + k) m e
    have hbox := hr.drew.newBox (cs := List.replicate (grownCap w (n + k) m e) .junk) (vs := ((cur.take n).toArray ++ vs.toArray ++ Builtin.zeroCells z.cells (grownCap w (n + k) m e - (n + k))).toList) (junks_rep _ _ (by
      simp [size_zeroCells, hzc, hvl]
      omega)) e
    rw [Array.toArray_toList] at hbox
    refine ⟨_, _, h _ hc, hbox.put hd ?_⟩
    have hsz : w.drew.heap.size = w.heap.size := rfl
    have := (VRep.bsl (E := E.newBox w.drew.heap.size) (w := w.drew.alloc (.cells ((cur.take n).toArray ++ vs.toArray ++ Builtin.zeroCells z.cells (grownCap w (n + k) m e - (n + k))) e)) (b := st.h.bx.length) (n := n + k) (m := grownCap w (n + k) m e) (by rw [← hr.hp.nb]; simp [Env.newBox]) hc)
    have hβ : (E.newBox w.drew.heap.size).β st.h.bx.length = w.heap.size := by rw [← hr.hp.nb]; simp [Env.newBox, hsz]
    rw [hβ] at this
    exact this
theorem SOp.scrNil {o : Oper} {s x : Operand} {t e : TypeId} {tdt td : TD} {k : Nat} {cs : List PV} (ho : o.op = .call ⟨.builtin .append, #[s, x], #[t, t]⟩) (hs : st.ev G.Γ s = .nil) (hx : st.ev G.Γ x = .slice k cs)
    (ht : G.T t = some tdt) (hk : tdt.k = .slice e) (hte : G.T e = some td) (hz : td.size = 1) (hzl : td.zero.length = 1) (hlen : cs.length = k) (hk0 : 0 < k) (hbig : k * td.bytes ≤ 281474976710656) (h63 : k ≤ 9223372036854775807) (hd : dstOk C.nt o.dst = true)
    (h : ∀ c, k ≤ c → K (({ st with h := { st.h with bx := st.h.bx ++ [⟨List.replicate c .junk, e⟩] } } : AS).put o.dst (.bsl st.h.bx.length k c))) : SOp G C o Q K st := fun E a w hr => by
  obtain ⟨d, hu, hdd⟩ := (G.hT _ _ ht).und
  rw [hk] at hdd
  cases hdd
  obtain ⟨i, z, hi, his, hiby, hiz, hizc⟩ := (G.hT _ _ hte).info
  have hsv := ev_rep hr.fr hr.hp s
  rw [hs] at hsv
  have hv := hsv.nil_inv
  have hxv := ev_rep hr.fr hr.hp x
  rw [hx] at hxv
  have hzc : z.cells.size = 1 := by rw [← hzl, ← hizc]; simp
  rcases hxv.slice_inv with ⟨_, h0, _⟩ | ⟨ad, c, vs, h1, h2, h3, h4, h5, h6⟩
  · omega
  · have hvl : vs.length = k := by rw [h5.1, hlen]
    have hrun := run_append_nil (P := G.P) w t o.type e i z hu hi hiz ad k c vs (by rw [his, hz, hvl, Nat.mul_one]) h4 hk0 (by omega) (by rw [hiby]; exact hbig)
    unfold Oper.wp execOp
    simp only [ho, resolve, invoke, builtin, Sem.run_bind, Sem.run_pure, Result.andThen_ok, List.map_toArray, List.map_cons, List.map_nil, h1, hv, hrun, Oper.upon]
    have hc := grownCap_ge w k 0 e
    have hbox := hr.drew.newBox (cs := List.replicate (grownCap w k 0 e) .junk) (vs := (vs.toArray ++ Builtin.zeroCells z.cells (grownCap w k 0 e - k)).toList) (junks_rep _ _ (by
      simp [size_zeroCells, hzc, hvl]
      omega)) e
    rw [Array.toArray_toList] at hbox
    refine ⟨_, _, h _ hc, hbox.put hd ?_⟩
    have hsz : w.drew.heap.size = w.heap.size := rfl
    have := (VRep.bsl (E := E.newBox w.drew.heap.size) (w := w.drew.alloc (.cells (vs.toArray ++ Builtin.zeroCells z.cells (grownCap w k 0 e - k)) e)) (b := st.h.bx.length) (n := k) (m := grownCap w k 0 e) (by rw [← hr.hp.nb]; simp [Env.newBox]) hc)
    have hβ : (E.newBox w.drew.heap.size).β st.h.bx.length = w.heap.size := by rw [← hr.hp.nb]; simp [Env.newBox, hsz]
    rw [hβ] at this
    exact this
theorem Rel.drop (hr : Rel G C E st a w) {m : Nat} (h1 : C.nb ≤ m) (h2 : m ≤ st.h.bx.length) (h3 : ((st.h.bx.take m).all fun b => scL m b.cs) = true) (h4 : (st.t.all fun p => p.2.sc m) = true) (h5 : st.h.rw = []) :
    Rel G C { E with nb := m, nr := 0 } { st with h := ⟨st.h.bx.take m, []⟩ } a w := by
  have hnb := hr.hp.nb
  have hlk : ∀ s, (lk st.t s).sc m = true := fun s => by
    generalize st.t = t at h4
    induction t with
    | nil => rfl
    | cons p t ih =>
      obtain ⟨i, x⟩ := p
      simp only [List.all_cons, Bool.and_eq_true] at h4
      simp only [lk]
      split
      · exact h4.1
      · exact ih h4.2
  refine ⟨hr.defers, hr.size, fun s => (hr.fr s).sc (hlk s) (Nat.le_refl _) (fun _ _ => rfl) rfl, close_hp hr h2 h3, hr.lo, h1, hr.β, fun i hi hj => hr.own i hi (by simp only [] at hj; omega), hr.up, hr.dn, hr.keep, hr.os, hr.tape, hr.out, hr.sz, fun j s k hj => by simp at hj⟩
theorem SWP.drop {c : Code} (m : Nat) (h1 : C.nb ≤ m) (h2 : m ≤ st.h.bx.length) (h3 : ((st.h.bx.take m).all fun b => scL m b.cs) = true) (h4 : (st.t.all fun p => p.2.sc m) = true) (h5 : st.h.rw = []) (h : SWP G C c Q { st with h := ⟨st.h.bx.take m, []⟩ }) : SWP G C c Q st := fun E a w hr =>
  h _ a w (hr.drop h1 h2 h3 h4 h5)
end
end Go.AS
namespace Go.AS
open Go.RowKit
set_option linter.unusedVariables false
set_option linter.unusedSimpArgs false
section
variable {G : Prg} {C : Ctx} {Q : AEx → AS → Prop} {K : AS → Prop} {st : AS}
noncomputable def callX (S : Cfg G) (n : Nat) (f : Nat) (args : List PV) (bx : List Box) : Option (PV × List Box × Ob) := match run S n (.call f args bx) with
  | some (_, ⟨(_, r) :: _, ⟨b, _⟩⟩, o) => some (r, b, o)
  | _ => none
theorem PCalls.run {S : Cfg G} (n : Nat) {f : Nat} {args : List PV} {bx b : List Box} {r : PV} {o : Ob} (h : callX S n f args bx = some (r, b, o)) (ho : okO o) : PCalls G f args bx (fun o' b' => o' = .ret r ∧ b' = b) := by
  unfold callX at h
  split at h
  · rename_i e k r' tl b' rw o' hrec
    cases h
    obtain ⟨k', r', tl', bx', rw', he, hc⟩ := run_ok S n _ _ _ _ hrec ho
    cases he
    exact hc
  · cases h
theorem SAny.twoL {ops : Array Oper} {ds : List Nat} {n : Nat} {i j : Nat} {oi oj : Oper} {l : Array Bool} (li lj : Array Bool) (hi : ops[i]? = some oi) (hj : ops[j]? = some oj) (hgi : oi.guard = none) (hgj : oj.guard = none) (hc : readyOk ops l [(i, li), (j, lj)] = true) (hjd : decide (j ∈ ds) = true)
    (h1 : SOpG G C oi Q (SAny G C ops Q ds n li) st) (h2 : SOp G C oj Q (SAny G C ops Q ds n lj) st) : SAny G C ops Q ds (n + 1) l st := fun E a w hr => by
  simp only [readyOk, Bool.and_eq_true, beq_iff_eq, List.map_cons, List.map_nil, List.all_cons, List.all_nil, and_true] at hc
  obtain ⟨h3, rfl, rfl⟩ := hc
  refine ⟨fun h0 => (by rw [h0] at h3; cases h3), fun k hk => ?_⟩
  rw [h3] at hk
  rcases (by simpa using hk : k = i ∨ k = j) with rfl | rfl
  · exact wpOp_plain hi hgi (Oper.wp_mono (fun a' w' ⟨hgr, s, E', k, r⟩ => ⟨fun _ => hgr, k E' a' w' r⟩) (h1 E a w hr))
  · exact wpOp_plain hj hgj (Oper.wp_mono (fun a' w' ⟨s, E', k, r⟩ => ⟨fun hn => absurd (of_decide_eq_true hjd) hn, k E' a' w' r⟩) (h2 E a w hr))
end
end Go.AS
namespace Go.AS
open Go.RowKit
set_option linter.unusedVariables false
set_option linter.unusedSimpArgs false
section
variable {G : Prg}
end
section
variable {G : Prg} {C : Ctx} {Q : AEx → AS → Prop} {st : AS} {ops : Array Oper} {ds : List Nat} {n : Nat}
noncomputable def runPL (S : Cfg G) (k nt : Nat) (ops : Array Oper) (st : AS) (sl : List Nat) : Option Outs := match runL S (run S k) nt ops (dsOf S.D ops) ops.size (Array.replicate ops.size false) st with
  | some (l, o) => some (l.map (nrm sl), o)
  | none => none
end
section
variable {G : Prg} {C : Ctx} {Q : AEx → AS → Prop} {st : AS} {n : AS → Prop} {xs : List (Nat × (AS → Prop))} {r : AS → Prop} {p : PV → AS → Prop}
theorem SWP.runLQ {id : Nat} {ops : Array Oper} (S : Cfg G) (k nt : Nat) (hnt : C.nt = nt) (sl : List Nat) {l : List AS} {o : Ob} (h : runPL S k nt ops st sl = some (l, o)) (ho : okO o) (hK : ∀ s, nrm sl s ∈ l → Q .normal s) : SWP G C (.region id ops true) Q st := by
  unfold runPL at h
  split at h
  · rename_i l' o' hr
    cases h
    subst hnt
    have h1 : SWP G C (.region id ops true) (fun e s => e = .normal ∧ s ∈ l') st := .draw _ _ rfl (runL_ok (run_ok S k) (fun x t ⟨h, _⟩ => by cases h) _ _ _ _ hr ho fun s hs => ⟨rfl, hs⟩)
    exact h1.mono fun e s ⟨he, hs⟩ => by subst he; exact hK s (List.mem_map.2 ⟨s, hs, rfl⟩)
  · cases h
theorem SAny.norm {ops : Array Oper} {Q : AEx → AS → Prop} {ds : List Nat} {m : Nat} {l : Array Bool} (sl : List Nat) (h : SAny G C ops Q ds m l (nrm sl st)) : SAny G C ops Q ds m l st := fun E a w hr => h E a w (hr.norm sl)
theorem Fn.enterF {f : FuncId} {fn : Func} {c : Code} {args : List PV} {row : Row} {k : Nat} (hf : G.P.funcs[f]? = some fn) (hk : fn.ntmps = k) (hb : fn.body = some c) (hn : args.length ≤ k)
    (h : ∀ (C : Ctx) (fr : AS → Prop), C.nt = k → (∀ s sl, FinF G fn row (nrm sl s) → fr s) → SWP G C c (QT fr [] fr (fun _ _ => False)) ⟨enum 0 args, ⟨[], []⟩⟩) : Fresh G f args row :=
  .of_swp hf hb (by rw [hk]; exact hn) fun w0 E0 => .normQ (by
    refine (h _ (fun s => ∃ sl, FinF G fn row (nrm sl s)) hk (fun s sl h => ⟨sl, h⟩)).mono fun e s q => ?_
    cases e with
    | normal => exact q
    | exit i => exact q.elim
    | ret => exact q
    | panic x => exact q.elim)
theorem SAny.with {ops : Array Oper} {Q : AEx → AS → Prop} {ds : List Nat} {m : Nat} {l : Array Bool} (k : Nat) (l' : Array Bool) (P : AS → Prop) (a : ∀ s, P s → SAny G C ops Q ds k l' s) (b : (∀ s, P s → SAny G C ops Q ds k l' s) → SAny G C ops Q ds m l st) : SAny G C ops Q ds m l st := b a
theorem Fn.enterB {f : FuncId} {fn : Func} {c : Code} {args : List PV} {bx : List Box} {R : Out → List Box → Prop} {k : Nat} (hf : G.P.funcs[f]? = some fn) (hk : fn.ntmps = k) (hb : fn.body = some c) (hn : args.length ≤ k)
    (h : ∀ (C : Ctx) (fr : AS → Prop) (fp : PV → AS → Prop), C.nt = k → C.nb = bx.length → PanT fp → (∀ s sl, FinR G fn bx.length R (nrm sl s) → fr s) → (∀ x s, FinP bx.length R x s → fp x s) → SWP G C c (QT fr [] fr fp) ⟨enum 0 args, ⟨bx, []⟩⟩) : PCalls G f args bx R :=
  .of_swp hf hb (by rw [hk]; exact hn) fun w0 E0 => .normQ (by
    refine (h _ (fun s => ∃ sl, FinR G fn bx.length R (nrm sl s)) (FinP bx.length R) hk rfl (FinP.panT _ _) (fun s sl h => ⟨sl, h⟩) (fun _ _ h => h)).mono fun e s q => ?_
    rw [Q.fin]
    cases e with
    | normal => exact q
    | exit i => exact q.elim
    | ret => exact q
    | panic x => exact ⟨[], q⟩)
end
section
variable {G : Prg}
variable {C : Ctx} {Q : AEx → AS → Prop} {st : AS}
end
end Go.AS
namespace Go.AS
open Go.RowKit
set_option linter.unusedVariables false
set_option linter.unusedSimpArgs false
def Ctx.at (C : Ctx) (E : Env) (st : AS) (w : World) : Ctx := ⟨w, E, E.nb, C.nt, C.lo, fun k => ∃ (j : Nat) (s : Row), st.h.rw[j]? = some (some s) ∧ (E.ρ j).ownBlock = some k, C.df⟩
section
variable {G : Prg} {C : Ctx} {E E2 : Env} {st st2 : AS} {a a2 : Act} {w w2 : World}
theorem Rel.at (hr : Rel G C E st a w) : Rel G (C.at E st w) E st a w where
  defers := hr.defers
  size := hr.size
  fr := hr.fr
  hp := hr.hp
  lo := hr.lo
  nb := Nat.le_refl _
  β := fun _ _ => rfl
  own := fun i h1 h2 => absurd h2 (Nat.not_lt.2 h1)
  up := fun _ h => h
  dn := fun _ h => .inl h
  keep := fun _ _ _ _ => rfl
  os := rfl
  tape := rfl
  out := rfl
  sz := Nat.le_refl _
  rows := fun j s k h1 h2 => .inr ⟨j, s, h1, h2⟩
theorem Rel.back (hr : Rel G C E st a w) (h : Rel G (C.at E st w) E2 st2 a2 w2) : Rel G C E2 st2 a2 w2 where
  defers := h.defers
  size := h.size
  fr := h.fr
  hp := h.hp
  lo := h.lo
  nb := Nat.le_trans hr.nb h.nb
  β := fun i hi => (h.β i (Nat.lt_of_lt_of_le hi hr.nb)).trans (hr.β i hi)
  own := fun i h1 h2 => by
    rcases Nat.lt_or_ge i E.nb with hlt | hge
    · rw [h.β i hlt]; exact hr.own i h1 hlt
    · exact Nat.le_trans hr.sz (h.own i hge h2)
  up := fun k hk => h.up k (hr.up k hk)
  dn := fun k hk => by
    rcases h.dn k hk with g | g | ⟨j, s, g1, g2⟩
    · exact hr.dn k g
    · exact .inr (.inl (Nat.le_trans hr.sz g))
    · exact .inr (hr.rows j s k g1 g2)
  keep := fun k h1 h2 h3 => by
    refine (h.keep k (Nat.lt_of_lt_of_le h1 hr.sz) (fun i hi => ?_) ?_).trans (hr.keep k h1 h2 h3)
    · rcases Nat.lt_or_ge i C.nb with hlt | hge
      · rw [show (C.at E st w).E0.β i = E.β i from rfl, hr.β i hlt]; exact h2 i hlt
      · intro e
        have := hr.own i hge hi
        rw [show (C.at E st w).E0.β i = E.β i from rfl] at e
        omega
    · rintro ⟨j, s, g1, g2⟩
      rcases hr.rows j s k g1 g2 with g | g
      · omega
      · exact h3 g
  os := h.os.trans hr.os
  tape := h.tape.trans hr.tape
  out := h.out.trans hr.out
  sz := Nat.le_trans hr.sz h.sz
  rows := fun j s k g1 g2 => by
    rcases h.rows j s k g1 g2 with g | ⟨j2, s2, e1, e2⟩
    · exact .inl (Nat.le_trans hr.sz g)
    · exact hr.rows j2 s2 k e1 e2
end
section
variable {G : Prg} {C : Ctx} {Q : AEx → AS → Prop} {st : AS} {c : Code}
def SWPw (G : Prg) (C : Ctx) (c : Code) (Q : AEx → AS → Env → World → Prop) (st : AS) : Prop := ∀ E a w, Rel G C E st a w → c.wp G.P (fun e a' w' => ∃ ae st' E', Q ae st' E' w' ∧ ExR E' w' ae e ∧ Rel G C E' st' a' w') a w
end
end Go.AS
namespace Go.AS
open Go.RowKit
set_option linter.unusedVariables false
set_option linter.unusedSimpArgs false
/- What is known besides is forgotten, in all parts. -/
mutual
def PV.strip : PV → PV
  | .sl _ n cs => .slice n cs
  | .agg cs => .agg (stripL cs)
  | .tup cs => .tup (stripL cs)
  | .iface t x => .iface t x.strip
  | .own r n => .own r n
  | .rpos r n => .rpos r n
  | .func fn cap => .func fn cap
  | .int k n => .int k n
  | .bool b => .bool b
  | .str s => .str s
  | .slice n cs => .slice n cs
  | .nil => .slice 0 []
  | .epos cs => .epos cs
  | .ptr b o => .ptr b o
  | .bsl b n m => .bsl b n m
  | .nilptr => .nilptr
  | .nilfunc => .nilfunc
  | .niliface => .niliface
  | .exact v => .exact v
  | .junk => .junk
def stripL : List PV → List PV
  | [] => []
  | x :: xs => x.strip :: stripL xs
end
theorem stripL_map (xs : List PV) : stripL xs = xs.map PV.strip := by
  induction xs with
  | nil => rfl
  | cons x xs ih => simp only [stripL, List.map_cons, ih]
theorem IRep.strip {im : Nat → Prop} {w : World} {x : PV} {v : Value} (h : IRep im w x v) : IRep im w x.strip v := by
  induction h with
  | int | bool | str | slice0 | nilptr | nilfunc | niliface | func => constructor
  | nil => exact .slice0
  | slice hn hl hb hc h1 hr _ => exact .slice hn hl hb hc h1 hr
  | epos hl hb hc hr _ => exact .epos hl hb hc hr
  | exact h => exact .exact h
  | sl h _ _ _ => exact h
  | iface t _ ih => exact .iface t ih
  | agg hl _ ih => exact .agg (by rw [stripL_map]; simpa using hl) (fun j x v hx hv => by
      rw [stripL_map, List.getElem?_map] at hx
      obtain ⟨y, hy, rfl⟩ := Option.map_eq_some_iff.1 hx
      exact ih j y v hy hv)
  | tup hl _ ih => exact .tup (by rw [stripL_map]; simpa using hl) (fun j x v hx hv => by
      rw [stripL_map, List.getElem?_map] at hx
      obtain ⟨y, hy, rfl⟩ := Option.map_eq_some_iff.1 hx
      exact ih j y v hy hv)
theorem VRep.strip {E : Env} {w : World} {x : PV} {v : Value} (h : VRep E w x v) : VRep E w x.strip v := by
  induction h with
  | imm h => exact .imm h.strip
  | own h1 h2 h3 => exact .own h1 h2 h3
  | rpos h1 h2 => exact .rpos h1 h2
  | ptr o h => exact .ptr o h
  | bsl h1 h2 => exact .bsl h1 h2
  | func hl hr _ => exact .func hl hr
  | junk v => exact .junk v
  | iface t _ ih => exact .iface t ih
  | agg hl _ ih => exact .agg (by rw [stripL_map]; simpa using hl) (fun j x v hx hv => by
      rw [stripL_map, List.getElem?_map] at hx
      obtain ⟨y, hy, rfl⟩ := Option.map_eq_some_iff.1 hx
      exact ih j y v hy hv)
  | tup hl _ ih => exact .tup (by rw [stripL_map]; simpa using hl) (fun j x v hx hv => by
      rw [stripL_map, List.getElem?_map] at hx
      obtain ⟨y, hy, rfl⟩ := Option.map_eq_some_iff.1 hx
      exact ih j y v hy hv)
theorem VReps.strip {E : Env} {w : World} {xs : List PV} {vs : List Value} (h : VReps E w xs vs) : VReps E w (stripL xs) vs :=
  ⟨by rw [stripL_map]; simpa using h.1, fun j x v hx hv => by
    rw [stripL_map, List.getElem?_map] at hx
    obtain ⟨y, hy, rfl⟩ := Option.map_eq_some_iff.1 hx
    exact (h.2 j y v hy hv).strip⟩
mutual
theorem PV.pure_strip : ∀ x : PV, x.pure = true → x.strip.pure = true
  | .sl _ _ _, _ => rfl
  | .agg cs, h => by simp only [PV.strip, PV.pure] at h ⊢; exact pureL_strip cs h
  | .tup cs, h => by simp only [PV.strip, PV.pure] at h ⊢; exact pureL_strip cs h
  | .iface t x, h => by simp only [PV.strip, PV.pure] at h ⊢; exact x.pure_strip h
  | .own _ _, h | .rpos _ _, h | .ptr _ _, h | .bsl _ _ _, h | .junk, h => by simp [PV.pure] at h
  | .func _ _, h => h
  | .int _ _, _ | .bool _, _ | .str _, _ | .slice _ _, _ | .nil, _ | .epos _, _ | .nilptr, _ | .nilfunc, _ | .niliface, _ | .exact _, _ => rfl
theorem pureL_strip : ∀ xs : List PV, pureL xs = true → pureL (stripL xs) = true
  | [], _ => rfl
  | x :: xs, h => by
    simp only [pureL, stripL, Bool.and_eq_true] at h ⊢
    exact ⟨x.pure_strip h.1, pureL_strip xs h.2⟩
end
section
variable {G : Prg}
theorem Pure.strip {f : FuncId} {args : List PV} {R : PV → Prop} (h : Pure G f (stripL args) R) : Pure G f args R := fun E w vs hh hv => h E w vs hh hv.strip
def PureT (G : Prg) (f : FuncId) (args : List PV) (R : Nat → PV → Prop) : Prop :=
  ∀ E w vs, HRep G.Γ E w ⟨[], []⟩ → VReps E w args vs → Calls G.P f vs.toArray w fun e w' => ∃ r v E', R w.heap.size r ∧ e = .returned v ∧ VRep E' w' r v ∧ HRep G.Γ E' w' ⟨[], []⟩ ∧ PExt 0 E w E' w'
theorem PureT.of_swpw {f : FuncId} {fn : Func} {c : Code} {args : List PV} {R : Nat → PV → Prop} (hf : G.P.funcs[f]? = some fn) (hb : fn.body = some c) (hn : args.length ≤ fn.ntmps)
    (h : ∀ w0 E0, SWPw G (Ctx.of w0 E0 0 fn.ntmps) c (fun e s E w => (e = .normal ∨ e = .ret) ∧ ∃ r, aret G fn s = some r ∧ ∀ v, VRep E w r v → ∃ r', R w0.heap.size r' ∧ r'.sc 0 = true ∧ VRep E w r' v) ⟨enum 0 args, ⟨[], []⟩⟩) : PureT G f args R := fun E w vs hh hv => by
  refine calls_of_wp hf hb ?_
  have hE : HRep G.Γ { E with lo := w.heap.size } w ⟨[], []⟩ := ⟨hh.nb, hh.nr, Nat.le_refl _, fun i b hb => by simp at hb, fun i r hr => by simp at hr, hh.inj, hh.rinj, hh.brw, hh.im_lt, hh.im_b, hh.im_r, hh.gl⟩
  have hv' : VReps { E with lo := w.heap.size } w args vs := hv.move fun x v hx => hx.move (Nat.le_refl _) (Nat.le_refl _) (fun _ _ => rfl) (fun _ _ => rfl) (fun _ h => h) (fun _ _ => rfl)
  have hrel : Rel G (Ctx.of w E 0 fn.ntmps) { E with lo := w.heap.size } ⟨enum 0 args, ⟨[], []⟩⟩ { tmps := vs.toArray ++ Array.replicate (fn.ntmps - vs.toArray.size) undef, defers := [] } w :=
    ⟨rfl, by simp [hv.1]; omega, fun s => by
      rcases lk_enum args vs 0 (fn.ntmps - vs.length) s hv' with h | h
      · have e : (vs.toArray ++ Array.replicate (fn.ntmps - vs.toArray.size) undef).getD s undef = (vs ++ List.replicate (fn.ntmps - vs.length) undef).getD (s - 0) undef := by
          rw [Array.getD_eq_getD_getElem?, List.getD, ← Array.getElem?_toList]
          simp
        rw [e]
        exact h
      · omega, hE, rfl, Nat.zero_le _, fun _ _ => rfl, fun i h1 h2 => absurd (show i < 0 from by have := hh.nb; simp at this; rw [this] at h2; exact h2) (Nat.not_lt_zero _), fun _ h => h, fun _ h => .inl h, fun _ _ _ _ => rfl, rfl, rfl, rfl, Nat.le_refl _, fun j s k hj => by simp at hj⟩
  refine wp_mono (h w E _ _ _ hrel) fun e a' w' ⟨ae, s, E', ⟨he, rv, hrv, q⟩, x, r⟩ => ?_
  obtain ⟨v, hv1, hv2⟩ := aret_ok r.fr r.hp hrv
  obtain ⟨r', h1, h1s, h2⟩ := q v hv2
  obtain ⟨k1, k2⟩ := close_ok r (fun _ h => h) (m := 0) (Nat.zero_le _) (Nat.zero_le _) rfl
  have fin : a'.defers = [] ∧ ∃ v, (results fn a'.tmps).run G.P w' = .ok v w' ∧ ∃ r v' E', R w.heap.size r ∧ Ending.returned v = .returned v' ∧ VRep E' w' r v' ∧ HRep G.Γ E' w' ⟨[], []⟩ ∧ PExt 0 E w E' w' :=
    ⟨r.defers, v, hv1, r', v, { E' with nb := 0, nr := 0 }, h1, rfl, h2.sc h1s (Nat.le_refl _) (fun _ _ => rfl) rfl, k1, ⟨k2.sz, k2.os, k2.tape, k2.out, k2.keep, k2.more, k2.β, k2.up, k2.dn, k2.own⟩⟩
  rcases he with rfl | rfl
  · cases x; exact fin
  · cases x; exact fin
section
variable {C : Ctx} {Q : AEx → AS → Prop} {K : AS → Prop} {st : AS}
end
def Prg.at (G : Prg) (lo : Nat) : Prg := { G with Γ := { G.Γ with lo := lo } }
theorem HRep.of_at (h0 : G.Γ.lo = 0) {lo : Nat} {E : Env} {w : World} {H : Hp} (h : HRep (G.at lo).Γ E w H) : HRep G.Γ E w H :=
  ⟨h.nb, h.nr, h.lo, h.box, h.row, h.inj, h.rinj, h.brw, h.im_lt, h.im_b, h.im_r, ⟨by rw [h0]; exact Nat.zero_le _, h.gl.2⟩⟩
theorem HRep.to_at {lo : Nat} {E : Env} {w : World} {H : Hp} (h : HRep G.Γ E w H) (hl : lo ≤ w.heap.size) : HRep (G.at lo).Γ E w H :=
  ⟨h.nb, h.nr, h.lo, h.box, h.row, h.inj, h.rinj, h.brw, h.im_lt, h.im_b, h.im_r, ⟨hl, h.gl.2⟩⟩
theorem PCalls.at (h0 : G.Γ.lo = 0) {f : FuncId} {args : List PV} {bx : List Box} {R : Out → List Box → Prop} (h : PCalls G f args bx R) (lo : Nat) : PCalls (G.at lo) f args bx R := fun E w vs hh hv =>
  (h E w vs (hh.of_at h0) hv).mono fun e w' ⟨o, b, E', hR, ho, hh', hx⟩ => ⟨o, b, E', hR, ho, hh'.to_at (Nat.le_trans hh.gl.1 hx.sz), hx⟩
theorem Pure.at (h0 : G.Γ.lo = 0) {f : FuncId} {args : List PV} {R : PV → Prop} (h : Pure G f args R) (lo : Nat) : Pure (G.at lo) f args R := PCalls.at h0 h lo
theorem Fresh.at (h0 : G.Γ.lo = 0) {f : FuncId} {args : List PV} {row : Row} (h : Fresh G f args row) (lo : Nat) : Fresh (G.at lo) f args row := fun E w vs hh hv =>
  (h E w vs (hh.of_at h0) hv).mono fun e w' ⟨v, ys, E', h1, h2, h3, h4, h5, hh', hx⟩ => ⟨v, ys, E', h1, h2, h3, h4, h5, hh'.to_at (Nat.le_trans hh.gl.1 hx.sz), hx⟩
def Cfg.at (S : Cfg G) (h0 : G.Γ.lo = 0) (lo : Nat) : Cfg (G.at lo) where
  F := S.F
  hF := S.hF
  S := S.S
  hS := fun f args r o h ho hp => (S.hS f args r o h ho hp).at h0 lo
  orc := S.orc
  B := S.B
  hB := fun f xs x r x' o h ho => let k := S.hB f xs x r x' o h ho; ⟨k.1.at h0 lo, k.2⟩
  D := S.D
  val := S.val
  W := S.W
  hW := fun f args row o h ho => (S.hW f args row o h ho).at h0 lo
  tst := S.tst
def OldF (im : Nat → Prop) (n : Nat) (cs : List PV) (w : World) (v : Value) : Prop := IRep im w (.slice n cs) v
section
variable {C : Ctx} {Q : AEx → AS → Prop} {K : AS → Prop} {st : AS}
theorem lk_app (a b : List (Nat × PV)) (s : Nat) : (lk (a ++ b) s = lk b s ∧ ∀ p ∈ a, p.1 ≠ s) ∨ ∃ p ∈ a, p.1 = s ∧ lk (a ++ b) s = p.2 := by
  induction a with
  | nil => exact .inl ⟨rfl, fun p h => absurd h (List.not_mem_nil)⟩
  | cons p a ih =>
    obtain ⟨i, x⟩ := p
    by_cases hi : i = s
    · exact .inr ⟨(i, x), List.mem_cons_self .., hi, by simp only [List.cons_append, lk, hi, if_true]⟩
    · have e : lk ((i, x) :: a ++ b) s = lk (a ++ b) s := by simp only [List.cons_append, lk, hi, if_false]
      rw [e]
      rcases ih with ⟨h, hn⟩ | ⟨p, hp, h1, h2⟩
      · exact .inl ⟨h, fun p hp => by rcases List.mem_cons.1 hp with rfl | hp; exact hi; exact hn p hp⟩
      · exact .inr ⟨p, List.mem_cons_of_mem _ hp, h1, h2⟩
theorem SWP.tags {c : Code} (ts : List (Nat × Nat × List PV)) (hts : ∀ p ∈ ts, lk st.t p.1 = .slice p.2.1 p.2.2)
    (h : ∀ E a w, Rel G C E st a w → SWP G (C.at E st w) c Q ⟨(ts.map fun p => (p.1, .sl (OldF E.im p.2.1 p.2.2) p.2.1 p.2.2)) ++ st.t, st.h⟩) : SWP G C c Q st := fun E a w hr => by
  have hr2 : Rel G (C.at E st w) E ⟨(ts.map fun p => (p.1, .sl (OldF E.im p.2.1 p.2.2) p.2.1 p.2.2)) ++ st.t, st.h⟩ a w := { hr.at with
    fr := fun s => by
      rcases lk_app (ts.map fun p => (p.1, PV.sl (OldF E.im p.2.1 p.2.2) p.2.1 p.2.2)) st.t s with ⟨h1, _⟩ | ⟨p, hp, h1, h2⟩
      · show VRep E w (lk _ s) _
        rw [h1]; exact hr.fr s
      · show VRep E w (lk _ s) _
        rw [h2]
        obtain ⟨q, hq, rfl⟩ := List.mem_map.1 hp
        subst h1
        have hv := hr.fr q.1
        rw [hts q hq] at hv
        have hi := hv.pure rfl
        exact .imm (.sl hi (hv.one rfl) fun w' hw' => hi.move (fun _ h => h) hw') }
  exact wp_mono (h E a w hr E a w hr2) fun e a' w' ⟨ae, s, E', q, x, r⟩ => ⟨ae, s, E', q, x, hr.back r⟩
def Eats (G : Prg) (f : FuncId) (args : List PV) (S : Nat → Prop) (r : PV) : Prop :=
  ∀ E w vs (im0 : Nat → Prop), HRep G.Γ E w ⟨[], []⟩ → (∀ k, im0 k → ¬ S k ∧ k < w.heap.size) → (∀ g cs, G.Γ g = some cs → GRep im0 w cs g) → VReps E w args vs → Calls G.P f vs.toArray w fun e w' => ∃ v, e = .returned v ∧ (∀ E' w', VRep E' w' r v) ∧ w.heap.size ≤ w'.heap.size ∧ w'.os = w.os ∧ w'.tape = w.tape ∧ w'.output = w.output ∧ ∀ k, k < w.heap.size → ¬ S k → w'.heap[k]? = w.heap[k]?
theorem SOp.eat {o : Oper} {c : Call} {f : FuncId} {fn : Func} {args : List PV} {S : Nat → Prop} {r : PV} (t' : List (Nat × PV)) (ho : o.op = .call c) (ht : target st G c = some (f, args)) (hf : G.P.funcs[f]? = some fn) (hname : (fn.name == "runtime.NumGoroutine") = false) (hb : fn.body.isSome = true)
    (hp : pureL args = true) (hd : dstOk C.nt o.dst = true) (hc : Eats G f args S r) (hS : ∀ k, S k → C.w0.heap.size ≤ k) (hg0 : ∀ g cs, G.Γ g = some cs → GRep C.E0.im C.w0 cs g) (hE0 : ∀ k, C.E0.im k → k < C.w0.heap.size ∧ (∀ i, i < C.nb → C.E0.β i ≠ k) ∧ ¬ C.wr k)
    (hbx : st.h.bx = []) (hrw : ∀ (j : Nat) (s : Row), st.h.rw[j]? ≠ some (some s))
    (ht' : ∀ s, lk t' s = .junk ∨ ((lk st.t s).lone = true ∧ lk t' s = lk st.t s) ∨ ∃ im0 n cs, (∀ k, im0 k → C.E0.im k) ∧ lk st.t s = .sl (OldF im0 n cs) n cs ∧ lk t' s = .slice n cs)
    (h : K ((⟨t', st.h⟩ : AS).put o.dst r)) : SOp G C o Q K st := fun E a w hr => by
  obtain ⟨vs, hrun, hvs⟩ := target_ok ho ht hf hname hb hr
  unfold Oper.wp
  rw [hrun]
  have hH : HRep G.Γ { E with nb := 0, nr := 0 } w ⟨[], []⟩ := ⟨rfl, rfl, hr.hp.lo, fun i b hb => by simp at hb, fun i r hr => by simp at hr, fun i j h => by simp at h, fun i j r s k h => by simp at h, fun i j r h => by simp at h, hr.hp.im_lt, fun k i h => by simp at h, fun k j r h => by simp at h, hr.hp.gl⟩
  have hi0 : ∀ k, C.E0.im k → ¬ S k ∧ k < w.heap.size := fun k hk' => ⟨fun hs => absurd (hS k hs) (Nat.not_le.2 (hE0 k hk').1), Nat.lt_of_lt_of_le (hE0 k hk').1 hr.sz⟩
  refine (hc { E with nb := 0, nr := 0 } w vs C.E0.im hH hi0 (fun g cs hg => (hg0 g cs hg).move (fun _ h => h) fun k hk' => hr.keep k (hE0 k hk').1 (hE0 k hk').2.1 (hE0 k hk').2.2) ((hvs.pure hp).v (E := { E with nb := 0, nr := 0 }))).mono ?_
  rintro e w' ⟨v, rfl, hv, hsz, hos, htp, hou, hk⟩
  have hnb : E.nb = 0 := by rw [hr.hp.nb, hbx]; rfl
  have same : ∀ k, k < C.w0.heap.size → w'.heap[k]? = w.heap[k]? := fun k hk' => hk k (Nat.lt_of_lt_of_le hk' hr.sz) fun hs => absurd (hS k hs) (Nat.not_le.2 hk')
  have im0 : ∀ k, C.E0.im k → w'.heap[k]? = C.w0.heap[k]? := fun k hk' => (same k (hE0 k hk').1).trans (hr.keep k (hE0 k hk').1 (hE0 k hk').2.1 (hE0 k hk').2.2)
  have hh : HRep G.Γ { E with im := C.E0.im } w' st.h := ⟨hr.hp.nb, hr.hp.nr, Nat.le_trans hr.hp.lo hsz, fun i b hb => by rw [hbx] at hb; simp at hb, fun i s hs => absurd hs (hrw i s), hr.hp.inj, fun i j s t k hi => absurd hi (hrw i s), fun i j s hi => by rw [show ({ E with im := C.E0.im } : Env).nb = 0 from hnb] at hi; exact absurd hi (Nat.not_lt_zero _), fun k hk' => Nat.lt_of_lt_of_le (hE0 k hk').1 (Nat.le_trans hr.sz hsz), fun k i hi => by rw [show ({ E with im := C.E0.im } : Env).nb = 0 from hnb] at hi; exact absurd hi (Nat.not_lt_zero _), fun k j s hj => absurd hj (hrw j s), ⟨Nat.le_trans hr.hp.gl.1 hsz, fun g cs hg => (hg0 g cs hg).move (fun _ h => h) im0⟩⟩
  have hr2 : Rel G C { E with im := C.E0.im } ⟨t', st.h⟩ a w' :=
    ⟨hr.defers, hr.size, fun s => by
      rcases ht' s with h1 | ⟨h1, h2⟩ | ⟨im0, n, cs, him, h1, h2⟩
      · show VRep _ w' (lk t' s) _
        rw [h1]; exact .junk _
      · show VRep _ w' (lk t' s) _
        rw [h2]; exact (hr.fr s).lone h1
      · show VRep _ w' (lk t' s) _
        rw [h2]
        have hv := hr.fr s
        rw [h1] at hv
        have hi := hv.pure rfl
        cases hi with
        | sl _ _ hF =>
          have := hF w fun _ _ => rfl
          exact .imm (IRep.move (im := im0) (w := w) this him fun k hk' => same k (hE0 k (him k hk')).1),
      hh, hr.lo, hr.nb, hr.β, hr.own, fun _ h => h, fun _ h => .inl h, fun k h1 h2 h3 => (same k h1).trans (hr.keep k h1 h2 h3), hos.trans hr.os, htp.trans hr.tape, hou.trans hr.out, Nat.le_trans hr.sz hsz, fun j s k hj => absurd hj (hrw j s)⟩
  exact ⟨_, _, h, hr2.put hd (hv _ _)⟩
end
theorem Fn.enterL {f : FuncId} {fn : Func} {c : Code} {args : List PV} {bx : List Box} {R : Out → List Box → Prop} {k : Nat} (hf : G.P.funcs[f]? = some fn) (hk : fn.ntmps = k) (hb : fn.body = some c) (hn : args.length ≤ k)
    (h : ∀ (C : Ctx) (fr : AS → Prop) (fp : PV → AS → Prop), C.nt = k → C.nb = bx.length → G.Γ.lo ≤ C.lo → PanT fp → (∀ s sl, FinR G fn bx.length R (nrm sl s) → fr s) → (∀ x s, FinP bx.length R x s → fp x s) → SWP G C c (QT fr [] fr fp) ⟨enum 0 args, ⟨bx, []⟩⟩) : PCalls G f args bx R :=
  .of_swpL hf hb (by rw [hk]; exact hn) fun w0 E0 hl => .normQ (by
    refine (h _ (fun s => ∃ sl, FinR G fn bx.length R (nrm sl s)) (FinP bx.length R) hk rfl hl (FinP.panT _ _) (fun s sl h => ⟨sl, h⟩) (fun _ _ h => h)).mono fun e s q => ?_
    rw [Q.fin]
    cases e with
    | normal => exact q
    | exit i => exact q.elim
    | ret => exact q
    | panic x => exact ⟨[], q⟩)
section
variable {C : Ctx} {Q : AEx → AS → Prop} {st : AS}
theorem Rel.of_at (h0 : G.Γ.lo = 0) {lo : Nat} {E : Env} {a : Act} {w : World} (h : Rel (G.at lo) C E st a w) : Rel G C E st a w :=
  { h with hp := h.hp.of_at h0 }
theorem Rel.to_at {lo : Nat} {E : Env} {a : Act} {w : World} (h : Rel G C E st a w) (hl : lo ≤ w.heap.size) : Rel (G.at lo) C E st a w :=
  { h with hp := h.hp.to_at hl }
theorem SWP.here {lo0 : Nat} {c : Code} (h0 : G.Γ.lo = 0) (h : ∀ E a w, Rel (G.at lo0) C E st a w → ∃ st', Rel (G.at lo0) C E st' a w ∧ SWP (G.at w.heap.size) (C.at E st' w) c Q st') : SWP (G.at lo0) C c Q st := fun E a w hr => by
  obtain ⟨st', h1, h2⟩ := h E a w hr
  refine wp_mono (h2 E a w ((h1.at.of_at (G := G) h0).to_at (Nat.le_refl _))) fun e a' w' ⟨ae, s, E', q, x, r⟩ => ⟨ae, s, E', q, x, h1.back ?_⟩
  exact (r.of_at (G := G) h0).to_at (Nat.le_trans hr.hp.gl.1 r.sz)
theorem Rel.rebox {E : Env} {a : Act} {w : World} (hr : Rel G C E st a w) {i : Nat} {b : Box} (hb : st.h.bx[i]? = some b) {cs : List PV} (h : ∀ vs : List Value, w.heap[E.β i]? = some (.cells vs.toArray b.ty (0, 0)) → VReps E w b.cs vs → VReps E w cs vs) : Rel G C E { st with h := { st.h with bx := st.h.bx.set i ⟨cs, b.ty⟩ } } a w :=
  { hr with hp := { hr.hp with
    nb := by simp [hr.hp.nb]
    box := fun j c hc => by
      simp only [List.getElem?_set] at hc
      split at hc
      · rename_i hij
        subst hij
        split at hc
        · cases hc
          obtain ⟨vs, h1, h2⟩ := hr.hp.box i b hb
          exact ⟨vs, h1, h vs h1 h2⟩
        · cases hc
      · exact hr.hp.box j c hc } }
theorem SWP.conv {c : Code} (h : ∀ E a w, Rel G C E st a w → ∃ E' st', Rel G C E' st' a w ∧ SWP G C c Q st') : SWP G C c Q st := fun E a w hr => by
  obtain ⟨E', st', h1, h2⟩ := h E a w hr
  exact h2 E' a w h1
theorem Rel.rerow {E : Env} {a : Act} {w : World} (hr : Rel G C E st a w) {i : Nat} {x : Row} (hb : st.h.rw[i]? = some (some x)) {cs : List PV} (h : ∀ vs, IReps E.im w x.cs vs → IReps E.im w cs vs) : Rel G C E { st with h := { st.h with rw := st.h.rw.set i (some ⟨cs, x.n, x.ty, x.sz⟩) } } a w := by
  have live : ∀ (j : Nat) (s : Row), (st.h.rw.set i (some ⟨cs, x.n, x.ty, x.sz⟩))[j]? = some (some s) → ∃ s', st.h.rw[j]? = some (some s') := fun j s hj => by
    simp only [List.getElem?_set] at hj
    split at hj
    · rename_i hij; subst hij; exact ⟨x, hb⟩
    · exact ⟨s, hj⟩
  exact { hr with
    hp := { hr.hp with
      nr := by simp [hr.hp.nr]
      row := fun j s hj => by
        simp only [List.getElem?_set] at hj
        split at hj
        · rename_i hij
          subst hij
          split at hj
          · cases hj
            obtain ⟨xs, h1, h2, h3⟩ := hr.hp.row i x hb
            exact ⟨xs, h1, h xs h2, h3⟩
          · cases hj
        · exact hr.hp.row j s hj
      rinj := fun i j r s k hi hj => by
        obtain ⟨r', hi'⟩ := live i r hi
        obtain ⟨s', hj'⟩ := live j s hj
        exact hr.hp.rinj i j r' s' k hi' hj'
      brw := fun i j r hi hj => by
        obtain ⟨r', hj'⟩ := live j r hj
        exact hr.hp.brw i j r' hi hj'
      im_r := fun k j r hj hk => by
        obtain ⟨r', hj'⟩ := live j r hj
        exact hr.hp.im_r k j r' hj' hk }
    rows := fun j s k hj hk => by
      obtain ⟨s', hj'⟩ := live j s hj
      exact hr.rows j s' k hj' hk }
end
def WPw (G : Prg) (C : Ctx) (c : Code) (Q : AEx → AS → Env → World → Prop) (a : Act) (w : World) : Prop := c.wp G.P (fun e a' w' => ∃ ae st' E', Q ae st' E' w' ∧ ExR E' w' ae e ∧ Rel G C E' st' a' w') a w
def WLw (G : Prg) (C : Ctx) (ops : Array Oper) (Q : AEx → AS → Env → World → Prop) (l : List Oper) (a : Act) (w : World) : Prop := wpList G.P ops (fun e a' w' => ∃ ae st' E', Q ae st' E' w' ∧ ExR E' w' ae e ∧ Rel G C E' st' a' w') l a w
section
variable {C : Ctx} {Q Q' : AEx → AS → Env → World → Prop} {st : AS} {E : Env} {a : Act} {w : World} {c d : Code} {ops : Array Oper} {o : Oper} {l : List Oper}
def thenW (K : AS → Env → World → Prop) (Q : AEx → AS → Env → World → Prop) : AEx → AS → Env → World → Prop
  | .normal, s, E, w => K s E w
  | e, s, E, w => Q e s E w
theorem WPw.seq (h : WPw G C c (thenW (fun s E w => ∀ a, Rel G C E s a w → WPw G C d Q a w) Q) a w) : WPw G C (.seq c d) Q a w :=
  wp_seq (wp_mono h fun e a w ⟨ae, s, E', q, x, r⟩ => by
    cases ae with
    | normal => cases x; exact q a r
    | exit i => cases x; exact ⟨.exit i, s, E', q, rfl, r⟩
    | ret => cases x; exact ⟨.ret, s, E', q, rfl, r⟩
    | panic y => obtain ⟨v, rfl, hv⟩ := x; exact ⟨.panic y, s, E', q, ⟨v, rfl, hv⟩, r⟩)
def blockW (id : Nat) (Q : AEx → AS → Env → World → Prop) : AEx → AS → Env → World → Prop
  | .exit i, s, E, w => if i = id then Q .normal s E w else Q (.exit i) s E w
  | e, s, E, w => Q e s E w
theorem WPw.block {id : Nat} (h : WPw G C c (blockW id Q) a w) : WPw G C (.block id c) Q a w :=
  wp_block (wp_mono h fun e a w ⟨ae, s, E', q, x, r⟩ => by
    cases ae with
    | normal => cases x; exact ⟨.normal, s, E', q, rfl, r⟩
    | exit i =>
      cases x
      simp only [Exit.inBlock]
      simp only [blockW] at q
      by_cases hi : i = id
      · rw [if_pos hi] at q ⊢; exact ⟨.normal, s, E', q, rfl, r⟩
      · rw [if_neg hi] at q ⊢; exact ⟨.exit i, s, E', q, rfl, r⟩
    | ret => cases x; exact ⟨.ret, s, E', q, rfl, r⟩
    | panic y => obtain ⟨v, rfl, hv⟩ := x; exact ⟨.panic y, s, E', q, ⟨v, rfl, hv⟩, r⟩)
theorem WPw.loop {σ : Type} (I : σ → AS → Env → World → Prop) (μ : σ → Nat) (x : σ) (hr : Rel G C E st a w) (h0 : I x st E w)
    (hb : ∀ x s E a w, Rel G C E s a w → I x s E w → WPw G C c (thenW (fun s' E' w' => ∃ y, I y s' E' w' ∧ μ y < μ x) Q) a w) : WPw G C (.loop c) Q a w := by
  refine wp_loop_ghost (fun n a' w' => ∃ x s E, μ x = n ∧ I x s E w' ∧ Rel G C E s a' w') (μ x) ⟨x, st, E, rfl, h0, hr⟩ ?_
  rintro n a' w' ⟨x, s, E, rfl, hI, hrel⟩
  refine wp_mono (hb x s E a' w' hrel hI) fun e a w ⟨ae, s, E', q, ex, r⟩ => ?_
  cases ae with
  | normal =>
    cases ex
    obtain ⟨y, hy, hlt⟩ := q
    exact ⟨μ y, hlt, y, s, E', rfl, hy, r⟩
  | exit i => cases ex; exact ⟨.exit i, s, E', q, rfl, r⟩
  | ret => cases ex; exact ⟨.ret, s, E', q, rfl, r⟩
  | panic y => obtain ⟨v, rfl, hv⟩ := ex; exact ⟨.panic y, s, E', q, ⟨v, rfl, hv⟩, r⟩
theorem WPw.region {id : Nat} (h : WLw G C ops Q ops.toList a w) : WPw G C (.region id ops false) Q a w := wp_region_list h
theorem WLw.nil (hr : Rel G C E st a w) (h : Q .normal st E w) : WLw G C ops Q [] a w := ⟨.normal, st, E, h, rfl, hr⟩
theorem WLw.val {x : PV} (hr : Rel G C E st a w) (hg : o.guard = none) (hx : aval G st o.op = some x) (hd : dstOk C.nt o.dst = true) (h : ∀ a', Rel G C E (st.put o.dst x) a' w → WLw G C ops Q l a' w) : WLw G C ops Q (o :: l) a w :=
  wpList_plain hg fun K hK => by
    obtain ⟨v, hrun, hv⟩ := aval_ok hr.fr hr.hp hx
    unfold Oper.wp
    rw [hrun w (Gr.refl w)]
    exact hK _ _ (h _ (hr.put hd hv))
theorem WLw.call {cl : Call} {f : FuncId} {fn : Func} {args : List PV} (hr : Rel G C E st a w) (hg : o.guard = none) (ho : o.op = .call cl) (ht : target st G cl = some (f, args)) (hf : G.P.funcs[f]? = some fn) (hname : (fn.name == "runtime.NumGoroutine") = false) (hb : fn.body.isSome = true)
    (h : ∀ vs : List Value, VReps E w args vs → Calls G.P f vs.toArray w fun e w' => ∃ v, e = .returned v ∧ WLw G C ops Q l (a.put o.dst v) w') : WLw G C ops Q (o :: l) a w :=
  wpList_plain hg fun K hK => by
    obtain ⟨vs, hrun, hvs⟩ := target_ok ho ht hf hname hb hr
    unfold Oper.wp
    rw [hrun]
    refine (h vs hvs).mono ?_
    rintro e w' ⟨v, rfl, hv⟩
    exact hK _ _ hv
theorem WLw.tval {x : PV} {ob : Ob} (hr : Rel G C E st a w) (hg : o.guard = none) (hx : AS.tval G st o.op = some (x, ob)) (ho : okO ob) (hd : dstOk C.nt o.dst = true) (h : ∀ a', Rel G C E (st.put o.dst x) a' w → WLw G C ops Q l a' w) : WLw G C ops Q (o :: l) a w :=
  .val hr hg (tval_ok hx ho) hd h
theorem WPw.runQ (hr : Rel G C E st a w) (S : Cfg G) (k nt : Nat) (hnt : C.nt = nt) (sl : List Nat) {e : AEx} {z : AS} {o : Ob} (h : runP S k nt c st sl = some (e, z, o)) (ho : okO o) (hK : ∀ E2 w2 a2, Rel G (C.at E st w) E2 z a2 w2 → Rel G C E2 z a2 w2 → Q e z E2 w2) : WPw G C c Q a w := by
  unfold runP at h
  split at h
  · rename_i e' s' o' hrun
    cases h
    obtain ⟨_, h2, _⟩ := run_ok S k _ _ _ _ hrun ho
    refine wp_mono (h2 (C.at E st w) hnt E a w hr.at) ?_
    rintro ex a' w' ⟨ae, s, E', ⟨rfl, rfl⟩, x, r⟩
    exact ⟨ae, nrm sl s, E', hK E' w' a' (r.norm sl) (hr.back (r.norm sl)), x, hr.back (r.norm sl)⟩
  · cases h
end
theorem enterW {f : FuncId} {fn : Func} {c : Code} {args : List PV} {bx : List Box} {E : Env} {w : World} {vs : List Value} {R : Ending → World → Prop} (wr : Nat → Prop) (hf : G.P.funcs[f]? = some fn) (hb : fn.body = some c) (hn : args.length ≤ fn.ntmps) (hh : HRep G.Γ E w ⟨bx, []⟩) (hv : VReps E w args vs)
    (h : ∀ a, Rel G ⟨w, E, bx.length, fn.ntmps, w.heap.size, wr, []⟩ { E with lo := w.heap.size } ⟨enum 0 args, ⟨bx, []⟩⟩ a w →
      WPw G ⟨w, E, bx.length, fn.ntmps, w.heap.size, wr, []⟩ c (fun e s E' w' => (e = .normal ∨ e = .ret) ∧ ∃ r, aret G fn s = some r ∧ ∀ v a', Rel G ⟨w, E, bx.length, fn.ntmps, w.heap.size, wr, []⟩ E' s a' w' → VRep E' w' r v → R (.returned v) w') a w) : Calls G.P f vs.toArray w R := by
  refine calls_of_wp hf hb ?_
  have hE : HRep G.Γ { E with lo := w.heap.size } w ⟨bx, []⟩ := ⟨hh.nb, hh.nr, Nat.le_refl _, fun i b hb => by
    obtain ⟨us, h1, h2⟩ := hh.box i b hb
    exact ⟨us, h1, h2.move fun x v hx => hx.move (Nat.le_refl _) (Nat.le_refl _) (fun _ _ => rfl) (fun _ _ => rfl) (fun _ h => h) (fun _ _ => rfl)⟩, fun i r hr => by simp at hr, hh.inj, hh.rinj, hh.brw, hh.im_lt, hh.im_b, hh.im_r, hh.gl⟩
  have hv' : VReps { E with lo := w.heap.size } w args vs := hv.move fun x v hx => hx.move (Nat.le_refl _) (Nat.le_refl _) (fun _ _ => rfl) (fun _ _ => rfl) (fun _ h => h) (fun _ _ => rfl)
  have hrel : Rel G ⟨w, E, bx.length, fn.ntmps, w.heap.size, wr, []⟩ { E with lo := w.heap.size } ⟨enum 0 args, ⟨bx, []⟩⟩ { tmps := vs.toArray ++ Array.replicate (fn.ntmps - vs.toArray.size) undef, defers := [] } w :=
    ⟨rfl, by simp [hv.1]; omega, fun s => by
      rcases lk_enum args vs 0 (fn.ntmps - vs.length) s hv' with h | h
      · have e : (vs.toArray ++ Array.replicate (fn.ntmps - vs.toArray.size) undef).getD s undef = (vs ++ List.replicate (fn.ntmps - vs.length) undef).getD (s - 0) undef := by
          rw [Array.getD_eq_getD_getElem?, List.getD, ← Array.getElem?_toList]
          simp
        rw [e]
        exact h
      · omega, hE, rfl, by simp [hh.nb], fun _ _ => rfl, fun i h1 h2 => absurd (show i < bx.length from hh.nb ▸ h2) (Nat.not_lt.2 h1), fun _ h => h, fun _ h => .inl h, fun _ _ _ _ => rfl, rfl, rfl, rfl, Nat.le_refl _, fun j s k hj => by simp at hj⟩
  refine wp_mono (h _ hrel) fun e a' w' ⟨ae, s, E', ⟨he, rv, hrv, q⟩, x, r⟩ => ?_
  obtain ⟨v, hv1, hv2⟩ := aret_ok r.fr r.hp hrv
  rcases he with rfl | rfl
  · cases x; exact ⟨r.defers, v, hv1, q v a' r hv2⟩
  · cases x; exact ⟨r.defers, v, hv1, q v a' r hv2⟩
end
end Go.AS
namespace Go.Proofs.YteimebpgmfhgjaaDoor
open Go.AS
set_option linter.unusedVariables false
namespace Seat
def Own (w : World) : Nat → (Nat → Prop) → Value → Prop
  | 0, _, _ => False
  | N + 1, S, v => ∃ A n c, v = .slice A n c ∧ ((n = 0 ∧ (A = none → c = 0)) ∨ ∃ (b : Nat) (vs : List Value) (ty : TypeId), A = some ⟨b, 0, none⟩ ∧ S b ∧ w.heap[b]? = some (.cells vs.toArray ty (0, 0)) ∧ (n ≤ c ∧ c ≤ 9223372036854775807 ∧ n * 4 ≤ vs.length) ∧
      ∃ Sf : Nat → Nat → Prop, (∀ i k, Sf i k → S k ∧ k ≠ b) ∧ (∀ i j k, Sf i k → Sf j k → i = j) ∧ ∀ i, i < n → ∃ u, vs[i * 4 + 3]? = some u ∧ Own w N (Sf i) u)
theorem Own.move {w w' : World} : ∀ {N : Nat} {S S' : Nat → Prop} {v : Value}, Own w N S v → (∀ k, S k → S' k) → (∀ k, S k → w'.heap[k]? = w.heap[k]?) → Own w' N S' v
  | 0, _, _, _, h, _, _ => h
  | N + 1, S, S', v, ⟨A, n, c, hv, h⟩, hs, hk => by
    refine ⟨A, n, c, hv, h.imp id ?_⟩
    rintro ⟨b, vs, ty, h1, h2, h3, h4, Sf, h5, h6, h7⟩
    refine ⟨b, vs, ty, h1, hs b h2, (hk b h2).trans h3, h4, Sf, fun i k hik => ⟨hs k (h5 i k hik).1, (h5 i k hik).2⟩, h6, fun i hi => ?_⟩
    obtain ⟨u, hu, ho⟩ := h7 i hi
    exact ⟨u, hu, ho.move (fun k hk => hk) fun k hik => hk k (h5 i k hik).1⟩
theorem Own.lt {w : World} : ∀ {N : Nat} {S : Nat → Prop} {v : Value}, Own w N S v → Own w N (fun k => S k ∧ k < w.heap.size) v
  | 0, _, _, h => h
  | N + 1, S, v, ⟨A, n, c, hv, h⟩ => by
    refine ⟨A, n, c, hv, h.imp id ?_⟩
    rintro ⟨b, vs, ty, h1, h2, h3, h4, Sf, h5, h6, h7⟩
    refine ⟨b, vs, ty, h1, ⟨h2, lt_of_some h3⟩, h3, h4, fun i k => Sf i k ∧ k < w.heap.size, fun i k hk => ⟨⟨(h5 i k hk.1).1, hk.2⟩, (h5 i k hk.1).2⟩, fun i j k h1 h2 => h6 i j k h1.1 h2.1, fun i hi => ?_⟩
    obtain ⟨u, hu, ho⟩ := h7 i hi
    exact ⟨u, hu, ho.lt⟩
end Seat
end Go.Proofs.YteimebpgmfhgjaaDoor
namespace Go.AS
open Go.RowKit
set_option linter.unusedVariables false
set_option linter.unusedSimpArgs false
section
variable {G : Prg} {C : Ctx} {Q : AEx → AS → Prop} {K : AS → Prop} {st : AS}
theorem SOpG.extern {o : Oper} {c : Call} {f : FuncId} {fn : Func} {args : List PV} {e : Array Value → Sem Value} {r : PV} (ho : o.op = .call c) (ht : target st G c = some (f, args)) (hf : G.P.funcs[f]? = some fn) (hname : (fn.name == "runtime.NumGoroutine") = false) (hb : fn.body.isNone = true) (hn : Extern.findNext fn = none) (he : Extern.find fn = some e)
    (hrun : ∀ E w vs, VReps E w args vs → ∃ v, (e vs.toArray).run G.P w = .ok v w ∧ VRep E w r v) (hd : dstOk C.nt o.dst = true) (h : K (st.put o.dst r)) : SOpG G C o Q K st := fun E a w hr => by
  obtain ⟨vs, h1, h2⟩ := target_run ho ht hr
  obtain ⟨v, h3, h4⟩ := hrun E w vs h2
  have hrunf : (execOp a.eval o).run G.P w = .ok (.value v) w := by
    rw [h1, run_callFunc_extern hf hname hb hn he, h3]
    rfl
  unfold Oper.wp
  rw [hrunf]
  exact ⟨⟨Gr.refl w, Nat.le_refl _⟩, _, E, h, hr.put hd h4⟩
theorem Rel.adoptB {E : Env} {a : Act} {w : World} (hr : Rel G C E st a w) {b i : Nat} {x : Box} (hb : st.h.bx[b]? = some x) (hi : x.cs[i]? = some .nil) (ty : TypeId) (sz : Nat) :
    ∃ E', Rel G C E' ⟨st.t, ⟨st.h.bx.set b ⟨x.cs.set i (.own st.h.rw.length 0), x.ty⟩, st.h.rw ++ [some ⟨[], 0, ty, sz⟩]⟩⟩ a w := by
  obtain ⟨h1, h2⟩ := hr.newRow (x := ⟨[], 0, ty, sz⟩) (v := .slice none 0 0) (xs := []) (World.ownsRow_nil w _ _ _) ⟨rfl, fun j x v h => by simp at h⟩ (fun u hu => by cases hu) (fun k i _ h => by simp [Value.ownBlock] at h) (fun k h => by simp [Value.ownBlock] at h) (fun k j s _ h => by simp [Value.ownBlock] at h) (fun k h => by simp [Value.ownBlock] at h)
  have hp := h1.hp
  refine ⟨_, h1.defers, h1.size, h1.fr, ⟨by rw [hp.nb]; simp [AS.newRow], hp.nr, hp.lo, fun j bb hj => ?_, hp.row, hp.inj, hp.rinj, hp.brw, hp.im_lt, hp.im_b, hp.im_r, hp.gl⟩, h1.lo, h1.nb, h1.β, h1.own, h1.up, h1.dn, h1.keep, h1.os, h1.tape, h1.out, h1.sz, h1.rows⟩
  simp only [] at hj
  by_cases hbj : b = j
  · subst hbj
    rw [List.getElem?_set_self (List.getElem?_eq_some_iff.1 hb).1] at hj
    cases hj
    obtain ⟨vs, hv, hvr⟩ := hp.box b x hb
    refine ⟨vs, hv, by simpa using hvr.1, fun q y u hy hu => ?_⟩
    simp only [] at hy
    by_cases hq : i = q
    · subst hq
      rw [List.getElem?_set_self (List.getElem?_eq_some_iff.1 hi).1] at hy
      cases hy
      have := hvr.2 i .nil u hi hu
      rw [this.nil_inv]
      exact h2
    · rw [List.getElem?_set_ne hq] at hy
      exact hvr.2 q y u hy hu
  · rw [List.getElem?_set_ne hbj] at hj
    exact hp.box j bb hj
theorem SWP.adoptB {c : Code} (b i : Nat) {x : Box} (ty : TypeId) (sz : Nat) (hb : st.h.bx[b]? = some x) (hi : x.cs[i]? = some .nil)
    (h : SWP G C c Q ⟨st.t, ⟨st.h.bx.set b ⟨x.cs.set i (.own st.h.rw.length 0), x.ty⟩, st.h.rw ++ [some ⟨[], 0, ty, sz⟩]⟩⟩) : SWP G C c Q st := fun E a w hr => by
  obtain ⟨E', hr'⟩ := hr.adoptB hb hi ty sz
  exact h E' a w hr'
end
theorem Pure.of_str {G : Prg} {f : FuncId} {args : List PV} {s : ByteArray} (h : ∀ E w vs, HRep G.Γ E w ⟨[], []⟩ → VReps E w args vs → Calls G.P f vs.toArray w fun e w' => e = .returned (.string s) ∧ Below w.heap.size w w') : Pure G f args (fun r => r = .str s) := fun E w vs hh hv =>
  (h E w vs hh hv).mono fun e w' ⟨he, hb⟩ => ⟨.ret (.str s), [], E, ⟨rfl, _, rfl, rfl⟩, ⟨_, he, .imm (.str s)⟩, hh.grow hb.size hb.block, ⟨hb.size, hb.os, hb.tape, hb.output, fun k hk _ => hb.block k hk, Nat.zero_le _, fun i hi => absurd hi (Nat.not_lt_zero _), fun _ h => h, fun _ h => .inl h, fun i _ hj => by
    have := hh.nb
    simp only [List.length_nil] at this
    omega⟩⟩
theorem GRep.tab {P : Program} {im : Nat → Prop} {w : World} {name : String} {k : IntKind} {zs : List Int} {g : Nat} (hg : P.globalNamed name = some g) (h : GRep im w (zs.map (PV.int k)) g) : Lib.TabIs P w name k zs := by
  obtain ⟨vs, ty, fz, hb, hsz⟩ := h.all
  unfold Lib.TabIs
  simp only [World.var?, hg, Option.bind_some, hb]
  congr 1
  apply Array.ext'
  apply List.ext_getElem?
  intro j
  cases h.rep with
  | @epos _ _ us hl _ hc hr =>
    rcases Nat.lt_or_ge j zs.length with hj | hj
    · have hju : j < us.length := by rw [hl]; simpa using hj
      have h1 := hc j _ (List.getElem?_eq_getElem hju)
      have h2 := hr j (.int k (zs[j])) _ (by rw [List.getElem?_map, List.getElem?_eq_getElem hj]; rfl) (List.getElem?_eq_getElem hju)
      have h3 : us[j] = Value.int k zs[j] := by
        generalize us[j] = u at h2
        cases h2
        rfl
      rw [h3] at h1
      rw [cell_of_blk (vs := vs.toList) (by simpa using hb)] at h1
      simp only [Nat.zero_add] at h1
      rw [h1]
      simp [List.getElem?_eq_getElem hj]
    · rw [List.getElem?_eq_none (by simp at hsz; simp [hsz]; exact hj), List.getElem?_eq_none (by simpa using hj)]
theorem Rel.dropB {G : Prg} {C : Ctx} {st : AS} {E : Env} {a : Act} {w : World} (hr : Rel G C E st a w) {m : Nat} (h1 : C.nb ≤ m) (h2 : m ≤ st.h.bx.length) (h3 : ((st.h.bx.take m).all fun b => scPL (belowN m) (belowN st.h.rw.length) b.cs) = true) (h4 : (st.t.all fun p => p.2.scP (belowN m) (belowN st.h.rw.length)) = true) :
    Rel G C { E with nb := m } ⟨st.t, ⟨st.h.bx.take m, st.h.rw⟩⟩ a w := by
  have hnr := hr.hp.nr
  have hc := closeH hr (m := m) (n := st.h.rw.length) h2 (Nat.le_refl _) (by simp only [Hp.scB, Hp.take]; exact h3)
  simp only [Hp.take, List.take_length] at hc
  rw [← hnr] at hc
  have hlk : ∀ s, (lk st.t s).scP (belowN m) (belowN st.h.rw.length) = true := by
    intro s
    revert h4
    generalize st.t = t
    intro h4
    induction t with
    | nil => rfl
    | cons p t ih =>
      obtain ⟨i, x⟩ := p
      simp only [List.all_cons, Bool.and_eq_true] at h4
      simp only [lk]
      split
      · exact h4.1
      · exact ih h4.2
  exact ⟨hr.defers, hr.size, fun s => (hr.fr s).sc2 (hlk s) (Nat.le_refl _) (by rw [← hnr]; exact Nat.le_refl _) (fun _ _ => rfl) (fun _ _ => rfl) (fun _ h => h), hc, hr.lo, h1, hr.β, fun i hi hj => hr.own i hi (by have := hr.hp.nb; simp only [] at hj; omega), hr.up, hr.dn, hr.keep, hr.os, hr.tape, hr.out, hr.sz, hr.rows⟩
theorem SWP.dropB {G : Prg} {C : Ctx} {Q : AEx → AS → Prop} {st : AS} {c : Code} (m : Nat) (h1 : C.nb ≤ m) (h2 : m ≤ st.h.bx.length) (h3 : ((st.h.bx.take m).all fun b => scPL (belowN m) (belowN st.h.rw.length) b.cs) = true) (h4 : (st.t.all fun p => p.2.scP (belowN m) (belowN st.h.rw.length)) = true)
    (h : SWP G C c Q ⟨st.t, ⟨st.h.bx.take m, st.h.rw⟩⟩) : SWP G C c Q st := fun E a w hr => h _ a w (hr.dropB h1 h2 h3 h4)
theorem Q.loopH {G : Prg} {C : Ctx} {st : AS} {n : AS → Prop} {xs : List (Nat × (AS → Prop))} {r : AS → Prop} {p : PV → AS → Prop} {c : Code} {σ : Type} (sl : List Nat) (m : Nat) (hm : C.nb ≤ m) (T : σ → AS) (μ : σ → Nat) (x : σ) (hT : ∀ x, (T x).h.bx.length = m ∧ ((T x).h.bx.all fun b => scPL (belowN m) (belowN (T x).h.rw.length) b.cs) = true ∧ ((T x).t.all fun p => p.2.scP (belowN m) (belowN (T x).h.rw.length)) = true)
    (h0 : ∃ bs, nrm sl st = ⟨(T x).t, ⟨(T x).h.bx ++ bs, (T x).h.rw⟩⟩)
    (hr : ∀ x, SWP G C c (QT (fun s => ∃ y, μ y < μ x ∧ ∃ bs, nrm sl s = ⟨(T y).t, ⟨(T y).h.bx ++ bs, (T y).h.rw⟩⟩) xs r p) (T x)) : SWP G C (.loop c) (QT n xs r p) st :=
  Q.loop (σ := σ) (fun x s => ∃ bs, nrm sl s = ⟨(T x).t, ⟨(T x).h.bx ++ bs, (T x).h.rw⟩⟩) μ x h0 fun x s ⟨bs, hs⟩ K hK => .norm sl (by
    rw [hs]
    obtain ⟨e1, e2, e3⟩ := hT x
    refine SWP.dropB m hm (by simp only [List.length_append]; omega) (by rw [show (((T x).h.bx ++ bs).take m) = (T x).h.bx by rw [← e1]; exact List.take_left]; exact e2) e3 ?_
    rw [show (((T x).h.bx ++ bs).take m) = (T x).h.bx by rw [← e1]; exact List.take_left]
    refine (hr x).mono fun e s q => ?_
    cases e with
    | normal => obtain ⟨y, h1, h2⟩ := q; exact hK y s h2 h1
    | ret => exact q
    | exit i => exact q
    | panic x => exact q)
theorem okO_nil : okO [] := fun p h => by cases h
theorem okO_app {o o' : Ob} (h : okO o) (h' : okO o') : okO (o ++ o') := fun p hp => by
  rcases List.mem_append.1 hp with hp | hp
  · exact h p hp
  · exact h' p hp
theorem wrap1 (n : Nat) (h : n ≤ 9223372036854775806) : IntKind.i64.wrap ((n : Int) + 1) = ((n + 1 : Nat) : Int) := by rw [IntKind.wrap_i64]; omega
theorem Dats.get_mk (ks : Dats) (j : Nat) : ∃ k n s ks', ks.get j = .mk k n s ks' := by cases h : ks.get j with | mk k n s ks => exact ⟨k, n, s, ks, rfl⟩
theorem Dat.is_mk (d : Dat) : ∃ k n s ks, d = .mk k n s ks := by cases d with | mk k n s ks => exact ⟨k, n, s, ks, rfl⟩
def orcM (l : List (Nat × List (Nat × Bool))) (nt k : Nat) : Option Bool := match l.lookup nt with
  | some m => m.lookup k
  | none => none
def valM (l : List (Nat × List (Nat × PV))) (nt k : Nat) : Option PV := match l.lookup nt with
  | some m => m.lookup k
  | none => none
def orcL (nt0 : Nat) (l : List (Nat × Bool)) (nt k : Nat) : Option Bool := match Nat.beq nt nt0 with
  | true => l.lookup k
  | false => none
theorem str_nil (s : ByteArray) : s.toList = [] ↔ s.size = 0 := by
  rw [ByteArray.toList_eq]
  constructor
  · intro h
    show s.data.size = 0
    rw [← Array.length_toList, h]
    rfl
  · intro h
    have h' : s.data.size = 0 := h
    rw [← Array.length_toList] at h'
    exact List.eq_nil_of_length_eq_zero h'
theorem beq0 (n : Nat) : ((n : Int) == 0) = decide (n = 0) := by
  cases n with
  | zero => rfl
  | succ n => simp; omega
theorem bt_in (s : ByteArray) (i : Int) : 0 ≤ bt s i ∧ bt s i < 256 := by
  unfold bt
  split
  · have := UInt8.toNat_lt (s[i.toNat])
    omega
  · omega
section
variable {G : Prg}
theorem VRep.nil0 {E : Env} {w : World} {a b c : PV} {v : Value} (h : VRep E w (.agg [a, b, c, .nil]) v) : VRep E w (.agg [a, b, c, .slice 0 []]) v := by
  obtain ⟨vs, rfl, g⟩ := h.agg_inv
  obtain ⟨v1, vs, rfl, h1, g⟩ := g.cons_inv
  obtain ⟨v2, vs, rfl, h2, g⟩ := g.cons_inv
  obtain ⟨v3, vs, rfl, h3, g⟩ := g.cons_inv
  obtain ⟨v4, vs, rfl, h4, g⟩ := g.cons_inv
  obtain rfl := g.nil_inv
  have h5 := h4.nil_slice
  exact .agg rfl fun j x v hx hv => by
    match j, hx, hv with
    | 0, hx, hv => cases hx; cases hv; exact h1
    | 1, hx, hv => cases hx; cases hv; exact h2
    | 2, hx, hv => cases hx; cases hv; exact h3
    | 3, hx, hv => cases hx; cases hv; exact h5
    | j + 4, hx, hv => cases hx
theorem Pure.weak {f : FuncId} {args : List PV} {r r' : PV} (hw : ∀ E w v, VRep E w r v → VRep E w r' v) (h : Pure G f args (fun x => x = r)) : Pure G f args (fun x => x = r') := fun E w vs hh hv =>
  (h E w vs hh hv).mono fun e w' ⟨o, bx', E', ⟨hb, x, ho, hx⟩, hout, hrest⟩ => by
    subst ho
    subst hx
    obtain ⟨v, rfl, hv⟩ := hout
    exact ⟨.ret r', bx', E', ⟨hb, r', rfl, rfl⟩, ⟨v, rfl, hw _ _ _ hv⟩, hrest⟩
theorem VRep.tnil0 {E : Env} {w : World} {a b c x y : PV} {v : Value} (h : VRep E w (.tup [.agg [a, b, c, .nil], x, y]) v) : VRep E w (.tup [.agg [a, b, c, .slice 0 []], x, y]) v := by
  obtain ⟨vs, rfl, g⟩ := h.tup_inv
  obtain ⟨v1, vs, rfl, h1, g⟩ := g.cons_inv
  obtain ⟨v2, vs, rfl, h2, g⟩ := g.cons_inv
  obtain ⟨v3, vs, rfl, h3, g⟩ := g.cons_inv
  obtain rfl := g.nil_inv
  have h5 := h1.nil0
  exact .tup rfl fun j x v hx hv => by
    match j, hx, hv with
    | 0, hx, hv => cases hx; cases hv; exact h5
    | 1, hx, hv => cases hx; cases hv; exact h2
    | 2, hx, hv => cases hx; cases hv; exact h3
    | j + 3, hx, hv => cases hx
end
end Go.AS
