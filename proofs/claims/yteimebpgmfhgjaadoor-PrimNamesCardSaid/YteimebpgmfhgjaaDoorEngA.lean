/- Abstract states (own engine), part A: values, environments, representation, monotony. Over any program. -/
import Derived.Below
import Derived.Deep.Draws
import Derived.Deep.AppendLies
import Derived.Maps.AppendAt
import Derived.OwnWalk
import Derived.WalkKit
import Derived.KernelRfl
import Derived.Orders
import Derived.Deep.OwnRows
namespace Go.AS
open Go.RowKit
set_option linter.unusedVariables false

/-- Abstract values. -/
inductive PV where
  | int (k : IntKind) (n : Int)
  | bool (b : Bool)
  | str (s : ByteArray)
  | slice (n : Nat) (cs : List PV)
  | nil
  | epos (cs : List PV)
  | own (r n : Nat)
  | rpos (r o : Nat)
  | ptr (b o : Nat)
  | bsl (b n m : Nat)
  | nilptr
  | func (fn : Fn) (cap : List PV)
  | nilfunc
  | agg (cs : List PV)
  | tup (cs : List PV)
  | iface (t : TypeId) (v : PV)
  | niliface
  | junk
  deriving Inhabited

structure Env where
  β : Nat → Nat
  ρ : Nat → Value
  im : Nat → Prop
  lo : Nat
  nb : Nat
  nr : Nat

/-- What is never written any more: the cells lie in blocks of 'im'. -/
inductive IRep (im : Nat → Prop) (w : World) : PV → Value → Prop where
  | int (k : IntKind) (n : Int) : IRep im w (.int k n) (.int k n)
  | bool (b : Bool) : IRep im w (.bool b) (.bool b)
  | str (s : ByteArray) : IRep im w (.str s) (.string s)
  | nil : IRep im w .nil (.slice none 0 0)
  | slice0 : IRep im w (.slice 0 []) (.slice none 0 0)
  | slice {n : Nat} {cs : List PV} {a : Addr} {c : Nat} {vs : List Value} (hn : n ≤ c) (hl : vs.length = cs.length) (hb : 0 < vs.length → im a.block)
      (hc : ∀ (j : Nat) (v : Value), vs[j]? = some v → w.cell? (a.add j) = some v) (h1 : ∀ u ∈ vs, u.oneCell' = true) (hr : ∀ (j : Nat) (x : PV) (v : Value), cs[j]? = some x → vs[j]? = some v → IRep im w x v) :
      IRep im w (.slice n cs) (.slice (some a) n c)
  | epos {cs : List PV} {a : Addr} {vs : List Value} (hl : vs.length = cs.length) (hb : 0 < vs.length → im a.block)
      (hc : ∀ (j : Nat) (v : Value), vs[j]? = some v → w.cell? (a.add j) = some v) (hr : ∀ (j : Nat) (x : PV) (v : Value), cs[j]? = some x → vs[j]? = some v → IRep im w x v) :
      IRep im w (.epos cs) (.pointer (some a))
  | nilptr : IRep im w .nilptr (.pointer none)
  | nilfunc : IRep im w .nilfunc .nilFunc
  | niliface : IRep im w .niliface .nilIface
  | func (fn : Fn) : IRep im w (.func fn []) (.func fn #[] #[])
  | iface (t : TypeId) {x : PV} {v : Value} (h : IRep im w x v) : IRep im w (.iface t x) (.iface t v)
  | agg {cs : List PV} {vs : List Value} (hl : vs.length = cs.length) (hr : ∀ (j : Nat) (x : PV) (v : Value), cs[j]? = some x → vs[j]? = some v → IRep im w x v) : IRep im w (.agg cs) (.agg vs.toArray)
  | tup {cs : List PV} {vs : List Value} (hl : vs.length = cs.length) (hr : ∀ (j : Nat) (x : PV) (v : Value), cs[j]? = some x → vs[j]? = some v → IRep im w x v) : IRep im w (.tup cs) (.tuple vs.toArray)

theorem block_of_add (a : Addr) (n : Nat) : (a.add n).block = a.block := by unfold Addr.add; split <;> rfl
theorem add_of_add (a : Addr) (i j : Nat) : (a.add i).add j = a.add (i + j) := by
  unfold Addr.add
  by_cases hi : i = 0 <;> by_cases hj : j = 0 <;> simp [hi, hj, Nat.add_assoc]
theorem add_none (b o j : Nat) : (⟨b, o, none⟩ : Addr).add j = ⟨b, o + j, none⟩ := by
  unfold Addr.add; split
  · next h => subst h; rfl
  · rfl

theorem IRep.move {im im' : Nat → Prop} {w w' : World} {x : PV} {v : Value} (h : IRep im w x v) (hi : ∀ k, im k → im' k) (hw : ∀ k, im k → w'.heap[k]? = w.heap[k]?) : IRep im' w' x v := by
  induction h with
  | int | bool | str | nil | slice0 | nilptr | nilfunc | niliface | func => constructor
  | slice hn hl hb hc h1 _ ih => exact .slice hn hl (fun h => hi _ (hb h)) (fun j v hv => (World.cell?_of_block (by rw [block_of_add]; exact hw _ (hb (by have := (List.getElem?_eq_some_iff.1 hv).1; omega)))).trans (hc j v hv)) h1 ih
  | epos hl hb hc _ ih => exact .epos hl (fun h => hi _ (hb h)) (fun j v hv => (World.cell?_of_block (by rw [block_of_add]; exact hw _ (hb (by have := (List.getElem?_eq_some_iff.1 hv).1; omega)))).trans (hc j v hv)) ih
  | iface t _ ih => exact .iface t ih
  | agg hl _ ih => exact .agg hl ih
  | tup hl _ ih => exact .tup hl ih

/-- A frame's values. -/
inductive VRep (E : Env) (w : World) : PV → Value → Prop where
  | imm {x : PV} {v : Value} (h : IRep E.im w x v) : VRep E w x v
  | own {r n : Nat} {A : Option Addr} {m c : Nat} (hr : r < E.nr) (h : E.ρ r = .slice A m c) (hn : n = m) : VRep E w (.own r n) (.slice A n c)
  | rpos {r o : Nat} {a : Addr} {m c : Nat} (hr : r < E.nr) (h : E.ρ r = .slice (some a) m c) : VRep E w (.rpos r o) (.pointer (some (a.add o)))
  | ptr {b : Nat} (o : Nat) (hb : b < E.nb) : VRep E w (.ptr b o) (.pointer (some ⟨E.β b, o, none⟩))
  | bsl {b n m : Nat} (hb : b < E.nb) (hn : n ≤ m) : VRep E w (.bsl b n m) (.slice (some ⟨E.β b, 0, none⟩) n m)
  | func {fn : Fn} {cs : List PV} {vs : List Value} (hl : vs.length = cs.length) (hr : ∀ (j : Nat) (x : PV) (v : Value), cs[j]? = some x → vs[j]? = some v → VRep E w x v) : VRep E w (.func fn cs) (.func fn #[] vs.toArray)
  | agg {cs : List PV} {vs : List Value} (hl : vs.length = cs.length) (hr : ∀ (j : Nat) (x : PV) (v : Value), cs[j]? = some x → vs[j]? = some v → VRep E w x v) : VRep E w (.agg cs) (.agg vs.toArray)
  | tup {cs : List PV} {vs : List Value} (hl : vs.length = cs.length) (hr : ∀ (j : Nat) (x : PV) (v : Value), cs[j]? = some x → vs[j]? = some v → VRep E w x v) : VRep E w (.tup cs) (.tuple vs.toArray)
  | iface (t : TypeId) {x : PV} {v : Value} (h : VRep E w x v) : VRep E w (.iface t x) (.iface t v)
  | junk (v : Value) : VRep E w .junk v

/-- What an operation that isn't wanted leaves. -/
abbrev und : PV := .tup []
theorem VRep.und (E : Env) (w : World) : VRep E w und undef := .tup (vs := []) rfl (fun j x v h => by simp at h)
/-- Environments that agree where it counts: boxes below nb, rows below nr, and what is immutable grows. -/
theorem VRep.move {E E' : Env} {w w' : World} {x : PV} {v : Value} (h : VRep E w x v) (hb : E.nb ≤ E'.nb) (hr : E.nr ≤ E'.nr) (hβ : ∀ i, i < E.nb → E'.β i = E.β i) (hρ : ∀ i, i < E.nr → E'.ρ i = E.ρ i) (hi : ∀ k, E.im k → E'.im k) (hw : ∀ k, E.im k → w'.heap[k]? = w.heap[k]?) : VRep E' w' x v := by
  induction h with
  | imm h => exact .imm (h.move hi hw)
  | own hr' h hn => exact .own (Nat.lt_of_lt_of_le hr' hr) (by rw [hρ _ hr']; exact h) hn
  | rpos hr' h => exact .rpos (Nat.lt_of_lt_of_le hr' hr) (by rw [hρ _ hr']; exact h)
  | ptr o hb' => rw [← hβ _ hb']; exact .ptr o (Nat.lt_of_lt_of_le hb' hb)
  | bsl hb' hn => rw [← hβ _ hb']; exact .bsl (Nat.lt_of_lt_of_le hb' hb) hn
  | func hl _ ih => exact .func hl ih
  | agg hl _ ih => exact .agg hl ih
  | tup hl _ ih => exact .tup hl ih
  | iface t _ ih => exact .iface t ih
  | junk v => exact .junk v

def VReps (E : Env) (w : World) (xs : List PV) (vs : List Value) : Prop := vs.length = xs.length ∧ ∀ (j : Nat) (x : PV) (v : Value), xs[j]? = some x → vs[j]? = some v → VRep E w x v
def IReps (im : Nat → Prop) (w : World) (xs : List PV) (vs : List Value) : Prop := vs.length = xs.length ∧ ∀ (j : Nat) (x : PV) (v : Value), xs[j]? = some x → vs[j]? = some v → IRep im w x v

theorem VReps.nil (E : Env) (w : World) : VReps E w [] [] := ⟨rfl, fun j x v h => by simp at h⟩
theorem VReps.cons {E : Env} {w : World} {x : PV} {v : Value} {xs : List PV} {vs : List Value} (h : VRep E w x v) (hs : VReps E w xs vs) : VReps E w (x :: xs) (v :: vs) :=
  ⟨by simp [hs.1], fun j y u hy hu => by
    cases j with
    | zero => simp at hy hu; subst hy; subst hu; exact h
    | succ j => simp at hy hu; exact hs.2 j y u hy hu⟩
theorem VReps.cons_inv {E : Env} {w : World} {x : PV} {xs : List PV} {vs : List Value} (h : VReps E w (x :: xs) vs) : ∃ v us, vs = v :: us ∧ VRep E w x v ∧ VReps E w xs us := by
  cases vs with
  | nil => exact absurd h.1 (by simp)
  | cons v us => exact ⟨v, us, rfl, h.2 0 x v rfl rfl, by simpa using h.1, fun j y u hy hu => h.2 (j + 1) y u (by simpa using hy) (by simpa using hu)⟩
theorem VReps.nil_inv {E : Env} {w : World} {vs : List Value} (h : VReps E w [] vs) : vs = [] := List.eq_nil_of_length_eq_zero h.1
theorem VReps.get {E : Env} {w : World} {xs : List PV} {vs : List Value} (h : VReps E w xs vs) {j : Nat} {x : PV} (hx : xs[j]? = some x) : ∃ v, vs[j]? = some v ∧ VRep E w x v := by
  have hj := (List.getElem?_eq_some_iff.1 hx).1
  have hj' : j < vs.length := by rw [h.1]; exact hj
  exact ⟨vs[j], List.getElem?_eq_getElem hj', h.2 j x _ hx (List.getElem?_eq_getElem hj')⟩
theorem VReps.set {E : Env} {w : World} {xs : List PV} {vs : List Value} (h : VReps E w xs vs) (j : Nat) {x : PV} {v : Value} (hv : VRep E w x v) : VReps E w (xs.set j x) (vs.set j v) :=
  ⟨by simp [h.1], fun i y u hy hu => by
    by_cases hij : j = i
    · subst hij
      have hj := (List.getElem?_eq_some_iff.1 hy).1
      have hj2 := (List.getElem?_eq_some_iff.1 hu).1
      simp only [List.length_set] at hj hj2
      rw [List.getElem?_set_self hj] at hy
      rw [List.getElem?_set_self hj2] at hu
      cases hy; cases hu; exact hv
    · rw [List.getElem?_set_ne hij] at hy hu
      exact h.2 i y u hy hu⟩
theorem VReps.append {E : Env} {w : World} {xs ys : List PV} {vs us : List Value} (h : VReps E w xs vs) (k : VReps E w ys us) : VReps E w (xs ++ ys) (vs ++ us) := by
  induction xs generalizing vs with
  | nil => rw [h.nil_inv]; exact k
  | cons x xs ih =>
    obtain ⟨v, vs', rfl, hv, hvs⟩ := h.cons_inv
    exact .cons hv (ih hvs)
theorem VReps.move {E E' : Env} {w w' : World} {xs : List PV} {vs : List Value} (h : VReps E w xs vs) (hm : ∀ x v, VRep E w x v → VRep E' w' x v) : VReps E' w' xs vs := ⟨h.1, fun j x v hx hv => hm x v (h.2 j x v hx hv)⟩
theorem VReps.drop {E : Env} {w : World} {xs : List PV} {vs : List Value} (h : VReps E w xs vs) (n : Nat) : VReps E w (xs.drop n) (vs.drop n) :=
  ⟨by simp [h.1], fun j x v hx hv => h.2 (n + j) x v (by rw [List.getElem?_drop] at hx; exact hx) (by rw [List.getElem?_drop] at hv; exact hv)⟩
theorem VReps.take {E : Env} {w : World} {xs : List PV} {vs : List Value} (h : VReps E w xs vs) (n : Nat) : VReps E w (xs.take n) (vs.take n) :=
  ⟨by simp [h.1], fun j x v hx hv => by
    rw [List.getElem?_take] at hx hv
    split at hx
    · rw [if_pos (by assumption)] at hv; exact h.2 j x v hx hv
    · cases hx⟩
theorem VReps.agg {E : Env} {w : World} {xs : List PV} {vs : List Value} (h : VReps E w xs vs) : VRep E w (.agg xs) (.agg vs.toArray) := .agg h.1 h.2
theorem IReps.v {E : Env} {w : World} {xs : List PV} {vs : List Value} (h : IReps E.im w xs vs) : VReps E w xs vs := ⟨h.1, fun j x v hx hv => .imm (h.2 j x v hx hv)⟩

/-- What an aggregate's value is. -/
theorem VRep.agg_inv {E : Env} {w : World} {cs : List PV} {v : Value} (h : VRep E w (.agg cs) v) : ∃ vs : List Value, v = .agg vs.toArray ∧ VReps E w cs vs := by
  cases h with
  | imm h => cases h with
    | agg hl hr => exact ⟨_, rfl, hl, fun j x v hx hv => .imm (hr j x v hx hv)⟩
  | agg hl hr => exact ⟨_, rfl, hl, hr⟩
theorem VRep.tup_inv {E : Env} {w : World} {cs : List PV} {v : Value} (h : VRep E w (.tup cs) v) : ∃ vs : List Value, v = .tuple vs.toArray ∧ VReps E w cs vs := by
  cases h with
  | imm h => cases h with
    | tup hl hr => exact ⟨_, rfl, hl, fun j x v hx hv => .imm (hr j x v hx hv)⟩
  | tup hl hr => exact ⟨_, rfl, hl, hr⟩
theorem VRep.func_inv {E : Env} {w : World} {fn : Fn} {cs : List PV} {v : Value} (h : VRep E w (.func fn cs) v) : ∃ vs : List Value, v = .func fn #[] vs.toArray ∧ VReps E w cs vs := by
  cases h with
  | imm h => cases h with
    | func => exact ⟨[], rfl, .nil _ _⟩
  | func hl hr => exact ⟨_, rfl, hl, hr⟩
theorem VRep.int_inv {E : Env} {w : World} {k : IntKind} {n : Int} {v : Value} (h : VRep E w (.int k n) v) : v = .int k n := by cases h with | imm h => cases h; rfl
theorem VRep.bool_inv {E : Env} {w : World} {b : Bool} {v : Value} (h : VRep E w (.bool b) v) : v = .bool b := by cases h with | imm h => cases h; rfl
theorem VRep.und_inv {E : Env} {w : World} {v : Value} (h : VRep E w AS.und v) : v = undef := by
  cases h with
  | imm h => cases h with
    | tup hl hr =>
      rename_i vs
      cases vs with
      | nil => rfl
      | cons x xs => simp at hl
  | tup hl hr =>
    rename_i vs
    cases vs with
    | nil => rfl
    | cons x xs => simp at hl
theorem VRep.str_inv {E : Env} {w : World} {s : ByteArray} {v : Value} (h : VRep E w (.str s) v) : v = .string s := by cases h with | imm h => cases h; rfl
theorem VRep.ptr_inv {E : Env} {w : World} {b o : Nat} {v : Value} (h : VRep E w (.ptr b o) v) : v = .pointer (some ⟨E.β b, o, none⟩) ∧ b < E.nb := by cases h with | imm h => cases h | ptr _ hb => exact ⟨rfl, hb⟩
theorem VRep.bsl_inv {E : Env} {w : World} {b n m : Nat} {v : Value} (h : VRep E w (.bsl b n m) v) : v = .slice (some ⟨E.β b, 0, none⟩) n m ∧ b < E.nb ∧ n ≤ m := by cases h with | imm h => cases h | bsl hb hn => exact ⟨rfl, hb, hn⟩
theorem VRep.nil_inv {E : Env} {w : World} {v : Value} (h : VRep E w .nil v) : v = .slice none 0 0 := by cases h with | imm h => cases h; rfl
theorem VRep.own_inv {E : Env} {w : World} {r n : Nat} {v : Value} (h : VRep E w (.own r n) v) : r < E.nr ∧ v = E.ρ r ∧ ∃ A c, v = .slice A n c := by
  cases h with
  | imm h => cases h
  | own hr h hn => subst hn; exact ⟨hr, h.symm, _, _, rfl⟩
theorem VRep.rpos_inv {E : Env} {w : World} {r o : Nat} {v : Value} (h : VRep E w (.rpos r o) v) : r < E.nr ∧ ∃ a m c, E.ρ r = .slice (some a) m c ∧ v = .pointer (some (a.add o)) := by
  cases h with
  | imm h => cases h
  | rpos hr h => exact ⟨hr, _, _, _, h, rfl⟩
theorem VRep.iface_inv {E : Env} {w : World} {t : TypeId} {x : PV} {v : Value} (h : VRep E w (.iface t x) v) : ∃ u, v = .iface t u ∧ VRep E w x u := by
  cases h with
  | imm h => cases h with
    | iface _ h => exact ⟨_, rfl, .imm h⟩
  | iface _ h => exact ⟨_, rfl, h⟩
theorem VRep.epos_inv {E : Env} {w : World} {cs : List PV} {v : Value} (h : VRep E w (.epos cs) v) : ∃ a vs, v = .pointer (some a) ∧ (0 < vs.length → E.im a.block) ∧ (∀ (j : Nat) (u : Value), vs[j]? = some u → w.cell? (a.add j) = some u) ∧ IReps E.im w cs vs := by
  cases h with
  | imm h => cases h with
    | epos hl hb hc hr => exact ⟨_, _, rfl, hb, hc, hl, hr⟩
/-- A slice that is only read: nil, or cells. -/
theorem VRep.slice_inv {E : Env} {w : World} {n : Nat} {cs : List PV} {v : Value} (h : VRep E w (.slice n cs) v) :
    (v = .slice none 0 0 ∧ n = 0 ∧ cs = []) ∨ ∃ a c vs, v = .slice (some a) n c ∧ n ≤ c ∧ (0 < vs.length → E.im a.block) ∧ (∀ (j : Nat) (u : Value), vs[j]? = some u → w.cell? (a.add j) = some u) ∧ IReps E.im w cs vs ∧ (∀ u ∈ vs, u.oneCell' = true) := by
  cases h with
  | imm h => cases h with
    | slice0 => exact .inl ⟨rfl, rfl, rfl⟩
    | slice hn hl hb hc h1 hr => exact .inr ⟨_, _, _, rfl, hn, hb, hc, ⟨hl, hr⟩, h1⟩
theorem VRep.nil_slice {E : Env} {w : World} {v : Value} (h : VRep E w .nil v) : VRep E w (.slice 0 []) v := by rw [h.nil_inv]; exact .imm .slice0

/-- One cell each (no struct, no tuple). -/
def PV.one : PV → Bool
  | .agg _ | .tup _ | .junk => false
  | _ => true
theorem VRep.one {E : Env} {w : World} {x : PV} {v : Value} (h : VRep E w x v) (h1 : x.one = true) : v.oneCell' = true := by
  cases h with
  | imm h => cases h <;> first | rfl | simp [PV.one] at h1
  | own | rpos | ptr | bsl | func | iface => rfl
  | agg | tup | junk => simp [PV.one] at h1

/-- A value's cells. -/
def PV.cells : PV → List PV
  | .agg cs => cs
  | x => [x]
theorem VRep.cells {E : Env} {w : World} {x : PV} {v : Value} (h : VRep E w x v) (hj : (match x with | .tup _ | .junk => false | _ => true) = true) : VReps E w x.cells v.cells.toList := by
  cases x with
  | agg cs =>
    obtain ⟨vs, rfl, hvs⟩ := h.agg_inv
    simpa [PV.cells, Value.cells] using hvs
  | tup | junk => simp at hj
  | int | bool | str | slice | nil | epos | own | rpos | ptr | bsl | nilptr | func | nilfunc | iface | niliface =>
    have hc : v.cells = #[v] := by
      cases h with
      | imm h => cases h <;> rfl
      | _ => rfl
    rw [hc]
    exact .cons h (.nil _ _)
end Go.AS
