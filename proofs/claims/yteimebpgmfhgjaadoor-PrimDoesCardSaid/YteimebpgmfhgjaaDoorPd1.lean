/- Texts of this session, packed: EngA, EngB, EngC, EngD, EngE, EngF, EngG, EngH, EngI, EngJ, EngK, EngL, EngM. -/
import Derived.Test.YteimebpgmfhgjaaDoorProg
import Derived.Test.YteimebpgmfhgjaaDoorRows
import Derived.Below
import Derived.Deep.Draws
import Derived.Deep.AppendLies
import Derived.Maps.AppendAt
import Derived.OwnWalk
import Derived.WalkKit
import Derived.KernelRfl
import Derived.Orders
import Derived.Deep.OwnRows
import Derived.Laws.DeepStrings4
import Derived.Laws.Slices
import Derived.Laws.Cover1
import Derived.Laws.BytesString
import Derived.Laws.Cells
import Derived.Laws.Tables
import Derived.LaidEqlPtr
import Derived.Lib.UnsafeStr
import Derived.Scope
import Derived.Deep.LoopGhost
import Derived.OrdersHeld
import Derived.Deep.Onto
import Derived.Lib.AppendStr
import Derived.Lib.LaidTab
import GoSem.ClaimJoined
import Derived.ProofKit
import Derived.OpenShut
import Derived.LaidLaws
import Derived.RowKit3
import Derived.Deep.DeepHandedRow
import Derived.Laws.Externs
import Derived.Lib.Builder
import Derived.Sort.Grow
import Derived.Lib.Bytealg
import Derived.Laws.Strings
import Derived.Shelf.Small.Strs
import Derived.Shelf.Strconv.Itoa0
import Derived.Shelf.Strconv.Itoa1
import Derived.Shelf.LaysM
import Derived.Shelf.Strconv.Itoa2
import Derived.Shelf.Strconv.Itoa3
import Derived.Shelf.Strconv.Itoa4
import Derived.Shelf.Strings.Search1
import Derived.WalkSmall
import Derived.Deep.DeepWitnessRowRef
import Derived.DataShut
import Derived.ChangeMaps5
namespace Go.AS
open Go.RowKit
set_option linter.unusedVariables false
inductive PV where
  | int (k : IntKind) (n : Int)
  | bool (b : Bool)
  | str (s : ByteArray)
  | slice (n : Nat) (cs : List PV)
  | nil
  | epos (cs : List PV)
  | own (r n : Nat)
  | rpos (r o : Nat)
  | ptr (b o : Nat)
  | bsl (b n m : Nat)
  | nilptr
  | func (fn : Fn) (cap : List PV)
  | nilfunc
  | agg (cs : List PV)
  | tup (cs : List PV)
  | iface (t : TypeId) (v : PV)
  | niliface
  | exact (v : Value)
  | sl (F : World → Value → Prop) (n : Nat) (cs : List PV)
  | junk
  deriving Inhabited
structure Env where
  β : Nat → Nat
  ρ : Nat → Value
  im : Nat → Prop
  lo : Nat
  nb : Nat
  nr : Nat
inductive IRep (im : Nat → Prop) (w : World) : PV → Value → Prop where
  | int (k : IntKind) (n : Int) : IRep im w (.int k n) (.int k n)
  | bool (b : Bool) : IRep im w (.bool b) (.bool b)
  | str (s : ByteArray) : IRep im w (.str s) (.string s)
  | nil : IRep im w .nil (.slice none 0 0)
  | slice0 : IRep im w (.slice 0 []) (.slice none 0 0)
  | slice {n : Nat} {cs : List PV} {a : Addr} {c : Nat} {vs : List Value} (hn : n ≤ c) (hl : vs.length = cs.length) (hb : 0 < vs.length → im a.block)
      (hc : ∀ (j : Nat) (v : Value), vs[j]? = some v → w.cell? (a.add j) = some v) (h1 : ∀ u ∈ vs, u.oneCell' = true) (hr : ∀ (j : Nat) (x : PV) (v : Value), cs[j]? = some x → vs[j]? = some v → IRep im w x v) :
      IRep im w (.slice n cs) (.slice (some a) n c)
  | epos {cs : List PV} {a : Addr} {vs : List Value} (hl : vs.length = cs.length) (hb : 0 < vs.length → im a.block)
      (hc : ∀ (j : Nat) (v : Value), vs[j]? = some v → w.cell? (a.add j) = some v) (hr : ∀ (j : Nat) (x : PV) (v : Value), cs[j]? = some x → vs[j]? = some v → IRep im w x v) :
      IRep im w (.epos cs) (.pointer (some a))
  | nilptr : IRep im w .nilptr (.pointer none)
  | nilfunc : IRep im w .nilfunc .nilFunc
  | niliface : IRep im w .niliface .nilIface
  | func (fn : Fn) : IRep im w (.func fn []) (.func fn #[] #[])
  | exact {v : Value} (h : v.oneCell' = true) : IRep im w (.exact v) v
  | sl {F : World → Value → Prop} {n : Nat} {cs : List PV} {v : Value} (h : IRep im w (.slice n cs) v) (h1 : v.oneCell' = true) (hF : ∀ w' : World, (∀ k, im k → w'.heap[k]? = w.heap[k]?) → F w' v) : IRep im w (.sl F n cs) v
  | iface (t : TypeId) {x : PV} {v : Value} (h : IRep im w x v) : IRep im w (.iface t x) (.iface t v)
  | agg {cs : List PV} {vs : List Value} (hl : vs.length = cs.length) (hr : ∀ (j : Nat) (x : PV) (v : Value), cs[j]? = some x → vs[j]? = some v → IRep im w x v) : IRep im w (.agg cs) (.agg vs.toArray)
  | tup {cs : List PV} {vs : List Value} (hl : vs.length = cs.length) (hr : ∀ (j : Nat) (x : PV) (v : Value), cs[j]? = some x → vs[j]? = some v → IRep im w x v) : IRep im w (.tup cs) (.tuple vs.toArray)
theorem block_of_add (a : Addr) (n : Nat) : (a.add n).block = a.block := by unfold Addr.add; split <;> rfl
theorem add_of_add (a : Addr) (i j : Nat) : (a.add i).add j = a.add (i + j) := by
  unfold Addr.add
  by_cases hi : i = 0 <;> by_cases hj : j = 0 <;> simp [hi, hj, Nat.add_assoc]
theorem add_none (b o j : Nat) : (⟨b, o, none⟩ : Addr).add j = ⟨b, o + j, none⟩ := by
  unfold Addr.add; split
  · next h => subst h; rfl
  · rfl
theorem IRep.move {im im' : Nat → Prop} {w w' : World} {x : PV} {v : Value} (h : IRep im w x v) (hi : ∀ k, im k → im' k) (hw : ∀ k, im k → w'.heap[k]? = w.heap[k]?) : IRep im' w' x v := by
  induction h with
  | int | bool | str | nil | slice0 | nilptr | nilfunc | niliface | func => constructor
  | slice hn hl hb hc h1 _ ih => exact .slice hn hl (fun h => hi _ (hb h)) (fun j v hv => (World.cell?_of_block (by rw [block_of_add]; exact hw _ (hb (by have := (List.getElem?_eq_some_iff.1 hv).1; omega)))).trans (hc j v hv)) h1 ih
  | epos hl hb hc _ ih => exact .epos hl (fun h => hi _ (hb h)) (fun j v hv => (World.cell?_of_block (by rw [block_of_add]; exact hw _ (hb (by have := (List.getElem?_eq_some_iff.1 hv).1; omega)))).trans (hc j v hv)) ih
  | iface t _ ih => exact .iface t ih
  | agg hl _ ih => exact .agg hl ih
  | tup hl _ ih => exact .tup hl ih
  | exact h => exact .exact h
  | sl _ h1 hF ih => exact .sl ih h1 fun w2 h2 => hF w2 fun k hk => (h2 k (hi k hk)).trans (hw k hk)
inductive VRep (E : Env) (w : World) : PV → Value → Prop where
  | imm {x : PV} {v : Value} (h : IRep E.im w x v) : VRep E w x v
  | own {r n : Nat} {A : Option Addr} {m c : Nat} (hr : r < E.nr) (h : E.ρ r = .slice A m c) (hn : n = m) : VRep E w (.own r n) (.slice A n c)
  | rpos {r o : Nat} {a : Addr} {m c : Nat} (hr : r < E.nr) (h : E.ρ r = .slice (some a) m c) : VRep E w (.rpos r o) (.pointer (some (a.add o)))
  | ptr {b : Nat} (o : Nat) (hb : b < E.nb) : VRep E w (.ptr b o) (.pointer (some ⟨E.β b, o, none⟩))
  | bsl {b n m : Nat} (hb : b < E.nb) (hn : n ≤ m) : VRep E w (.bsl b n m) (.slice (some ⟨E.β b, 0, none⟩) n m)
  | func {fn : Fn} {cs : List PV} {vs : List Value} (hl : vs.length = cs.length) (hr : ∀ (j : Nat) (x : PV) (v : Value), cs[j]? = some x → vs[j]? = some v → VRep E w x v) : VRep E w (.func fn cs) (.func fn #[] vs.toArray)
  | agg {cs : List PV} {vs : List Value} (hl : vs.length = cs.length) (hr : ∀ (j : Nat) (x : PV) (v : Value), cs[j]? = some x → vs[j]? = some v → VRep E w x v) : VRep E w (.agg cs) (.agg vs.toArray)
  | tup {cs : List PV} {vs : List Value} (hl : vs.length = cs.length) (hr : ∀ (j : Nat) (x : PV) (v : Value), cs[j]? = some x → vs[j]? = some v → VRep E w x v) : VRep E w (.tup cs) (.tuple vs.toArray)
  | iface (t : TypeId) {x : PV} {v : Value} (h : VRep E w x v) : VRep E w (.iface t x) (.iface t v)
  | junk (v : Value) : VRep E w .junk v
abbrev und : PV := .tup []
theorem VRep.und (E : Env) (w : World) : VRep E w und undef := .tup (vs := []) rfl (fun j x v h => by simp at h)
theorem VRep.move {E E' : Env} {w w' : World} {x : PV} {v : Value} (h : VRep E w x v) (hb : E.nb ≤ E'.nb) (hr : E.nr ≤ E'.nr) (hβ : ∀ i, i < E.nb → E'.β i = E.β i) (hρ : ∀ i, i < E.nr → E'.ρ i = E.ρ i) (hi : ∀ k, E.im k → E'.im k) (hw : ∀ k, E.im k → w'.heap[k]? = w.heap[k]?) : VRep E' w' x v := by
  induction h with
  | imm h => exact .imm (h.move hi hw)
  | own hr' h hn => exact .own (Nat.lt_of_lt_of_le hr' hr) (by rw [hρ _ hr']; exact h) hn
  | rpos hr' h => exact .rpos (Nat.lt_of_lt_of_le hr' hr) (by rw [hρ _ hr']; exact h)
  | ptr o hb' => rw [← hβ _ hb']; exact .ptr o (Nat.lt_of_lt_of_le hb' hb)
  | bsl hb' hn => rw [← hβ _ hb']; exact .bsl (Nat.lt_of_lt_of_le hb' hb) hn
  | func hl _ ih => exact .func hl ih
  | agg hl _ ih => exact .agg hl ih
  | tup hl _ ih => exact .tup hl ih
  | iface t _ ih => exact .iface t ih
  | junk v => exact .junk v
def VReps (E : Env) (w : World) (xs : List PV) (vs : List Value) : Prop := vs.length = xs.length ∧ ∀ (j : Nat) (x : PV) (v : Value), xs[j]? = some x → vs[j]? = some v → VRep E w x v
def IReps (im : Nat → Prop) (w : World) (xs : List PV) (vs : List Value) : Prop := vs.length = xs.length ∧ ∀ (j : Nat) (x : PV) (v : Value), xs[j]? = some x → vs[j]? = some v → IRep im w x v
theorem VReps.nil (E : Env) (w : World) : VReps E w [] [] := ⟨rfl, fun j x v h => by simp at h⟩
theorem VReps.cons {E : Env} {w : World} {x : PV} {v : Value} {xs : List PV} {vs : List Value} (h : VRep E w x v) (hs : VReps E w xs vs) : VReps E w (x :: xs) (v :: vs) :=
  ⟨by simp [hs.1], fun j y u hy hu => by
    cases j with
    | zero => simp at hy hu; subst hy; subst hu; exact h
    | succ j => simp at hy hu; exact hs.2 j y u hy hu⟩
theorem VReps.cons_inv {E : Env} {w : World} {x : PV} {xs : List PV} {vs : List Value} (h : VReps E w (x :: xs) vs) : ∃ v us, vs = v :: us ∧ VRep E w x v ∧ VReps E w xs us := by
  cases vs with
  | nil => exact absurd h.1 (by simp)
  | cons v us => exact ⟨v, us, rfl, h.2 0 x v rfl rfl, by simpa using h.1, fun j y u hy hu => h.2 (j + 1) y u (by simpa using hy) (by simpa using hu)⟩
theorem VReps.nil_inv {E : Env} {w : World} {vs : List Value} (h : VReps E w [] vs) : vs = [] := List.eq_nil_of_length_eq_zero h.1
theorem VReps.get {E : Env} {w : World} {xs : List PV} {vs : List Value} (h : VReps E w xs vs) {j : Nat} {x : PV} (hx : xs[j]? = some x) : ∃ v, vs[j]? = some v ∧ VRep E w x v := by
  have hj := (List.getElem?_eq_some_iff.1 hx).1
  have hj' : j < vs.length := by rw [h.1]; exact hj
  exact ⟨vs[j], List.getElem?_eq_getElem hj', h.2 j x _ hx (List.getElem?_eq_getElem hj')⟩
theorem VReps.set {E : Env} {w : World} {xs : List PV} {vs : List Value} (h : VReps E w xs vs) (j : Nat) {x : PV} {v : Value} (hv : VRep E w x v) : VReps E w (xs.set j x) (vs.set j v) :=
  ⟨by simp [h.1], fun i y u hy hu => by
    by_cases hij : j = i
    · subst hij
      have hj := (List.getElem?_eq_some_iff.1 hy).1
      have hj2 := (List.getElem?_eq_some_iff.1 hu).1
      simp only [List.length_set] at hj hj2
      rw [List.getElem?_set_self hj] at hy
      rw [List.getElem?_set_self hj2] at hu
      cases hy; cases hu; exact hv
    · rw [List.getElem?_set_ne hij] at hy hu
      exact h.2 i y u hy hu⟩
theorem VReps.append {E : Env} {w : World} {xs ys : List PV} {vs us : List Value} (h : VReps E w xs vs) (k : VReps E w ys us) : VReps E w (xs ++ ys) (vs ++ us) := by
  induction xs generalizing vs with
  | nil => rw [h.nil_inv]; exact k
  | cons x xs ih =>
    obtain ⟨v, vs', rfl, hv, hvs⟩ := h.cons_inv
    exact .cons hv (ih hvs)
theorem VReps.move {E E' : Env} {w w' : World} {xs : List PV} {vs : List Value} (h : VReps E w xs vs) (hm : ∀ x v, VRep E w x v → VRep E' w' x v) : VReps E' w' xs vs := ⟨h.1, fun j x v hx hv => hm x v (h.2 j x v hx hv)⟩
theorem VReps.drop {E : Env} {w : World} {xs : List PV} {vs : List Value} (h : VReps E w xs vs) (n : Nat) : VReps E w (xs.drop n) (vs.drop n) :=
  ⟨by simp [h.1], fun j x v hx hv => h.2 (n + j) x v (by rw [List.getElem?_drop] at hx; exact hx) (by rw [List.getElem?_drop] at hv; exact hv)⟩
theorem VReps.take {E : Env} {w : World} {xs : List PV} {vs : List Value} (h : VReps E w xs vs) (n : Nat) : VReps E w (xs.take n) (vs.take n) :=
  ⟨by simp [h.1], fun j x v hx hv => by
    rw [List.getElem?_take] at hx hv
    split at hx
    · rw [if_pos (by assumption)] at hv; exact h.2 j x v hx hv
    · cases hx⟩
theorem VReps.agg {E : Env} {w : World} {xs : List PV} {vs : List Value} (h : VReps E w xs vs) : VRep E w (.agg xs) (.agg vs.toArray) := .agg h.1 h.2
theorem IReps.v {E : Env} {w : World} {xs : List PV} {vs : List Value} (h : IReps E.im w xs vs) : VReps E w xs vs := ⟨h.1, fun j x v hx hv => .imm (h.2 j x v hx hv)⟩
theorem VRep.agg_inv {E : Env} {w : World} {cs : List PV} {v : Value} (h : VRep E w (.agg cs) v) : ∃ vs : List Value, v = .agg vs.toArray ∧ VReps E w cs vs := by
  cases h with
  | imm h => cases h with
    | agg hl hr => exact ⟨_, rfl, hl, fun j x v hx hv => .imm (hr j x v hx hv)⟩
  | agg hl hr => exact ⟨_, rfl, hl, hr⟩
theorem VRep.tup_inv {E : Env} {w : World} {cs : List PV} {v : Value} (h : VRep E w (.tup cs) v) : ∃ vs : List Value, v = .tuple vs.toArray ∧ VReps E w cs vs := by
  cases h with
  | imm h => cases h with
    | tup hl hr => exact ⟨_, rfl, hl, fun j x v hx hv => .imm (hr j x v hx hv)⟩
  | tup hl hr => exact ⟨_, rfl, hl, hr⟩
theorem VRep.func_inv {E : Env} {w : World} {fn : Fn} {cs : List PV} {v : Value} (h : VRep E w (.func fn cs) v) : ∃ vs : List Value, v = .func fn #[] vs.toArray ∧ VReps E w cs vs := by
  cases h with
  | imm h => cases h with
    | func => exact ⟨[], rfl, .nil _ _⟩
  | func hl hr => exact ⟨_, rfl, hl, hr⟩
theorem VRep.int_inv {E : Env} {w : World} {k : IntKind} {n : Int} {v : Value} (h : VRep E w (.int k n) v) : v = .int k n := by cases h with | imm h => cases h; rfl
theorem VRep.bool_inv {E : Env} {w : World} {b : Bool} {v : Value} (h : VRep E w (.bool b) v) : v = .bool b := by cases h with | imm h => cases h; rfl
theorem VRep.und_inv {E : Env} {w : World} {v : Value} (h : VRep E w AS.und v) : v = undef := by
  cases h with
  | imm h => cases h with
    | tup hl hr =>
      rename_i vs
      cases vs with
      | nil => rfl
      | cons x xs => simp at hl
  | tup hl hr =>
    rename_i vs
    cases vs with
    | nil => rfl
    | cons x xs => simp at hl
theorem VRep.str_inv {E : Env} {w : World} {s : ByteArray} {v : Value} (h : VRep E w (.str s) v) : v = .string s := by cases h with | imm h => cases h; rfl
theorem VRep.ptr_inv {E : Env} {w : World} {b o : Nat} {v : Value} (h : VRep E w (.ptr b o) v) : v = .pointer (some ⟨E.β b, o, none⟩) ∧ b < E.nb := by cases h with | imm h => cases h | ptr _ hb => exact ⟨rfl, hb⟩
theorem VRep.bsl_inv {E : Env} {w : World} {b n m : Nat} {v : Value} (h : VRep E w (.bsl b n m) v) : v = .slice (some ⟨E.β b, 0, none⟩) n m ∧ b < E.nb ∧ n ≤ m := by cases h with | imm h => cases h | bsl hb hn => exact ⟨rfl, hb, hn⟩
theorem VRep.nil_inv {E : Env} {w : World} {v : Value} (h : VRep E w .nil v) : v = .slice none 0 0 := by cases h with | imm h => cases h; rfl
theorem VRep.own_inv {E : Env} {w : World} {r n : Nat} {v : Value} (h : VRep E w (.own r n) v) : r < E.nr ∧ v = E.ρ r ∧ ∃ A c, v = .slice A n c := by
  cases h with
  | imm h => cases h
  | own hr h hn => subst hn; exact ⟨hr, h.symm, _, _, rfl⟩
theorem VRep.rpos_inv {E : Env} {w : World} {r o : Nat} {v : Value} (h : VRep E w (.rpos r o) v) : r < E.nr ∧ ∃ a m c, E.ρ r = .slice (some a) m c ∧ v = .pointer (some (a.add o)) := by
  cases h with
  | imm h => cases h
  | rpos hr h => exact ⟨hr, _, _, _, h, rfl⟩
theorem VRep.iface_inv {E : Env} {w : World} {t : TypeId} {x : PV} {v : Value} (h : VRep E w (.iface t x) v) : ∃ u, v = .iface t u ∧ VRep E w x u := by
  cases h with
  | imm h => cases h with
    | iface _ h => exact ⟨_, rfl, .imm h⟩
  | iface _ h => exact ⟨_, rfl, h⟩
theorem VRep.epos_inv {E : Env} {w : World} {cs : List PV} {v : Value} (h : VRep E w (.epos cs) v) : ∃ a vs, v = .pointer (some a) ∧ (0 < vs.length → E.im a.block) ∧ (∀ (j : Nat) (u : Value), vs[j]? = some u → w.cell? (a.add j) = some u) ∧ IReps E.im w cs vs := by
  cases h with
  | imm h => cases h with
    | epos hl hb hc hr => exact ⟨_, _, rfl, hb, hc, hl, hr⟩
theorem VRep.slice_inv {E : Env} {w : World} {n : Nat} {cs : List PV} {v : Value} (h : VRep E w (.slice n cs) v) :
    (v = .slice none 0 0 ∧ n = 0 ∧ cs = []) ∨ ∃ a c vs, v = .slice (some a) n c ∧ n ≤ c ∧ (0 < vs.length → E.im a.block) ∧ (∀ (j : Nat) (u : Value), vs[j]? = some u → w.cell? (a.add j) = some u) ∧ IReps E.im w cs vs ∧ (∀ u ∈ vs, u.oneCell' = true) := by
  cases h with
  | imm h => cases h with
    | slice0 => exact .inl ⟨rfl, rfl, rfl⟩
    | slice hn hl hb hc h1 hr => exact .inr ⟨_, _, _, rfl, hn, hb, hc, ⟨hl, hr⟩, h1⟩
theorem VRep.nil_slice {E : Env} {w : World} {v : Value} (h : VRep E w .nil v) : VRep E w (.slice 0 []) v := by rw [h.nil_inv]; exact .imm .slice0
def unsl : PV → PV
  | .sl _ n cs => .slice n cs
  | x => x
theorem VRep.unsl {E : Env} {w : World} {x : PV} {v : Value} (h : VRep E w x v) : VRep E w (AS.unsl x) v := by
  unfold AS.unsl
  split
  · cases h with
    | imm h => cases h with
      | sl h _ _ => exact .imm h
  · exact h
def PV.one : PV → Bool
  | .agg _ | .tup _ | .junk => false
  | _ => true
theorem VRep.one {E : Env} {w : World} {x : PV} {v : Value} (h : VRep E w x v) (h1 : x.one = true) : v.oneCell' = true := by
  cases h with
  | imm h => cases h <;> first | rfl | assumption | simp [PV.one] at h1
  | own | rpos | ptr | bsl | func | iface => rfl
  | agg | tup | junk => simp [PV.one] at h1
theorem cells_one {v : Value} (h : v.oneCell' = true) : v.cells = #[v] := by
  cases v <;> first | rfl | simp [Value.oneCell'] at h
def PV.cells : PV → List PV
  | .agg cs => cs
  | x => [x]
theorem VRep.cells {E : Env} {w : World} {x : PV} {v : Value} (h : VRep E w x v) (hj : (match x with | .tup _ | .junk => false | _ => true) = true) : VReps E w x.cells v.cells.toList := by
  cases x with
  | agg cs =>
    obtain ⟨vs, rfl, hvs⟩ := h.agg_inv
    simpa [PV.cells, Value.cells] using hvs
  | tup | junk => simp at hj
  | int | bool | str | slice | nil | epos | own | rpos | ptr | bsl | nilptr | func | nilfunc | iface | niliface | exact | sl =>
    have hc : v.cells = #[v] := by
      cases h with
      | imm h => cases h <;> first | rfl | exact cells_one (by assumption)
      | _ => rfl
    rw [hc]
    exact .cons h (.nil _ _)
end Go.AS
namespace Go.AS
open Go.RowKit
set_option linter.unusedVariables false
structure Box where
  cs : List PV
  ty : TypeId
  deriving Inhabited
structure Row where
  cs : List PV
  n : Nat
  ty : TypeId
  sz : Nat
  deriving Inhabited
structure Hp where
  bx : List Box
  rw : List (Option Row)
  deriving Inhabited
structure Glob where
  tab : Nat → Option (List PV)
  lo : Nat := 0
instance : CoeFun Glob fun _ => Nat → Option (List PV) := ⟨Glob.tab⟩
structure GRep (im : Nat → Prop) (w : World) (cs : List PV) (g : Nat) : Prop where
  rep : IRep im w (.epos cs) (.pointer (some ⟨g, 0, none⟩))
  img : im g
  all : ∃ (vs : Array Value) (ty : TypeId) (fz : Nat × Nat), w.heap[g]? = some (.cells vs ty fz) ∧ vs.size = cs.length
theorem GRep.move {im im' : Nat → Prop} {w w' : World} {cs : List PV} {g : Nat} (h : GRep im w cs g) (hi : ∀ k, im k → im' k) (hw : ∀ k, im k → w'.heap[k]? = w.heap[k]?) : GRep im' w' cs g :=
  ⟨h.rep.move hi hw, hi _ h.img, by rw [hw _ h.img]; exact h.all⟩
structure HRep (Γ : Glob) (E : Env) (w : World) (H : Hp) : Prop where
  nb : E.nb = H.bx.length
  nr : E.nr = H.rw.length
  lo : E.lo ≤ w.heap.size
  box : ∀ (i : Nat) (b : Box), H.bx[i]? = some b → ∃ vs : List Value, w.heap[E.β i]? = some (.cells vs.toArray b.ty (0, 0)) ∧ VReps E w b.cs vs
  row : ∀ (i : Nat) (r : Row), H.rw[i]? = some (some r) → ∃ xs : List Value, w.ownsRow E.lo r.ty r.sz (E.ρ i) r.n xs ∧ IReps E.im w r.cs xs ∧ ∀ u ∈ xs, u.oneCell' = true
  inj : ∀ i j, i < E.nb → j < E.nb → E.β i = E.β j → i = j
  rinj : ∀ (i j : Nat) (r s : Row) (k : Nat), H.rw[i]? = some (some r) → H.rw[j]? = some (some s) → (E.ρ i).ownBlock = some k → (E.ρ j).ownBlock = some k → i = j
  brw : ∀ (i j : Nat) (r : Row), i < E.nb → H.rw[j]? = some (some r) → (E.ρ j).ownBlock ≠ some (E.β i)
  im_lt : ∀ k, E.im k → k < w.heap.size
  im_b : ∀ k i, i < E.nb → E.im k → E.β i ≠ k
  im_r : ∀ (k j : Nat) (r : Row), H.rw[j]? = some (some r) → E.im k → (E.ρ j).ownBlock ≠ some k
  gl : Γ.lo ≤ w.heap.size ∧ ∀ (g : Nat) (cs : List PV), Γ g = some cs → GRep E.im w cs g
section
variable {Γ : Glob} {E : Env} {w w' : World} {H : Hp}
theorem lt_of_some {α : Type} {a : Array α} {i : Nat} {x : α} (h : a[i]? = some x) : i < a.size := (Array.getElem?_eq_some_iff.1 h).1
theorem HRep.bx_lt (h : HRep Γ E w H) {i : Nat} (hi : i < E.nb) : E.β i < w.heap.size := by
  obtain ⟨vs, hv, _⟩ := h.box i _ (List.getElem?_eq_getElem (by rw [← h.nb]; exact hi))
  exact lt_of_some hv
theorem ownsRow_move {base : Nat} {e : TypeId} {size n : Nat} {v : Value} {xs : List Value} (h : w.ownsRow base e size v n xs) (hm : ∀ k, v.ownBlock = some k → w'.heap[k]? = w.heap[k]?) : w'.ownsRow base e size v n xs := by
  obtain ⟨h1, h2⟩ := h
  refine ⟨h1, ?_⟩
  rcases h2 with h2 | ⟨g, cap, cur, rfl, hg, hh, r⟩
  · exact .inl h2
  · exact .inr ⟨g, cap, cur, rfl, hg, (hm g (by simp [Value.ownBlock])).trans hh, r⟩
theorem ownsRow_lt {base : Nat} {e : TypeId} {size n : Nat} {v : Value} {xs : List Value} (h : w.ownsRow base e size v n xs) {k : Nat} (hk : v.ownBlock = some k) : base ≤ k ∧ k < w.heap.size := h.lt k hk
theorem IReps.move {im im' : Nat → Prop} {xs : List PV} {vs : List Value} (h : IReps im w xs vs) (hi : ∀ k, im k → im' k) (hw : ∀ k, im k → w'.heap[k]? = w.heap[k]?) : IReps im' w' xs vs :=
  ⟨h.1, fun j x v hx hv => (h.2 j x v hx hv).move hi hw⟩
theorem HRep.grow (h : HRep Γ E w H) (hs : w.heap.size ≤ w'.heap.size) (hk : ∀ k, k < w.heap.size → w'.heap[k]? = w.heap[k]?) : HRep Γ E w' H := by
  have mv : ∀ x v, VRep E w x v → VRep E w' x v := fun x v hv => hv.move (Nat.le_refl _) (Nat.le_refl _) (fun _ _ => rfl) (fun _ _ => rfl) (fun _ h => h) (fun k hi => hk k (h.im_lt k hi))
  refine ⟨h.nb, h.nr, Nat.le_trans h.lo hs, fun i b hb => ?_, fun i r hr => ?_, h.inj, h.rinj, h.brw, fun k hi => Nat.lt_of_lt_of_le (h.im_lt k hi) hs, h.im_b, h.im_r, ⟨Nat.le_trans h.gl.1 hs, fun g cs hg => (h.gl.2 g cs hg).move (fun _ h => h) (fun k hi => hk k (h.im_lt k hi))⟩⟩
  · obtain ⟨vs, hv, hr⟩ := h.box i b hb
    exact ⟨vs, (hk _ (lt_of_some hv)).trans hv, hr.move mv⟩
  · obtain ⟨xs, ho, hx, h1⟩ := h.row i r hr
    exact ⟨xs, ownsRow_move ho (fun k hk' => hk k (ownsRow_lt ho hk').2), hx.move (fun _ h => h) (fun k hi => hk k (h.im_lt k hi)), h1⟩
theorem VRep.grow {x : PV} {v : Value} (hv : VRep E w x v) (h : HRep Γ E w H) (hk : ∀ k, k < w.heap.size → w'.heap[k]? = w.heap[k]?) : VRep E w' x v :=
  hv.move (Nat.le_refl _) (Nat.le_refl _) (fun _ _ => rfl) (fun _ _ => rfl) (fun _ h => h) (fun k hi => hk k (h.im_lt k hi))
theorem VReps.grow {xs : List PV} {vs : List Value} (hv : VReps E w xs vs) (h : HRep Γ E w H) (hk : ∀ k, k < w.heap.size → w'.heap[k]? = w.heap[k]?) : VReps E w' xs vs := hv.move fun _ _ hx => hx.grow h hk
def Env.more (E : Env) (im : Nat → Prop) : Env := { E with im := im }
theorem VRep.more {x : PV} {v : Value} {im : Nat → Prop} (hv : VRep E w x v) (hi : ∀ k, E.im k → im k) : VRep (E.more im) w x v :=
  hv.move (Nat.le_refl _) (Nat.le_refl _) (fun _ _ => rfl) (fun _ _ => rfl) hi (fun _ _ => rfl)
theorem HRep.more {im : Nat → Prop} (h : HRep Γ E w H) (hi : ∀ k, E.im k → im k) (hl : ∀ k, im k → k < w.heap.size) (hb : ∀ k i, i < E.nb → im k → E.β i ≠ k)
    (hr : ∀ (k j : Nat) (r : Row), H.rw[j]? = some (some r) → im k → (E.ρ j).ownBlock ≠ some k) : HRep Γ (E.more im) w H := by
  have mv : ∀ x v, VRep E w x v → VRep (E.more im) w x v := fun x v hv => hv.more hi
  refine ⟨h.nb, h.nr, h.lo, fun i b hb => ?_, fun i r hr => ?_, h.inj, h.rinj, h.brw, hl, hb, hr, ⟨h.gl.1, fun g cs hg => (h.gl.2 g cs hg).move hi (fun k _ => rfl)⟩⟩
  · obtain ⟨vs, hv, hr⟩ := h.box i b hb
    exact ⟨vs, hv, hr.move mv⟩
  · obtain ⟨xs, ho, hx, h1⟩ := h.row i r hr
    exact ⟨xs, ho, hx.move hi (fun _ _ => rfl), h1⟩
def Env.newBox (E : Env) (k : Nat) : Env := { E with β := fun i => if i = E.nb then k else E.β i, nb := E.nb + 1 }
theorem VRep.newBox {x : PV} {v : Value} {k : Nat} (hv : VRep E w x v) : VRep (E.newBox k) w x v :=
  hv.move (by simp [Env.newBox]) (Nat.le_refl _) (fun i hi => by simp only [Env.newBox]; rw [if_neg (by omega)]) (fun _ _ => rfl) (fun _ h => h) (fun _ _ => rfl)
theorem HRep.newBox (h : HRep Γ E w H) {vs : List Value} {cs : List PV} {ty : TypeId} (hv : VReps E w cs vs) :
    HRep Γ (E.newBox w.heap.size) (w.alloc (.cells vs.toArray ty)) { H with bx := H.bx ++ [⟨cs, ty⟩] } := by
  have hg : HRep Γ E (w.alloc (.cells vs.toArray ty)) H := h.grow (by simp) (fun k hk => Below.heap_alloc w _ k hk)
  have mv : ∀ x v, VRep E (w.alloc (.cells vs.toArray ty)) x v → VRep (E.newBox w.heap.size) (w.alloc (.cells vs.toArray ty)) x v := fun x v hx => hx.newBox
  have hold : ∀ i, i < E.nb → (E.newBox w.heap.size).β i = E.β i := fun i hi => by simp only [Env.newBox]; rw [if_neg (by omega)]
  have hnew : (E.newBox w.heap.size).β E.nb = w.heap.size := by simp [Env.newBox]
  refine ⟨by simp [Env.newBox, h.nb], h.nr, hg.lo, fun i b hb => ?_, fun i r hr => ?_, fun i j hi hj he => ?_, h.rinj, fun i j r hi hj => ?_, hg.im_lt, fun k i hi hk => ?_, h.im_r, hg.gl⟩
  · rcases Nat.lt_or_ge i H.bx.length with hlt | hge
    · rw [List.getElem?_append_left hlt] at hb
      obtain ⟨us, hu, hr⟩ := hg.box i b hb
      exact ⟨us, by rw [hold i (by rw [h.nb]; exact hlt)]; exact hu, hr.move mv⟩
    · rw [List.getElem?_append_right hge] at hb
      have : i - H.bx.length = 0 := by
        rcases Nat.eq_zero_or_pos (i - H.bx.length) with h0 | h0
        · exact h0
        · rw [List.getElem?_eq_none (by simp; omega)] at hb; cases hb
      rw [this] at hb
      obtain rfl : (⟨cs, ty⟩ : Box) = b := by simpa using hb
      have hi : i = E.nb := by rw [h.nb]; omega
      subst hi
      exact ⟨vs, by rw [hnew]; exact heap_alloc_new w _, (hv.grow h (fun k hk => Below.heap_alloc w _ k hk)).move mv⟩
  · exact hg.row i r hr
  · simp only [Env.newBox] at hi hj he
    by_cases h1 : i = E.nb <;> by_cases h2 : j = E.nb
    · omega
    · rw [if_pos h1, if_neg h2] at he
      have := h.bx_lt (i := j) (by omega); omega
    · rw [if_neg h1, if_pos h2] at he
      have := h.bx_lt (i := i) (by omega); omega
    · rw [if_neg h1, if_neg h2] at he
      exact h.inj i j (by omega) (by omega) he
  · simp only [Env.newBox] at hi ⊢
    by_cases h1 : i = E.nb
    · rw [if_pos h1]
      obtain ⟨xs, ho, _⟩ := h.row j r hj
      intro hc
      have := (ownsRow_lt ho hc).2
      omega
    · rw [if_neg h1]; exact h.brw i j r (by omega) hj
  · simp only [Env.newBox] at hi ⊢
    by_cases h1 : i = E.nb
    · rw [if_pos h1]
      have := h.im_lt k hk
      omega
    · rw [if_neg h1]; exact h.im_b k i (by omega) hk
def putBlk (w : World) (g : Nat) (cells : List Value) (t : TypeId) : World := { w with heap := w.heap.setIfInBounds g (.cells cells.toArray t (0, 0)) }
theorem putBlk_size (w : World) (g : Nat) (cells : List Value) (t : TypeId) : (putBlk w g cells t).heap.size = w.heap.size := by simp [putBlk]
theorem putBlk_at {g : Nat} {cells : List Value} {t : TypeId} (hg : g < w.heap.size) : (putBlk w g cells t).heap[g]? = some (.cells cells.toArray t (0, 0)) := by
  simp [putBlk, hg]
theorem putBlk_ne {g k : Nat} {cells : List Value} {t : TypeId} (hk : k ≠ g) : (putBlk w g cells t).heap[k]? = w.heap[k]? := by
  simp only [putBlk, Array.getElem?_setIfInBounds]
  rw [if_neg (Ne.symm hk)]
theorem putBlk_put {g : Nat} {cs ds : List Value} {t u : TypeId} : putBlk (putBlk w g cs t) g ds u = putBlk w g ds u := by
  simp only [putBlk]
  congr 1
  apply Array.ext_getElem?
  intro i
  simp only [Array.getElem?_setIfInBounds, Array.size_setIfInBounds]
  by_cases hi : g = i
  · simp [hi]
  · simp [hi]
theorem setCell_put {g o : Nat} {cells : List Value} {t : TypeId} (hg : w.heap[g]? = some (.cells cells.toArray t (0, 0))) (v : Value) : w.setCell ⟨g, o, none⟩ v = putBlk w g (cells.set o v) t := by
  simp only [World.setCell, putBlk]
  congr 1
  apply Array.ext_getElem?
  intro i
  simp only [Array.getElem?_modify, Array.getElem?_setIfInBounds]
  by_cases hi : g = i
  · subst hi
    rw [if_pos rfl, if_pos rfl, hg, if_pos (lt_of_some hg)]
    simp
  · rw [if_neg hi, if_neg hi]
def splice {α : Type} (l : List α) (o : Nat) : List α → List α
  | [] => l
  | x :: r => splice (l.set o x) (o + 1) r
theorem splice_length {α : Type} (l : List α) (o : Nat) (xs : List α) : (splice l o xs).length = l.length := by
  induction xs generalizing l o with
  | nil => rfl
  | cons x r ih => rw [splice, ih]; simp
theorem VReps.splice {xs ys : List PV} {vs us : List Value} (h : VReps E w xs vs) (k : VReps E w ys us) (o : Nat) : VReps E w (splice xs o ys) (AS.splice vs o us) := by
  induction ys generalizing xs vs us o with
  | nil => rw [k.nil_inv]; exact h
  | cons y ys ih =>
    obtain ⟨u, us', rfl, hu, hus⟩ := k.cons_inv
    exact ih (h.set o hu) hus (o + 1)
theorem splice_take {α : Type} (l : List α) (o n : Nat) (xs : List α) (h : o + xs.length ≤ n) : (splice l o xs).take n = splice (l.take n) o xs := by
  induction xs generalizing l o with
  | nil => rfl
  | cons x r ih =>
    simp only [List.length_cons] at h
    rw [splice, splice, ih _ _ (by omega)]
    congr 1
    exact List.take_set
theorem HRep.putBox (h : HRep Γ E w H) {i : Nat} {b : Box} (hb : H.bx[i]? = some b) {cs : List PV} {vs : List Value} (hv : VReps E w cs vs) :
    HRep Γ E (putBlk w (E.β i) vs b.ty) { H with bx := H.bx.set i ⟨cs, b.ty⟩ } := by
  have hin : i < E.nb := by rw [h.nb]; exact (List.getElem?_eq_some_iff.1 hb).1
  have hlt := h.bx_lt hin
  have hne : ∀ k, E.im k → k ≠ E.β i := fun k hk he => h.im_b k i hin hk he.symm
  have mv : ∀ x v, VRep E w x v → VRep E (putBlk w (E.β i) vs b.ty) x v := fun x v hx => hx.move (Nat.le_refl _) (Nat.le_refl _) (fun _ _ => rfl) (fun _ _ => rfl) (fun _ h => h) (fun k hk => putBlk_ne (hne k hk))
  refine ⟨by simp [h.nb], h.nr, by rw [putBlk_size]; exact h.lo, fun j c hc => ?_, fun j r hr => ?_, h.inj, h.rinj, h.brw, fun k hk => by rw [putBlk_size]; exact h.im_lt k hk, h.im_b, h.im_r, ⟨by rw [putBlk_size]; exact h.gl.1, fun g cs hg => (h.gl.2 g cs hg).move (fun _ h => h) (fun k hk => putBlk_ne (hne k hk))⟩⟩
  · by_cases hij : i = j
    · subst hij
      simp only [] at hc
      rw [List.getElem?_set_self (by rw [← h.nb]; exact hin)] at hc
      cases hc
      exact ⟨vs, putBlk_at hlt, hv.move mv⟩
    · simp only [] at hc
      rw [List.getElem?_set_ne hij] at hc
      obtain ⟨us, hu, hr⟩ := h.box j c hc
      have hjn : j < E.nb := by rw [h.nb]; exact (List.getElem?_eq_some_iff.1 hc).1
      exact ⟨us, (putBlk_ne (fun he => hij (h.inj i j hin hjn he.symm))).trans hu, hr.move mv⟩
  · obtain ⟨xs, ho, hx, h1⟩ := h.row j r hr
    exact ⟨xs, ownsRow_move ho (fun k hk => putBlk_ne (fun he => h.brw i j r hin hr (he ▸ hk))), hx.move (fun _ h => h) (fun k hk => putBlk_ne (hne k hk)), h1⟩
theorem VRep.putBox (h : HRep Γ E w H) {i : Nat} (hin : i < E.nb) {vs : List Value} {t : TypeId} {x : PV} {v : Value} (hx : VRep E w x v) : VRep E (putBlk w (E.β i) vs t) x v :=
  hx.move (Nat.le_refl _) (Nat.le_refl _) (fun _ _ => rfl) (fun _ _ => rfl) (fun _ h => h) (fun k hk => putBlk_ne (fun he => h.im_b k i hin hk he.symm))
def Env.newRow (E : Env) (v : Value) : Env := { E with ρ := fun i => if i = E.nr then v else E.ρ i, nr := E.nr + 1 }
theorem VRep.newRow {x : PV} {v u : Value} (hv : VRep E w x v) : VRep (E.newRow u) w x v :=
  hv.move (Nat.le_refl _) (by simp [Env.newRow]) (fun _ _ => rfl) (fun i hi => by simp only [Env.newRow]; rw [if_neg (by omega)]) (fun _ h => h) (fun _ _ => rfl)
theorem HRep.newRow (h : HRep Γ E w H) {r : Row} {v : Value} {xs : List Value} (ho : w.ownsRow E.lo r.ty r.sz v r.n xs) (hx : IReps E.im w r.cs xs) (h1 : ∀ u ∈ xs, u.oneCell' = true)
    (hnb : ∀ k i, i < E.nb → v.ownBlock = some k → E.β i ≠ k) (hni : ∀ k, v.ownBlock = some k → ¬ E.im k) (hnr : ∀ (k j : Nat) (s : Row), H.rw[j]? = some (some s) → v.ownBlock = some k → (E.ρ j).ownBlock ≠ some k) :
    HRep Γ (E.newRow v) w { H with rw := H.rw ++ [some r] } := by
  have mv : ∀ x u, VRep E w x u → VRep (E.newRow v) w x u := fun x u hx => hx.newRow
  have hnew : (E.newRow v).ρ E.nr = v := by simp [Env.newRow]
  have hold : ∀ i, i ≠ E.nr → (E.newRow v).ρ i = E.ρ i := fun i hi => by simp only [Env.newRow]; rw [if_neg hi]
  have split : ∀ (j : Nat) (s : Row), (H.rw ++ [some r])[j]? = some (some s) → (H.rw[j]? = some (some s) ∧ j ≠ E.nr) ∨ (j = E.nr ∧ s = r) := fun j s hj => by
    rcases Nat.lt_or_ge j H.rw.length with hlt | hge
    · rw [List.getElem?_append_left hlt] at hj
      exact .inl ⟨hj, by rw [h.nr]; omega⟩
    · rw [List.getElem?_append_right hge] at hj
      have h0 : j - H.rw.length = 0 := by
        rcases Nat.eq_zero_or_pos (j - H.rw.length) with h0 | h0
        · exact h0
        · rw [List.getElem?_eq_none (by simp; omega)] at hj; cases hj
      rw [h0] at hj
      exact .inr ⟨by rw [h.nr]; omega, by simpa using hj.symm⟩
  refine ⟨h.nb, by simp [Env.newRow, h.nr], h.lo, fun i b hb => ?_, fun j s hj => ?_, h.inj, fun i j s t k hi hj hki hkj => ?_, fun i j s hi hj => ?_, h.im_lt, h.im_b, fun k j s hj hk => ?_, h.gl⟩
  · obtain ⟨us, hu, hr⟩ := h.box i b hb
    exact ⟨us, hu, hr.move mv⟩
  · rcases split j s hj with ⟨hj, hne⟩ | ⟨rfl, rfl⟩
    · obtain ⟨ys, hoy, hy, h1y⟩ := h.row j s hj
      exact ⟨ys, by rw [hold j hne]; exact hoy, hy, h1y⟩
    · exact ⟨xs, by rw [hnew]; exact ho, hx, h1⟩
  · rcases split i s hi with ⟨hi', hni'⟩ | ⟨hi', hs'⟩ <;> rcases split j t hj with ⟨hj', hnj⟩ | ⟨hj', ht'⟩
    · rw [hold i hni'] at hki; rw [hold j hnj] at hkj
      exact h.rinj i j s t k hi' hj' hki hkj
    · rw [hold i hni'] at hki; rw [hj', hnew] at hkj
      exact absurd hki (hnr k i s hi' hkj)
    · rw [hi', hnew] at hki; rw [hold j hnj] at hkj
      exact absurd hkj (hnr k j t hj' hki)
    · rw [hi', hj']
  · rcases split j s hj with ⟨hj, hne⟩ | ⟨rfl, rfl⟩
    · rw [hold j hne]; exact h.brw i j s hi hj
    · rw [hnew]; exact fun hc => hnb _ i hi hc rfl
  · rcases split j s hj with ⟨hj, hne⟩ | ⟨rfl, rfl⟩
    · rw [hold j hne]; exact h.im_r k j s hj hk
    · rw [hnew]; exact fun hc => hni k hc hk
end
mutual
def PV.kill (r : Nat) : PV → PV
  | .own q n => if q = r then .junk else .own q n
  | .rpos q o => if q = r then .junk else .rpos q o
  | .func fn cap => .func fn (killL r cap)
  | .agg cs => .agg (killL r cs)
  | .tup cs => .tup (killL r cs)
  | .iface t x => .iface t (x.kill r)
  | .int k n => .int k n
  | .bool b => .bool b
  | .str s => .str s
  | .slice n cs => .slice n cs
  | .nil => .nil
  | .epos cs => .epos cs
  | .ptr b o => .ptr b o
  | .bsl b n m => .bsl b n m
  | .nilptr => .nilptr
  | .nilfunc => .nilfunc
  | .niliface => .niliface
  | .exact v => .exact v
  | .sl F n cs => .sl F n cs
  | .junk => .junk
def killL (r : Nat) : List PV → List PV
  | [] => []
  | x :: xs => x.kill r :: killL r xs
end
mutual
def PV.fz (r : Nat) (cells : List PV) : PV → PV
  | .own q n => if q = r then .slice n cells else .own q n
  | .rpos q o => if q = r then .epos (cells.drop o) else .rpos q o
  | .func fn cap => .func fn (fzL r cells cap)
  | .agg cs => .agg (fzL r cells cs)
  | .tup cs => .tup (fzL r cells cs)
  | .iface t x => .iface t (x.fz r cells)
  | .int k n => .int k n
  | .bool b => .bool b
  | .str s => .str s
  | .slice n cs => .slice n cs
  | .nil => .nil
  | .epos cs => .epos cs
  | .ptr b o => .ptr b o
  | .bsl b n m => .bsl b n m
  | .nilptr => .nilptr
  | .nilfunc => .nilfunc
  | .niliface => .niliface
  | .exact v => .exact v
  | .sl F n cs => .sl F n cs
  | .junk => .junk
def fzL (r : Nat) (cells : List PV) : List PV → List PV
  | [] => []
  | x :: xs => x.fz r cells :: fzL r cells xs
end
theorem killL_map (r : Nat) (xs : List PV) : killL r xs = xs.map (PV.kill r) := by induction xs with | nil => rfl | cons x xs ih => simp [killL, ih]
theorem fzL_map (r : Nat) (cells xs : List PV) : fzL r cells xs = xs.map (PV.fz r cells) := by induction xs with | nil => rfl | cons x xs ih => simp [fzL, ih]
/- What holds no reference at all. -/
mutual
def PV.pure : PV → Bool
  | .own _ _ | .rpos _ _ | .ptr _ _ | .bsl _ _ _ | .junk => false
  | .func _ cap => cap.isEmpty
  | .agg cs => pureL cs
  | .tup cs => pureL cs
  | .iface _ x => x.pure
  | .int _ _ | .bool _ | .str _ | .slice _ _ | .nil | .epos _ | .nilptr | .nilfunc | .niliface | .exact _ | .sl _ _ _ => true
def pureL : List PV → Bool
  | [] => true
  | x :: xs => x.pure && pureL xs
end
theorem pureL_get {xs : List PV} (h : pureL xs = true) {j : Nat} {x : PV} (hj : xs[j]? = some x) : x.pure = true := by
  induction xs generalizing j with
  | nil => simp at hj
  | cons y ys ih =>
    simp only [pureL, Bool.and_eq_true] at h
    cases j with
    | zero => simp at hj; subst hj; exact h.1
    | succ j => exact ih h.2 (by simpa using hj)
theorem VRep.pure {E : Env} {w : World} {x : PV} {v : Value} (h : VRep E w x v) (hp : x.pure = true) : IRep E.im w x v := by
  induction h with
  | imm h => exact h
  | own | rpos | ptr | bsl | junk => simp [PV.pure] at hp
  | func hl _ _ =>
    simp [PV.pure] at hp
    subst hp
    have := List.eq_nil_of_length_eq_zero hl
    subst this
    exact .func _
  | agg hl _ ih => exact .agg hl fun j x v hx hv => ih j x v hx hv (pureL_get (by simpa [PV.pure] using hp) hx)
  | tup hl _ ih => exact .tup hl fun j x v hx hv => ih j x v hx hv (pureL_get (by simpa [PV.pure] using hp) hx)
  | iface t _ ih => exact .iface t (ih (by simpa [PV.pure] using hp))
theorem VReps.pure {E : Env} {w : World} {xs : List PV} {vs : List Value} (h : VReps E w xs vs) (hp : pureL xs = true) : IReps E.im w xs vs := ⟨h.1, fun j x v hx hv => (h.2 j x v hx hv).pure (pureL_get hp hx)⟩
theorem IRep.kill {im : Nat → Prop} {w : World} {x : PV} {v : Value} (r : Nat) (h : IRep im w x v) : IRep im w (x.kill r) v := by
  induction h with
  | agg hl _ ih => exact .agg (by rw [killL_map]; simpa using hl) (fun j x v hx hv => by
      rw [killL_map, List.getElem?_map] at hx
      obtain ⟨y, hy, rfl⟩ := Option.map_eq_some_iff.1 hx
      exact ih j y v hy hv)
  | tup hl _ ih => exact .tup (by rw [killL_map]; simpa using hl) (fun j x v hx hv => by
      rw [killL_map, List.getElem?_map] at hx
      obtain ⟨y, hy, rfl⟩ := Option.map_eq_some_iff.1 hx
      exact ih j y v hy hv)
  | iface t _ ih => exact .iface t ih
  | slice hn hl hb hc h1 hr _ => exact .slice hn hl hb hc h1 hr
  | epos hl hb hc hr _ => exact .epos hl hb hc hr
  | func fn => simp only [PV.kill, killL]; exact .func fn
  | exact h => exact .exact h
  | sl h h1 hF _ => exact .sl h h1 hF
  | _ => constructor
theorem IRep.fz {im : Nat → Prop} {w : World} {x : PV} {v : Value} (r : Nat) (cells : List PV) (h : IRep im w x v) : IRep im w (x.fz r cells) v := by
  induction h with
  | agg hl _ ih => exact .agg (by rw [fzL_map]; simpa using hl) (fun j x v hx hv => by
      rw [fzL_map, List.getElem?_map] at hx
      obtain ⟨y, hy, rfl⟩ := Option.map_eq_some_iff.1 hx
      exact ih j y v hy hv)
  | tup hl _ ih => exact .tup (by rw [fzL_map]; simpa using hl) (fun j x v hx hv => by
      rw [fzL_map, List.getElem?_map] at hx
      obtain ⟨y, hy, rfl⟩ := Option.map_eq_some_iff.1 hx
      exact ih j y v hy hv)
  | iface t _ ih => exact .iface t ih
  | slice hn hl hb hc h1 hr _ => exact .slice hn hl hb hc h1 hr
  | epos hl hb hc hr _ => exact .epos hl hb hc hr
  | func fn => simp only [PV.fz, fzL]; exact .func fn
  | exact h => exact .exact h
  | sl h h1 hF _ => exact .sl h h1 hF
  | _ => constructor
theorem VRep.kill {E E' : Env} {w w' : World} {x : PV} {v : Value} {r : Nat} (h : VRep E w x v) (hb : E'.nb = E.nb) (hr : E'.nr = E.nr) (hβ : E'.β = E.β) (hρ : ∀ i, i ≠ r → E'.ρ i = E.ρ i) (hi : ∀ k, E.im k → E'.im k) (hw : ∀ k, E.im k → w'.heap[k]? = w.heap[k]?) :
    VRep E' w' (x.kill r) v := by
  induction h with
  | imm h => exact .imm ((h.move hi hw).kill r)
  | @own q n A m c hq h hn =>
    simp only [PV.kill]
    split
    · exact .junk _
    · exact .own (by rw [hr]; exact hq) (by rw [hρ _ (by assumption)]; exact h) hn
  | @rpos q o a m c hq h =>
    simp only [PV.kill]
    split
    · exact .junk _
    · exact .rpos (by rw [hr]; exact hq) (by rw [hρ _ (by assumption)]; exact h)
  | ptr o hb' => rw [← hβ]; exact .ptr o (by rw [hb]; exact hb')
  | bsl hb' hn => rw [← hβ]; exact .bsl (by rw [hb]; exact hb') hn
  | func hl _ ih => exact .func (by rw [killL_map]; simpa using hl) (fun j x v hx hv => by
      rw [killL_map, List.getElem?_map] at hx
      obtain ⟨y, hy, rfl⟩ := Option.map_eq_some_iff.1 hx
      exact ih j y v hy hv)
  | agg hl _ ih => exact .agg (by rw [killL_map]; simpa using hl) (fun j x v hx hv => by
      rw [killL_map, List.getElem?_map] at hx
      obtain ⟨y, hy, rfl⟩ := Option.map_eq_some_iff.1 hx
      exact ih j y v hy hv)
  | tup hl _ ih => exact .tup (by rw [killL_map]; simpa using hl) (fun j x v hx hv => by
      rw [killL_map, List.getElem?_map] at hx
      obtain ⟨y, hy, rfl⟩ := Option.map_eq_some_iff.1 hx
      exact ih j y v hy hv)
  | iface t _ ih => exact .iface t ih
  | junk v => exact .junk v
theorem VReps.kill {E E' : Env} {w w' : World} {xs : List PV} {vs : List Value} {r : Nat} (h : VReps E w xs vs) (hm : ∀ x v, VRep E w x v → VRep E' w' (x.kill r) v) : VReps E' w' (killL r xs) vs :=
  ⟨by rw [killL_map]; simpa using h.1, fun j x v hx hv => by
    rw [killL_map, List.getElem?_map] at hx
    obtain ⟨y, hy, rfl⟩ := Option.map_eq_some_iff.1 hx
    exact hm y v (h.2 j y v hy hv)⟩
theorem VRep.fz {E : Env} {w : World} {x : PV} {v : Value} {r n : Nat} {im : Nat → Prop} {cells : List PV} (h : VRep E w x v) (hi : ∀ k, E.im k → im k) (hv : ∀ A m c, E.ρ r = .slice A m c → IRep im w (.slice m cells) (.slice A m c))
    (hp : ∀ a m c, E.ρ r = .slice (some a) m c → ∀ o, IRep im w (.epos (cells.drop o)) (.pointer (some (a.add o)))) : VRep (E.more im) w (x.fz r cells) v := by
  induction h with
  | imm h => exact .imm ((h.move hi (fun _ _ => rfl)).fz r cells)
  | @own q n A m c hq h hn =>
    simp only [PV.fz]
    split
    · rename_i he
      subst he; subst hn
      exact .imm (hv _ _ _ h)
    · exact .own hq h hn
  | @rpos q o a m c hq h =>
    simp only [PV.fz]
    split
    · rename_i he
      subst he
      exact .imm (hp _ _ _ h o)
    · exact .rpos hq h
  | ptr o hb' => exact .ptr o hb'
  | bsl hb' hn => exact .bsl hb' hn
  | func hl _ ih => exact .func (by rw [fzL_map]; simpa using hl) (fun j x v hx hv => by
      rw [fzL_map, List.getElem?_map] at hx
      obtain ⟨y, hy, rfl⟩ := Option.map_eq_some_iff.1 hx
      exact ih j y v hy hv)
  | agg hl _ ih => exact .agg (by rw [fzL_map]; simpa using hl) (fun j x v hx hv => by
      rw [fzL_map, List.getElem?_map] at hx
      obtain ⟨y, hy, rfl⟩ := Option.map_eq_some_iff.1 hx
      exact ih j y v hy hv)
  | tup hl _ ih => exact .tup (by rw [fzL_map]; simpa using hl) (fun j x v hx hv => by
      rw [fzL_map, List.getElem?_map] at hx
      obtain ⟨y, hy, rfl⟩ := Option.map_eq_some_iff.1 hx
      exact ih j y v hy hv)
  | iface t _ ih => exact .iface t ih
  | junk v => exact .junk v
theorem VReps.fz {E E' : Env} {w : World} {xs : List PV} {vs : List Value} {r : Nat} {cells : List PV} (h : VReps E w xs vs) (hm : ∀ x v, VRep E w x v → VRep E' w (x.fz r cells) v) : VReps E' w (fzL r cells xs) vs :=
  ⟨by rw [fzL_map]; simpa using h.1, fun j x v hx hv => by
    rw [fzL_map, List.getElem?_map] at hx
    obtain ⟨y, hy, rfl⟩ := Option.map_eq_some_iff.1 hx
    exact hm y v (h.2 j y v hy hv)⟩
end Go.AS
namespace Go.AS
open Go.RowKit
set_option linter.unusedVariables false
inductive TK where
  | int (k : IntKind)
  | bool
  | str
  | slice (e : TypeId)
  | ptr (e : TypeId)
  | struct (fs : List (Nat × TypeId))
  | array (n : Nat) (e : TypeId)
  | iface
  | func
  | other
structure TD where
  k : TK
  size : Nat
  bytes : Nat
  zero : List PV
def TK.agg : TK → Bool
  | .struct _ | .array _ _ => true
  | _ => false
def TK.ok : TK → TypeDesc → Prop
  | .int k, d => d = .int k
  | .bool, d => d = .bool
  | .str, d => d = .string
  | .slice e, d => d = .slice e
  | .ptr e, d => d = .pointer e
  | .struct fs, d => ∃ F, d = .struct F ∧ F.toList.map (fun f => (f.offset, f.type)) = fs
  | .array n e, d => d = .array n e
  | .iface, d => ∃ ms, d = .interface ms
  | .func, d => ∃ a b c, d = .func a b c
  | .other, d => (match d with | .struct _ | .array _ _ => true | _ => false) = false
def cellOf : Value → PV
  | .int k n => .int k n
  | .bool b => .bool b
  | .string s => .str s
  | .pointer none => .nilptr
  | .slice none 0 0 => .nil
  | .nilFunc => .nilfunc
  | .nilIface => .niliface
  | .func fn ⟨[]⟩ ⟨[]⟩ => .func fn []
  | _ => .junk
theorem cellOf_rep {E : Env} {w : World} (v : Value) : VRep E w (cellOf v) v := by
  unfold cellOf
  split <;> first | exact .junk _ | (refine .imm ?_; constructor)
theorem cellsOf_rep {E : Env} {w : World} (vs : List Value) : VReps E w (vs.map cellOf) vs :=
  ⟨by simp, fun j x v hx hv => by
    rw [List.getElem?_map, hv] at hx
    cases hx
    exact cellOf_rep v⟩
def constOf : Value → PV
  | .agg cs => .agg (cs.toList.map cellOf)
  | .tuple ⟨[]⟩ => .tup []
  | .iface t (.agg cs) => .iface t (.agg (cs.toList.map cellOf))
  | .iface t v => .iface t (cellOf v)
  | v => cellOf v
theorem constOf_rep {E : Env} {w : World} (v : Value) : VRep E w (constOf v) v := by
  unfold constOf
  split
  · exact (cellsOf_rep _).agg
  · exact .tup rfl (fun j x v h => by simp at h)
  · exact .iface _ (cellsOf_rep _).agg
  · exact .iface _ (cellOf_rep _)
  · exact cellOf_rep _
structure TD.ok (P : Program) (t : TypeId) (td : TD) : Prop where
  und : ∃ d, P.underlying t = some d ∧ td.k.ok d
  info : ∃ i z, P.info? t = some i ∧ i.size = td.size ∧ i.bytes = td.bytes ∧ i.zero = some z ∧ z.cells.toList.map cellOf = td.zero
structure Prg where
  P : Program
  T : TypeId → Option TD
  hT : ∀ t td, T t = some td → td.ok P t
  Γ : Glob
  mo : P.follows .mixedOrders = true
structure AS where
  t : List (Nat × PV)
  h : Hp
  deriving Inhabited
def Gr (w w' : World) : Prop := ∀ k, k < w.heap.size → w'.heap[k]? = w.heap[k]?
theorem Gr.refl (w : World) : Gr w w := fun _ _ => rfl
theorem Gr.cell {w w' : World} (h : Gr w w') {a : Addr} {v : Value} (hc : w.cell? a = some v) : w'.cell? a = some v :=
  (World.cell?_of_block (h _ (World.block_lt_of_cell? w _ hc))).trans hc
def lk : List (Nat × PV) → Nat → PV
  | [], _ => .junk
  | (i, x) :: r, s => if i = s then x else lk r s
def AS.put (st : AS) (dst : Option Tmp) (x : PV) : AS := match dst with
  | some d => { st with t := (d, x) :: st.t }
  | none => st
def AS.ev (Γ : Glob) (st : AS) : Operand → PV
  | .tmp t => lk st.t t
  | .const v => constOf v
  | .global g => match Γ g with
    | some cs => .epos cs
    | none => .junk
  | .func f => .func (.func f) []
def FRep (E : Env) (w : World) (t : List (Nat × PV)) (tmps : Array Value) : Prop := ∀ s, VRep E w (lk t s) (tmps.getD s undef)
theorem FRep.put {E : Env} {w : World} {t : List (Nat × PV)} {tmps : Array Value} (h : FRep E w t tmps) {d : Nat} {x : PV} {v : Value} (hd : d < tmps.size) (hx : VRep E w x v) : FRep E w ((d, x) :: t) (tmps.setIfInBounds d v) := by
  intro s
  simp only [lk]
  by_cases hs : d = s
  · subst hs
    rw [if_pos rfl]
    simpa [Array.getD, hd] using hx
  · rw [if_neg hs]
    have : (tmps.setIfInBounds d v).getD s undef = tmps.getD s undef := by
      simp [Array.getD_eq_getD_getElem?, hs]
    rw [this]; exact h s
theorem FRep.move {E E' : Env} {w w' : World} {t : List (Nat × PV)} {tmps : Array Value} (h : FRep E w t tmps) (mv : ∀ x v, VRep E w x v → VRep E' w' x v) : FRep E' w' t tmps := fun s => mv _ _ (h s)
theorem ev_rep {Γ : Glob} {E : Env} {w : World} {st : AS} {a : Act} (hf : FRep E w st.t a.tmps) (hh : HRep Γ E w st.h) (x : Operand) : VRep E w (st.ev Γ x) (a.eval x) := by
  cases x with
  | tmp s => exact hf s
  | const v => exact constOf_rep v
  | global g =>
    simp only [AS.ev, Act.eval]
    cases hg : Γ g with
    | none => exact .junk _
    | some cs => exact .imm (hh.gl.2 g cs hg).rep
  | func f => exact .imm (.func _)
def bt (s : ByteArray) (i : Int) : Int := if h : i.toNat < s.size then ((s[i.toNat]'h).toNat : Int) else 0
def abin : BinOp → PV → PV → Option PV
  | .add, .int k a, .int j b => if k = j then some (.int k (k.wrap (a + b))) else none
  | .sub, .int k a, .int j b => if k = j then some (.int k (k.wrap (a - b))) else none
  | .mul, .int k a, .int j b => if k = j then some (.int k (k.wrap (a * b))) else none
  | .quo, .int k a, .int j b => if k = j then (if b = 0 then none else some (.int k (k.wrap (a.tdiv b)))) else none
  | .rem, .int k a, .int j b => if k = j then (if b = 0 then none else some (.int k (a.tmod b))) else none
  | .eql, .int k a, .int j b => if k = j then some (.bool (a == b)) else none
  | .neq, .int k a, .int j b => if k = j then some (.bool (a != b)) else none
  | .lss, .int k a, .int j b => if k = j then some (.bool (decide (a < b))) else none
  | .leq, .int k a, .int j b => if k = j then some (.bool (decide (a ≤ b))) else none
  | .gtr, .int k a, .int j b => if k = j then some (.bool (decide (b < a))) else none
  | .geq, .int k a, .int j b => if k = j then some (.bool (decide (b ≤ a))) else none
  | .add, .str a, .str b => if a.size + b.size ≤ 9223372036854775807 then some (.str (a ++ b)) else none
  | .eql, .str a, .str b => some (.bool (a.toList == b.toList))
  | .neq, .str a, .str b => some (.bool (!(a.toList == b.toList)))
  | _, _, _ => none
theorem abin_ok {P : Program} {E : Env} {w : World} {op : BinOp} {x y z : PV} {u v : Value} (h : abin op x y = some z) (hx : VRep E w x u) (hy : VRep E w y v) (t : TypeId) (p q : Operand) :
    ∃ r, (∀ w', Gr w w' → (do eqGuard op t p q u v; binOp op t u v : Sem Value).run P w' = .ok r w') ∧ VRep E w z r := by
  unfold abin at h
  split at h <;> first | (cases h; done) | skip
  all_goals first
    | (obtain rfl := hx.int_inv; obtain rfl := hy.int_inv
       split at h <;> first | (cases h; done) | skip
       rename_i hk; subst hk)
    | (obtain rfl := hx.str_inv; obtain rfl := hy.str_inv)
  all_goals first
    | (cases h; exact ⟨_, fun w' _ => by simp [go_sem, Op.intArith]; rfl, .imm (by constructor)⟩)
    | (split at h <;> first | (cases h; done) | skip
       cases h
       rename_i hb
       exact ⟨_, fun w' _ => by simp [go_sem, Op.intDiv, hb]; rfl, .imm (by constructor)⟩)
    | skip
  rename_i a b
  split at h <;> first | (cases h; done) | skip
  rename_i hb
  cases h
  have hm : ¬ (((a.size + b.size : Nat) : Int) > IntKind.i64.max) := by
    have : IntKind.i64.max = 9223372036854775807 := by decide
    omega
  exact ⟨.string (a ++ b), fun w' _ => by simp only [eqGuard_add, Sem.run_bind, Sem.run_pure, Result.andThen, binOp, Op.stringOp]; rw [if_neg hm]; rfl, .imm (.str _)⟩
theorem wf_field {P : Program} {t : TypeId} {td : TD} (h : td.ok P t) {fs : List (Nat × TypeId)} (hk : td.k = .struct fs) : ∃ F, P.underlying t = some (.struct F) ∧ F.toList.map (fun f => (f.offset, f.type)) = fs := by
  obtain ⟨d, hd, ho⟩ := h.und
  rw [hk] at ho
  obtain ⟨F, rfl, hF⟩ := ho
  exact ⟨F, hd, hF⟩
theorem wf_size {P : Program} {t : TypeId} {td : TD} (h : td.ok P t) (w : World) : (sizeOf t).run P w = .ok td.size w := by
  obtain ⟨i, z, hi, hs, _⟩ := h.info
  simp [sizeOf, typeInfo, hi, hs]
theorem wf_und {P : Program} {t : TypeId} {d : TypeDesc} (h : P.underlying t = some d) (w : World) : (underlying t).run P w = .ok d w := run_underlying h w
theorem wf_agg {P : Program} {t : TypeId} {td : TD} (h : td.ok P t) (w : World) : (isAgg t).run P w = .ok td.k.agg w := by
  obtain ⟨d, hd, ho⟩ := h.und
  unfold isAgg
  simp only [Sem.run_bind, wf_und hd, Result.andThen]
  cases hk : td.k <;> rw [hk] at ho <;> simp only [TK.ok] at ho <;> simp only [TK.agg]
  case other => cases d <;> first | rfl | simp at ho
  case struct => obtain ⟨F, rfl, _⟩ := ho; rfl
  case iface => obtain ⟨_, rfl⟩ := ho; rfl
  case func => obtain ⟨_, _, _, rfl⟩ := ho; rfl
  all_goals (subst ho; rfl)
theorem wf_load {P : Program} {t : TypeId} {td : TD} (h : td.ok P t) {w : World} {a : Addr} {vs : List Value} (hc : ∀ j v, vs[j]? = some v → w.cell? (a.add j) = some v) (hs : td.size ≤ vs.length) (h1 : td.k.agg = false → td.size = 1) :
    (loadVar t a).run P w = .ok (if td.k.agg then .agg (vs.take td.size).toArray else vs.headD undef) w := by
  unfold loadVar
  simp only [Sem.run_bind, wf_agg h, Result.andThen]
  cases hk : td.k.agg with
  | true =>
    simp only [if_true, Sem.run_bind, wf_size h, Result.andThen]
    have hl : (vs.take td.size).length = td.size := by simp; omega
    have hr := run_loadCells_list (P := P) w a (vs.take td.size) (fun j v hv => hc j v (by
      rw [List.getElem?_take] at hv
      split at hv
      · exact hv
      · cases hv))
    rw [hl] at hr
    rw [hr]
    rfl
  | false =>
    have h1' := h1 hk
    cases vs with
    | nil => simp at hs; omega
    | cons v r =>
      have := hc 0 v rfl
      simp only [Addr.add, if_true] at this
      simp [this]
def AS.cellsAt (st : AS) : PV → Option (List PV)
  | .ptr b o => match st.h.bx[b]? with
    | some x => some (x.cs.drop o)
    | none => none
  | .epos cs => some cs
  | .rpos r o => match st.h.rw[r]? with
    | some (some x) => some (x.cs.drop o)
    | _ => none
  | _ => none
theorem cell_of_blk {w : World} {g o : Nat} {vs : List Value} {t : TypeId} {fz : Nat × Nat} (h : w.heap[g]? = some (.cells vs.toArray t fz)) (j : Nat) : w.cell? ((⟨g, o, none⟩ : Addr).add j) = vs[o + j]? := by
  rw [add_none]
  simp [World.cell?, h]
theorem cellsAt_ok {Γ : Glob} {E : Env} {w : World} {st : AS} (hh : HRep Γ E w st.h) {x : PV} {cs : List PV} (h : st.cellsAt x = some cs) {v : Value} (hv : VRep E w x v) (hne : 0 < cs.length) :
    ∃ a vs, v = .pointer (some a) ∧ (∀ (j : Nat) (u : Value), vs[j]? = some u → w.cell? (a.add j) = some u) ∧ VReps E w cs vs := by
  unfold AS.cellsAt at h
  split at h
  · rename_i b o
    split at h
    · rename_i x hx
      cases h
      obtain ⟨rfl, hb⟩ := hv.ptr_inv
      obtain ⟨vs, hw, hr⟩ := hh.box b x hx
      exact ⟨_, vs.drop o, rfl, fun j u hu => by rw [cell_of_blk hw, ← List.getElem?_drop]; exact hu, hr.drop o⟩
    · cases h
  · cases h
    obtain ⟨a, vs, rfl, _, hc, hr⟩ := hv.epos_inv
    exact ⟨a, vs, rfl, hc, hr.v⟩
  · rename_i r o
    split at h
    · rename_i x hx
      cases h
      obtain ⟨hr', a, m, c, hρ, rfl⟩ := hv.rpos_inv
      obtain ⟨xs, ho, hx', _⟩ := hh.row r x hx
      rw [hρ] at ho
      obtain ⟨hl, hz | ⟨g, cap, cur, he, _, hg, _, _, _, ht⟩⟩ := ho
      · simp at hz
      · cases he
        refine ⟨_, xs.drop o, rfl, fun j u hu => ?_, hx'.v.drop o⟩
        rw [add_of_add]
        have hu' : xs[o + j]? = some u := by rw [← List.getElem?_drop]; exact hu
        rw [← ht, List.getElem?_take] at hu'
        split at hu'
        · rw [cell_of_blk (vs := cur.toList) (by simpa using hg)]; simpa using hu'
        · cases hu'
    · cases h
  · cases h
def aload (G : Prg) (st : AS) (t : TypeId) (x : PV) : Option PV :=
  match G.T t, st.cellsAt x with
  | some td, some cs => if td.size ≤ cs.length ∧ 0 < td.size then (if td.k.agg then some (.agg (cs.take td.size)) else if td.size = 1 then some (cs.headD .junk) else none) else none
  | _, _ => none
theorem aload_ok {G : Prg} {E : Env} {w : World} {st : AS} (hh : HRep G.Γ E w st.h) {t : TypeId} {x z : PV} (h : aload G st t x = some z) {v : Value} (hv : VRep E w x v) :
    ∃ r, (∀ w', Gr w w' → (Instr.loadAt t v).run G.P w' = .ok r w') ∧ VRep E w z r := by
  unfold aload at h
  split at h
  · rename_i td cs hT hcs
    split at h
    · rename_i hsz
      obtain ⟨a, vs, rfl, hc, hr⟩ := cellsAt_ok hh hcs hv (by omega)
      have hok := G.hT t td hT
      have hlen := hr.1
      by_cases hk : td.k.agg = true
      · rw [if_pos hk] at h
        cases h
        refine ⟨.agg (vs.take td.size).toArray, fun w' hg => ?_, (hr.take td.size).agg⟩
        simp only [Instr.loadAt, Instr.sureAddr, Sem.run_bind, Sem.run_pure, Result.andThen]
        rw [wf_load hok (fun j u hu => hg.cell (hc j u hu)) (by omega) (fun h => by rw [h] at hk; cases hk), if_pos hk]
      · rw [if_neg hk] at h
        split at h
        · rename_i h1
          cases h
          cases cs with
          | nil => simp at hsz; omega
          | cons y ys =>
            obtain ⟨u, us, rfl, hu, _⟩ := hr.cons_inv
            refine ⟨u, fun w' hg => ?_, hu⟩
            simp only [Instr.loadAt, Instr.sureAddr, Sem.run_bind, Sem.run_pure, Result.andThen]
            rw [wf_load hok (fun j u hu => hg.cell (hc j u hu)) (by simp; omega) (fun _ => h1), if_neg hk]
            rfl
        · cases h
    · cases h
  · cases h
end Go.AS
namespace Go.AS
open Go.RowKit
set_option linter.unusedVariables false
def aaddr (off : Nat) : PV → Option PV
  | .ptr b o => some (.ptr b (o + off))
  | .epos cs => some (.epos (cs.drop off))
  | .rpos r o => some (.rpos r (o + off))
  | _ => none
theorem IReps.drop {im : Nat → Prop} {w : World} {xs : List PV} {vs : List Value} (h : IReps im w xs vs) (n : Nat) : IReps im w (xs.drop n) (vs.drop n) :=
  ⟨by simp [h.1], fun j x v hx hv => h.2 (n + j) x v (by rw [List.getElem?_drop] at hx; exact hx) (by rw [List.getElem?_drop] at hv; exact hv)⟩
theorem IReps.take {im : Nat → Prop} {w : World} {xs : List PV} {vs : List Value} (h : IReps im w xs vs) (n : Nat) : IReps im w (xs.take n) (vs.take n) :=
  ⟨by simp [h.1], fun j x v hx hv => by
    rw [List.getElem?_take] at hx hv
    split at hx
    · rw [if_pos (by assumption)] at hv; exact h.2 j x v hx hv
    · cases hx⟩
theorem aaddr_ok {E : Env} {w : World} {off : Nat} {x z : PV} {v : Value} (h : aaddr off x = some z) (hv : VRep E w x v) : ∃ a, v = .pointer (some a) ∧ VRep E w z (.pointer (some (a.add off))) := by
  unfold aaddr at h
  split at h <;> cases h
  · obtain ⟨rfl, hb⟩ := hv.ptr_inv
    exact ⟨_, rfl, by rw [add_none]; exact .ptr _ hb⟩
  · obtain ⟨a, vs, rfl, hb, hc, hr⟩ := hv.epos_inv
    have hd := hr.drop off
    exact ⟨a, rfl, .imm (.epos hd.1 (fun h => by rw [block_of_add]; exact hb (by simp at h; omega)) (fun j u hu => by rw [add_of_add]; exact hc _ u (by rw [← List.getElem?_drop]; exact hu)) hd.2)⟩
  · obtain ⟨hr, a, m, c, hρ, rfl⟩ := hv.rpos_inv
    exact ⟨_, rfl, by rw [add_of_add]; exact .rpos hr hρ⟩
def afieldAddr (G : Prg) (s : TypeId) (x : PV) (f : Nat) : Option PV :=
  match G.T s with
  | some ⟨.struct fs, _, _, _⟩ => match fs[f]? with
    | some (off, ft) => match G.T ft with
      | some td => if 0 < td.size then aaddr off x else none
      | none => none
    | none => none
  | _ => none
theorem afieldAddr_ok {G : Prg} {E : Env} {w : World} {s : TypeId} {x z : PV} {f : Nat} {v : Value} (h : afieldAddr G s x f = some z) (hv : VRep E w x v) : ∃ r, (∀ w', Gr w w' → (Instr.fieldAt s v f).run G.P w' = .ok r w') ∧ VRep E w z r := by
  unfold afieldAddr at h
  split at h
  · rename_i fs sz by_ ze hT
    split at h
    · rename_i off ft hf
      split at h
      · rename_i td hT2
        split at h
        · rename_i hpos
          obtain ⟨a, rfl, hz⟩ := aaddr_ok h hv
          obtain ⟨F, hu, hF⟩ := wf_field (G.hT _ _ hT) rfl
          have hF' : (F.toList.map fun f => (f.offset, f.type))[f]? = some (off, ft) := by rw [hF]; exact hf
          rw [List.getElem?_map] at hF'
          obtain ⟨fl, hfl, he⟩ := Option.map_eq_some_iff.1 hF'
          cases he
          have hfa : F[f]? = some fl := by simpa using hfl
          have hsz := wf_size (G.hT _ _ hT2)
          exact ⟨_, fun w' _ => by simp [Instr.fieldAt, wf_und hu, hfa, Instr.sureAddr, fieldPlace, hsz, Result.andThen, Nat.ne_of_gt hpos], hz⟩
        · cases h
      · cases h
    · cases h
  · cases h
def aidx (G : Prg) (st : AS) (t : TypeId) (x i : PV) : Option PV :=
  match G.T t, x, i with
  | some ⟨.slice e, _, _, _⟩, .slice n cs, .int _ i => match G.T e with
    | some td => if 0 ≤ i ∧ i < (n : Int) then some (.epos (cs.drop (i.toNat * td.size))) else none
    | none => none
  | some ⟨.slice e, _, _, _⟩, .own r n, .int _ i => match G.T e, st.h.rw[r]? with
    | some td, some (some _) => if 0 ≤ i ∧ i < (n : Int) then some (.rpos r (i.toNat * td.size)) else none
    | _, _ => none
  | some ⟨.slice e, _, _, _⟩, .bsl b n m, .int _ i => match G.T e with
    | some td => if 0 ≤ i ∧ i < (n : Int) then some (.ptr b (i.toNat * td.size)) else none
    | none => none
  | some ⟨.array n e, _, _, _⟩, x, .int _ i => match G.T e with
    | some td => if 0 ≤ i ∧ i < (n : Int) then aaddr (i.toNat * td.size) x else none
    | none => none
  | _, _, _ => none
theorem aidx_ok {G : Prg} {E : Env} {w : World} {st : AS} (hh : HRep G.Γ E w st.h) {t : TypeId} {x i z : PV} {u v : Value} (h : aidx G st t x i = some z) (hx : VRep E w x u) (hi : VRep E w i v) : ∃ r, (∀ w', Gr w w' → (Instr.indexAt t u v).run G.P w' = .ok r w') ∧ VRep E w z r := by
  unfold aidx at h
  split at h
  · rename_i e sz by_ ze n cs k i hT
    split at h
    · rename_i td hT2
      split at h
      · rename_i hb
        cases h
        obtain rfl := hi.int_inv
        obtain ⟨d, hu, hd⟩ := (G.hT _ _ hT).und
        cases hd
        have hs := wf_size (G.hT _ _ hT2)
        rcases hx.slice_inv with ⟨rfl, hn, _⟩ | ⟨a, c, vs, rfl, _, hbl, hc, hr, _⟩
        · omega
        · have hd := hr.drop (i.toNat * td.size)
          exact ⟨.pointer (some (a.add (i.toNat * td.size))), fun w' _ => by simp [Instr.indexAt, wf_und hu, asIntOf, hb, hs, Result.andThen],
            .imm (.epos hd.1 (fun h => by rw [block_of_add]; exact hbl (by simp at h; omega)) (fun j u hu => by rw [add_of_add]; exact hc _ u (by rw [← List.getElem?_drop]; exact hu)) hd.2)⟩
      · cases h
    · cases h
  · rename_i e sz by_ ze r n k i hT
    split at h
    · rename_i td rw hT2 hrw
      split at h
      · rename_i hb
        cases h
        obtain rfl := hi.int_inv
        obtain ⟨d, hu, hd⟩ := (G.hT _ _ hT).und
        cases hd
        have hs := wf_size (G.hT _ _ hT2)
        obtain ⟨hr, rfl, A, c, he⟩ := hx.own_inv
        obtain ⟨xs, ho, _, _⟩ := hh.row r _ hrw
        rcases ho.2 with ⟨hz, _⟩ | ⟨g, cap, cur, hz, _⟩
        · rw [hz] at he; cases he; omega
        · rw [he] at hz ⊢
          cases hz
          exact ⟨.pointer (some ((⟨g, 0, none⟩ : Addr).add (i.toNat * td.size))), fun w' _ => by simp [Instr.indexAt, wf_und hu, asIntOf, hb, hs, Result.andThen], .rpos hr he⟩
      · cases h
    · cases h
  · rename_i e sz by_ ze b n m k i hT
    split at h
    · rename_i td hT2
      split at h
      · rename_i hb
        cases h
        obtain rfl := hi.int_inv
        obtain ⟨d, hu, hd⟩ := (G.hT _ _ hT).und
        cases hd
        have hs := wf_size (G.hT _ _ hT2)
        obtain ⟨rfl, hbn, _⟩ := hx.bsl_inv
        exact ⟨.pointer (some ((⟨E.β b, 0, none⟩ : Addr).add (i.toNat * td.size))), fun w' _ => by simp [Instr.indexAt, wf_und hu, asIntOf, hb, hs, Result.andThen], by rw [add_none, Nat.zero_add]; exact .ptr _ hbn⟩
      · cases h
    · cases h
  · rename_i x _o p q n e sz by_ ze k i hT
    split at h
    · rename_i td hT2
      split at h
      · rename_i hb
        obtain ⟨a, rfl, hz⟩ := aaddr_ok h hx
        obtain rfl := hi.int_inv
        obtain ⟨d, hu, hd⟩ := (G.hT _ _ hT).und
        cases hd
        have hs := wf_size (G.hT _ _ hT2)
        exact ⟨_, fun w' _ => by simp [Instr.indexAt, wf_und hu, asIntOf, Instr.sureAddr, hb, hs, Result.andThen], hz⟩
      · cases h
    · cases h
  · cases h
def aindex (G : Prg) (t : TypeId) (x i : PV) : Option PV :=
  match G.T t, x, i with
  | some ⟨.str, _, _, _⟩, .str s, .int _ i => if 0 ≤ i ∧ i < (s.size : Int) then some (.int .u8 (bt s i)) else none
  | some ⟨.array n e, _, _, _⟩, .agg cs, .int _ i => match G.T e with
    | some td => if 0 ≤ i ∧ i < (n : Int) ∧ td.k.agg = false ∧ i.toNat * td.size < cs.length then some (cs.getD (i.toNat * td.size) .junk) else none
    | none => none
  | _, _, _ => none
theorem aindex_ok {G : Prg} {E : Env} {w : World} {t : TypeId} {x i z : PV} {u v : Value} (h : aindex G t x i = some z) (hx : VRep E w x u) (hi : VRep E w i v) : ∃ r, (∀ w', Gr w w' → (Instr.index t u v).run G.P w' = .ok r w') ∧ VRep E w z r := by
  unfold aindex at h
  split at h
  · rename_i sz by_ ze s k i hT
    split at h
    · rename_i hb
      cases h
      obtain rfl := hi.int_inv
      obtain rfl := hx.str_inv
      obtain ⟨d, hu, hd⟩ := (G.hT _ _ hT).und
      cases hd
      have hlt : i.toNat < s.size := by omega
      refine ⟨.int .u8 (bt s i), fun w' _ => ?_, .imm (.int _ _)⟩
      simp [Instr.index, wf_und hu, asIntOf, hb.1, bt, hlt, Result.andThen]
    · cases h
  · rename_i n e sz by_ ze cs k i hT
    split at h
    · rename_i td hT2
      split at h
      · rename_i hb
        cases h
        obtain rfl := hi.int_inv
        obtain ⟨vs, rfl, hr⟩ := hx.agg_inv
        obtain ⟨d, hu, hd⟩ := (G.hT _ _ hT).und
        cases hd
        have hs := wf_size (G.hT _ _ hT2)
        have ha := wf_agg (G.hT _ _ hT2)
        have hx0 : cs[i.toNat * td.size]? = some (cs.getD (i.toNat * td.size) .junk) := by rw [List.getD, List.getElem?_eq_getElem hb.2.2.2]; rfl
        obtain ⟨y, hy, hyr⟩ := hr.get hx0
        exact ⟨y, fun w' _ => by simp [Instr.index, wf_und hu, asIntOf, hb.1, hb.2.1, hs, part, ha, hb.2.2.1, hy, Result.andThen], hyr⟩
      · cases h
    · cases h
  · cases h
def afield (G : Prg) (s : TypeId) (x : PV) (f : Nat) : Option PV :=
  match G.T s, x with
  | some ⟨.struct fs, _, _, _⟩, .agg cs => match fs[f]? with
    | some (off, ft) => match G.T ft with
      | some td => if td.k.agg then some (.agg ((cs.drop off).take td.size)) else if off < cs.length then some (cs.getD off .junk) else none
      | none => none
    | none => none
  | _, _ => none
theorem afield_ok {G : Prg} {E : Env} {w : World} {s : TypeId} {x z : PV} {f : Nat} {v : Value} (h : afield G s x f = some z) (hv : VRep E w x v) : ∃ r, (∀ w', Gr w w' → (Instr.field s v f).run G.P w' = .ok r w') ∧ VRep E w z r := by
  unfold afield at h
  split at h
  · rename_i fs sz by_ ze cs hT
    obtain ⟨vs, rfl, hr⟩ := hv.agg_inv
    split at h
    · rename_i off ft hf
      split at h
      · rename_i td hT2
        obtain ⟨F, hu, hF⟩ := wf_field (G.hT _ _ hT) rfl
        have hF' : (F.toList.map fun f => (f.offset, f.type))[f]? = some (off, ft) := by rw [hF]; exact hf
        rw [List.getElem?_map] at hF'
        obtain ⟨fl, hfl, he⟩ := Option.map_eq_some_iff.1 hF'
        cases he
        have hfa : F[f]? = some fl := by simpa using hfl
        have hs := wf_size (G.hT _ _ hT2)
        have ha := wf_agg (G.hT _ _ hT2)
        split at h
        · rename_i hk
          cases h
          refine ⟨.agg ((vs.drop fl.offset).take td.size).toArray, fun w' _ => ?_, ((hr.drop _).take _).agg⟩
          simp only [Instr.field, Sem.run_bind, wf_und hu, Result.andThen, hfa, asAgg, Sem.run_pure, part, ha, hk, if_true, hs]
          congr 2
          apply Array.ext'
          simp [List.extract]
        · rename_i hk
          split at h
          · rename_i hlt
            cases h
            have hx0 : cs[fl.offset]? = some (cs.getD fl.offset .junk) := by rw [List.getD, List.getElem?_eq_getElem hlt]; rfl
            obtain ⟨y, hy, hyr⟩ := hr.get hx0
            exact ⟨y, fun w' _ => by simp [Instr.field, wf_und hu, hfa, asAgg, part, ha, hk, hy, Result.andThen], hyr⟩
          · cases h
      · cases h
    · cases h
  · cases h
def aextract (x : PV) (i : Nat) : Option PV :=
  match x with
  | .tup cs => cs[i]?
  | _ => none
theorem aextract_ok {P : Program} {E : Env} {w : World} {x z : PV} {i : Nat} {v : Value} (h : aextract x i = some z) (hv : VRep E w x v) : ∃ r, (∀ w', Gr w w' → (Instr.extract v i).run P w' = .ok r w') ∧ VRep E w z r := by
  unfold aextract at h
  split at h
  · obtain ⟨vs, rfl, hr⟩ := hv.tup_inv
    obtain ⟨y, hy, hyr⟩ := hr.get h
    exact ⟨y, fun w' _ => by simp [Instr.extract, hy], hyr⟩
  · cases h
def aun : UnOp → PV → Option PV
  | .not, .bool b => some (.bool !b)
  | .neg, .int k n => some (.int k (k.wrap (0 - n)))
  | _, _ => none
theorem aun_ok {P : Program} {E : Env} {w : World} {op : UnOp} {x z : PV} {v : Value} (h : aun op x = some z) (hv : VRep E w x v) : ∃ r, (∀ w', Gr w w' → (Op.unary op v).run P w' = .ok r w') ∧ VRep E w z r := by
  unfold aun at h
  split at h <;> cases h
  · obtain rfl := hv.bool_inv; exact ⟨_, fun _ _ => rfl, .imm (.bool _)⟩
  · obtain rfl := hv.int_inv; exact ⟨_, fun _ _ => rfl, .imm (.int _ _)⟩
def aconv (G : Prg) (s d : TypeId) (x : PV) : Option PV :=
  match G.T s, G.T d, x with
  | some _, some ⟨.int k, _, _, _⟩, .int _ n => some (.int k (k.wrap n))
  | some _, some ⟨.str, _, _, _⟩, .str s => some (.str s)
  | _, _, _ => none
theorem aconv_ok {G : Prg} {E : Env} {w : World} {s d : TypeId} {x z : PV} {v : Value} (h : aconv G s d x = some z) (hv : VRep E w x v) : ∃ r, (∀ w', Gr w w' → (convert s d v).run G.P w' = .ok r w') ∧ VRep E w z r := by
  unfold aconv at h
  split at h
  · rename_i ts k _ _ _ j n h1 h2
    cases h
    obtain rfl := hv.int_inv
    obtain ⟨d1, hu1, _⟩ := (G.hT _ _ h1).und
    obtain ⟨d2, hu2, hd2⟩ := (G.hT _ _ h2).und
    cases hd2
    exact ⟨.int k (k.wrap n), fun w' _ => by simp [convert, wf_und hu1, wf_und hu2, Conv.intToInt, Result.andThen], .imm (.int _ _)⟩
  · rename_i ts _ _ _ s h1 h2
    cases h
    obtain rfl := hv.str_inv
    obtain ⟨d1, hu1, _⟩ := (G.hT _ _ h1).und
    obtain ⟨d2, hu2, hd2⟩ := (G.hT _ _ h2).und
    cases hd2
    exact ⟨.string s, fun w' _ => by simp [convert, wf_und hu1, wf_und hu2, Result.andThen], .imm (.str _)⟩
  · cases h
def byteOf : PV → UInt8
  | .int _ z => UInt8.ofNat z.toNat
  | _ => 0
def bytesOf : List PV → List UInt8
  | [] => []
  | x :: xs => byteOf x :: bytesOf xs
def strOf (cs : List PV) : ByteArray := ⟨⟨bytesOf cs⟩⟩
def isBytes : List PV → Bool
  | [] => true
  | .int .u8 _ :: xs => isBytes xs
  | _ => false
def bytesPL : List UInt8 → List PV
  | [] => []
  | b :: bs => .int .u8 b.toNat :: bytesPL bs
def bytesPV (s : ByteArray) : List PV := bytesPL s.data.toList
theorem isBytes_ints : ∀ {cs : List PV}, isBytes cs = true → ∃ ns : List Int, cs = ns.map (PV.int .u8)
  | [], _ => ⟨[], rfl⟩
  | .int .u8 z :: cs, h => by
    obtain ⟨ns, rfl⟩ := isBytes_ints (cs := cs) (by simpa [isBytes] using h)
    exact ⟨z :: ns, rfl⟩
  | .int .i8 _ :: _, h | .int .i16 _ :: _, h | .int .i32 _ :: _, h | .int .i64 _ :: _, h | .int .u16 _ :: _, h | .int .u32 _ :: _, h | .int .u64 _ :: _, h => by simp [isBytes] at h
  | .bool _ :: _, h | .str _ :: _, h | .slice _ _ :: _, h | .nil :: _, h | .epos _ :: _, h | .own _ _ :: _, h | .rpos _ _ :: _, h | .ptr _ _ :: _, h | .bsl _ _ _ :: _, h | .nilptr :: _, h | .func _ _ :: _, h | .nilfunc :: _, h | .agg _ :: _, h | .tup _ :: _, h | .iface _ _ :: _, h | .niliface :: _, h | .junk :: _, h => by simp [isBytes] at h
theorem foldl_push : ∀ (ns : List Int) (s : List UInt8), (ns.foldl (fun (r : ByteArray) n => r.push (UInt8.ofNat n.toNat)) ⟨⟨s⟩⟩) = ⟨⟨s ++ bytesOf (ns.map (PV.int .u8))⟩⟩
  | [], s => by simp [bytesOf]
  | n :: ns, s => by
    rw [List.foldl_cons]
    have : (ByteArray.push ⟨⟨s⟩⟩ (UInt8.ofNat n.toNat)) = ⟨⟨s ++ [UInt8.ofNat n.toNat]⟩⟩ := by simp [ByteArray.push]
    rw [this, foldl_push ns]
    simp [bytesOf, byteOf]
def AS.rowAt (st : AS) : PV → Option (Nat × List PV)
  | .nil => some (0, [])
  | .slice n cs => some (n, cs)
  | .own r n => match st.h.rw[r]? with
    | some (some x) => some (n, x.cs)
    | _ => none
  | _ => none
theorem rowAt_ok {Γ : Glob} {E : Env} {w : World} {st : AS} (hh : HRep Γ E w st.h) {x : PV} {n : Nat} {cs : List PV} (h : st.rowAt x = some (n, cs)) {v : Value} (hv : VRep E w x v) :
    (∃ c, v = .slice none n c ∧ cs = []) ∨ ∃ a c vs, v = .slice (some a) n c ∧ (∀ (j : Nat) (u : Value), vs[j]? = some u → w.cell? (a.add j) = some u) ∧ VReps E w cs vs := by
  unfold AS.rowAt at h
  split at h
  · cases h; exact .inl ⟨0, hv.nil_inv, rfl⟩
  · cases h
    rcases hv.slice_inv with ⟨rfl, rfl, rfl⟩ | ⟨a, c, vs, h1, _, _, h4, h5, _⟩
    · exact .inl ⟨0, rfl, rfl⟩
    · exact .inr ⟨a, c, vs, h1, h4, h5.v⟩
  · rename_i r m
    split at h
    · rename_i y hy
      cases h
      obtain ⟨_, hρ, A, c, rfl⟩ := hv.own_inv
      obtain ⟨xs, ho, hxs, _⟩ := hh.row r y hy
      rw [← hρ] at ho
      cases A with
      | none =>
        refine .inl ⟨c, rfl, ?_⟩
        rcases ho.2 with ⟨h1, h2⟩ | ⟨g, cap, cur, h1, _⟩
        · have := ho.1
          rw [h2] at this
          exact List.eq_nil_of_length_eq_zero (by rw [← hxs.1, this]; simp)
        · cases h1
      | some a =>
        refine .inr ⟨a, c, xs, rfl, ?_, hxs.v⟩
        rcases ho.2 with ⟨h1, h2⟩ | ⟨g, cap, cur, h1, _⟩
        · cases h1
        · have e := h1
          simp only [Value.slice.injEq, Option.some.injEq] at e
          obtain ⟨rfl, _, _⟩ := e
          intro j u hu
          exact World.ownsRow.cells ho (g := g) rfl j u hu
    · cases h
  · cases h
def aconvB (G : Prg) (st : AS) (s d : TypeId) (x : PV) : Option PV :=
  match G.T s, G.T d, st.rowAt x with
  | some ⟨.slice e, _, _, _⟩, some ⟨.str, _, _, _⟩, some (n, cs) => match G.T e with
    | some ⟨.int .u8, _, _, _⟩ => if cs.length = n ∧ isBytes cs = true then some (.str (strOf cs)) else none
    | _ => none
  | _, _, _ => none
theorem aconvB_ok {G : Prg} {E : Env} {w : World} {st : AS} (hh : HRep G.Γ E w st.h) {s d : TypeId} {x z : PV} {v : Value} (h : aconvB G st s d x = some z) (hv : VRep E w x v) : ∃ r, (∀ w', Gr w w' → (convert s d v).run G.P w' = .ok r w') ∧ VRep E w z r := by
  unfold aconvB at h
  split at h
  · rename_i e _ _ _ _ _ _ n cs h1 h2 h3
    split at h
    · rename_i h4
      split at h
      · rename_i hc
        cases h
        obtain ⟨hlen, hby⟩ := hc
        obtain ⟨d1, hu1, hd1⟩ := (G.hT _ _ h1).und
        obtain ⟨d2, hu2, hd2⟩ := (G.hT _ _ h2).und
        obtain ⟨d3, hu3, hd3⟩ := (G.hT _ _ h4).und
        cases hd1; cases hd2; cases hd3
        obtain ⟨ns, rfl⟩ := isBytes_ints hby
        rcases rowAt_ok hh h3 hv with ⟨c, rfl, hnil⟩ | ⟨a, c, vs, rfl, hcell, hvs⟩
        · refine ⟨.string .empty, fun w' _ => by rw [run_convert_bytes_string w' s d e none n c hu1 hu3 hu2]; simp [Conv.bytesToString, Sem.run_pure], ?_⟩
          rw [hnil]
          exact .imm (.str _)
        · have hvs' : vs = ns.map (Value.int .u8) := by
            apply List.ext_getElem?
            intro j
            rcases Nat.lt_or_ge j ns.length with hj | hj
            · have hjv : j < vs.length := by rw [hvs.1]; simpa using hj
              have := hvs.2 j _ _ (by rw [List.getElem?_map, List.getElem?_eq_getElem hj]; rfl) (List.getElem?_eq_getElem hjv)
              rw [List.getElem?_eq_getElem hjv, List.getElem?_map, List.getElem?_eq_getElem hj, this.int_inv]
              rfl
            · rw [List.getElem?_eq_none (by rw [hvs.1]; simpa using hj), List.getElem?_eq_none (by simpa using hj)]
          have hn : ns.length = n := by simpa using hlen
          subst hvs'
          refine ⟨.string (strOf (ns.map (PV.int .u8))), fun w' hg => ?_, .imm (.str _)⟩
          rw [run_convert_bytes_string w' s d e (some a) n c hu1 hu3 hu2]
          have hl := run_loadCells_list (P := G.P) w' a (ns.map (Value.int .u8)) (fun j u hu => hg.cell (hcell j u hu))
          simp only [List.length_map, hn] at hl
          rw [run_bytesToString w' a n c ns hl]
          have e1 := foldl_push ns []
          simp only [List.nil_append] at e1
          exact congrArg (fun s => Result.ok (Value.string s) w') e1
      · cases h
    · cases h
  · cases h
def amkiface (G : Prg) (t : TypeId) (x : PV) : Option PV :=
  match G.T t with
  | some ⟨.iface, _, _, _⟩ | some ⟨.other, _, _, _⟩ => none
  | some _ => some (.iface t x)
  | none => none
theorem amkiface_ok {G : Prg} {E : Env} {w : World} {t : TypeId} {x z : PV} {v : Value} (h : amkiface G t x = some z) (hv : VRep E w x v) : ∃ r, (∀ w', Gr w w' → (Instr.makeInterface t v).run G.P w' = .ok r w') ∧ VRep E w z r := by
  unfold amkiface at h
  split at h
  · cases h
  · cases h
  · rename_i td h1 h2 hT
    cases h
    obtain ⟨d, hu, hd⟩ := (G.hT _ _ hT).und
    refine ⟨.iface t v, fun w' _ => ?_, .iface t hv⟩
    simp only [Instr.makeInterface, Sem.run_bind, wf_und hu, Result.andThen]
    cases d <;> first | rfl | skip
    obtain ⟨k, a, b, c⟩ := td
    cases k <;> simp [TK.ok] at hd
    · exact absurd rfl (h1 _ _ _)
    · exact absurd rfl (h2 _ _ _)
  · cases h
def alen (G : Prg) (t : TypeId) (x : PV) : Option PV :=
  match G.T t, x with
  | some ⟨.str, _, _, _⟩, .str s => some (.int .i64 s.size)
  | some ⟨.slice _, _, _, _⟩, .slice n _ => some (.int .i64 n)
  | some ⟨.slice _, _, _, _⟩, .own _ n => some (.int .i64 n)
  | some ⟨.slice _, _, _, _⟩, .bsl _ n _ => some (.int .i64 n)
  | some ⟨.slice _, _, _, _⟩, .nil => some (.int .i64 0)
  | _, _ => none
theorem alen_ok {G : Prg} {E : Env} {w : World} {t ty : TypeId} {x z : PV} {v : Value} (h : alen G t x = some z) (hv : VRep E w x v) : ∃ r, (∀ w', Gr w w' → (Builtin.len_ #[t] ty #[v]).run G.P w' = .ok r w') ∧ VRep E w z r := by
  unfold alen at h
  split at h <;> first | (cases h; done) | skip
  all_goals
    cases h
    rename_i hT
    obtain ⟨d, hu, hd⟩ := (G.hT _ _ hT).und
    cases hd
  · obtain rfl := hv.str_inv
    exact ⟨.int .i64 _, fun w' _ => by simp [Builtin.len_, wf_und hu, Result.andThen, goInt], .imm (.int _ _)⟩
  · rcases hv.slice_inv with ⟨rfl, hn, _⟩ | ⟨a, c, vs, rfl, _⟩
    · subst hn; exact ⟨.int .i64 0, fun w' _ => by simp [Builtin.len_, wf_und hu, Result.andThen, goInt], .imm (.int _ _)⟩
    · exact ⟨.int .i64 _, fun w' _ => by simp [Builtin.len_, wf_und hu, Result.andThen, goInt], .imm (.int _ _)⟩
  · obtain ⟨_, _, A, c, rfl⟩ := hv.own_inv
    exact ⟨.int .i64 _, fun w' _ => by simp [Builtin.len_, wf_und hu, Result.andThen, goInt], .imm (.int _ _)⟩
  · obtain ⟨rfl, _, _⟩ := hv.bsl_inv
    exact ⟨.int .i64 _, fun w' _ => by simp [Builtin.len_, wf_und hu, Result.andThen, goInt], .imm (.int _ _)⟩
  · obtain rfl := hv.nil_inv
    exact ⟨.int .i64 0, fun w' _ => by simp [Builtin.len_, wf_und hu, Result.andThen, goInt], .imm (.int _ _)⟩
def bound (d : Nat) : Option PV → Option Int
  | none => some d
  | some (.int _ i) => some i
  | _ => none
def aslice (G : Prg) (t : TypeId) (x : PV) (lo hi : Option PV) : Option PV :=
  match G.T t, x with
  | some ⟨.str, _, _, _⟩, .str s => match bound 0 lo, bound s.size hi with
    | some l, some h => if 0 ≤ l ∧ l ≤ h ∧ h ≤ (s.size : Int) then some (.str (s.extract l.toNat h.toNat)) else none
    | _, _ => none
  | some ⟨.slice e, _, _, _⟩, .slice n cs => match G.T e, bound 0 lo, bound n hi with
    | some td, some l, some h => if 0 ≤ l ∧ l ≤ h ∧ h ≤ (n : Int) ∧ cs.length = n * td.size then some (.slice (h.toNat - l.toNat) ((cs.drop (l.toNat * td.size)).take ((h.toNat - l.toNat) * td.size))) else none
    | _, _, _ => none
  | _, _ => none
def OReps (E : Env) (w : World) : Option PV → Option Value → Prop
  | none, none => True
  | some x, some v => VRep E w x v
  | _, _ => False
theorem bound_ok {P : Program} {E : Env} {w w' : World} {d y : Nat} {o : Option PV} {v : Option Value} {code : BoundsCode} {i : Int} (h : bound d o = some i) (hv : OReps E w o v) (h0 : 0 ≤ i) (h1 : i ≤ y) :
    ((match v with | some v => Instr.sliceBound v y code | none => pure d : Sem Nat)).run P w' = .ok i.toNat w' := by
  unfold bound at h
  split at h <;> cases h
  · cases v with
    | none => simp
    | some v => exact hv.elim
  · cases v with
    | none => exact hv.elim
    | some v =>
      obtain rfl := VRep.int_inv hv
      simp [Instr.sliceBound, asIntOf, h0, h1]
theorem bounds_ok {P : Program} {E : Env} {w w' : World} {b : Bool} {n c : Nat} {lo hi : Option PV} {vl vh : Option Value} {l h : Int} (hl : bound 0 lo = some l) (hh : bound n hi = some h) (hvl : OReps E w lo vl) (hvh : OReps E w hi vh)
    (h0 : 0 ≤ l) (h1 : l ≤ h) (h2 : h ≤ (c : Int)) : (Instr.sliceBounds b n c vl vh none).run P w' = .ok (l.toNat, h.toNat, c) w' := by
  have a1 := bound_ok (P := P) (w' := w') (y := c) (code := if b then .sliceAcap else .sliceAlen) hh hvh (by omega) h2
  have a2 := bound_ok (P := P) (w' := w') (y := h.toNat) (code := .sliceB) hl hvl h0 (by omega)
  unfold Instr.sliceBounds
  simp only [Sem.run_bind, Sem.run_pure, Result.andThen]
  cases vh with
  | none =>
    simp only [Sem.run_pure] at a1
    injection a1 with a1
    simp only [Sem.run_bind, Sem.run_pure, Result.andThen, a1]
    cases vl with
    | none => simp only [Sem.run_pure] at a2; injection a2 with a2; simp [← a2]
    | some v => simp only [Option.isSome_none, Bool.false_eq_true, if_false]; simp only [] at a2; simp [a2, Result.andThen]
  | some u =>
    simp only [] at a1 ⊢
    simp only [Sem.run_bind, a1, Result.andThen]
    cases vl with
    | none => simp only [Sem.run_pure] at a2; injection a2 with a2; simp [← a2]
    | some v => simp only [Option.isSome_none, Bool.false_eq_true, if_false]; simp only [] at a2; simp [a2, Result.andThen]
theorem aslice_ok {G : Prg} {E : Env} {w : World} {t : TypeId} {x z : PV} {lo hi : Option PV} {v : Value} {vl vh : Option Value} (h : aslice G t x lo hi = some z) (hv : VRep E w x v) (hvl : OReps E w lo vl) (hvh : OReps E w hi vh) :
    ∃ r, (∀ w', Gr w w' → (Instr.sliceAt t v vl vh none).run G.P w' = .ok r w') ∧ VRep E w z r := by
  unfold aslice at h
  split at h
  · rename_i sz by_ ze s hT
    obtain ⟨d, hu, hd⟩ := (G.hT _ _ hT).und
    cases hd
    obtain rfl := hv.str_inv
    split at h
    · rename_i l hb e1 e2
      split at h
      · rename_i hc
        cases h
        have hb' := fun w' => bounds_ok (P := G.P) (w' := w') (b := false) (c := s.size) e1 e2 hvl hvh hc.1 hc.2.1 hc.2.2
        exact ⟨.string (s.extract l.toNat hb.toNat), fun w' _ => by
          simp only [Instr.sliceAt, Instr.slice, Sem.run_bind, wf_und hu, Result.andThen, Option.isSome_none, Bool.false_eq_true, if_false, Sem.run_pure]
          rw [hb'], .imm (.str _)⟩
      · cases h
    · cases h
  · rename_i e sz by_ ze n cs hT
    obtain ⟨d, hu, hd⟩ := (G.hT _ _ hT).und
    cases hd
    split at h
    · rename_i td l hb hT2 e1 e2
      split at h
      · rename_i hc
        cases h
        have hs := wf_size (G.hT _ _ hT2)
        rcases hv.slice_inv with ⟨rfl, hn, rfl⟩ | ⟨a, c, vs, rfl, hnc, hbl, hcell, hr, hone⟩
        · subst hn
          have hb' := fun w' => bounds_ok (P := G.P) (w' := w') (b := true) (c := 0) e1 e2 hvl hvh hc.1 hc.2.1 (by omega)
          have hl0 : l.toNat = 0 := by omega
          have hh0 : hb.toNat = 0 := by omega
          refine ⟨.slice none 0 0, fun w' _ => ?_, ?_⟩
          · simp only [Instr.sliceAt, Instr.slice, Sem.run_bind, wf_und hu, Result.andThen]
            rw [hb']
            simp [hs, hl0, hh0]
          · rw [hl0, hh0]; simpa using VRep.imm IRep.slice0
        · have hb' := fun w' => bounds_ok (P := G.P) (w' := w') (b := true) (c := c) e1 e2 hvl hvh hc.1 hc.2.1 (by omega)
          have hd := (hr.drop (l.toNat * td.size)).take ((hb.toNat - l.toNat) * td.size)
          refine ⟨.slice (some (if c = l.toNat then a else a.add (l.toNat * td.size))) (hb.toNat - l.toNat) (c - l.toNat), fun w' _ => ?_, ?_⟩
          · simp only [Instr.sliceAt, Instr.slice, Sem.run_bind, wf_und hu, Result.andThen]
            rw [hb']
            simp only [hs, Sem.run_pure]
            split <;> rfl
          · refine .imm (.slice (by omega) hd.1 (fun hp => ?_) (fun j u hj => ?_) (fun u hu => hone u (List.mem_of_mem_drop (List.mem_of_mem_take hu))) hd.2)
            · have : 0 < vs.length := by simp at hp; omega
              split
              · exact hbl this
              · rw [block_of_add]; exact hbl this
            · rw [List.getElem?_take] at hj
              split at hj
              · rename_i hlt
                rw [List.getElem?_drop] at hj
                rw [if_neg (by
                  intro hcl
                  have : hb.toNat - l.toNat = 0 := by omega
                  rw [this, Nat.zero_mul] at hlt
                  omega), add_of_add]
                exact hcell _ u hj
              · cases hj
      · cases h
    · cases h
  · cases h
end Go.AS
namespace Go.AS
open Go.RowKit
set_option linter.unusedVariables false
set_option linter.unusedSimpArgs false
def PV.part : PV → Bool
  | .tup _ | .junk => false
  | _ => true
theorem VRep.cells' {E : Env} {w : World} {x : PV} {v : Value} (h : VRep E w x v) (hp : x.part = true) : VReps E w x.cells v.cells.toList := h.cells (by revert hp; cases x <;> simp [PV.part])
theorem foldl_splice (off : Nat) (cs : List Value) : ∀ (k : Nat) (arr : Array Value), (cs.zipIdx k).foldl (fun (a : Array Value) (p : Value × Nat) => a.setIfInBounds (off + p.2) p.1) arr = (splice arr.toList (off + k) cs).toArray := by
  induction cs with
  | nil => intro k arr; simp [splice]
  | cons c r ih =>
    intro k arr
    simp only [List.zipIdx_cons, List.foldl_cons, splice]
    rw [ih (k + 1)]
    simp [Nat.add_assoc]
def afill (place : Nat → Option (Nat × Nat)) : List PV → List (Nat × PV) → Option (List PV)
  | cells, [] => some cells
  | cells, (i, x) :: r => match place i with
    | some (off, sz) => if x.part = true ∧ x.cells.length = sz ∧ off + sz ≤ cells.length then afill place (splice cells off x.cells) r else none
    | none => none
theorem afill_ok {E : Env} {w : World} {place : Nat → Option (Nat × Nat)} : ∀ (ps : List (Nat × PV)) (qs : List (Nat × Value)) (cells out : List PV) (vs : List Value), afill place cells ps = some out → VReps E w cells vs →
    qs.map (·.1) = ps.map (·.1) → VReps E w (ps.map (·.2)) (qs.map (·.2)) → ∃ us, Instr.fill place vs.toArray qs = some us.toArray ∧ VReps E w out us := by
  intro ps
  induction ps with
  | nil =>
    intro qs cells out vs h hv hi hr
    cases qs with
    | nil => simp only [afill] at h; cases h; exact ⟨vs, rfl, hv⟩
    | cons q qs => simp at hi
  | cons p ps ih =>
    intro qs cells out vs h hv hi hr
    obtain ⟨i, x⟩ := p
    cases qs with
    | nil => simp at hi
    | cons q qs =>
      obtain ⟨j, v⟩ := q
      simp only [List.map_cons, List.cons.injEq] at hi
      obtain ⟨rfl, hi⟩ := hi
      simp only [List.map_cons] at hr
      obtain ⟨u, us, he, hu, hus⟩ := hr.cons_inv
      simp only [List.cons.injEq] at he
      obtain ⟨rfl, rfl⟩ := he
      simp only [afill] at h
      split at h
      · rename_i off sz hp
        split at h
        · rename_i hc
          have hcl := hu.cells' hc.1
          have hl : v.cells.size = sz := by rw [← hc.2.1, ← hcl.1]; simp
          obtain ⟨us, hus1, hus2⟩ := ih qs _ out _ h (hv.splice hcl off) hi hus
          refine ⟨us, ?_, hus2⟩
          simp only [Instr.fill, hp]
          rw [if_neg (by
            have := hv.1
            simp only [ne_eq, Bool.or_eq_true, decide_eq_true_eq, List.size_toArray, not_or]
            omega)]
          rw [← Array.foldl_toList, Array.toList_zipIdx, foldl_splice off v.cells.toList 0]
          simpa using hus1
        · cases h
      · cases h
def aplace (G : Prg) (t : TypeId) : Option (Nat → Option (Nat × Nat)) :=
  match G.T t with
  | some ⟨.struct fs, _, _, _⟩ => if (fs.all fun f => (G.T f.2).isSome) = true then some fun i => (fs[i]?).bind fun f => (G.T f.2).map fun td => (f.1, td.size) else none
  | some ⟨.array _ e, _, _, _⟩ => (G.T e).map fun td => fun i => some (i * td.size, td.size)
  | _ => none
theorem places_of {P : Program} {T : TypeId → Option TD} (hT : ∀ t td, T t = some td → td.ok P t) : ∀ (F : List Field), ((F.map fun f => (f.offset, f.type)).all fun f => (T f.2).isSome) = true →
    ∃ places, F.mapM (fun f => (P.info? f.type).map fun i => (f.offset, i.size)) = some places ∧ ∀ i : Nat, places[i]? = ((F.map fun f => (f.offset, f.type))[i]?).bind fun f => (T f.2).map fun td => (f.1, td.size)
  | [], _ => ⟨[], by simp, fun i => by simp⟩
  | f :: F, h => by
    simp only [List.map_cons, List.all_cons, Bool.and_eq_true] at h
    obtain ⟨places, hp, hi⟩ := places_of hT F h.2
    obtain ⟨td, htd⟩ := Option.isSome_iff_exists.1 h.1
    obtain ⟨i, z, hinfo, hs, _⟩ := (hT _ _ htd).info
    refine ⟨(f.offset, i.size) :: places, by simp [List.mapM_cons, hinfo, hp], fun j => ?_⟩
    cases j with
    | zero => simp [htd, hs]
    | succ j => simpa using hi j
def abuild (G : Prg) (t : TypeId) (parts : List (Nat × PV)) : Option PV :=
  match G.T t, aplace G t with
  | some td, some place => (afill place td.zero parts).map .agg
  | _, _ => none
theorem abuild_ok {G : Prg} {E : Env} {w : World} {t : TypeId} {ps : List (Nat × PV)} {qs : Array (Nat × Value)} {z : PV} (h : abuild G t ps = some z) (hi : qs.toList.map (·.1) = ps.map (·.1)) (hr : VReps E w (ps.map (·.2)) (qs.toList.map (·.2))) :
    ∃ r, (∀ w', Gr w w' → (Instr.build t qs).run G.P w' = .ok r w') ∧ VRep E w z r := by
  unfold abuild at h
  split at h
  · rename_i td place hT hpl
    cases hf : afill place td.zero ps with
    | none => rw [hf] at h; cases h
    | some out =>
      rw [hf] at h
      cases h
      obtain ⟨i, zz, hinfo, hs, hby, hz, hzc⟩ := (G.hT _ _ hT).info
      have hz0 : VReps E w td.zero zz.cells.toList := by rw [← hzc]; exact cellsOf_rep _
      obtain ⟨us, hus, hur⟩ := afill_ok ps qs.toList td.zero out _ hf hz0 hi hr
      refine ⟨.agg us.toArray, fun w' _ => run_build w' t qs us.toArray ?_, hur.agg⟩
      unfold aplace at hpl
      obtain ⟨d, hu, hd⟩ := (G.hT _ _ hT).und
      rw [hT] at hpl
      unfold Program.built
      obtain ⟨k, sz, by_, ze⟩ := td
      cases k <;> simp only [] at hpl <;> first | (cases hpl; done) | skip
      · split at hpl
        · rename_i hall
          cases hpl
          obtain ⟨F, rfl, hF⟩ := hd
          obtain ⟨places, hp, hpi⟩ := places_of G.hT F.toList (by rw [hF]; exact hall)
          rw [hF] at hpi
          simp only [hinfo, hu, hz, hp]
          rw [← hus]
          congr 1
          funext i
          simpa using hpi i
        · cases hpl
      · cases hd
        rename_i e
        cases hte : G.T e with
        | none => rw [hte] at hpl; cases hpl
        | some tde =>
          rw [hte] at hpl
          cases hpl
          obtain ⟨ie, ze', hie, hes, _⟩ := (G.hT _ _ hte).info
          simp only [hinfo, hu, hz, hie, hes]
          exact hus
  · cases h
def amax : PV → PV → Option PV
  | .int k x, .int _ y => some (.int k (if y > x then y else x))
  | _, _ => none
def amin : PV → PV → Option PV
  | .int k x, .int _ y => some (.int k (if y < x then y else x))
  | _, _ => none
def isCo : Operand → Bool
  | .const _ => true
  | _ => false
def aeq (G : Prg) (kc : Bool) (t : TypeId) : PV → PV → Option Bool
  | .bool a, .bool b => match G.T t with
    | some ⟨.bool, _, _, _⟩ => some (a == b)
    | _ => none
  | .nil, .nil => match G.T t with
    | some ⟨.slice _, _, _, _⟩ => some true
    | _ => none
  | .slice n _, .nil => match G.T t, n with
    | some ⟨.slice _, _, _, _⟩, _ + 1 => some false
    | _, _ => none
  | .nilptr, .nilptr => match G.T t with
    | some ⟨.ptr _, _, _, _⟩ => some true
    | _ => none
  | .ptr _ _, .nilptr => match G.T t with
    | some ⟨.ptr _, _, _, _⟩ => some false
    | _ => none
  | .ptr b o, .ptr c p => match G.T t with
    | some ⟨.ptr e, _, _, _⟩ => match G.T e, decide (b = c ∧ o = p) with
      | some _, true => some true
      | _, _ => none
    | _ => none
  | .nilfunc, .nilfunc => match G.T t with
    | some ⟨.func, _, _, _⟩ => some true
    | _ => none
  | .func _ _, .nilfunc => match G.T t with
    | some ⟨.func, _, _, _⟩ => some false
    | _ => none
  | .niliface, .niliface => match kc, G.T t with
    | true, some ⟨.iface, _, _, _⟩ => some true
    | _, _ => none
  | .iface _ _, .niliface => match G.T t with
    | some ⟨.iface, _, _, _⟩ => some false
    | _ => none
  | _, _ => none
theorem aeq_ok {G : Prg} {E : Env} {w : World} {t : TypeId} {x y : PV} {b : Bool} {u v : Value} {kc : Bool} (h : aeq G kc t x y = some b) (hx : VRep E w x u) (hy : VRep E w y v) (w' : World) :
    (Op.equal t u v).run G.P w' = .ok b w' ∧ (∀ op p q, (kc = true → (isCo p || isCo q) = true) → (eqGuard op t p q u v).run G.P w' = .ok () w') ∧ binOp .eql t u v = (do pure (.bool (← Op.equal t u v))) ∧ binOp .neq t u v = (do pure (.bool (!(← Op.equal t u v)))) := by
  have und : ∀ {td : TD}, G.T t = some td → ∃ d, td.k.ok d ∧ ∀ w, (underlying t).run G.P w = .ok d w := fun ht => by
    obtain ⟨d, hd, hk⟩ := (G.hT _ _ ht).und
    exact ⟨d, hk, fun w => wf_und hd w⟩
  unfold aeq at h
  split at h
  · split at h
    · rename_i ht
      cases h
      obtain ⟨d, hk, hr⟩ := und ht
      simp only [TK.ok] at hk
      subst hk
      obtain rfl := hx.bool_inv
      obtain rfl := hy.bool_inv
      refine ⟨by rw [Op.equal, show Op.maxDepth = 9999 + 1 from rfl, Op.equalIn]; simp [hr, Result.andThen], fun op p q _ => by cases op <;> simp [eqGuard], rfl, rfl⟩
    · cases h
  · split at h
    · rename_i ht
      cases h
      obtain ⟨d, hk, hr⟩ := und ht
      simp only [TK.ok] at hk
      subst hk
      obtain rfl := hx.nil_inv
      obtain rfl := hy.nil_inv
      refine ⟨by rw [Op.equal, show Op.maxDepth = 9999 + 1 from rfl, Op.equalIn]; simp [hr, Result.andThen], fun op p q _ => by cases op <;> simp [eqGuard], rfl, rfl⟩
    · cases h
  · split at h
    · rename_i ht
      cases h
      obtain ⟨d, hk, hr⟩ := und ht
      simp only [TK.ok] at hk
      subst hk
      obtain rfl := hy.nil_inv
      rcases hx.slice_inv with ⟨_, h0, _⟩ | ⟨ad, c, vs, rfl, _⟩
      · cases h0
      · refine ⟨by rw [Op.equal, show Op.maxDepth = 9999 + 1 from rfl, Op.equalIn]; simp [hr, Result.andThen], fun op p q _ => by cases op <;> simp [eqGuard], rfl, rfl⟩
    · cases h
  · split at h
    · rename_i ht
      cases h
      obtain ⟨d, hk, hr⟩ := und ht
      simp only [TK.ok] at hk
      subst hk
      obtain rfl : u = .pointer none := by cases hx with | imm h => cases h; rfl
      obtain rfl : v = .pointer none := by cases hy with | imm h => cases h; rfl
      refine ⟨by rw [Op.equal, show Op.maxDepth = 9999 + 1 from rfl, Op.equalIn]; simp [hr, Result.andThen], fun op p q _ => by cases op <;> simp [eqGuard], rfl, rfl⟩
    · cases h
  · split at h
    · rename_i ht
      cases h
      obtain ⟨d, hk, hr⟩ := und ht
      simp only [TK.ok] at hk
      subst hk
      obtain ⟨rfl, _⟩ := hx.ptr_inv
      obtain rfl : v = .pointer none := by cases hy with | imm h => cases h; rfl
      refine ⟨by rw [Op.equal, show Op.maxDepth = 9999 + 1 from rfl, Op.equalIn]; simp [hr, Result.andThen], fun op p q _ => by cases op <;> simp [eqGuard], rfl, rfl⟩
    · cases h
  · split at h
    · rename_i ht
      split at h
      · rename_i te hte hc
        cases h
        obtain ⟨d, hk, hr⟩ := und ht
        simp only [TK.ok] at hk
        subst hk
        obtain ⟨rfl, rfl⟩ := of_decide_eq_true hc
        obtain ⟨rfl, _⟩ := hx.ptr_inv
        obtain ⟨rfl, _⟩ := hy.ptr_inv
        refine ⟨by rw [Op.equal, show Op.maxDepth = 9999 + 1 from rfl, Op.equalIn]; simp [hr, Result.andThen, wf_size (G.hT _ _ hte), run_sameAddr_same], fun op p q _ => by cases op <;> simp [eqGuard], rfl, rfl⟩
      · cases h
    · cases h
  · split at h
    · rename_i ht
      cases h
      obtain ⟨d, ⟨a, b, c, rfl⟩, hr⟩ := und ht
      obtain rfl : u = .nilFunc := by cases hx with | imm h => cases h; rfl
      obtain rfl : v = .nilFunc := by cases hy with | imm h => cases h; rfl
      refine ⟨by rw [Op.equal, show Op.maxDepth = 9999 + 1 from rfl, Op.equalIn]; simp [hr, Result.andThen], fun op p q _ => by cases op <;> simp [eqGuard], rfl, rfl⟩
    · cases h
  · split at h
    · rename_i ht
      cases h
      obtain ⟨d, ⟨a, b, c, rfl⟩, hr⟩ := und ht
      obtain ⟨us, rfl, _⟩ := hx.func_inv
      obtain rfl : v = .nilFunc := by cases hy with | imm h => cases h; rfl
      refine ⟨by rw [Op.equal, show Op.maxDepth = 9999 + 1 from rfl, Op.equalIn]; simp [hr, Result.andThen], fun op p q _ => by cases op <;> simp [eqGuard], rfl, rfl⟩
    · cases h
  · split at h
    · rename_i ht
      cases h
      obtain ⟨d, hk, hr⟩ := und ht
      obtain ⟨ms, rfl⟩ := hk
      obtain rfl : u = .nilIface := by cases hx with | imm h => cases h; rfl
      obtain rfl : v = .nilIface := by cases hy with | imm h => cases h; rfl
      refine ⟨by rw [Op.equal, show Op.maxDepth = 9999 + 1 from rfl, Op.equalIn]; simp [hr, Result.andThen], fun op p q hk => by
        have hk := hk rfl
        cases op <;> cases p <;> cases q <;> simp_all [eqGuard, isCo], rfl, rfl⟩
    · cases h
  · split at h
    · rename_i ht
      cases h
      obtain ⟨d, hk, hr⟩ := und ht
      obtain ⟨ms, rfl⟩ := hk
      obtain ⟨us, rfl, _⟩ := hx.iface_inv
      obtain rfl : v = .nilIface := by cases hy with | imm h => cases h; rfl
      refine ⟨by rw [Op.equal, show Op.maxDepth = 9999 + 1 from rfl, Op.equalIn]; simp [hr, Result.andThen], fun op p q _ => by cases op <;> simp [eqGuard], rfl, rfl⟩
    · cases h
  · cases h
def adata (st : AS) : PV → Option PV
  | .nil => some .nilptr
  | .own r n => match st.h.rw[r]? with
    | some (some _) => if 1 ≤ n then some (.rpos r 0) else none
    | _ => none
  | _ => none
theorem adata_ok {P : Program} {Γ : Glob} {E : Env} {w : World} {st : AS} (hh : HRep Γ E w st.h) {x z : PV} (h : adata st x = some z) {v : Value} (hv : VRep E w x v) (ts : Array TypeId) (ty : TypeId) : ∃ r, (∀ w', (Builtin.unsafeSliceData_ ts ty #[v]).run P w' = .ok r w') ∧ VRep E w z r := by
  unfold adata at h
  split at h
  · cases h
    obtain rfl := hv.nil_inv
    exact ⟨.pointer none, fun w' => rfl, .imm .nilptr⟩
  · rename_i r n
    split at h
    · rename_i y hy
      split at h
      · rename_i h1
        cases h
        obtain ⟨hlt, hρ, A, c, rfl⟩ := hv.own_inv
        obtain ⟨xs, ho, _⟩ := hh.row r y hy
        rw [← hρ] at ho
        rcases ho.2 with ⟨e, _⟩ | ⟨g, cap, cur, e, _, _, hnc, _⟩
        · simp only [Value.slice.injEq] at e
          omega
        · simp only [Value.slice.injEq] at e
          obtain ⟨rfl, rfl, rfl⟩ := e
          have hc : c ≠ 0 := by omega
          refine ⟨.pointer (some ⟨g, 0, none⟩), fun w' => Lib.run_unsafeSliceData_row w' ts ty ⟨g, 0, none⟩ _ c hc, ?_⟩
          have : VRep E w (.rpos r 0) (.pointer (some ((⟨g, 0, none⟩ : Addr).add 0))) := .rpos hlt hρ.symm
          rw [add_none] at this
          exact this
      · cases h
    · cases h
  · cases h
def aval (G : Prg) (st : AS) : Op → Option PV
  | .move x | .assign x => some (st.ev G.Γ x)
  | .pick c a b => match st.ev G.Γ c with
    | .bool t => some (if t then st.ev G.Γ a else st.ev G.Γ b)
    | _ => none
  | .build t parts => abuild G t (parts.toList.map fun p => (p.1, st.ev G.Γ p.2))
  | .load t a => aload G st t (st.ev G.Γ a)
  | .binOp .eql t x y _ => match aeq G (isCo x || isCo y) t (st.ev G.Γ x) (st.ev G.Γ y) with
    | some b => some (.bool b)
    | none => abin .eql (st.ev G.Γ x) (st.ev G.Γ y)
  | .binOp .neq t x y _ => match aeq G (isCo x || isCo y) t (st.ev G.Γ x) (st.ev G.Γ y) with
    | some b => some (.bool !b)
    | none => abin .neq (st.ev G.Γ x) (st.ev G.Γ y)
  | .binOp op _ x y _ => abin op (st.ev G.Γ x) (st.ev G.Γ y)
  | .unOp op _ x => aun op (st.ev G.Γ x)
  | .typeAssert x _ t true => match st.ev G.Γ x, G.T t with
    | .iface u v, some ⟨.struct _, _, _, _⟩ => match Nat.beq u t with
      | true => some (.tup [v, .bool true])
      | false => none
    | _, _ => none
  | .convert s d x => match aconv G s d (st.ev G.Γ x) with
    | some r => some r
    | none => aconvB G st s d (st.ev G.Γ x)
  | .makeInterface t x => amkiface G t (st.ev G.Γ x)
  | .makeFunc fn ⟨[]⟩ cap => some (.func fn (cap.toList.map (st.ev G.Γ)))
  | .slice t x lo hi none => aslice G t (unsl (st.ev G.Γ x)) (lo.map (st.ev G.Γ)) (hi.map (st.ev G.Γ))
  | .fieldAddr s x f => afieldAddr G s (st.ev G.Γ x) f
  | .field s x f => afield G s (st.ev G.Γ x) f
  | .indexAddr t x i => aidx G st t (unsl (st.ev G.Γ x)) (st.ev G.Γ i)
  | .index t x i => aindex G t (st.ev G.Γ x) (st.ev G.Γ i)
  | .extract t i => aextract (st.ev G.Γ t) i
  | .nilCheck x => match st.ev G.Γ x with
    | .ptr b o => some (.ptr b o)
    | .epos cs => some (.epos cs)
    | .rpos r o => some (.rpos r o)
    | .iface t v => some (.iface t v)
    | _ => none
  | .call ⟨.builtin .len, ⟨[x]⟩, ⟨[t]⟩⟩ => alen G t (unsl (st.ev G.Γ x))
  | .call ⟨.builtin .max, ⟨[x, y]⟩, _⟩ => amax (st.ev G.Γ x) (st.ev G.Γ y)
  | .call ⟨.builtin .min, ⟨[x, y]⟩, _⟩ => amin (st.ev G.Γ x) (st.ev G.Γ y)
  | .call ⟨.builtin .unsafeSliceData, ⟨[x]⟩, _⟩ => adata st (st.ev G.Γ x)
  | _ => none
theorem oreps_map {G : Prg} {E : Env} {w : World} {st : AS} {a : Act} (hf : FRep E w st.t a.tmps) (hh : HRep G.Γ E w st.h) (o : Option Operand) : OReps E w (o.map (st.ev G.Γ)) (o.map a.eval) := by
  cases o with
  | none => trivial
  | some x => exact ev_rep hf hh x
theorem evs_rep {G : Prg} {E : Env} {w : World} {st : AS} {a : Act} (hf : FRep E w st.t a.tmps) (hh : HRep G.Γ E w st.h) (xs : List Operand) : VReps E w (xs.map (st.ev G.Γ)) (xs.map a.eval) := by
  induction xs with
  | nil => exact .nil _ _
  | cons x xs ih => exact .cons (ev_rep hf hh x) ih
theorem aval_ok {G : Prg} {E : Env} {w : World} {st : AS} {a : Act} (hf : FRep E w st.t a.tmps) (hh : HRep G.Γ E w st.h) {o : Oper} {x : PV} (h : aval G st o.op = some x) :
    ∃ v, (∀ w', Gr w w' → (execOp a.eval o).run G.P w' = .ok (.value v) w') ∧ VRep E w x v := by
  have ev := fun y => ev_rep (Γ := G.Γ) hf hh y
  have lift : ∀ (s : Sem Value), (∃ r, (∀ w', Gr w w' → s.run G.P w' = .ok r w') ∧ VRep E w x r) → ∃ v, (∀ w', Gr w w' → (do pure (Next.value (← s)) : Sem Next).run G.P w' = .ok (.value v) w') ∧ VRep E w x v := fun s ⟨r, hr, hv⟩ => ⟨r, fun w' hg => by simp [hr w' hg, Result.andThen], hv⟩
  unfold execOp
  unfold aval at h
  split at h <;> first | (cases h; done) | (rename_i ho; rw [ho]; simp only [])
  · cases h; exact ⟨_, fun _ _ => rfl, ev _⟩
  · cases h; exact ⟨_, fun _ _ => rfl, ev _⟩
  · rename_i c p q
    split at h
    · rename_i t ht
      cases h
      have hc := ev c
      rw [ht] at hc
      have hc' := hc.bool_inv
      refine ⟨if t then a.eval p else a.eval q, fun _ _ => by rw [hc']; simp [asBool, Result.andThen], ?_⟩
      cases t
      · exact ev q
      · exact ev p
    · cases h
  · rename_i t parts
    refine lift _ (abuild_ok h ?_ ?_)
    · simp
    · have := evs_rep hf hh (parts.toList.map (·.2))
      simpa [Function.comp_def] using this
  · exact lift _ (aload_ok hh h (ev _))
  · split at h
    · rename_i b hb
      cases h
      refine lift _ ⟨.bool b, fun w' hg => ?_, .imm (.bool b)⟩
      obtain ⟨k1, k2, k3, _⟩ := aeq_ok hb (ev _) (ev _) w'
      simp only [k3, Sem.run_bind, k2 _ _ _ (fun h => h), k1, Result.andThen, Sem.run_pure]
    · exact lift _ (abin_ok h (ev _) (ev _) _ _ _)
  · split at h
    · rename_i b hb
      cases h
      refine lift _ ⟨.bool !b, fun w' hg => ?_, .imm (.bool _)⟩
      obtain ⟨k1, k2, _, k4⟩ := aeq_ok hb (ev _) (ev _) w'
      simp only [k4, Sem.run_bind, k2 _ _ _ (fun h => h), k1, Result.andThen, Sem.run_pure]
    · exact lift _ (abin_ok h (ev _) (ev _) _ _ _)
  · exact lift _ (abin_ok h (ev _) (ev _) _ _ _)
  · exact lift _ (aun_ok h (ev _))
  · rename_i x xt t
    split at h
    · rename_i u v fs sz by' z hx ht
      split at h
      · rename_i hc
        cases h
        obtain rfl := Nat.eq_of_beq_eq_true hc
        obtain ⟨d, hd, hk⟩ := (G.hT _ _ ht).und
        have hv := ev x
        rw [hx] at hv
        obtain ⟨q, hq, hqr⟩ := hv.iface_inv
        obtain ⟨fs', hfs⟩ : ∃ fs', d = .struct fs' := by
          cases d <;> simp [TK.ok] at hk
          exact ⟨_, rfl⟩
        subst hfs
        refine lift _ ⟨.tuple #[q, .bool true], fun w' hg => ?_, ?_⟩
        · simp [Instr.typeAssert, hq, wf_und hd, Result.andThen]
        · exact .tup (vs := [q, .bool true]) rfl fun j y v' hy hv' => by
            match j with
            | 0 => simp at hy hv'; subst hy; subst hv'; exact hqr
            | 1 => simp at hy hv'; subst hy; subst hv'; exact .imm (.bool _)
            | j + 2 => simp at hy
      · cases h
    · cases h
  · split at h
    · rename_i h1
      cases h
      exact lift _ (aconv_ok h1 (ev _))
    · exact lift _ (aconvB_ok hh h (ev _))
  · exact lift _ (amkiface_ok h (ev _))
  · rename_i fn cap
    cases h
    refine ⟨.func fn #[] (cap.map a.eval), fun _ _ => by simp [Instr.makeFunc], ?_⟩
    have := evs_rep hf hh cap.toList
    have e : cap.map a.eval = (cap.toList.map a.eval).toArray := by rw [← Array.toList_map, Array.toArray_toList]
    rw [e]
    exact .func this.1 this.2
  · exact lift _ (aslice_ok h (ev _).unsl (oreps_map hf hh _) (oreps_map hf hh _))
  · exact lift _ (afieldAddr_ok h (ev _))
  · exact lift _ (afield_ok h (ev _))
  · exact lift _ (aidx_ok hh h (ev _).unsl (ev _))
  · exact lift _ (aindex_ok h (ev _) (ev _))
  · exact lift _ (aextract_ok h (ev _))
  · rename_i y
    have hy := ev y
    split at h <;> first | (cases h; done) | skip
    all_goals
      rename_i he
      cases h
      rw [he] at hy
    · obtain ⟨e, _⟩ := hy.ptr_inv
      rw [e] at hy ⊢
      exact ⟨_, fun _ _ => rfl, hy⟩
    · obtain ⟨_, _, e, _⟩ := hy.epos_inv
      rw [e] at hy ⊢
      exact ⟨_, fun _ _ => rfl, hy⟩
    · obtain ⟨_, _, _, _, _, e⟩ := hy.rpos_inv
      rw [e] at hy ⊢
      exact ⟨_, fun _ _ => rfl, hy⟩
    · obtain ⟨_, e, _⟩ := hy.iface_inv
      rw [e] at hy ⊢
      exact ⟨_, fun _ _ => rfl, hy⟩
  · rename_i y t
    obtain ⟨r, hr, hv⟩ := alen_ok (ty := o.type) h (ev y).unsl
    refine ⟨r, fun w' hg => ?_, hv⟩
    simp [resolve, invoke, builtin, hr w' hg, Result.andThen]
  · rename_i y z _
    unfold amax at h
    split at h
    · rename_i e1 e2
      cases h
      have h1 := ev y; have h2 := ev z
      rw [e1] at h1; rw [e2] at h2
      refine ⟨.int _ _, fun _ _ => ?_, .imm (.int _ _)⟩
      simp [resolve, invoke, builtin, Builtin.max_, Builtin.max2, h1.int_inv, h2.int_inv, Result.andThen]
    · cases h
  · rename_i y z _
    unfold amin at h
    split at h
    · rename_i e1 e2
      cases h
      have h1 := ev y; have h2 := ev z
      rw [e1] at h1; rw [e2] at h2
      refine ⟨.int _ _, fun _ _ => ?_, .imm (.int _ _)⟩
      simp [resolve, invoke, builtin, Builtin.min_, Builtin.min2, h1.int_inv, h2.int_inv, Result.andThen]
    · cases h
  · rename_i y ts
    obtain ⟨r, hr, hv⟩ := adata_ok (P := G.P) hh h (ev y) ts o.type
    refine ⟨r, fun w' hg => ?_, hv⟩
    simp [resolve, invoke, builtin, hr w', Result.andThen]
end Go.AS
namespace Go.AS
open Go.RowKit
set_option linter.unusedVariables false
set_option linter.unusedSimpArgs false
structure Ctx where
  w0 : World
  E0 : Env
  nb : Nat
  nt : Nat
  lo : Nat
  wr : Nat → Prop
  df : List Deferred
@[reducible] def Ctx.of (w0 : World) (E0 : Env) (nb nt : Nat) : Ctx := ⟨w0, E0, nb, nt, w0.heap.size, fun _ => False, []⟩
structure Rel (G : Prg) (C : Ctx) (E : Env) (st : AS) (a : Act) (w : World) : Prop where
  defers : a.defers = C.df
  size : a.tmps.size = C.nt
  fr : FRep E w st.t a.tmps
  hp : HRep G.Γ E w st.h
  lo : E.lo = C.lo
  nb : C.nb ≤ E.nb
  β : ∀ i, i < C.nb → E.β i = C.E0.β i
  own : ∀ i, C.nb ≤ i → i < E.nb → C.w0.heap.size ≤ E.β i
  up : ∀ k, C.E0.im k → E.im k
  dn : ∀ k, E.im k → C.E0.im k ∨ C.w0.heap.size ≤ k ∨ C.wr k
  keep : ∀ k, k < C.w0.heap.size → (∀ i, i < C.nb → C.E0.β i ≠ k) → ¬ C.wr k → w.heap[k]? = C.w0.heap[k]?
  os : w.os = C.w0.os
  tape : w.tape = C.w0.tape
  out : w.output = C.w0.output
  sz : C.w0.heap.size ≤ w.heap.size
  rows : ∀ (j : Nat) (s : Row) (k : Nat), st.h.rw[j]? = some (some s) → (E.ρ j).ownBlock = some k → C.w0.heap.size ≤ k ∨ C.wr k
inductive AEx where
  | normal
  | exit (id : Nat)
  | ret
  | panic (x : PV)
def ExR (E : Env) (w : World) : AEx → Exit → Prop
  | .normal, e => e = .normal
  | .exit i, e => e = .exit i
  | .ret, e => e = .ret
  | .panic x, e => ∃ v, e = .panic [{ v, recovered := false }] ∧ VRep E w x v
def Post (G : Prg) (C : Ctx) (Q : AEx → AS → Prop) : Exit → Act → World → Prop := fun e a w => ∃ ae st E, Q ae st ∧ ExR E w ae e ∧ Rel G C E st a w
def SWP (G : Prg) (C : Ctx) (c : Code) (Q : AEx → AS → Prop) (st : AS) : Prop := ∀ E a w, Rel G C E st a w → c.wp G.P (Post G C Q) a w
section
variable {G : Prg} {C : Ctx} {Q Q' : AEx → AS → Prop} {st : AS}
theorem SWP.mono {c : Code} (h : SWP G C c Q st) (hq : ∀ e s, Q e s → Q' e s) : SWP G C c Q' st := fun E a w hr =>
  wp_mono (h E a w hr) fun e a w ⟨ae, s, E', q, x, r⟩ => ⟨ae, s, E', hq _ _ q, x, r⟩
theorem SWP.skip (h : Q .normal st) : SWP G C .skip Q st := fun E a w hr => wp_skip ⟨.normal, st, E, h, rfl, hr⟩
theorem SWP.label {l : Nat} (h : Q .normal st) : SWP G C (.label l) Q st := fun E a w hr => wp_label ⟨.normal, st, E, h, rfl, hr⟩
theorem SWP.exit {i : Nat} (h : Q (.exit i) st) : SWP G C (.exit i) Q st := fun E a w hr => wp_exit ⟨.exit i, st, E, h, rfl, hr⟩
theorem SWP.ret (h : Q .ret st) : SWP G C .ret Q st := fun E a w hr => wp_ret ⟨.ret, st, E, h, rfl, hr⟩
def thenQ (K : AS → Prop) (Q : AEx → AS → Prop) : AEx → AS → Prop
  | .normal, s => K s
  | e, s => Q e s
theorem SWP.seq {c d : Code} (h : SWP G C c (thenQ (SWP G C d Q) Q) st) : SWP G C (.seq c d) Q st := fun E a w hr =>
  wp_seq (wp_mono (h E a w hr) fun e a w ⟨ae, s, E', q, x, r⟩ => by
    cases ae with
    | normal => cases x; exact q E' a w r
    | exit i => cases x; exact ⟨.exit i, s, E', q, rfl, r⟩
    | ret => cases x; exact ⟨.ret, s, E', q, rfl, r⟩
    | panic y => obtain ⟨v, rfl, hv⟩ := x; exact ⟨.panic y, s, E', q, ⟨v, rfl, hv⟩, r⟩)
def blockQ (id : Nat) (Q : AEx → AS → Prop) : AEx → AS → Prop
  | .exit i, s => if i = id then Q .normal s else Q (.exit i) s
  | e, s => Q e s
theorem SWP.block {id : Nat} {c : Code} (h : SWP G C c (blockQ id Q) st) : SWP G C (.block id c) Q st := fun E a w hr =>
  wp_block (wp_mono (h E a w hr) fun e a w ⟨ae, s, E', q, x, r⟩ => by
    cases ae with
    | normal => cases x; exact ⟨.normal, s, E', q, rfl, r⟩
    | exit i =>
      cases x
      simp only [Exit.inBlock]
      simp only [blockQ] at q
      by_cases hi : i = id
      · rw [if_pos hi] at q ⊢; exact ⟨.normal, s, E', q, rfl, r⟩
      · rw [if_neg hi] at q ⊢; exact ⟨.exit i, s, E', q, rfl, r⟩
    | ret => cases x; exact ⟨.ret, s, E', q, rfl, r⟩
    | panic y => obtain ⟨v, rfl, hv⟩ := x; exact ⟨.panic y, s, E', q, ⟨v, rfl, hv⟩, r⟩)
theorem SWP.scope {c : Code} (h : SWP G C c Q st) : SWP G C (.scope c) Q st := fun E a w hr =>
  wp_scope_straight (wp_mono (h E a w hr) fun e a w ⟨ae, s, E', q, x, r⟩ => by
    cases ae with
    | normal => cases x; exact ⟨.normal, s, E', q, rfl, r⟩
    | exit i => cases x; exact ⟨.exit i, s, E', q, rfl, r⟩
    | ret => cases x; exact ⟨.ret, s, E', q, rfl, r⟩
    | panic y => obtain ⟨v, rfl, hv⟩ := x; exact ⟨.panic y, s, E', q, ⟨v, rfl, hv⟩, r⟩)
theorem SWP.cond {x : Operand} {c d : Code} {b : Bool} (hx : st.ev G.Γ x = .bool b) (ht : b = true → SWP G C c Q st) (hf : b = false → SWP G C d Q st) : SWP G C (.cond x c d) Q st := fun E a w hr => by
  have hv := ev_rep hr.fr hr.hp x
  rw [hx] at hv
  exact wp_cond_split hv.bool_inv (fun h => ht h E a w hr) (fun h => hf h E a w hr)
theorem SWP.loop {c : Code} {σ : Type} (I : σ → AS → Prop) (μ : σ → Nat) (x : σ) (h0 : I x st)
    (hr : ∀ x s, I x s → SWP G C c (thenQ (fun s' => ∃ y, I y s' ∧ μ y < μ x) Q) s) : SWP G C (.loop c) Q st := fun E a w hrel => by
  refine wp_loop_ghost (fun n a' w' => ∃ x s E, μ x = n ∧ I x s ∧ Rel G C E s a' w') (μ x) ⟨x, st, E, rfl, h0, hrel⟩ ?_
  rintro n a' w' ⟨x, s, E, rfl, hI, hrel⟩
  refine wp_mono (hr x s hI E a' w' hrel) fun e a w ⟨ae, s, E', q, ex, r⟩ => ?_
  cases ae with
  | normal =>
    cases ex
    obtain ⟨y, hy, hlt⟩ := q
    exact ⟨μ y, hlt, y, s, E', rfl, hy, r⟩
  | exit i => cases ex; exact ⟨.exit i, s, E', q, rfl, r⟩
  | ret => cases ex; exact ⟨.ret, s, E', q, rfl, r⟩
  | panic y => obtain ⟨v, rfl, hv⟩ := ex; exact ⟨.panic y, s, E', q, ⟨v, rfl, hv⟩, r⟩
def SOps (G : Prg) (C : Ctx) (ops : Array Oper) (Q : AEx → AS → Prop) (l : List Oper) (st : AS) : Prop := ∀ E a w, Rel G C E st a w → wpList G.P ops (Post G C Q) l a w
def SOp (G : Prg) (C : Ctx) (o : Oper) (Q : AEx → AS → Prop) (K : AS → Prop) (st : AS) : Prop :=
  ∀ E a w, Rel G C E st a w → o.wp G.P a w (fun a' w' => ∃ s E', K s ∧ Rel G C E' s a' w') (Post G C Q)
theorem SWP.region {id : Nat} {ops : Array Oper} (h : SOps G C ops Q ops.toList st) : SWP G C (.region id ops false) Q st := fun E a w hr => wp_region_list (h E a w hr)
theorem SOps.nil {ops : Array Oper} (h : Q .normal st) : SOps G C ops Q [] st := fun E a w hr => ⟨.normal, st, E, h, rfl, hr⟩
theorem SOps.cons {ops : Array Oper} {o : Oper} {l : List Oper} (hg : o.guard = none) (h : SOp G C o Q (SOps G C ops Q l) st) : SOps G C ops Q (o :: l) st := fun E a w hr =>
  wpList_plain hg fun K hK => Oper.wp_mono (fun a' w' ⟨s, E', k, r⟩ => hK a' w' (k E' a' w' r)) (h E a w hr)
def dstOk (n : Nat) : Option Tmp → Bool
  | some d => decide (d < n)
  | none => true
theorem Rel.put {E : Env} {a : Act} {w : World} (hr : Rel G C E st a w) {d : Option Tmp} (hd : dstOk C.nt d = true) {x : PV} {v : Value} (hv : VRep E w x v) : Rel G C E (st.put d x) (a.put d v) w := by
  cases d with
  | none => exact hr
  | some d =>
    simp only [dstOk, decide_eq_true_eq] at hd
    exact ⟨hr.defers, by simp [Act.put, hr.size], hr.fr.put (by rw [hr.size]; exact hd) hv, hr.hp, hr.lo, hr.nb, hr.β, hr.own, hr.up, hr.dn, hr.keep, hr.os, hr.tape, hr.out, hr.sz, hr.rows⟩
theorem SOp.val {o : Oper} {K : AS → Prop} {x : PV} (hx : aval G st o.op = some x) (hd : dstOk C.nt o.dst = true) (h : K (st.put o.dst x)) : SOp G C o Q K st := fun E a w hr => by
  obtain ⟨v, hrun, hv⟩ := aval_ok hr.fr hr.hp hx
  unfold Oper.wp
  rw [hrun w (Gr.refl w)]
  exact ⟨_, E, h, hr.put hd hv⟩
theorem SOps.val {ops : Array Oper} {o : Oper} {l : List Oper} {x : PV} (hg : o.guard = none) (hx : aval G st o.op = some x) (hd : dstOk C.nt o.dst = true) (h : SOps G C ops Q l (st.put o.dst x)) : SOps G C ops Q (o :: l) st :=
  .cons hg (.val hx hd h)
theorem SOps.guard {ops : Array Oper} {o : Oper} {l : List Oper} {j : Nat} {want b : Bool} {d : Tmp} (hg : o.guard = some (j, want)) (hj : (ops[j]?).bind (·.dst) = some d) (hb : lk st.t d = .bool b) (hd : dstOk C.nt o.dst = true)
    (h1 : b = want → SOp G C o Q (SOps G C ops Q l) st) (h2 : b = !want → SOps G C ops Q l (st.put o.dst und)) : SOps G C ops Q (o :: l) st := fun E a w hr =>
  wpList_step fun K hK => by
    have hv := hr.fr d
    rw [hb] at hv
    have hy : Region.wanted o (yielded ops a.tmps) = (b == want) := by
      simp only [Region.wanted, hg, yielded, hj]
      have := hv.bool_inv
      have hsz : a.tmps[d]? = some (.bool b) := by
        rw [Array.getD_eq_getD_getElem?] at this
        cases h : a.tmps[d]? with
        | none => rw [h] at this; simp [undef] at this
        | some v => rw [h] at this; simp at this; rw [this]
      simp [hsz]
    rw [hy]
    by_cases hbw : b = want
    · rw [if_pos (by simpa using hbw)]
      exact Oper.wp_mono (fun a' w' ⟨s, E', k, r⟩ => hK a' w' (k E' a' w' r)) (h1 hbw E a w hr)
    · rw [if_neg (by simpa using hbw)]
      exact hK _ _ (h2 (by cases b <;> cases want <;> simp_all) E _ w (hr.put hd (.und _ _)))
theorem SOps.guardU {ops : Array Oper} {o : Oper} {l : List Oper} {j : Nat} {want : Bool} {d : Tmp} (hg : o.guard = some (j, want)) (hj : (ops[j]?).bind (·.dst) = some d) (hb : lk st.t d = und) (hd : dstOk C.nt o.dst = true)
    (h : SOps G C ops Q l (st.put o.dst und)) : SOps G C ops Q (o :: l) st := fun E a w hr =>
  wpList_step fun K hK => by
    have hv := hr.fr d
    rw [hb] at hv
    have hu : a.tmps.getD d undef = undef := hv.und_inv
    have hy : Region.wanted o (yielded ops a.tmps) = false := by
      simp only [Region.wanted, hg, yielded, hj]
      rw [Array.getD_eq_getD_getElem?] at hu
      cases h : a.tmps[d]? with
      | none => simp [h]
      | some v => rw [h] at hu; simp at hu; subst hu; simp [h, undef]
    rw [hy]
    exact hK _ _ (h E _ w (hr.put hd (.und _ _)))
end
end Go.AS
namespace Go.AS
open Go.RowKit
set_option linter.unusedVariables false
set_option linter.unusedSimpArgs false
section
variable {G : Prg} {C : Ctx} {Q : AEx → AS → Prop} {K : AS → Prop} {st : AS} {E : Env} {a : Act} {w w' : World}
theorem Rel.grow (hr : Rel G C E st a w) (hs : w.heap.size ≤ w'.heap.size) (hk : ∀ k, k < w.heap.size → w'.heap[k]? = w.heap[k]?) (ho : w'.os = w.os) (ht : w'.tape = w.tape) (hu : w'.output = w.output) : Rel G C E st a w' :=
  ⟨hr.defers, hr.size, hr.fr.move fun x v hv => hv.grow hr.hp hk, hr.hp.grow hs hk, hr.lo, hr.nb, hr.β, hr.own, hr.up, hr.dn, fun k h1 h2 h3 => (hk k (Nat.lt_of_lt_of_le h1 hr.sz)).trans (hr.keep k h1 h2 h3), ho.trans hr.os, ht.trans hr.tape, hu.trans hr.out, Nat.le_trans hr.sz hs, hr.rows⟩
theorem Rel.newBox (hr : Rel G C E st a w) {cs : List PV} {vs : List Value} (hv : VReps E w cs vs) (ty : TypeId) :
    Rel G C (E.newBox w.heap.size) { st with h := { st.h with bx := st.h.bx ++ [⟨cs, ty⟩] } } a (w.alloc (.cells vs.toArray ty)) := by
  have hk : ∀ k, k < w.heap.size → (w.alloc (.cells vs.toArray ty)).heap[k]? = w.heap[k]? := fun k hk => Below.heap_alloc w _ k hk
  have hnb := hr.nb
  refine ⟨hr.defers, hr.size, hr.fr.move fun x v hx => (hx.grow hr.hp hk).newBox, hr.hp.newBox hv, hr.lo, by simp [Env.newBox]; omega, fun i hi => ?_, fun i h1 h2 => ?_, hr.up, hr.dn, fun k h1 h2 h3 => (hk k (Nat.lt_of_lt_of_le h1 hr.sz)).trans (hr.keep k h1 h2 h3), hr.os, hr.tape, hr.out, Nat.le_trans hr.sz (by simp), hr.rows⟩
  · simp only [Env.newBox]; rw [if_neg (by omega)]; exact hr.β i hi
  · simp only [Env.newBox] at h2 ⊢
    by_cases he : i = E.nb
    · rw [if_pos he]; exact hr.sz
    · rw [if_neg he]; exact hr.own i h1 (by omega)
def AS.newBox (st : AS) (cs : List PV) (ty : TypeId) (d : Option Tmp) : AS := ({ st with h := { st.h with bx := st.h.bx ++ [⟨cs, ty⟩] } } : AS).put d (.ptr st.h.bx.length 0)
theorem Rel.newBoxPut (hr : Rel G C E st a w) {cs : List PV} {vs : List Value} (hv : VReps E w cs vs) (ty : TypeId) {d : Option Tmp} (hd : dstOk C.nt d = true) :
    Rel G C (E.newBox w.heap.size) (st.newBox cs ty d) (a.put d (.pointer (some ⟨w.heap.size, 0, none⟩))) (w.alloc (.cells vs.toArray ty)) := by
  refine (hr.newBox hv ty).put hd ?_
  have : (.pointer (some ⟨w.heap.size, 0, none⟩) : Value) = .pointer (some ⟨(E.newBox w.heap.size).β st.h.bx.length, 0, none⟩) := by rw [← hr.hp.nb]; simp [Env.newBox]
  rw [this]
  exact .ptr 0 (by rw [← hr.hp.nb]; simp [Env.newBox])
theorem SOp.box {o : Oper} {t : TypeId} {x : Operand} (ho : o.op = .box t x) (hp : (st.ev G.Γ x).part = true) (hd : dstOk C.nt o.dst = true) (h : K (st.newBox (st.ev G.Γ x).cells t o.dst)) : SOp G C o Q K st := fun E a w hr => by
  have hv := (ev_rep hr.fr hr.hp x).cells' hp
  unfold Oper.wp execOp
  simp only [ho, Instr.box, newVar, newRow, Sem.run_bind, run_newObj, Sem.run_pure, Result.andThen, Oper.upon]
  refine ⟨_, E.newBox w.heap.size, h, ?_⟩
  have := hr.newBoxPut hv t hd
  rw [Array.toArray_toList] at this
  exact this
theorem SOp.alloc {o : Oper} {t : TypeId} {td : TD} (ho : o.op = .alloc t) (ht : G.T t = some td) (hd : dstOk C.nt o.dst = true) (h : K (st.newBox td.zero t o.dst)) : SOp G C o Q K st := fun E a w hr => by
  obtain ⟨i, z, hi, _, _, hz, hc⟩ := (G.hT _ _ ht).info
  have hv : VReps E w td.zero z.cells.toList := by rw [← hc]; exact cellsOf_rep _
  unfold Oper.wp execOp
  simp only [ho, Instr.alloc, zeroValue, typeInfo, newVar, newRow, Sem.run_bind, run_program, run_newObj, Sem.run_pure, Result.andThen, hi, hz, Oper.upon]
  refine ⟨_, E.newBox w.heap.size, h, ?_⟩
  have := hr.newBoxPut hv t hd
  rw [Array.toArray_toList] at this
  exact this
theorem run_storeCells_put {P : Program} (g : Nat) (t : TypeId) : ∀ (vs : List Value) (o i : Nat) (cur : List Value) (w : World), w.heap[g]? = some (.cells cur.toArray t (0, 0)) → o + i + vs.length ≤ cur.length → (∀ v ∈ vs, v.oneCell' = true) →
    (storeCells ⟨g, o, none⟩ vs i).run P w = .ok () (putBlk w g (splice cur (o + i) vs) t)
  | [], o, i, cur, w, hg, _, _ => by
    simp only [storeCells, splice, Sem.run_pure]
    have he : w.heap.setIfInBounds g (.cells cur.toArray t (0, 0)) = w.heap := by
      apply Array.ext_getElem?
      intro k
      simp only [Array.getElem?_setIfInBounds]
      by_cases hk : g = k
      · subst hk; rw [if_pos rfl, if_pos (lt_of_some hg), hg]
      · rw [if_neg hk]
    simp only [putBlk, he]
  | v :: rest, o, i, cur, w, hg, hl, h1 => by
    have hi : o + i < cur.length := by simp at hl; omega
    have hcell : w.cell? ⟨g, o + i, none⟩ = some cur[o + i] := by simp [World.cell?, hg, hi]
    have hfro : w.frozen? ⟨g, o + i, none⟩ = false := by simp [World.frozen?, hg]
    have hst : (store ((⟨g, o, none⟩ : Addr).add i) v).run P w = .ok () (putBlk w g (cur.set (o + i) v) t) := by
      rw [add_none, run_store P w _ v _ (h1 v (by simp)), hcell]
      simp [hfro, setCell_put hg]
    have ih := run_storeCells_put (P := P) g t rest o (i + 1) (cur.set (o + i) v) (putBlk w g (cur.set (o + i) v) t) (putBlk_at (lt_of_some hg)) (by simp at hl ⊢; omega) (fun x hx => h1 x (by simp [hx]))
    simp only [storeCells, Sem.run_bind, hst, Result.andThen_ok, ih, putBlk_put, splice, Nat.add_assoc]
theorem run_storeAt_put {P : Program} {t : TypeId} {td : TD} (hT : td.ok P t) {g o : Nat} {ty : TypeId} {cur : List Value} {w : World} (hg : w.heap[g]? = some (.cells cur.toArray ty (0, 0))) {v : Value} (hs : v.cells.size = td.size) (hl : o + td.size ≤ cur.length) (h1 : ∀ u ∈ v.cells.toList, u.oneCell' = true) :
    (Instr.storeAt t (.pointer (some ⟨g, o, none⟩)) v).run P w = .ok () (putBlk w g (splice cur o v.cells.toList) ty) := by
  have := run_storeCells_put (P := P) g ty v.cells.toList o 0 cur w hg (by simp [hs]; omega) h1
  simp [Instr.storeAt, Instr.sureAddr, storeVar, wf_size hT w, hs, Result.andThen, this]
theorem Rel.putBox (hr : Rel G C E st a w) {b : Nat} {x : Box} (hb : st.h.bx[b]? = some x) {cs : List PV} {vs : List Value} (hv : VReps E w cs vs) :
    Rel G C E { st with h := { st.h with bx := st.h.bx.set b ⟨cs, x.ty⟩ } } a (putBlk w (E.β b) vs x.ty) := by
  have hin : b < E.nb := by rw [hr.hp.nb]; exact (List.getElem?_eq_some_iff.1 hb).1
  refine ⟨hr.defers, hr.size, hr.fr.move fun x v hx => hx.putBox hr.hp hin, hr.hp.putBox hb hv, hr.lo, hr.nb, hr.β, hr.own, hr.up, hr.dn, fun k h1 h2 h3 => (putBlk_ne fun he => ?_).trans (hr.keep k h1 h2 h3), hr.os, hr.tape, hr.out, (by rw [putBlk_size]; exact hr.sz), hr.rows⟩
  subst he
  rcases Nat.lt_or_ge b C.nb with hlt | hge
  · exact h2 b hlt (hr.β b hlt).symm
  · have := hr.own b hge hin; omega
def allOne : List PV → Bool
  | [] => true
  | x :: xs => x.one && allOne xs
theorem allOne_ok {xs : List PV} {vs : List Value} (h : VReps E w xs vs) (h1 : allOne xs = true) : ∀ u ∈ vs, u.oneCell' = true := by
  induction xs generalizing vs with
  | nil => rw [h.nil_inv]; intro u hu; cases hu
  | cons x xs ih =>
    simp only [allOne, Bool.and_eq_true] at h1
    obtain ⟨v, us, rfl, hv, hus⟩ := h.cons_inv
    intro u hu
    rcases List.mem_cons.1 hu with rfl | hu
    · exact hv.one h1.1
    · exact ih hus h1.2 u hu
def AS.storeBox (st : AS) (b o : Nat) (x : Box) (cs : List PV) : AS := { st with h := { st.h with bx := st.h.bx.set b ⟨splice x.cs o cs, x.ty⟩ } }
theorem SOp.store {o : Oper} {t : TypeId} {p v : Operand} {b k : Nat} {x : Box} {td : TD} (ho : o.op = .store t p v) (hdst : o.dst = none) (hp : st.ev G.Γ p = .ptr b k) (hb : st.h.bx[b]? = some x) (ht : G.T t = some td)
    (hpart : (st.ev G.Γ v).part = true) (h1 : allOne (st.ev G.Γ v).cells = true) (hsz : (st.ev G.Γ v).cells.length = td.size) (hl : k + td.size ≤ x.cs.length) (h : K (st.storeBox b k x (st.ev G.Γ v).cells)) : SOp G C o Q K st := fun E a w hr => by
  have hpv := ev_rep hr.fr hr.hp p
  rw [hp] at hpv
  obtain ⟨he, hbn⟩ := hpv.ptr_inv
  have hv := (ev_rep hr.fr hr.hp v).cells' hpart
  obtain ⟨cur, hcur, hcr⟩ := hr.hp.box b x hb
  have hrun := run_storeAt_put (P := G.P) (G.hT _ _ ht) (o := k) hcur (v := a.eval v) (by rw [← hsz, ← hv.1]; simp) (by rw [hcr.1]; exact hl) (allOne_ok hv h1)
  unfold Oper.wp execOp
  simp only [ho, he, Sem.run_bind, hrun, Result.andThen, Sem.run_pure, Oper.upon, hdst, Act.put]
  exact ⟨_, E, h, hr.putBox hb (hcr.splice hv k)⟩
def Env.setRow (E : Env) (r : Nat) (v : Value) : Env := { E with ρ := fun i => if i = r then v else E.ρ i }
def killT (r : Nat) : List (Nat × PV) → List (Nat × PV)
  | [] => []
  | (i, x) :: l => (i, x.kill r) :: killT r l
theorem lk_killT (r : Nat) (t : List (Nat × PV)) (s : Nat) : lk (killT r t) s = (lk t s).kill r := by
  induction t with
  | nil => rfl
  | cons p t ih =>
    obtain ⟨i, x⟩ := p
    simp only [killT, lk]
    split
    · rfl
    · exact ih
def killB (r : Nat) : List Box → List Box
  | [] => []
  | b :: l => ⟨killL r b.cs, b.ty⟩ :: killB r l
theorem killB_map (r : Nat) (l : List Box) : killB r l = l.map fun b => ⟨killL r b.cs, b.ty⟩ := by induction l with | nil => rfl | cons b l ih => simp [killB, ih]
def fzT (r : Nat) (cells : List PV) : List (Nat × PV) → List (Nat × PV)
  | [] => []
  | (i, x) :: l => (i, x.fz r cells) :: fzT r cells l
theorem lk_fzT (r : Nat) (cells : List PV) (t : List (Nat × PV)) (s : Nat) : lk (fzT r cells t) s = (lk t s).fz r cells := by
  induction t with
  | nil => rfl
  | cons p t ih =>
    obtain ⟨i, x⟩ := p
    simp only [fzT, lk]
    split
    · rfl
    · exact ih
def fzB (r : Nat) (cells : List PV) : List Box → List Box
  | [] => []
  | b :: l => ⟨fzL r cells b.cs, b.ty⟩ :: fzB r cells l
theorem fzB_map (r : Nat) (cells : List PV) (l : List Box) : fzB r cells l = l.map fun b => ⟨fzL r cells b.cs, b.ty⟩ := by induction l with | nil => rfl | cons b l ih => simp [fzB, ih]
def AS.setRow (st : AS) (r : Nat) (x : Row) : AS := ⟨killT r st.t, ⟨killB r st.h.bx, st.h.rw.set r (some x)⟩⟩
def AS.freeze (st : AS) (r : Nat) (x : Row) : AS := ⟨fzT r x.cs st.t, ⟨fzB r x.cs st.h.bx, st.h.rw.set r none⟩⟩
def AS.newRow (st : AS) (x : Row) : AS := ⟨st.t, ⟨st.h.bx, st.h.rw ++ [some x]⟩⟩
theorem row_irep {r : Row} {v : Value} {lo : Nat} {xs : List Value} {im : Nat → Prop} (ho : w.ownsRow lo r.ty r.sz v r.n xs) (hx : IReps im w r.cs xs) (h1x : ∀ u ∈ xs, u.oneCell' = true) (hi : ∀ k, v.ownBlock = some k → im k) :
    (∀ A m c, v = .slice A m c → IRep im w (.slice m r.cs) (.slice A m c)) ∧ (∀ a m c, v = .slice (some a) m c → ∀ o, IRep im w (.epos (r.cs.drop o)) (.pointer (some (a.add o)))) := by
  obtain ⟨hl, hz⟩ := ho
  refine ⟨fun A m c he => ?_, fun a m c he o => ?_⟩
  · rcases hz with ⟨h1, h2⟩ | ⟨g, cap, cur, h1, _, hg, hnc, _, hs, ht⟩
    · rw [he] at h1
      cases h1
      have : xs = [] := List.eq_nil_of_length_eq_zero (by rw [hl, h2]; simp)
      subst this
      have : r.cs = [] := List.eq_nil_of_length_eq_zero hx.1.symm
      rw [this]
      exact .slice0
    · rw [he] at h1
      cases h1
      refine .slice hnc hx.1 (fun _ => hi _ (by rw [he]; rfl)) (fun j u hu => ?_) h1x hx.2
      rw [← ht, List.getElem?_take] at hu
      split at hu
      · rw [cell_of_blk (vs := cur.toList) (by simpa using hg)]; simpa using hu
      · cases hu
  · rcases hz with ⟨h1, h2⟩ | ⟨g, cap, cur, h1, _, hg, hnc, _, hs, ht⟩
    · rw [he] at h1; cases h1
    · rw [he] at h1
      cases h1
      have hd := hx.drop o
      refine .epos hd.1 (fun _ => by rw [block_of_add]; exact hi _ (by rw [he]; rfl)) (fun j u hu => ?_) hd.2
      rw [add_of_add]
      rw [List.getElem?_drop, ← ht, List.getElem?_take] at hu
      split at hu
      · rw [cell_of_blk (vs := cur.toList) (by simpa using hg)]; simpa using hu
      · cases hu
theorem Rel.freezeE (hr : Rel G C E st a w) {r : Nat} {x : Row} (hx : st.h.rw[r]? = some (some x)) : Rel G C (E.more fun k => E.im k ∨ (E.ρ r).ownBlock = some k) (st.freeze r x) a w := by
  obtain ⟨xs, ho, hxs, h1⟩ := hr.hp.row r x hx
  let im : Nat → Prop := fun k => E.im k ∨ (E.ρ r).ownBlock = some k
  have hi : ∀ k, E.im k → im k := fun k h => .inl h
  have hown : ∀ k, (E.ρ r).ownBlock = some k → E.lo ≤ k ∧ k < w.heap.size := fun k hk => ownsRow_lt ho hk
  have hir := row_irep (im := im) ho (hxs.move hi (fun _ _ => rfl)) h1 (fun k hk => .inr hk)
  have mv : ∀ y v, VRep E w y v → VRep (E.more im) w (y.fz r x.cs) v := fun y v hv => hv.fz (n := 0) hi (fun A m c he => hir.1 A m c he) (fun a m c he o => hir.2 a m c he o)
  have gone : ∀ (j : Nat) (s : Row), (st.h.rw.set r none)[j]? = some (some s) → j ≠ r ∧ st.h.rw[j]? = some (some s) := fun j s hj => by
    by_cases hjr : r = j
    · subst hjr
      rw [List.getElem?_set_self (List.getElem?_eq_some_iff.1 hx).1] at hj
      cases hj
    · rw [List.getElem?_set_ne hjr] at hj
      exact ⟨Ne.symm hjr, hj⟩
  refine ⟨hr.defers, hr.size, fun s => ?_, ?_, hr.lo, hr.nb, hr.β, hr.own, fun k h => .inl (hr.up k h), fun k h => ?_, hr.keep, hr.os, hr.tape, hr.out, hr.sz, fun j s k hj hk => hr.rows j s k (gone j s hj).2 hk⟩
  · simp only [AS.freeze]; rw [lk_fzT]; exact mv _ _ (hr.fr s)
  · refine ⟨by simp [AS.freeze, fzB_map, Env.more, hr.hp.nb], by simp [AS.freeze, Env.more, hr.hp.nr], hr.hp.lo, fun i b hb => ?_, fun j s hj => ?_, hr.hp.inj, fun i j s t k hi' hj' => ?_, fun i j s hi' hj' => ?_, fun k hk => ?_, fun k i hi' hk => ?_, fun k j s hj' hk => ?_, ⟨hr.hp.gl.1, fun g cs hg => (hr.hp.gl.2 g cs hg).move hi (fun _ _ => rfl)⟩⟩
    · simp only [AS.freeze, fzB_map, List.getElem?_map] at hb
      obtain ⟨b0, hb0, rfl⟩ := Option.map_eq_some_iff.1 hb
      obtain ⟨vs, hv, hvr⟩ := hr.hp.box i b0 hb0
      exact ⟨vs, hv, hvr.fz mv⟩
    · obtain ⟨_, hj⟩ := gone j s hj
      obtain ⟨ys, hoy, hy, h1y⟩ := hr.hp.row j s hj
      exact ⟨ys, hoy, hy.move hi (fun _ _ => rfl), h1y⟩
    · exact hr.hp.rinj i j s t k (gone i s hi').2 (gone j t hj').2
    · exact hr.hp.brw i j s hi' (gone j s hj').2
    · rcases hk with hk | hk
      · exact hr.hp.im_lt k hk
      · exact (hown k hk).2
    · rcases hk with hk | hk
      · exact hr.hp.im_b k i hi' hk
      · exact fun he => hr.hp.brw i r x hi' hx (by rw [show E.β i = k from he]; exact hk)
    · obtain ⟨hne, hj⟩ := gone j s hj'
      rcases hk with hk | hk
      · exact hr.hp.im_r k j s hj hk
      · exact fun he => hne (hr.hp.rinj j r s x k hj hx he hk)
  · rcases h with h | h
    · exact hr.dn k h
    · exact .inr (hr.rows r x k hx h)
theorem Rel.freeze (hr : Rel G C E st a w) {r : Nat} {x : Row} (hx : st.h.rw[r]? = some (some x)) : ∃ E', Rel G C E' (st.freeze r x) a w := ⟨_, hr.freezeE hx⟩
theorem Rel.newRow (hr : Rel G C E st a w) {x : Row} {v : Value} {xs : List Value} (ho : w.ownsRow E.lo x.ty x.sz v x.n xs) (hx : IReps E.im w x.cs xs) (h1 : ∀ u ∈ xs, u.oneCell' = true)
    (hnb : ∀ k i, i < E.nb → v.ownBlock = some k → E.β i ≠ k) (hni : ∀ k, v.ownBlock = some k → ¬ E.im k) (hnr : ∀ (k j : Nat) (s : Row), st.h.rw[j]? = some (some s) → v.ownBlock = some k → (E.ρ j).ownBlock ≠ some k)
    (hnw : ∀ k, v.ownBlock = some k → C.w0.heap.size ≤ k ∨ C.wr k) :
    Rel G C (E.newRow v) (st.newRow x) a w ∧ VRep (E.newRow v) w (.own st.h.rw.length x.n) v := by
  refine ⟨⟨hr.defers, hr.size, hr.fr.move fun x v hx => hx.newRow, hr.hp.newRow ho hx h1 hnb hni hnr, hr.lo, hr.nb, hr.β, hr.own, hr.up, hr.dn, hr.keep, hr.os, hr.tape, hr.out, hr.sz, fun j s k hj hk => by
    simp only [AS.newRow] at hj
    rcases Nat.lt_trichotomy j st.h.rw.length with hlt | heq | hgt
    · rw [List.getElem?_append_left hlt] at hj
      refine hr.rows j s k hj ?_
      have : ¬ j = E.nr := by rw [hr.hp.nr]; omega
      simpa [Env.newRow, this] using hk
    · refine hnw k ?_
      have : j = E.nr := by rw [hr.hp.nr]; exact heq
      simpa [Env.newRow, this] using hk
    · rw [List.getElem?_eq_none (by simp; omega)] at hj
      cases hj⟩, ?_⟩
  have hform : ∃ A c, v = .slice A x.n c := by
    rcases ho.2 with ⟨h, h2⟩ | ⟨g, cap, cur, h, _⟩
    · exact ⟨none, 0, by rw [h, h2]⟩
    · exact ⟨_, _, h⟩
  obtain ⟨A, c, rfl⟩ := hform
  exact .own (m := x.n) (by rw [← hr.hp.nr]; simp [Env.newRow]) (by rw [← hr.hp.nr]; simp [Env.newRow]) rfl
def adoptT (s : Nat) (r : Nat) (t : List (Nat × PV)) : List (Nat × PV) := (s, .own r 0) :: t
theorem Rel.adopt (hr : Rel G C E st a w) {s : Nat} (hs : lk st.t s = .nil) (ty : TypeId) (sz : Nat) : ∃ E', Rel G C E' ⟨adoptT s st.h.rw.length st.t, ⟨st.h.bx, st.h.rw ++ [some ⟨[], 0, ty, sz⟩]⟩⟩ a w := by
  obtain ⟨h1, h2⟩ := hr.newRow (x := ⟨[], 0, ty, sz⟩) (v := .slice none 0 0) (xs := []) (World.ownsRow_nil w _ _ _) ⟨rfl, fun j x v h => by simp at h⟩ (fun u hu => by cases hu) (fun k i _ h => by simp [Value.ownBlock] at h) (fun k h => by simp [Value.ownBlock] at h) (fun k j s _ h => by simp [Value.ownBlock] at h) (fun k h => by simp [Value.ownBlock] at h)
  refine ⟨_, h1.defers, h1.size, fun q => ?_, h1.hp, h1.lo, h1.nb, h1.β, h1.own, h1.up, h1.dn, h1.keep, h1.os, h1.tape, h1.out, h1.sz, h1.rows⟩
  simp only [adoptT, lk]
  split
  · rename_i he
    subst he
    have := hr.fr s
    rw [hs] at this
    rw [this.nil_inv]
    exact h2
  · exact h1.fr q
end
end Go.AS
namespace Go.AS
open Go.RowKit
set_option linter.unusedVariables false
set_option linter.unusedSimpArgs false
section
variable {G : Prg} {C : Ctx} {Q : AEx → AS → Prop} {K : AS → Prop} {st : AS} {E : Env} {a : Act} {w w' : World}
theorem Rel.setRow (hr : Rel G C E st a w) {r : Nat} {x y : Row} {v : Value} {ys : List Value} (hx : st.h.rw[r]? = some (some x)) (hty : y.ty = x.ty) (hsz : y.sz = x.sz)
    (ho : w'.ownsRow E.lo y.ty y.sz v y.n ys) (hy : IReps E.im w y.cs ys) (h1 : ∀ u ∈ ys, u.oneCell' = true) (hg : w.grownBy w' (E.ρ r).ownBlock) (hv : v.ownBlock = (E.ρ r).ownBlock ∨ v.ownBlock = some w.heap.size) :
    Rel G C (E.setRow r v) (st.setRow r y) a w' ∧ VRep (E.setRow r v) w' (.own r y.n) v := by
  have hrn : r < E.nr := by rw [hr.hp.nr]; exact (List.getElem?_eq_some_iff.1 hx).1
  have him : ∀ k, E.im k → w'.heap[k]? = w.heap[k]? := fun k hk => hg.block k (hr.hp.im_lt k hk) (fun he => hr.hp.im_r k r x hx hk he.symm)
  have hρ : ∀ i, i ≠ r → (E.setRow r v).ρ i = E.ρ i := fun i hi => by simp [Env.setRow, hi]
  have hρr : (E.setRow r v).ρ r = v := by simp [Env.setRow]
  have mv : ∀ z u, VRep E w z u → VRep (E.setRow r v) w' (z.kill r) u := fun z u hz => hz.kill rfl rfl rfl hρ (fun _ h => h) him
  have hbx : ∀ i, i < E.nb → w'.heap[E.β i]? = w.heap[E.β i]? := fun i hi => hg.block _ (hr.hp.bx_lt hi) (fun he => hr.hp.brw i r x hi hx he.symm)
  have split : ∀ (j : Nat) (s : Row), (st.h.rw.set r (some y))[j]? = some (some s) → (j ≠ r ∧ st.h.rw[j]? = some (some s)) ∨ (j = r ∧ s = y) := fun j s hj => by
    by_cases hjr : r = j
    · subst hjr
      rw [List.getElem?_set_self (List.getElem?_eq_some_iff.1 hx).1] at hj
      exact .inr ⟨rfl, by simpa using hj.symm⟩
    · rw [List.getElem?_set_ne hjr] at hj
      exact .inl ⟨Ne.symm hjr, hj⟩
  have hvk : ∀ k, v.ownBlock = some k → (E.ρ r).ownBlock = some k ∨ k = w.heap.size := fun k hk => by
    rcases hv with h | h
    · exact .inl (h ▸ hk)
    · rw [h] at hk; exact .inr (Option.some.inj hk).symm
  have hoth : ∀ (j : Nat) (s : Row) (k : Nat), j ≠ r → st.h.rw[j]? = some (some s) → (E.ρ j).ownBlock = some k → k < w.heap.size ∧ (E.ρ r).ownBlock ≠ some k := fun j s k hne hj hk => by
    obtain ⟨xs, hoj, _⟩ := hr.hp.row j s hj
    exact ⟨(ownsRow_lt hoj hk).2, fun he => hne (hr.hp.rinj j r s x k hj hx hk he)⟩
  have hform : ∃ A c, v = .slice A y.n c := by
    rcases ho.2 with ⟨h, h2⟩ | ⟨g, cap, cur, h, _⟩
    · exact ⟨none, 0, by rw [h, h2]⟩
    · exact ⟨_, _, h⟩
  refine ⟨⟨hr.defers, hr.size, fun s => ?_, ⟨by simp [AS.setRow, killB_map, Env.setRow, hr.hp.nb], by simp [AS.setRow, Env.setRow, hr.hp.nr], Nat.le_trans hr.hp.lo hg.size, fun i b hb => ?_, fun j s hj => ?_, hr.hp.inj, fun i j s t k hi hj hki hkj => ?_, fun i j s hi hj => ?_, fun k hk => Nat.lt_of_lt_of_le (hr.hp.im_lt k hk) hg.size, hr.hp.im_b, fun k j s hj hk => ?_, ⟨Nat.le_trans hr.hp.gl.1 hg.size, fun g cs hgl => (hr.hp.gl.2 g cs hgl).move (fun _ h => h) him⟩⟩,
    hr.lo, hr.nb, hr.β, hr.own, hr.up, hr.dn, fun k h1 h2 h3 => ?_, hg.os.trans hr.os, hg.tape.trans hr.tape, hg.output.trans hr.out, Nat.le_trans hr.sz hg.size, fun j s k hj hk => by
      rcases split j s hj with ⟨hne, hj⟩ | ⟨rfl, _⟩
      · rw [hρ j hne] at hk; exact hr.rows j s k hj hk
      · rw [hρr] at hk
        rcases hvk k hk with h | h
        · exact hr.rows _ x k hx h
        · subst h; exact .inl hr.sz⟩, ?_⟩
  · simp only [AS.setRow]; rw [lk_killT]; exact mv _ _ (hr.fr s)
  · simp only [AS.setRow, killB_map, List.getElem?_map] at hb
    obtain ⟨b0, hb0, rfl⟩ := Option.map_eq_some_iff.1 hb
    obtain ⟨vs, hvs, hvr⟩ := hr.hp.box i b0 hb0
    have hin : i < E.nb := by rw [hr.hp.nb]; exact (List.getElem?_eq_some_iff.1 hb0).1
    exact ⟨vs, (hbx i hin).trans hvs, hvr.kill mv⟩
  · rcases split j s hj with ⟨hne, hj⟩ | ⟨rfl, rfl⟩
    · obtain ⟨zs, hoz, hz, h1z⟩ := hr.hp.row j s hj
      refine ⟨zs, ?_, hz.move (fun _ h => h) him, h1z⟩
      rw [hρ j hne]
      exact ownsRow_move hoz fun k hk => hg.block k (hoth j s k hne hj hk).1 (fun he => (hoth j s k hne hj hk).2 he.symm)
    · exact ⟨ys, by rw [hρr]; exact ho, hy.move (fun _ h => h) him, h1⟩
  · rcases split i s hi with ⟨hni, hi'⟩ | ⟨hi', _⟩ <;> rcases split j t hj with ⟨hnj, hj'⟩ | ⟨hj', _⟩
    · rw [hρ i hni] at hki; rw [hρ j hnj] at hkj
      exact hr.hp.rinj i j s t k hi' hj' hki hkj
    · rw [hρ i hni] at hki; rw [hj', hρr] at hkj
      have h3 := hoth i s k hni hi' hki
      rcases hvk k hkj with h | h
      · exact absurd h h3.2
      · omega
    · rw [hi', hρr] at hki; rw [hρ j hnj] at hkj
      have h3 := hoth j t k hnj hj' hkj
      rcases hvk k hki with h | h
      · exact absurd h h3.2
      · omega
    · rw [hi', hj']
  · rcases split j s hj with ⟨hne, hj⟩ | ⟨rfl, _⟩
    · rw [hρ j hne]; exact hr.hp.brw i j s hi hj
    · rw [hρr]
      intro hc
      rcases hvk _ hc with h | h
      · exact hr.hp.brw i _ x hi hx h
      · have : E.β i < w.heap.size := hr.hp.bx_lt hi
        have h' : E.β i = w.heap.size := h
        omega
  · rcases split j s hj with ⟨hne, hj⟩ | ⟨rfl, _⟩
    · rw [hρ j hne]; exact hr.hp.im_r k j s hj hk
    · rw [hρr]
      intro hc
      rcases hvk _ hc with h | h
      · exact hr.hp.im_r k _ x hx hk h
      · have := hr.hp.im_lt k hk; omega
  · refine (hg.block k (Nat.lt_of_lt_of_le h1 hr.sz) fun he => ?_).trans (hr.keep k h1 h2 h3)
    rcases hr.rows r x k hx he.symm with h | h
    · omega
    · exact h3 h
  · obtain ⟨A, c, rfl⟩ := hform
    exact .own (m := y.n) (by simpa [Env.setRow] using hrn) hρr rfl
def srcOf : PV → Option (Nat × List PV)
  | .slice m cs => some (m, cs)
  | .nil => some (0, [])
  | _ => none
theorem IReps.append {im : Nat → Prop} {xs ys : List PV} {vs us : List Value} (h : IReps im w xs vs) (k : IReps im w ys us) : IReps im w (xs ++ ys) (vs ++ us) :=
  ⟨by simp [h.1, k.1], fun j x v hx hv => by
    rcases Nat.lt_or_ge j xs.length with hlt | hge
    · rw [List.getElem?_append_left hlt] at hx
      rw [List.getElem?_append_left (by rw [h.1]; exact hlt)] at hv
      exact h.2 j x v hx hv
    · rw [List.getElem?_append_right hge] at hx
      rw [List.getElem?_append_right (by rw [h.1]; exact hge), h.1] at hv
      exact k.2 _ x v hx hv⟩
theorem run_append_none {P : Program} {w : World} {t ty e : TypeId} {td : TD} (ht : P.underlying t = some (.slice e)) (hT : td.ok P e) {v : Value} {n : Nat} {xs : List Value} {base : Nat} (ho : w.ownsRow base e td.size v n xs) :
    (Builtin.append_ #[t, t] ty #[v, .slice none 0 0]).run P w = .ok v w := by
  have hs := wf_size hT w
  rcases ho.2 with ⟨rfl, hn⟩ | ⟨g, cap, cur, rfl, _, hg, hnc, _⟩
  · simp [Builtin.append_, wf_und ht, hs, Builtin.lenOf, Builtin.firstCells, Result.andThen]
  · simp [Builtin.append_, wf_und ht, hs, Builtin.lenOf, Builtin.firstCells, Result.andThen, hnc, storeCells]
theorem SOp.append {o : Oper} {s x : Operand} {t e : TypeId} {tdt td : TD} {r n m : Nat} {row : Row} {cs : List PV} (ho : o.op = .call ⟨.builtin .append, #[s, x], #[t, t]⟩) (hs : st.ev G.Γ s = .own r n) (hx : srcOf (st.ev G.Γ x) = some (m, cs))
    (hrow : st.h.rw[r]? = some (some row)) (ht : G.T t = some tdt) (hk : tdt.k = .slice e) (hte : G.T e = some td) (hty : row.ty = e) (hsz : row.sz = td.size) (hz : td.zero.length = td.size) (hpos : 0 < td.size)
    (hlen : cs.length = m * td.size) (hd : dstOk C.nt o.dst = true) (hb : (row.n + m) * td.bytes ≤ 140737488355328) (hm : row.n + m ≤ 9223372036854775807)
    (h : K ((st.setRow r ⟨row.cs ++ cs, row.n + m, row.ty, row.sz⟩).put o.dst (.own r (row.n + m)))) : SOp G C o Q K st := fun E a w hr => by
  obtain ⟨d, hu, hdd⟩ := (G.hT _ _ ht).und
  rw [hk] at hdd
  cases hdd
  obtain ⟨i, z, hi, his, hiby, hiz, hizc⟩ := (G.hT _ _ hte).info
  have hsv := ev_rep hr.fr hr.hp s
  rw [hs] at hsv
  obtain ⟨hrn, hv, _⟩ := hsv.own_inv
  have hxv := ev_rep hr.fr hr.hp x
  obtain ⟨xs, hox, hxs, h1x⟩ := hr.hp.row r row hrow
  subst hty
  rw [hsz] at hox
  have hexec : ∀ v' w', (Builtin.append_ #[t, t] o.type #[a.eval s, a.eval x]).run G.P w = .ok v' w' → (execOp a.eval o).run G.P w = .ok (.value v') w' := fun v' w' h => by
    simp [execOp, ho, resolve, invoke, builtin, h, Result.andThen]
  have done : ∀ (v' : Value) (w' : World) (news : List Value), (Builtin.append_ #[t, t] o.type #[a.eval s, a.eval x]).run G.P w = .ok v' w' → w'.ownsRow E.lo row.ty td.size v' (row.n + m) (xs ++ news) → IReps E.im w cs news → (∀ u ∈ news, u.oneCell' = true) →
      w.grownBy w' (E.ρ r).ownBlock → (v'.ownBlock = (E.ρ r).ownBlock ∨ v'.ownBlock = some w.heap.size) → o.wp G.P a w (fun a' w' => ∃ s E', K s ∧ Rel G C E' s a' w') (Post G C Q) := fun v' w' news hrun hown hn h1n hg hvb => by
    obtain ⟨h2, h3⟩ := hr.setRow (y := ⟨row.cs ++ cs, row.n + m, row.ty, row.sz⟩) hrow rfl rfl (by rw [hsz]; exact hown) (hxs.append hn) (fun u hu => (List.mem_append.1 hu).elim (h1x u) (h1n u)) hg hvb
    unfold Oper.wp
    rw [hexec _ _ hrun]
    exact ⟨_, _, h, h2.put hd h3⟩
  have hnone : a.eval x = .slice none 0 0 → m = 0 → cs = [] → o.wp G.P a w (fun a' w' => ∃ s E', K s ∧ Rel G C E' s a' w') (Post G C Q) := fun hxe hm0 hc0 => by
    subst hm0; subst hc0
    refine done (E.ρ r) w [] ?_ (by simpa using hox) ⟨rfl, fun j x v h => by simp at h⟩ (fun u hu => by cases hu) ⟨rfl, rfl, rfl, Nat.le_refl _, fun _ _ _ => rfl⟩ (.inl rfl)
    rw [hxe, hv]
    exact run_append_none hu (G.hT _ _ hte) hox
  unfold srcOf at hx
  split at hx
  · rename_i m' cs' he
    cases hx
    rw [he] at hxv
    rcases hxv.slice_inv with ⟨h1, h2, h3⟩ | ⟨ad, c, vs, h1, h2, h3, h4, h5, h6⟩
    · exact hnone h1 h2 h3
    · obtain ⟨v', w', hrun, hown, hg, _, hvb⟩ := run_append_own_at (P := G.P) w E.lo t o.type row.ty i z td.size td.bytes hu hi hiz his hiby (by rw [← hz, ← hizc]; simp) hpos (E.ρ r) row.n xs hox ad m c vs (by rw [h5.1, hlen]) h4 h6 (by simp only [maxLen]; omega) hb hr.hp.lo
      exact done v' w' vs (by rw [h1, hv]; exact hrun) hown h5 h6 hg hvb
  · rename_i he
    cases hx
    rw [he] at hxv
    exact hnone hxv.nil_inv rfl rfl
  · cases hx
theorem junks_rep (n : Nat) (vs : List Value) (h : vs.length = n) : VReps E w (List.replicate n .junk) vs :=
  ⟨by simp [h], fun j x v hx hv => by
    rw [List.getElem?_replicate] at hx
    split at hx
    · cases hx; exact .junk v
    · cases hx⟩
def abuildSlice (sz len : Nat) (parts : List (Nat × PV)) : Option (List PV) := afill (fun i => some (i * sz, sz)) (List.replicate (len * sz) .junk) parts
theorem run_buildSlice {G : Prg} {E : Env} {w : World} {t e : TypeId} {tdt td : TD} {len : Nat} {ps : List (Nat × PV)} {qs : Array (Nat × Value)} {out : List PV} (ht : G.T t = some tdt) (hk : tdt.k = .slice e) (hte : G.T e = some td) (h : abuildSlice td.size len ps = some out) (hlim : len * td.size ≤ 16777216)
    (hi : qs.toList.map (·.1) = ps.map (·.1)) (hr : VReps E w (ps.map (·.2)) (qs.toList.map (·.2))) :
    ∃ us : List Value, (Instr.buildSlice t len qs).run G.P w = .ok (.slice (some ⟨w.heap.size, 0, none⟩) len len) (w.alloc (.cells us.toArray e)) ∧ VReps E w out us ∧ us.length = len * td.size := by
  obtain ⟨d, hu, hd⟩ := (G.hT _ _ ht).und
  rw [hk] at hd
  cases hd
  obtain ⟨i, z, hi', his, _, hiz, _⟩ := (G.hT _ _ hte).info
  have hs := wf_size (G.hT _ _ hte) w
  have key : ∀ zero : Array Value, ∃ us : List Value, Instr.fill (fun i => some (i * td.size, td.size)) ((Array.range (len * td.size)).map (zero[· % zero.size]!)) qs.toList = some us.toArray ∧ VReps E w out us := fun zero => by
    obtain ⟨us, h1, h2⟩ := afill_ok (E := E) (w := w) ps qs.toList _ out ((Array.range (len * td.size)).map (zero[· % zero.size]!)).toList h (junks_rep _ _ (by simp)) hi hr
    exact ⟨us, by rw [Array.toArray_toList] at h1; exact h1, h2⟩
  have hol : out.length = len * td.size := by
    have : ∀ (ps : List (Nat × PV)) (c o : List PV), afill (fun i => some (i * td.size, td.size)) c ps = some o → o.length = c.length := by
      intro ps
      induction ps with
      | nil => intro c o h; simp only [afill] at h; cases h; rfl
      | cons p ps ih =>
        intro c o h
        obtain ⟨i, x⟩ := p
        simp only [afill] at h
        split at h
        · rw [ih _ _ h, splice_length]
        · cases h
    rw [this _ _ _ h]; simp
  by_cases h0 : len * td.size = 0
  · obtain ⟨us, h1, h2⟩ := key #[]
    refine ⟨us, ?_, h2, by rw [h2.1, hol]⟩
    simp only [Instr.buildSlice, Sem.run_bind, wf_und hu, Result.andThen, hs, Sem.run_ite]
    rw [if_neg (by omega), if_pos h0]
    simp only [Sem.run_pure, Result.andThen, h1]
    rfl
  · obtain ⟨us, h1, h2⟩ := key z.cells
    refine ⟨us, ?_, h2, by rw [h2.1, hol]⟩
    simp only [Instr.buildSlice, Sem.run_bind, wf_und hu, Result.andThen, hs, Sem.run_ite]
    rw [if_neg (by omega), if_neg h0]
    simp only [zeroValue, typeInfo, Sem.run_bind, run_program, Result.andThen, hi', hiz, Sem.run_pure, h1]
    rfl
theorem Rel.newIm (hr : Rel G C E st a w) (cells : List Value) (e : TypeId) : Rel G C (E.more fun k => E.im k ∨ k = w.heap.size) st a (w.alloc (.cells cells.toArray e)) := by
  have hk : ∀ k, k < w.heap.size → (w.alloc (.cells cells.toArray e)).heap[k]? = w.heap[k]? := fun k hk => Below.heap_alloc w _ k hk
  have hg := hr.grow (w' := w.alloc (.cells cells.toArray e)) (by simp) hk rfl rfl rfl
  have hi : ∀ k, E.im k → (E.im k ∨ k = w.heap.size) := fun k h => .inl h
  refine ⟨hg.defers, hg.size, hg.fr.move fun x v hx => hx.more hi, hg.hp.more hi (fun k h => ?_) (fun k i h1 h2 => ?_) (fun k j s h1 h2 => ?_), hg.lo, hg.nb, hg.β, hg.own, fun k h => .inl (hg.up k h), fun k h => ?_, hg.keep, hg.os, hg.tape, hg.out, hg.sz, hg.rows⟩
  · rcases h with h | h
    · exact hg.hp.im_lt k h
    · subst h; simp
  · rcases h2 with h2 | h2
    · exact hr.hp.im_b k i h1 h2
    · have := hr.hp.bx_lt h1; omega
  · rcases h2 with h2 | h2
    · exact hr.hp.im_r k j s h1 h2
    · intro hc
      obtain ⟨xs, ho, _⟩ := hr.hp.row j s h1
      have := (ownsRow_lt ho hc).2
      omega
  · rcases h with h | h
    · exact hr.dn k h
    · subst h; exact .inr (.inl hr.sz)
theorem SOp.buildRow {o : Oper} {t e : TypeId} {tdt td : TD} {len : Nat} {parts : Array (Nat × Operand)} {out : List PV} (ho : o.op = .buildSlice t len parts) (ht : G.T t = some tdt) (hk : tdt.k = .slice e) (hte : G.T e = some td)
    (hout : abuildSlice td.size len (parts.toList.map fun p => (p.1, st.ev G.Γ p.2)) = some out) (hlim : len * td.size ≤ 16777216) (hlen : len ≤ 16777216) (hp : pureL out = true) (h1 : allOne out = true) (hd : dstOk C.nt o.dst = true)
    (h : K ((st.newRow ⟨out, len, e, td.size⟩).put o.dst (.own st.h.rw.length len))) : SOp G C o Q K st := fun E a w hr => by
  obtain ⟨us, hrun, hus, hul⟩ := run_buildSlice (E := E) (w := w) (qs := parts.map fun p => (p.1, a.eval p.2)) ht hk hte hout hlim (by simp) (by
    have := evs_rep hr.fr hr.hp (parts.toList.map (·.2))
    simpa [Function.comp_def] using this)
  have hgr : ∀ k, k < w.heap.size → (w.alloc (.cells us.toArray e)).heap[k]? = w.heap[k]? := fun k hk => Below.heap_alloc w _ k hk
  have hg := hr.grow (w' := w.alloc (.cells us.toArray e)) (by simp) hgr rfl rfl rfl
  have hus' : IReps E.im (w.alloc (.cells us.toArray e)) out us := (hus.pure hp).move (fun k h => h) (fun k hk => hgr k (hr.hp.im_lt k hk))
  have hb : ∀ k, (Value.slice (some ⟨w.heap.size, 0, none⟩) len len).ownBlock = some k → k = w.heap.size := fun k hk => by simpa [Value.ownBlock] using hk.symm
  obtain ⟨h2, h3⟩ := hg.newRow (x := ⟨out, len, e, td.size⟩) (v := .slice (some ⟨w.heap.size, 0, none⟩) len len) (xs := us)
    ⟨hul, .inr ⟨w.heap.size, len, us.toArray, rfl, hr.hp.lo, heap_alloc_new w _, Nat.le_refl _, by simp only [maxLen]; omega, by simpa using hul, by simp [← hul]⟩⟩ hus' (allOne_ok hus h1)
    (fun k i hi hk => by have := hb k hk; have := hr.hp.bx_lt hi; omega) (fun k hk him => by have := hb k hk; have := hr.hp.im_lt k him; omega)
    (fun k j s hj hk hc => by
      have := hb k hk
      obtain ⟨xs, ho, _⟩ := hr.hp.row j s hj
      have := (ownsRow_lt ho hc).2
      omega)
    (fun k hk => by have h0 := hb k hk; subst h0; exact .inl hr.sz)
  unfold Oper.wp execOp
  simp only [ho, Sem.run_bind, hrun, Result.andThen, Sem.run_pure, Oper.upon]
  exact ⟨_, _, h, h2.put hd h3⟩
def AS.storeRow (st : AS) (r o : Nat) (x : Row) (cs : List PV) : AS := { st with h := { st.h with rw := st.h.rw.set r (some ⟨splice x.cs o cs, x.n, x.ty, x.sz⟩) } }
theorem SOp.storeRow {o : Oper} {t : TypeId} {p v : Operand} {r k : Nat} {x : Row} {td : TD} (ho : o.op = .store t p v) (hdst : o.dst = none) (hp : st.ev G.Γ p = .rpos r k) (hx : st.h.rw[r]? = some (some x)) (ht : G.T t = some td)
    (hpart : (st.ev G.Γ v).part = true) (h1 : allOne (st.ev G.Γ v).cells = true) (hpure : pureL (st.ev G.Γ v).cells = true) (hsz : (st.ev G.Γ v).cells.length = td.size) (hl : k + td.size ≤ x.cs.length) (h : K (st.storeRow r k x (st.ev G.Γ v).cells)) : SOp G C o Q K st := fun E a w hr => by
  have hpv := ev_rep hr.fr hr.hp p
  rw [hp] at hpv
  obtain ⟨hrn, ad, m, c, hρ, he⟩ := hpv.rpos_inv
  have hv := (ev_rep hr.fr hr.hp v).cells' hpart
  obtain ⟨xs, hox, hxs, h1x⟩ := hr.hp.row r x hx
  obtain ⟨hxl, hz⟩ := hox
  rcases hz with ⟨hz, _⟩ | ⟨g, cap, cur, hz, hlo, hg, hnc, hcap, hcs, htk⟩
  · rw [hρ] at hz; cases hz
  rw [hρ] at hz
  cases hz
  have hle : k + td.size ≤ xs.length := by rw [hxs.1]; exact hl
  have hcl : xs.length ≤ cur.toList.length := by rw [← htk]; simp; omega
  have hone := allOne_ok hv h1
  have hnl : (a.eval v).cells.toList.length = td.size := by rw [hv.1, hsz]
  have hrun := run_storeAt_put (P := G.P) (G.hT _ _ ht) (o := k) (cur := cur.toList) (by simpa using hg) (v := a.eval v) (by simpa using hnl) (by omega) hone
  have hgb : (E.ρ r).ownBlock = some g := by rw [hρ]; rfl
  have hne : ∀ i, E.im i → i ≠ g := fun i hi he => hr.hp.im_r i r x hx hi (he ▸ hgb)
  have mv : ∀ z u, VRep E w z u → VRep E (putBlk w g (splice cur.toList k (a.eval v).cells.toList) x.ty) z u := fun z u hz => hz.move (Nat.le_refl _) (Nat.le_refl _) (fun _ _ => rfl) (fun _ _ => rfl) (fun _ h => h) (fun i hi => putBlk_ne (hne i hi))
  have mvi : ∀ ys us, IReps E.im w ys us → IReps E.im (putBlk w g (splice cur.toList k (a.eval v).cells.toList) x.ty) ys us := fun ys us h => h.move (fun _ h => h) (fun i hi => putBlk_ne (hne i hi))
  have hsplice : IReps E.im w (splice x.cs k (st.ev G.Γ v).cells) (splice xs k (a.eval v).cells.toList) := by
    have hp' : ∀ (l : List PV) (us : List Value) (o : Nat) (zs : List PV) (qs : List Value), IReps E.im w zs qs → IReps E.im w l us → IReps E.im w (splice zs o l) (splice qs o us) := by
      intro l
      induction l with
      | nil => intro us o zs qs hq hl; rw [List.eq_nil_of_length_eq_zero hl.1]; exact hq
      | cons y ys ih =>
        intro us o zs qs hq hl
        cases us with
        | nil => have := hl.1; simp at this
        | cons u us =>
          refine ih us (o + 1) _ _ ⟨by simp [hq.1], fun j x v hx hv => ?_⟩ ⟨by simpa using hl.1, fun j x v hx hv => hl.2 (j + 1) x v (by simpa using hx) (by simpa using hv)⟩
          by_cases hoj : o = j
          · subst hoj
            have hj := (List.getElem?_eq_some_iff.1 hx).1
            have hj2 := (List.getElem?_eq_some_iff.1 hv).1
            simp only [List.length_set] at hj hj2
            rw [List.getElem?_set_self hj] at hx
            rw [List.getElem?_set_self hj2] at hv
            cases hx; cases hv
            exact hl.2 0 y u rfl rfl
          · rw [List.getElem?_set_ne hoj] at hx hv
            exact hq.2 j x v hx hv
    exact hp' _ _ k _ _ hxs (hv.pure hpure)
  unfold Oper.wp execOp
  have hadd : (⟨g, 0, none⟩ : Addr).add k = ⟨g, k, none⟩ := by rw [add_none]; simp
  simp only [ho, he, hadd, Sem.run_bind, hrun, Result.andThen, Sem.run_pure, Oper.upon, hdst, Act.put]
  refine ⟨_, E, h, hr.defers, hr.size, hr.fr.move mv, ⟨hr.hp.nb, by simp [AS.storeRow, hr.hp.nr], by rw [putBlk_size]; exact hr.hp.lo, fun i b hb => ?_, fun j s hj => ?_, hr.hp.inj, fun i j s t k' hi hj => ?_, fun i j s hi hj => ?_, fun k' hk => by rw [putBlk_size]; exact hr.hp.im_lt k' hk, hr.hp.im_b, fun k' j s hj hk => ?_, ⟨by rw [putBlk_size]; exact hr.hp.gl.1, fun g' cs hgl => (hr.hp.gl.2 g' cs hgl).move (fun _ h => h) (fun i hi => putBlk_ne (hne i hi))⟩⟩,
    hr.lo, hr.nb, hr.β, hr.own, hr.up, hr.dn, fun k' h1' h2' h3' => (putBlk_ne fun he' => ?_).trans (hr.keep k' h1' h2' h3'), hr.os, hr.tape, hr.out, (by rw [putBlk_size]; exact hr.sz), fun j s k' hj hk => by
      simp only [AS.storeRow] at hj
      by_cases hjr : r = j
      · subst hjr; exact hr.rows _ x k' hx hk
      · rw [List.getElem?_set_ne hjr] at hj; exact hr.rows j s k' hj hk⟩
  · obtain ⟨vs, hvs, hvr⟩ := hr.hp.box i b hb
    have hin : i < E.nb := by rw [hr.hp.nb]; exact (List.getElem?_eq_some_iff.1 hb).1
    exact ⟨vs, (putBlk_ne fun he' => hr.hp.brw i r x hin hx (by rw [hgb, he'])).trans hvs, hvr.move mv⟩
  · by_cases hjr : r = j
    · subst hjr
      simp only [AS.storeRow] at hj
      rw [List.getElem?_set_self (List.getElem?_eq_some_iff.1 hx).1] at hj
      cases hj
      refine ⟨splice xs k (a.eval v).cells.toList, ⟨by rw [splice_length]; exact hxl, .inr ⟨g, c, (splice cur.toList k (a.eval v).cells.toList).toArray, hρ, hlo, putBlk_at (lt_of_some hg), hnc, hcap, by simp [splice_length, hcs], ?_⟩⟩, mvi _ _ hsplice, fun u hu => ?_⟩
      · simp only []
        rw [splice_take _ _ _ _ (by rw [← hxl, hnl]; exact hle), htk]
      · have hsub : ∀ (l : List Value) (us : List Value) (o : Nat), u ∈ splice l o us → u ∈ l ∨ u ∈ us := by
          intro l us
          induction us generalizing l with
          | nil => intro o h; exact .inl h
          | cons y ys ih =>
            intro o h
            rcases ih _ _ h with h | h
            · rcases List.mem_or_eq_of_mem_set h with h | h
              · exact .inl h
              · exact .inr (by rw [h]; simp)
            · exact .inr (by simp [h])
        rcases hsub _ _ _ hu with h | h
        · exact h1x u h
        · exact hone u h
    · simp only [AS.storeRow] at hj
      rw [List.getElem?_set_ne hjr] at hj
      obtain ⟨ys, hoy, hy, h1y⟩ := hr.hp.row j s hj
      exact ⟨ys, ownsRow_move hoy fun k' hk => putBlk_ne fun he' => hjr (hr.hp.rinj r j x s g hx hj hgb (he' ▸ hk)), mvi _ _ hy, h1y⟩
  all_goals
    have gone : ∀ (j : Nat) (s : Row), (st.h.rw.set r (some ⟨splice x.cs k (st.ev G.Γ v).cells, x.n, x.ty, x.sz⟩))[j]? = some (some s) → ∃ s', st.h.rw[j]? = some (some s') := fun j s hj => by
      by_cases hjr : r = j
      · subst hjr; exact ⟨x, hx⟩
      · rw [List.getElem?_set_ne hjr] at hj; exact ⟨s, hj⟩
  · obtain ⟨s', hi'⟩ := gone i s hi
    obtain ⟨t', hj'⟩ := gone j t hj
    exact hr.hp.rinj i j s' t' k' hi' hj'
  · obtain ⟨s', hj'⟩ := gone j s hj
    exact hr.hp.brw i j s' hi hj'
  · obtain ⟨s', hj'⟩ := gone j s hj
    exact hr.hp.im_r k' j s' hj' hk
  · rcases hr.rows r x g hx hgb with h | h
    · omega
    · exact h3' (he' ▸ h)
end
end Go.AS
namespace Go.AS
open Go.RowKit
set_option linter.unusedVariables false
set_option linter.unusedSimpArgs false
/- References to the first m boxes alone. -/
mutual
def PV.sc (m : Nat) : PV → Bool
  | .own _ _ | .rpos _ _ => false
  | .ptr b _ => decide (b < m)
  | .bsl b _ _ => decide (b < m)
  | .func _ cap => scL m cap
  | .agg cs => scL m cs
  | .tup cs => scL m cs
  | .iface _ x => x.sc m
  | .int _ _ | .bool _ | .str _ | .slice _ _ | .nil | .epos _ | .nilptr | .nilfunc | .niliface | .exact _ | .sl _ _ _ | .junk => true
def scL (m : Nat) : List PV → Bool
  | [] => true
  | x :: xs => x.sc m && scL m xs
end
theorem scL_get {m : Nat} {xs : List PV} (h : scL m xs = true) {j : Nat} {x : PV} (hj : xs[j]? = some x) : x.sc m = true := by
  induction xs generalizing j with
  | nil => simp at hj
  | cons y ys ih =>
    simp only [scL, Bool.and_eq_true] at h
    cases j with
    | zero => simp at hj; subst hj; exact h.1
    | succ j => exact ih h.2 (by simpa using hj)
theorem VRep.sc {E E' : Env} {w : World} {x : PV} {v : Value} {m : Nat} (h : VRep E w x v) (hs : x.sc m = true) (hm : m ≤ E'.nb) (hβ : ∀ i, i < m → E'.β i = E.β i) (hi : E'.im = E.im) : VRep E' w x v := by
  induction h with
  | imm h => exact .imm (by rw [hi]; exact h)
  | own | rpos => simp [PV.sc] at hs
  | ptr o hb =>
    simp only [PV.sc, decide_eq_true_eq] at hs
    rw [← hβ _ hs]
    exact .ptr o (Nat.lt_of_lt_of_le hs hm)
  | bsl hb hn =>
    simp only [PV.sc, decide_eq_true_eq] at hs
    rw [← hβ _ hs]
    exact .bsl (Nat.lt_of_lt_of_le hs hm) hn
  | func hl _ ih => exact .func hl fun j x v hx hv => ih j x v hx hv (scL_get (by simpa [PV.sc] using hs) hx)
  | agg hl _ ih => exact .agg hl fun j x v hx hv => ih j x v hx hv (scL_get (by simpa [PV.sc] using hs) hx)
  | tup hl _ ih => exact .tup hl fun j x v hx hv => ih j x v hx hv (scL_get (by simpa [PV.sc] using hs) hx)
  | iface t _ ih => exact .iface t (ih (by simpa [PV.sc] using hs))
  | junk v => exact .junk v
inductive Out where
  | ret (r : PV)
  | pan (x : PV)
def OutR (E : Env) (w : World) : Out → Ending → Prop
  | .ret r, e => ∃ v, e = .returned v ∧ VRep E w r v
  | .pan x, e => ∃ v, e = .panicked [{ v, recovered := false }] ∧ VRep E w x v
structure PExt (nb : Nat) (E : Env) (w : World) (E' : Env) (w' : World) : Prop where
  sz : w.heap.size ≤ w'.heap.size
  os : w'.os = w.os
  tape : w'.tape = w.tape
  out : w'.output = w.output
  keep : ∀ k, k < w.heap.size → (∀ i, i < nb → E.β i ≠ k) → w'.heap[k]? = w.heap[k]?
  more : nb ≤ E'.nb
  β : ∀ i, i < nb → E'.β i = E.β i
  up : ∀ k, E.im k → E'.im k
  dn : ∀ k, E'.im k → E.im k ∨ w.heap.size ≤ k
  own : ∀ i, nb ≤ i → i < E'.nb → w.heap.size ≤ E'.β i
def PCalls (G : Prg) (f : FuncId) (args : List PV) (bx : List Box) (R : Out → List Box → Prop) : Prop :=
  ∀ E w vs, HRep G.Γ E w ⟨bx, []⟩ → VReps E w args vs → Calls G.P f vs.toArray w fun e w' => ∃ o bx' E', R o bx' ∧ OutR E' w' o e ∧ HRep G.Γ E' w' ⟨bx', []⟩ ∧ PExt bx.length E w E' w'
theorem PCalls.mono {G : Prg} {f : FuncId} {args : List PV} {bx : List Box} {R R' : Out → List Box → Prop} (h : PCalls G f args bx R) (hr : ∀ o b, R o b → R' o b) : PCalls G f args bx R' := fun E w vs h1 h2 =>
  (h E w vs h1 h2).mono fun e w' ⟨o, b, E', r, rest⟩ => ⟨o, b, E', hr _ _ r, rest⟩
def Pure (G : Prg) (f : FuncId) (args : List PV) (R : PV → Prop) : Prop := PCalls G f args [] fun o b => b = [] ∧ ∃ r, o = .ret r ∧ R r
def enum (i : Nat) : List PV → List (Nat × PV)
  | [] => []
  | x :: xs => (i, x) :: enum (i + 1) xs
theorem lk_enum {E : Env} {w : World} : ∀ (xs : List PV) (vs : List Value) (i n s : Nat), VReps E w xs vs → VRep E w (lk (enum i xs) s) ((vs ++ List.replicate n undef).getD (s - i) undef) ∨ s < i := by
  intro xs
  induction xs with
  | nil => intro vs i n s h; exact .inl (.junk _)
  | cons x xs ih =>
    intro vs i n s h
    obtain ⟨v, us, rfl, hv, hus⟩ := h.cons_inv
    simp only [enum, lk]
    by_cases hs : i = s
    · subst hs; rw [if_pos rfl]; left; simpa using hv
    · rw [if_neg hs]
      rcases Nat.lt_or_ge s i with hlt | hge
      · exact .inr hlt
      · rcases ih us (i + 1) n s hus with h | h
        · left
          have : s - i = (s - (i + 1)) + 1 := by omega
          rw [this]
          simpa using h
        · omega
def AS.tmps (G : Prg) (st : AS) : List ResultVar → Option (List PV)
  | [] => some []
  | .tmp t :: r => (st.tmps G r).map (lk st.t t :: ·)
  | .cell a t :: r => match aload G st t (lk st.t a) with
    | some x => (st.tmps G r).map (x :: ·)
    | none => none
def aret (G : Prg) (fn : Func) (st : AS) : Option PV :=
  match st.tmps G fn.results.toList with
  | some [x] => some x
  | some xs => some (.tup xs)
  | none => none
def resVal (tmps : Array Value) : ResultVar → Sem Value
  | .tmp t => pure (tmps.getD t undef)
  | .cell a t => do loadVar t (← asAddr (tmps.getD a undef))
theorem results_eq (fn : Func) (tmps : Array Value) : results fn tmps = (do
  let vs ← fn.results.mapM (resVal tmps)
  pure (if h : vs.size = 1 then vs[0] else .tuple vs)) := by
  unfold results
  congr 1
theorem tmps_ok {G : Prg} {E : Env} {w : World} {st : AS} {tmps : Array Value} (hf : FRep E w st.t tmps) (hh : HRep G.Γ E w st.h) : ∀ (rs : List ResultVar) (xs : List PV), st.tmps G rs = some xs →
    ∃ vs, (rs.mapM (resVal tmps)).run G.P w = .ok vs w ∧ VReps E w xs vs := by
  intro rs
  induction rs with
  | nil => intro xs h; simp only [AS.tmps] at h; cases h; exact ⟨[], by simp, .nil _ _⟩
  | cons r rs ih =>
    intro xs h
    cases r with
    | cell a t =>
      simp only [AS.tmps] at h
      split at h
      · rename_i x hx
        obtain ⟨ys, hys, rfl⟩ := Option.map_eq_some_iff.1 h
        obtain ⟨vs, h1, h2⟩ := ih ys hys
        obtain ⟨u, hu, hur⟩ := aload_ok hh hx (hf a)
        have hu' := hu w (Gr.refl w)
        refine ⟨u :: vs, ?_, .cons hur h2⟩
        have : (resVal tmps (.cell a t)).run G.P w = .ok u w := by
          simp only [resVal]
          rw [← hu']
          simp only [Instr.loadAt, Instr.sureAddr]
          have hp : ∃ ad, tmps.getD a undef = .pointer (some ad) := by
            unfold aload at hx
            split at hx
            · rename_i td cs hT hcs
              split at hx
              · rename_i hsz
                obtain ⟨ad, _, he, _⟩ := cellsAt_ok hh hcs (hf a) (by omega)
                exact ⟨ad, he⟩
              · cases hx
            · cases hx
          obtain ⟨ad, he⟩ := hp
          rw [he]
          simp [asAddr, Result.andThen]
        simp only [List.mapM_cons, Sem.run_bind, Sem.run_pure, h1, Result.andThen, this]
      · cases h
    | tmp t =>
      simp only [AS.tmps] at h
      obtain ⟨ys, hys, rfl⟩ := Option.map_eq_some_iff.1 h
      obtain ⟨vs, h1, h2⟩ := ih ys hys
      exact ⟨tmps.getD t undef :: vs, by simp only [List.mapM_cons, Sem.run_bind, Sem.run_pure, h1, Result.andThen, resVal], .cons (hf t) h2⟩
theorem aret_ok {G : Prg} {E : Env} {w : World} {st : AS} {tmps : Array Value} {fn : Func} {r : PV} (hf : FRep E w st.t tmps) (hh : HRep G.Γ E w st.h) (h : aret G fn st = some r) : ∃ v, (results fn tmps).run G.P w = .ok v w ∧ VRep E w r v := by
  unfold aret at h
  cases ht : st.tmps G fn.results.toList with
  | none => rw [ht] at h; simp at h
  | some xs =>
    obtain ⟨vs, h1, h2⟩ := tmps_ok hf hh _ _ ht
    have hrun : (fn.results.mapM (resVal tmps)).run G.P w = .ok vs.toArray w := by
      rw [Array.mapM_eq_mapM_toList]
      simp only [Sem.run_map, h1, Result.andThen]
    rw [ht] at h
    rw [results_eq]
    simp only [Sem.run_bind, hrun, Result.andThen, Sem.run_pure]
    cases xs with
    | nil =>
      cases h
      obtain rfl := h2.nil_inv
      exact ⟨.tuple #[], rfl, .tup (vs := []) rfl (fun j x v h => by simp at h)⟩
    | cons x xs =>
      obtain ⟨v, us, rfl, hv, hus⟩ := h2.cons_inv
      cases xs with
      | nil =>
        cases h
        obtain rfl := hus.nil_inv
        exact ⟨v, rfl, hv⟩
      | cons y ys =>
        cases h
        obtain ⟨u, us', rfl, hu, hus'⟩ := hus.cons_inv
        exact ⟨.tuple (v :: u :: us').toArray, by simp, .tup (by simp [hus'.1]) h2.2⟩
def Fin (G : Prg) (fn : Func) (nb : Nat) (R : Out → List Box → Prop) : AEx → AS → Prop
  | .normal, st | .ret, st => ∃ (m : Nat) (r : PV), nb ≤ m ∧ m ≤ st.h.bx.length ∧ aret G fn st = some r ∧ r.sc m = true ∧ ((st.h.bx.take m).all fun b => scL m b.cs) = true ∧ R (.ret r) (st.h.bx.take m)
  | .panic x, st => ∃ (m : Nat), nb ≤ m ∧ m ≤ st.h.bx.length ∧ x.sc m = true ∧ ((st.h.bx.take m).all fun b => scL m b.cs) = true ∧ R (.pan x) (st.h.bx.take m)
  | .exit _, _ => False
theorem close_hp {G : Prg} {C : Ctx} {E : Env} {st : AS} {a : Act} {w : World} (hr : Rel G C E st a w) {m : Nat} (h2 : m ≤ st.h.bx.length) (h3 : ((st.h.bx.take m).all fun b => scL m b.cs) = true) :
    HRep G.Γ { E with nb := m, nr := 0 } w ⟨st.h.bx.take m, []⟩ := by
  have hnb := hr.hp.nb
  refine ⟨by simp; omega, rfl, hr.hp.lo, fun i b hb => ?_, fun j s hj => by simp at hj, fun i j hi hj => hr.hp.inj i j (by simp only [] at hi; omega) (by simp only [] at hj; omega), fun i j r s k hi => by simp at hi, fun i j r hi hj => by simp at hj, hr.hp.im_lt, fun k i hi => hr.hp.im_b k i (by simp only [] at hi; omega), fun k j r hj => by simp at hj, hr.hp.gl⟩
  have hsc : scL m b.cs = true := List.all_eq_true.1 h3 b (List.mem_of_getElem? hb)
  simp only [List.getElem?_take] at hb
  split at hb
  · obtain ⟨vs, hv, hvr⟩ := hr.hp.box i b hb
    exact ⟨vs, hv, hvr.1, fun j x v hx hv' => (hvr.2 j x v hx hv').sc (scL_get hsc hx) (Nat.le_refl _) (fun _ _ => rfl) rfl⟩
  · cases hb
theorem close_ok {G : Prg} {C : Ctx} {E : Env} {st : AS} {a : Act} {w : World} (hr : Rel G C E st a w) (hw : ∀ k, ¬ C.wr k) {m : Nat} (h1 : C.nb ≤ m) (h2 : m ≤ st.h.bx.length) (h3 : ((st.h.bx.take m).all fun b => scL m b.cs) = true) :
    HRep G.Γ { E with nb := m, nr := 0 } w ⟨st.h.bx.take m, []⟩ ∧ PExt C.nb { C.E0 with lo := C.w0.heap.size } C.w0 { E with nb := m, nr := 0 } w := by
  have hnb := hr.hp.nb
  exact ⟨close_hp hr h2 h3,
    ⟨hr.sz, hr.os, hr.tape, hr.out, fun k g1 g2 => hr.keep k g1 g2 (hw k), h1, hr.β, hr.up, fun k hk => (hr.dn k hk).imp id fun h => h.resolve_right (hw k), fun i hi hj => hr.own i hi (by simp only [] at hj; omega)⟩⟩
theorem PCalls.of_swpL {G : Prg} {f : FuncId} {fn : Func} {c : Code} {args : List PV} {bx : List Box} {R : Out → List Box → Prop} (hf : G.P.funcs[f]? = some fn) (hb : fn.body = some c) (hn : args.length ≤ fn.ntmps)
    (h : ∀ w0 E0, G.Γ.lo ≤ w0.heap.size → SWP G (Ctx.of w0 E0 bx.length fn.ntmps) c (Fin G fn bx.length R) ⟨enum 0 args, ⟨bx, []⟩⟩) : PCalls G f args bx R := fun E w vs hh hv => by
  refine calls_of_wp hf hb ?_
  have hE : HRep G.Γ { E with lo := w.heap.size } w ⟨bx, []⟩ := ⟨hh.nb, hh.nr, Nat.le_refl _, fun i b hb => by
    obtain ⟨us, h1, h2⟩ := hh.box i b hb
    exact ⟨us, h1, h2.move fun x v hx => hx.move (Nat.le_refl _) (Nat.le_refl _) (fun _ _ => rfl) (fun _ _ => rfl) (fun _ h => h) (fun _ _ => rfl)⟩, fun i r hr => by simp at hr, hh.inj, hh.rinj, hh.brw, hh.im_lt, hh.im_b, hh.im_r, hh.gl⟩
  have hv' : VReps { E with lo := w.heap.size } w args vs := hv.move fun x v hx => hx.move (Nat.le_refl _) (Nat.le_refl _) (fun _ _ => rfl) (fun _ _ => rfl) (fun _ h => h) (fun _ _ => rfl)
  have hrel : Rel G (Ctx.of w E bx.length fn.ntmps) { E with lo := w.heap.size } ⟨enum 0 args, ⟨bx, []⟩⟩ { tmps := vs.toArray ++ Array.replicate (fn.ntmps - vs.toArray.size) undef, defers := [] } w :=
    ⟨rfl, by simp [hv.1]; omega, fun s => by
      rcases lk_enum args vs 0 (fn.ntmps - vs.length) s hv' with h | h
      · have e : (vs.toArray ++ Array.replicate (fn.ntmps - vs.toArray.size) undef).getD s undef = (vs ++ List.replicate (fn.ntmps - vs.length) undef).getD (s - 0) undef := by
          rw [Array.getD_eq_getD_getElem?, List.getD, ← Array.getElem?_toList]
          simp
        rw [e]
        exact h
      · omega, hE, rfl, by simp [hh.nb], fun _ _ => rfl, fun i h1 h2 => absurd (show i < bx.length from hh.nb ▸ h2) (Nat.not_lt.2 h1), fun _ h => h, fun _ h => .inl h, fun _ _ _ _ => rfl, rfl, rfl, rfl, Nat.le_refl _, fun j s k hj => by simp at hj⟩
  refine wp_mono (h w E hh.gl.1 _ _ _ hrel) fun e a' w' ⟨ae, s, E', q, x, r⟩ => ?_
  have fin : ∀ (hq : ∃ (m : Nat) (rv : PV), bx.length ≤ m ∧ m ≤ s.h.bx.length ∧ aret G fn s = some rv ∧ rv.sc m = true ∧ ((s.h.bx.take m).all fun b => scL m b.cs) = true ∧ R (.ret rv) (s.h.bx.take m)),
      a'.defers = [] ∧ ∃ v, (results fn a'.tmps).run G.P w' = .ok v w' ∧ ∃ o bx' E', R o bx' ∧ OutR E' w' o (.returned v) ∧ HRep G.Γ E' w' ⟨bx', []⟩ ∧ PExt bx.length E w E' w' := fun ⟨m, rv, h1, h2, h3, h4, h5, h6⟩ => by
    obtain ⟨v, hv1, hv2⟩ := aret_ok r.fr r.hp h3
    obtain ⟨k1, k2⟩ := close_ok r (fun _ h => h) h1 h2 h5
    exact ⟨r.defers, v, hv1, _, _, { E' with nb := m, nr := 0 }, h6, ⟨v, rfl, hv2.sc h4 (Nat.le_refl _) (fun _ _ => rfl) rfl⟩, k1, ⟨k2.sz, k2.os, k2.tape, k2.out, k2.keep, k2.more, k2.β, k2.up, k2.dn, k2.own⟩⟩
  cases ae with
  | normal => cases x; exact fin q
  | ret => cases x; exact fin q
  | exit i => exact q.elim
  | panic y =>
    obtain ⟨v, rfl, hv⟩ := x
    obtain ⟨m, h1, h2, h4, h5, h6⟩ := q
    obtain ⟨k1, k2⟩ := close_ok r (fun _ h => h) h1 h2 h5
    exact ⟨r.defers, _, _, { E' with nb := m, nr := 0 }, h6, ⟨v, rfl, hv.sc h4 (Nat.le_refl _) (fun _ _ => rfl) rfl⟩, k1, ⟨k2.sz, k2.os, k2.tape, k2.out, k2.keep, k2.more, k2.β, k2.up, k2.dn, k2.own⟩⟩
theorem PCalls.of_swp {G : Prg} {f : FuncId} {fn : Func} {c : Code} {args : List PV} {bx : List Box} {R : Out → List Box → Prop} (hf : G.P.funcs[f]? = some fn) (hb : fn.body = some c) (hn : args.length ≤ fn.ntmps)
    (h : ∀ w0 E0, SWP G (Ctx.of w0 E0 bx.length fn.ntmps) c (Fin G fn bx.length R) ⟨enum 0 args, ⟨bx, []⟩⟩) : PCalls G f args bx R := .of_swpL hf hb hn fun w0 E0 _ => h w0 E0
section
variable {G : Prg} {C : Ctx} {Q : AEx → AS → Prop} {K : AS → Prop} {st : AS} {E : Env} {a : Act} {w w' : World}
theorem Rel.more (hr : Rel G C E st a w) {im : Nat → Prop} {w' : World} (hs : w.heap.size ≤ w'.heap.size) (hk : ∀ k, k < w.heap.size → w'.heap[k]? = w.heap[k]?) (ho : w'.os = w.os) (ht : w'.tape = w.tape) (hu : w'.output = w.output)
    (hup : ∀ k, E.im k → im k) (hdn : ∀ k, im k → E.im k ∨ w.heap.size ≤ k) (hlt : ∀ k, im k → k < w'.heap.size) : Rel G C (E.more im) st a w' := by
  have hg := hr.grow hs hk ho ht hu
  refine ⟨hg.defers, hg.size, hg.fr.move fun x v hx => hx.more hup, hg.hp.more hup hlt (fun k i h1 h2 => ?_) (fun k j s h1 h2 => ?_), hg.lo, hg.nb, hg.β, hg.own, fun k h => hup k (hg.up k h), fun k h => ?_, hg.keep, hg.os, hg.tape, hg.out, hg.sz, hg.rows⟩
  · rcases hdn k h2 with h2 | h2
    · exact hr.hp.im_b k i h1 h2
    · have := hr.hp.bx_lt h1; omega
  · rcases hdn k h2 with h2 | h2
    · exact hr.hp.im_r k j s h1 h2
    · intro hc
      obtain ⟨xs, ho, _⟩ := hr.hp.row j s h1
      have := (ownsRow_lt ho hc).2
      omega
  · rcases hdn k h with h | h
    · exact hr.dn k h
    · exact .inr (.inl (Nat.le_trans hr.sz h))
theorem callFunc_enter {P : Program} {f : FuncId} {fn : Func} (hf : P.funcs[f]? = some fn) (hname : (fn.name == "runtime.NumGoroutine") = false) (hb : fn.body.isSome = true) (args : Array Value) (w : World) : (callFunc f args).run P w = .ok (.enter f args) w := by
  have hn : fn.body.isNone = false := by cases h : fn.body <;> simp_all
  simp only [callFunc, Sem.run_bind, run_program, Result.andThen, hf, hname, hn, Bool.false_eq_true, if_false, Sem.run_pure]
def Prg.meth (G : Prg) (t : TypeId) (n : String) : Option FuncId := match G.P.info? t with
  | some i => match G.P.underlying t with
    | some d => match i.methods.find? (fun m => m.name == n) with
      | some m => match m.path.toList with
        | [] => match m.func with
          | some (f, true) => match d with
            | .pointer _ => some f
            | _ => none
          | some (f, false) => match d with
            | .pointer _ => none
            | _ => some f
          | none => none
        | _ => none
      | none => none
    | none => none
  | none => none
theorem meth_ok {t : TypeId} {n : String} {f : FuncId} (h : G.meth t n = some f) (k : Nat) (v : Value) (w : World) : (method (k + 1) t v n).run G.P w = .ok (f, v) w := by
  unfold Prg.meth at h
  split at h
  · rename_i i hi
    split at h
    · rename_i d hd
      split at h
      · rename_i m hm
        split at h
        · rename_i hp
          have hti : (typeInfo t).run G.P w = .ok i w := by simp [typeInfo, hi]
          have hun : (underlying t).run G.P w = .ok d w := wf_und hd w
          split at h
          · rename_i f' hf
            split at h
            · cases h
              simp [method, hti, hm, hp, follow, hf, receiverAt, hun, Place.get, Result.andThen]
            · cases h
          · rename_i f' hf
            split at h
            · cases h
            · rename_i hnp
              cases h
              simp only [method, Sem.run_bind, hti, Result.andThen, hm, hp, follow, Sem.run_pure, hf, receiverAt, hun]
              cases d <;> first | (exact absurd rfl (hnp _)) | simp [Place.get, Result.andThen]
          · cases h
        · cases h
      · cases h
    · cases h
  · cases h
def target (st : AS) (G : Prg) (c : Call) : Option (FuncId × List PV) :=
  match c.callee with
  | .value f => match st.ev G.Γ f with
    | .func (.func g) cap => some (g, c.args.toList.map (st.ev G.Γ) ++ cap)
    | _ => none
  | .invoke x n => match st.ev G.Γ x with
    | .iface t v => match G.meth t n with
      | some f => some (f, v :: c.args.toList.map (st.ev G.Γ))
      | none => none
    | _ => none
  | _ => none
theorem target_run {o : Oper} {c : Call} {f : FuncId} {args : List PV} (ho : o.op = .call c) (ht : target st G c = some (f, args)) (hr : Rel G C E st a w) :
    ∃ vs : List Value, (execOp a.eval o).run G.P w = (callFunc f vs.toArray).run G.P w ∧ VReps E w args vs := by
  obtain ⟨callee, ars, ts⟩ := c
  unfold target at ht
  cases callee with
  | builtin _ => simp at ht
  | invoke g n =>
    simp only [] at ht
    split at ht
    · rename_i t x he
      split at ht
      · rename_i f' hm
        cases ht
        have hg := ev_rep hr.fr hr.hp g
        rw [he] at hg
        obtain ⟨u, hu, hur⟩ := hg.iface_inv
        refine ⟨u :: ars.toList.map a.eval, ?_, .cons hur (evs_rep hr.fr hr.hp ars.toList)⟩
        have hme := meth_ok hm (G.P.types.size + 99) u w
        have e1 : #[u] ++ (#[Value.iface t u] ++ ars.map a.eval).extract 1 (#[Value.iface t u] ++ ars.map a.eval).size = (u :: ars.toList.map a.eval).toArray := by
          apply Array.ext'
          simp
          exact List.take_of_length_le (by simp)
        simp only [execOp, ho, Sem.run_bind, resolve, hu, Sem.run_pure, Result.andThen, invoke]
        have e0 : (#[Value.iface t u] ++ ars.map a.eval)[0]? = some (Value.iface t u) := by rw [Array.getElem?_append_left (Nat.le_refl 1)]; rfl
        simp only [e0, callMethod, Sem.run_bind, run_program, Result.andThen]
        rw [show G.P.types.size + Made.depth = G.P.types.size + 99 + 1 from rfl, hme]
        simp only [e1]
      · cases ht
    · cases ht
  | value g =>
    simp only [] at ht
    split at ht
    · rename_i g' cap he
      cases ht
      have hg := ev_rep hr.fr hr.hp g
      rw [he] at hg
      obtain ⟨us, hu, hur⟩ := hg.func_inv
      refine ⟨ars.toList.map a.eval ++ us, ?_, (evs_rep hr.fr hr.hp ars.toList).append hur⟩
      simp only [execOp, ho, Sem.run_bind, resolve, hu, Deferred.ofValue, Sem.run_pure, Result.andThen, invoke]
      congr 2
      apply Array.ext'
      simp
    · cases ht
theorem target_ok {o : Oper} {c : Call} {f : FuncId} {fn : Func} {args : List PV} (ho : o.op = .call c) (ht : target st G c = some (f, args)) (hf : G.P.funcs[f]? = some fn) (hname : (fn.name == "runtime.NumGoroutine") = false) (hb : fn.body.isSome = true) (hr : Rel G C E st a w) :
    ∃ vs : List Value, (execOp a.eval o).run G.P w = .ok (.enter f vs.toArray) w ∧ VReps E w args vs := by
  obtain ⟨vs, h1, h2⟩ := target_run ho ht hr
  exact ⟨vs, by rw [h1, callFunc_enter hf hname hb], h2⟩
end
end Go.AS
namespace Go.AS
open Go.RowKit
set_option linter.unusedVariables false
set_option linter.unusedSimpArgs false
def waits (ops : Array Oper) (i : Nat) : Nat → Nat → Bool
  | 0, _ => false
  | n + 1, d => match ops[d]? with
    | some o => o.after.any fun e => Region.binds .any e && (e.on == i || waits ops i n e.on)
    | none => false
def Closed (ops : Array Oper) (l : Array Bool) : Prop := ∀ (d : Nat) (o : Oper), ops[d]? = some o → l.getD d false = true → ∀ e ∈ o.after, Region.binds .any e = true → l.getD e.on false = true
def closedB (ops : Array Oper) (l : Array Bool) : Bool := (List.range ops.size).all fun d => !l.getD d false || match ops[d]? with
  | some o => o.after.all fun e => !Region.binds .any e || l.getD e.on false
  | none => true
theorem closed_of {ops : Array Oper} {l : Array Bool} (h : closedB ops l = true) : Closed ops l := fun d o ho hd e he hb => by
  have hlt := (Array.getElem?_eq_some_iff.1 ho).1
  have h1 := List.all_eq_true.1 h d (List.mem_range.2 hlt)
  rw [hd, ho] at h1
  simp only [Bool.not_true, Bool.false_or] at h1
  have h2 := Array.all_eq_true'.1 h1 e he
  rw [hb] at h2
  simpa using h2
theorem getD_set_self {l : Array Bool} {i : Nat} {b : Bool} (h : i < l.size) : (l.setIfInBounds i true).getD i b = true := by
  simp [Array.getD, h]
theorem getD_set_of {l : Array Bool} {i j : Nat} {b : Bool} (hij : i ≠ j) : (l.setIfInBounds i true).getD j b = l.getD j b := by
  simp [Array.getD_eq_getD_getElem?, hij]
theorem getD_true_set {l : Array Bool} {i j : Nat} (h : l.getD j false = true) : (l.setIfInBounds i true).getD j false = true := by
  by_cases hij : i = j
  · subst hij
    rcases Nat.lt_or_ge i l.size with hlt | hge
    · exact getD_set_self hlt
    · simp [Array.getD, Nat.not_lt.2 hge] at h
  · rw [getD_set_of hij]; exact h
theorem Closed.set {ops : Array Oper} {l : Array Bool} (h : Closed ops l) {i : Nat} (hi : i ∈ Region.ready .any ops l) : Closed ops (l.setIfInBounds i true) := fun d o ho hd e he hb => by
  by_cases hdi : i = d
  · subst hdi
    obtain ⟨_, o', ho', hall⟩ := mem_ready.1 hi
    rw [ho] at ho'
    cases ho'
    exact getD_true_set (hall e he hb)
  · rw [getD_set_of hdi] at hd
    exact getD_true_set (h d o ho hd e he hb)
theorem waits_listed {ops : Array Oper} {l : Array Bool} {i : Nat} (hc : Closed ops l) : ∀ (n d : Nat), waits ops i n d = true → l.getD d false = true → l.getD i false = true := by
  intro n
  induction n with
  | zero => intro d h; simp [waits] at h
  | succ n ih =>
    intro d h hd
    simp only [waits] at h
    cases ho : ops[d]? with
    | none => rw [ho] at h; cases h
    | some o =>
      rw [ho] at h
      obtain ⟨e, he, hb⟩ := Array.any_eq_true'.1 h
      simp only [Bool.and_eq_true, Bool.or_eq_true, beq_iff_eq] at hb
      have h1 := hc d o ho hd e he hb.1
      rcases hb.2 with h2 | h2
      · rw [h2] at h1; exact h1
      · exact ih e.on h2 h1
theorem getD_listed {l : Array Bool} {i : Nat} (h : l.getD i true = false) : l.getD i false = false := by
  rcases Nat.lt_or_ge i l.size with hlt | hge
  · simp [Array.getD, hlt] at h ⊢; exact h
  · simp [Array.getD, Nat.not_lt.2 hge] at h
theorem waits_not_ready {ops : Array Oper} {l : Array Bool} {i d n : Nat} (hc : Closed ops l) (hw : waits ops i n d = true) (hun : l.getD i true = false) : d ∉ Region.ready .any ops l := fun hd => by
  obtain ⟨_, o, ho, hall⟩ := mem_ready.1 hd
  have hf := getD_listed hun
  cases n with
  | zero => simp [waits] at hw
  | succ n =>
    simp only [waits, ho] at hw
    obtain ⟨e, he, hb⟩ := Array.any_eq_true'.1 hw
    simp only [Bool.and_eq_true, Bool.or_eq_true, beq_iff_eq] at hb
    have h1 := hall e he hb.1
    rcases hb.2 with h2 | h2
    · rw [h2, hf] at h1; cases h1
    · have := waits_listed hc n e.on h2 h1
      rw [hf] at this; cases this
section
variable {P : Program} {ops : Array Oper} {Q : Exit → Act → World → Prop} {ds : List Nat}
def wpG (P : Program) (ops : Array Oper) (Q : Exit → Act → World → Prop) (ds : List Nat) : Nat → Array Bool → Act → World → Prop
  | 0, l, a, w => Region.ready .any ops l = [] ∧ Q .normal a w
  | n + 1, l, a, w => (Region.ready .any ops l = [] → Q .normal a w) ∧
    ∀ i ∈ Region.ready .any ops l, wpOp P ops Q i (fun a' w' => (i ∉ ds → Gr w w' ∧ w.heap.size ≤ w'.heap.size) ∧ wpG P ops Q ds n (l.setIfInBounds i true) a' w') a w
theorem wpAny_of_G : ∀ (n : Nat) (l : Array Bool) (a : Act) (w : World), wpG P ops Q ds n l a w → wpAny P .any ops Q n l a w
  | 0, _, _, _, h => h
  | n + 1, _, _, _, h => ⟨h.1, fun i hi => wpOp_mono (fun a' w' h' => wpAny_of_G n _ a' w' h'.2) (h.2 i hi)⟩
theorem Gr.trans {a b c : World} (h : Gr a b) (k : Gr b c) (hs : a.heap.size ≤ b.heap.size) : Gr a c := fun i hi => (k i (Nat.lt_of_lt_of_le hi hs)).trans (h i hi)
def From (w0 : World) : World → Prop := fun w => Gr w0 w ∧ w0.heap.size ≤ w.heap.size
theorem wpG_first {i : Nat} {oi : Oper} {v : Value} {w0 : World} (hi : ops[i]? = some oi) (hsel : ∀ (j : Nat) (o : Oper) cs b, ops[j]? = some o → o.op ≠ .select cs b)
    (hQ : ∀ c a w, Q (.panic c) (a.put oi.dst v) w → Q (.panic c) a w) (n : Nat) :
    ∀ (fuel : Nat) (l : Array Bool) (a : Act) (w : World),
      (∀ j oj, ops[j]? = some oj → j ≠ i → l.getD j true = false → (∀ e ∈ oj.after, Region.binds .any e = true → e.on ≠ i) → oi.apart ops oj = true) →
      Closed ops l → (∀ d ∈ ds, l.getD d true = false → waits ops i n d = true) → i ∈ Region.ready .any ops l → YieldsIf P ops (From w0) oi v a → From w0 w →
      wpG P ops Q ds fuel (l.setIfInBounds i true) (a.put oi.dst v) w → wpG P ops Q ds (fuel + 1) l a w := by
  intro fuel
  induction fuel with
  | zero =>
    intro l a w _ _ _ hr hy hS H
    refine ⟨fun h => (by rw [h] at hr; cases hr), fun j hj => ?_⟩
    by_cases hji : j = i
    · subst hji; exact hy.wpOp hi hS ⟨fun _ => ⟨Gr.refl w, Nat.le_refl _⟩, H⟩
    · have := ready_mono hj hji
      rw [H.1] at this
      cases this
  | succ fuel ih =>
    intro l a w hfree hc hd hr hy hS H
    refine ⟨fun h => (by rw [h] at hr; cases hr), fun j hj => ?_⟩
    by_cases hji : j = i
    · subst hji; exact hy.wpOp hi hS ⟨fun _ => ⟨Gr.refl w, Nat.le_refl _⟩, H⟩
    · have h1 := H.2 j (ready_mono hj hji)
      obtain ⟨hjun, oj, hoj, hall⟩ := mem_ready.1 hj
      have hiun := (mem_ready.1 hr).1
      have hif := getD_listed hiun
      have hnot : ∀ e ∈ oj.after, Region.binds .any e = true → e.on ≠ i := fun e he hb heq => by
        have h1 := hall e he hb
        rw [heq, hif] at h1
        cases h1
      have hjd : j ∉ ds := fun hm => waits_not_ready hc (hd j hm hjun) hiun hj
      have h2 := wpOp_putIf hoj (hfree j oj hoj hji hjun hnot) (fun cs b => hsel i oi cs b hi) (fun cs b => hsel j oj cs b hoj) hQ hy h1
      have un : ∀ k, (l.setIfInBounds j true).getD k true = false → l.getD k true = false := fun k hun => by
        by_cases hjk : j = k
        · subst hjk; exact hjun
        · rw [getD_set_of hjk] at hun; exact hun
      refine wpOp_mono (fun a' w' h3 => ⟨fun _ => h3.2.1 hjd, ih (l.setIfInBounds j true) a' w' (fun k ok hk hki hun hno => hfree k ok hk hki (un k hun) hno) (hc.set hj) (fun d hm hun => hd d hm (un d hun)) (ready_mono hr (Ne.symm hji)) h3.1 ?_ ?_⟩) h2
      · have h4 := h3.2.1 hjd
        exact ⟨hS.1.trans h4.1 hS.2, Nat.le_trans hS.2 h4.2⟩
      · rw [Array.setIfInBounds_comm _ _ hji]
        exact h3.2.2
def takeOk (ops : Array Oper) (ds : List Nat) (l l' : Array Bool) (i : Nat) : Bool :=
  Region.noSelect ops && Region.free .any ops l i && (Region.ready .any ops l).contains i && closedB ops l && (ds.all fun d => l.getD d true || waits ops i ops.size d) && (l.setIfInBounds i true == l')
end
section
variable {G : Prg} {C : Ctx} {Q : AEx → AS → Prop} {st : AS} {ops : Array Oper} {ds : List Nat} {n : Nat}
def SAny (G : Prg) (C : Ctx) (ops : Array Oper) (Q : AEx → AS → Prop) (ds : List Nat) (n : Nat) (l : Array Bool) (st : AS) : Prop :=
  ∀ E a w, Rel G C E st a w → wpG G.P ops (Post G C Q) ds n l a w
def SOpG (G : Prg) (C : Ctx) (o : Oper) (Q : AEx → AS → Prop) (K : AS → Prop) (st : AS) : Prop :=
  ∀ E a w, Rel G C E st a w → o.wp G.P a w (fun a' w' => (Gr w w' ∧ w.heap.size ≤ w'.heap.size) ∧ ∃ s E', K s ∧ Rel G C E' s a' w') (Post G C Q)
theorem SOpG.op {o : Oper} {K : AS → Prop} (h : SOpG G C o Q K st) : SOp G C o Q K st := fun E a w hr => Oper.wp_mono (fun a' w' h => h.2) (h E a w hr)
theorem SWP.draw {id : Nat} (ds : List Nat) (l : Array Bool) (hl : Array.replicate ops.size false = l) (h : SAny G C ops Q ds ops.size l st) : SWP G C (.region id ops true) Q st := fun E a w hr => by
  subst hl
  have hr' : Rel G C E st a { w with drawn := w.drawn + 1 } := ⟨hr.defers, hr.size, hr.fr.move fun x v hv => hv.move (Nat.le_refl _) (Nat.le_refl _) (fun _ _ => rfl) (fun _ _ => rfl) (fun _ h => h) (fun _ _ => rfl), hr.hp.grow (Nat.le_refl _) (fun _ _ => rfl), hr.lo, hr.nb, hr.β, hr.own, hr.up, hr.dn, hr.keep, hr.os, hr.tape, hr.out, hr.sz, hr.rows⟩
  exact wp_region_any G.mo (wpAny_of_G _ _ _ _ (h E a _ hr'))
def PanicT (Q : AEx → AS → Prop) : Prop := ∀ x s, Q (.panic x) s → Q (.panic x) { s with t := [] }
theorem PanicT.put (h : PanicT Q) (d : Option Tmp) (v : Value) (c : List PanicEntry) (a : Act) (w : World) (hp : Post G C Q (.panic c) (a.put d v) w) : Post G C Q (.panic c) a w := by
  obtain ⟨ae, s, E, q, x, r⟩ := hp
  cases ae with
  | normal => cases x
  | exit i => cases x
  | ret => cases x
  | panic y =>
    have hsz : a.tmps.size = C.nt := by rw [← r.size]; cases d <;> simp [Act.put]
    have hdf : a.defers = C.df := by rw [← r.defers]; cases d <;> rfl
    exact ⟨.panic y, { s with t := [] }, E, h y s q, x, ⟨hdf, hsz, fun s => .junk _, r.hp, r.lo, r.nb, r.β, r.own, r.up, r.dn, r.keep, r.os, r.tape, r.out, r.sz, r.rows⟩⟩
theorem SAny.done {l : Array Bool} (hr : (Region.ready .any ops l == []) = true) (h : Q .normal st) : SAny G C ops Q ds n l st := fun E a w hrel => by
  have hr' : Region.ready .any ops l = [] := by simpa using hr
  have hp : Post G C Q .normal a w := ⟨.normal, st, E, h, rfl, hrel⟩
  cases n with
  | zero => exact ⟨hr', hp⟩
  | succ n => exact ⟨fun _ => hp, fun i hi => by rw [hr'] at hi; cases hi⟩
theorem wpOp_plain {P : Program} {Q : Exit → Act → World → Prop} {i : Nat} {o : Oper} (hi : ops[i]? = some o) (hg : o.guard = none) {K : Act → World → Prop} {a : Act} {w : World} (h : o.wp P a w K Q) : wpOp P ops Q i K a w := by
  unfold wpOp
  simp only [hi, Region.wanted, hg, if_true]
  exact .inl h
def readyOk (ops : Array Oper) (l : Array Bool) (rs : List (Nat × Array Bool)) : Bool := (Region.ready .any ops l == rs.map (·.1)) && rs.all fun p => l.setIfInBounds p.1 true == p.2
theorem SAny.one {i : Nat} {o : Oper} {l : Array Bool} (l' : Array Bool) (hi : ops[i]? = some o) (hg : o.guard = none) (hc : readyOk ops l [(i, l')] = true) (h : SOpG G C o Q (SAny G C ops Q ds n l') st) : SAny G C ops Q ds (n + 1) l st := fun E a w hr => by
  simp only [readyOk, Bool.and_eq_true, beq_iff_eq, List.map_cons, List.map_nil, List.all_cons, List.all_nil, and_true] at hc
  obtain ⟨h1, rfl⟩ := hc
  refine ⟨fun h0 => (by rw [h0] at h1; cases h1), fun j hj => ?_⟩
  rw [h1] at hj
  obtain rfl : j = i := by simpa using hj
  exact wpOp_plain hi hg (Oper.wp_mono (fun a' w' ⟨hgr, s, E', k, r⟩ => ⟨fun _ => hgr, k E' a' w' r⟩) (h E a w hr))
theorem SAny.last {i : Nat} {o : Oper} {l : Array Bool} (l' : Array Bool) (hi : ops[i]? = some o) (hg : o.guard = none) (hc : readyOk ops l [(i, l')] = true) (hd : (decide (i ∈ ds)) = true) (h : SOp G C o Q (SAny G C ops Q ds n l') st) : SAny G C ops Q ds (n + 1) l st := fun E a w hr => by
  simp only [readyOk, Bool.and_eq_true, beq_iff_eq, List.map_cons, List.map_nil, List.all_cons, List.all_nil, and_true] at hc
  obtain ⟨h1, rfl⟩ := hc
  refine ⟨fun h0 => (by rw [h0] at h1; cases h1), fun j hj => ?_⟩
  rw [h1] at hj
  obtain rfl : j = i := by simpa using hj
  exact wpOp_plain hi hg (Oper.wp_mono (fun a' w' ⟨s, E', k, r⟩ => ⟨fun hn => absurd (of_decide_eq_true hd) hn, k E' a' w' r⟩) (h E a w hr))
theorem SAny.two {i j : Nat} {oi oj : Oper} {l : Array Bool} (li lj : Array Bool) (hi : ops[i]? = some oi) (hj : ops[j]? = some oj) (hgi : oi.guard = none) (hgj : oj.guard = none) (hc : readyOk ops l [(i, li), (j, lj)] = true)
    (h1 : SOpG G C oi Q (SAny G C ops Q ds n li) st) (h2 : SOpG G C oj Q (SAny G C ops Q ds n lj) st) : SAny G C ops Q ds (n + 1) l st := fun E a w hr => by
  simp only [readyOk, Bool.and_eq_true, beq_iff_eq, List.map_cons, List.map_nil, List.all_cons, List.all_nil, and_true] at hc
  obtain ⟨h3, rfl, rfl⟩ := hc
  refine ⟨fun h0 => (by rw [h0] at h3; cases h3), fun k hk => ?_⟩
  rw [h3] at hk
  rcases (by simpa using hk : k = i ∨ k = j) with rfl | rfl
  · exact wpOp_plain hi hgi (Oper.wp_mono (fun a' w' ⟨hgr, s, E', k, r⟩ => ⟨fun _ => hgr, k E' a' w' r⟩) (h1 E a w hr))
  · exact wpOp_plain hj hgj (Oper.wp_mono (fun a' w' ⟨hgr, s, E', k, r⟩ => ⟨fun _ => hgr, k E' a' w' r⟩) (h2 E a w hr))
theorem SOpG.box {o : Oper} {K : AS → Prop} {t : TypeId} {x : Operand} (ho : o.op = .box t x) (hp : (st.ev G.Γ x).part = true) (hd : dstOk C.nt o.dst = true) (h : K (st.newBox (st.ev G.Γ x).cells t o.dst)) : SOpG G C o Q K st := fun E a w hr => by
  have hv := (ev_rep hr.fr hr.hp x).cells' hp
  unfold Oper.wp execOp
  simp only [ho, Instr.box, newVar, newRow, Sem.run_bind, run_newObj, Sem.run_pure, Result.andThen, Oper.upon]
  have := hr.newBoxPut hv t hd
  rw [Array.toArray_toList] at this
  exact ⟨⟨fun k hk => Below.heap_alloc w _ k hk, by simp⟩, _, E.newBox w.heap.size, h, this⟩
theorem SOpG.alloc {o : Oper} {K : AS → Prop} {t : TypeId} {td : TD} (ho : o.op = .alloc t) (ht : G.T t = some td) (hd : dstOk C.nt o.dst = true) (h : K (st.newBox td.zero t o.dst)) : SOpG G C o Q K st := fun E a w hr => by
  obtain ⟨i, z, hi, _, _, hz, hc⟩ := (G.hT _ _ ht).info
  have hv : VReps E w td.zero z.cells.toList := by rw [← hc]; exact cellsOf_rep _
  unfold Oper.wp execOp
  simp only [ho, Instr.alloc, zeroValue, typeInfo, newVar, newRow, Sem.run_bind, run_program, run_newObj, Sem.run_pure, Result.andThen, hi, hz, Oper.upon]
  have := hr.newBoxPut hv t hd
  rw [Array.toArray_toList] at this
  exact ⟨⟨fun k hk => Below.heap_alloc w _ k hk, by simp⟩, _, E.newBox w.heap.size, h, this⟩
theorem SOpG.buildSlice {o : Oper} {K : AS → Prop} {t e : TypeId} {tdt td : TD} {len : Nat} {parts : Array (Nat × Operand)} {out : List PV} (ho : o.op = .buildSlice t len parts) (ht : G.T t = some tdt) (hk : tdt.k = .slice e) (hte : G.T e = some td)
    (hout : abuildSlice td.size len (parts.toList.map fun p => (p.1, st.ev G.Γ p.2)) = some out) (hlim : len * td.size ≤ 16777216) (hp : pureL out = true) (h1 : allOne out = true) (hd : dstOk C.nt o.dst = true)
    (h : K (st.put o.dst (.slice len out))) : SOpG G C o Q K st := fun E a w hr => by
  obtain ⟨us, hrun, hus, hul⟩ := run_buildSlice (E := E) (w := w) (qs := parts.map fun p => (p.1, a.eval p.2)) ht hk hte hout hlim (by simp) (by
    have := evs_rep hr.fr hr.hp (parts.toList.map (·.2))
    simpa [Function.comp_def] using this)
  have hn := hr.newIm us e
  have hgr : ∀ k, k < w.heap.size → (w.alloc (.cells us.toArray e)).heap[k]? = w.heap[k]? := fun k hk => Below.heap_alloc w _ k hk
  have hus' : IReps (E.more fun k => E.im k ∨ k = w.heap.size).im (w.alloc (.cells us.toArray e)) out us := (hus.pure hp).move (fun k h => .inl h) (fun k hk => hgr k (hr.hp.im_lt k hk))
  unfold Oper.wp execOp
  simp only [ho, Sem.run_bind, hrun, Result.andThen, Sem.run_pure, Oper.upon]
  refine ⟨⟨hgr, by simp⟩, _, _, h, hn.put hd (.imm (.slice (Nat.le_refl _) hus'.1 (fun _ => .inr rfl) (fun j u hu => ?_) (allOne_ok hus h1) hus'.2))⟩
  rw [cell_of_blk (vs := us) (t := e) (fz := (0, 0)) (heap_alloc_new w _)]
  simpa using hu
theorem SOpG.call {o : Oper} {K : AS → Prop} {c : Call} {f : FuncId} {fn : Func} {args : List PV} {R : PV → Prop} (ho : o.op = .call c) (ht : target st G c = some (f, args)) (hf : G.P.funcs[f]? = some fn) (hname : (fn.name == "runtime.NumGoroutine") = false) (hb : fn.body.isSome = true)
    (hp : pureL args = true) (hd : dstOk C.nt o.dst = true) (hc : Pure G f args R) (h : ∀ r, R r → K (st.put o.dst r)) : SOpG G C o Q K st := fun E a w hr => by
  obtain ⟨vs, hrun, hvs⟩ := target_ok ho ht hf hname hb hr
  unfold Oper.wp
  rw [hrun]
  have hH : HRep G.Γ { E with nb := 0, nr := 0 } w ⟨[], []⟩ := ⟨rfl, rfl, hr.hp.lo, fun i b hb => by simp at hb, fun i r hr => by simp at hr, fun i j h => by simp at h, fun i j r s k h => by simp at h, fun i j r h => by simp at h, hr.hp.im_lt, fun k i h => by simp at h, fun k j r h => by simp at h, hr.hp.gl⟩
  refine (hc { E with nb := 0, nr := 0 } w vs hH ((hvs.pure hp).v (E := { E with nb := 0, nr := 0 }))).mono ?_
  rintro e w' ⟨out, bx', E', ⟨rfl, r, rfl, hR⟩, ⟨v, rfl, hv⟩, hh, hx⟩
  have hnb : E'.nb = 0 := hh.nb
  have hnr : E'.nr = 0 := hh.nr
  have hr2 := hr.more (im := E'.im) hx.sz (fun k hk => hx.keep k hk (fun i hi => by simp at hi)) hx.os hx.tape hx.out hx.up hx.dn hh.im_lt
  refine ⟨⟨fun k hk => hx.keep k hk (fun i hi => by simp at hi), hx.sz⟩, _, _, h r hR, hr2.put hd ?_⟩
  exact hv.move (by omega) (by omega) (fun i hi => by omega) (fun i hi => by omega) (fun k hk => hk) (fun _ _ => rfl)
theorem SOpG.val {o : Oper} {K : AS → Prop} {x : PV} (hx : aval G st o.op = some x) (hd : dstOk C.nt o.dst = true) (h : K (st.put o.dst x)) : SOpG G C o Q K st := fun E a w hr => by
  obtain ⟨v, hrun, hv⟩ := aval_ok hr.fr hr.hp hx
  unfold Oper.wp
  rw [hrun w (Gr.refl w)]
  exact ⟨⟨Gr.refl w, Nat.le_refl _⟩, _, E, h, hr.put hd hv⟩
end
end Go.AS
namespace Go.AS
open Go.RowKit
theorem TD.ok_of {P : Program} {t : TypeId} {td : TD} {d : TypeDesc} (h : P.underlying t = some d) (hk : td.k.ok d)
    (hi : (P.info? t).map (fun i => (i.size, i.bytes, i.zero.map fun z => z.cells.toList.map cellOf)) = some (td.size, td.bytes, some td.zero)) : td.ok P t := by
  refine ⟨⟨d, h, hk⟩, ?_⟩
  cases hp : P.info? t with
  | none => rw [hp] at hi; cases hi
  | some i =>
    rw [hp] at hi
    simp only [Option.map_some, Option.some.injEq, Prod.mk.injEq] at hi
    obtain ⟨h1, h2, h3⟩ := hi
    cases hz : i.zero with
    | none => rw [hz] at h3; cases h3
    | some z =>
      rw [hz] at h3
      simp only [Option.map_some, Option.some.injEq] at h3
      exact ⟨i, z, rfl, h1, h2, hz, h3⟩
theorem lookup_ok {P : Program} : ∀ {l : List (Nat × TD)}, (∀ p ∈ l, p.2.ok P p.1) → ∀ t td, l.lookup t = some td → td.ok P t := by
  intro l
  induction l with
  | nil => intro _ t td h; simp at h
  | cons p l ih =>
    intro h t td hl
    obtain ⟨q, d⟩ := p
    rw [List.lookup_cons] at hl
    by_cases hq : t = q
    · subst hq
      simp at hl
      subst hl
      exact h _ List.mem_cons_self
    · have : (t == q) = false := by simpa using hq
      rw [this] at hl
      exact ih (fun p hp => h p (List.mem_cons_of_mem _ hp)) t td hl
end Go.AS
namespace Go.AS
open Go.RowKit
set_option linter.unusedVariables false
set_option linter.unusedSimpArgs false
structure SO where
  dst : Option Tmp
  op : Op
  guard : Option (Option Tmp × Bool)
def SO.of (ops : List Oper) (o : Oper) : SO := ⟨o.dst, o.op, match o.guard with
  | some (j, b) => some ((ops[j]?).bind (·.dst), b)
  | none => none⟩
def strip (ops all : List Oper) : List SO := match ops with
  | [] => []
  | o :: r => SO.of all o :: strip r all
section
variable {G : Prg} {C : Ctx} {Q : AEx → AS → Prop} {K : AS → Prop} {st : AS}
def SRun (G : Prg) (C : Ctx) (Q : AEx → AS → Prop) (l : List SO) (st : AS) : Prop := ∀ (ops : Array Oper) (os : List Oper), strip os ops.toList = l → SOps G C ops Q os st
def SOne (G : Prg) (C : Ctx) (d : Option Tmp) (op : Op) (Q : AEx → AS → Prop) (K : AS → Prop) (st : AS) : Prop := ∀ o : Oper, o.dst = d → o.op = op → SOp G C o Q K st
theorem SWP.plain {id : Nat} {ops : Array Oper} {l : List SO} (hl : strip ops.toList ops.toList = l) (h : SRun G C Q l st) : SWP G C (.region id ops false) Q st := .region (h ops _ hl)
theorem SRun.nil (h : Q .normal st) : SRun G C Q [] st := fun ops os ho => by
  cases os with
  | nil => exact .nil h
  | cons o os => cases ho
theorem SRun.cons {d : Option Tmp} {op : Op} {l : List SO} (h : SOne G C d op Q (SRun G C Q l) st) : SRun G C Q (⟨d, op, none⟩ :: l) st := fun ops os ho => by
  cases os with
  | nil => cases ho
  | cons o os =>
    simp only [strip, SO.of, List.cons.injEq, SO.mk.injEq] at ho
    obtain ⟨⟨h1, h2, h3⟩, h4⟩ := ho
    have hg : o.guard = none := by cases hg : o.guard with | none => rfl | some p => rw [hg] at h3; cases h3
    exact .cons hg fun E a w hr => Oper.wp_mono (fun a' w' ⟨s, E', k, r⟩ => ⟨s, E', k ops os h4, r⟩) (h o h1 h2 E a w hr)
theorem SRun.guard {d : Option Tmp} {op : Op} {l : List SO} {s : Tmp} {want b : Bool} (hb : lk st.t s = .bool b) (hd : dstOk C.nt d = true) (h1 : b = want → SOne G C d op Q (SRun G C Q l) st) (h2 : b = !want → SRun G C Q l (st.put d und)) :
    SRun G C Q (⟨d, op, some (some s, want)⟩ :: l) st := fun ops os ho => by
  cases os with
  | nil => cases ho
  | cons o os =>
    simp only [strip, SO.of, List.cons.injEq, SO.mk.injEq] at ho
    obtain ⟨⟨hd1, hop, h3⟩, h4⟩ := ho
    cases hg : o.guard with
    | none => rw [hg] at h3; cases h3
    | some p =>
      obtain ⟨j, w⟩ := p
      rw [hg] at h3
      simp only [Option.some.injEq, Prod.mk.injEq] at h3
      obtain ⟨h5, rfl⟩ := h3
      refine .guard hg (d := s) (by simpa using h5) hb (by rw [hd1]; exact hd) (fun hbw E a w hr => Oper.wp_mono (fun a' w' ⟨s, E', k, r⟩ => ⟨s, E', k ops os h4, r⟩) (h1 hbw o hd1 hop E a w hr)) (fun hbw => ?_)
      rw [hd1]
      exact h2 hbw ops os h4
theorem SRun.guardU {d : Option Tmp} {op : Op} {l : List SO} {s : Tmp} {want : Bool} (hb : lk st.t s = und) (hd : dstOk C.nt d = true) (h : SRun G C Q l (st.put d und)) :
    SRun G C Q (⟨d, op, some (some s, want)⟩ :: l) st := fun ops os ho => by
  cases os with
  | nil => cases ho
  | cons o os =>
    simp only [strip, SO.of, List.cons.injEq, SO.mk.injEq] at ho
    obtain ⟨⟨hd1, hop, h3⟩, h4⟩ := ho
    cases hg : o.guard with
    | none => rw [hg] at h3; cases h3
    | some p =>
      obtain ⟨j, w⟩ := p
      rw [hg] at h3
      simp only [Option.some.injEq, Prod.mk.injEq] at h3
      obtain ⟨h5, rfl⟩ := h3
      refine .guardU hg (d := s) (by simpa using h5) hb (by rw [hd1]; exact hd) ?_
      rw [hd1]
      exact h ops os h4
def step1 (G : Prg) (n : Nat) (st : AS) (d : Option Tmp) : Op → Option AS
  | .box t x => match (st.ev G.Γ x).part, dstOk n d with
    | true, true => some (st.newBox (st.ev G.Γ x).cells t d)
    | _, _ => none
  | .alloc t => match G.T t, dstOk n d with
    | some td, true => some (st.newBox td.zero t d)
    | _, _ => none
  | .store t p v => match st.ev G.Γ p, d with
    | .ptr b k, none => match st.h.bx[b]?, G.T t with
      | some x, some td => if (st.ev G.Γ v).part = true ∧ allOne (st.ev G.Γ v).cells = true ∧ (st.ev G.Γ v).cells.length = td.size ∧ k + td.size ≤ x.cs.length then some (st.storeBox b k x (st.ev G.Γ v).cells) else none
      | _, _ => none
    | _, _ => none
  | op => match aval G st op, dstOk n d with
    | some x, true => some (st.put d x)
    | _, _ => none
theorem step1_ok {d : Option Tmp} {op : Op} {s : AS} (h : step1 G C.nt st d op = some s) (hK : K s) : SOne G C d op Q K st := fun o hd ho => by
  unfold step1 at h
  split at h
  · rename_i t x
    split at h
    · rename_i h1 h2
      cases h
      subst hd
      exact .box ho h1 h2 hK
    · cases h
  · rename_i t
    split at h
    · rename_i td h1 h2
      cases h
      subst hd
      exact .alloc ho h1 h2 hK
    · cases h
  · rename_i t p v
    split at h
    · rename_i b k hp
      split at h
      · rename_i x td hb ht
        split at h
        · rename_i hc
          cases h
          exact .store ho hd hp hb ht hc.1 hc.2.1 hc.2.2.1 hc.2.2.2 hK
        · cases h
      · cases h
    · cases h
  · split at h
    · rename_i x h1 h2
      cases h
      subst hd
      rw [← ho] at h1
      exact .val h1 h2 hK
    · cases h
theorem SRun.step {d : Option Tmp} {op : Op} {l : List SO} (s : AS) (h : step1 G C.nt st d op = some s) (hK : SRun G C Q l s) : SRun G C Q (⟨d, op, none⟩ :: l) st := .cons (step1_ok h hK)
end
def QT (n : AS → Prop) (xs : List (Nat × (AS → Prop))) (r : AS → Prop) (p : PV → AS → Prop) : AEx → AS → Prop
  | .normal, s => n s
  | .exit i, s => match xs.lookup i with
    | some k => k s
    | none => False
  | .ret, s => r s
  | .panic x, s => p x s
def PanT (p : PV → AS → Prop) : Prop := ∀ x s, p x s → p x { s with t := [] }
section
variable {G : Prg} {C : Ctx} {n : AS → Prop} {xs : List (Nat × (AS → Prop))} {r : AS → Prop} {p : PV → AS → Prop} {st : AS}
theorem PanT.q (h : PanT p) : PanicT (QT n xs r p) := h
theorem then_QT (K : AS → Prop) : thenQ K (QT n xs r p) = QT K xs r p := by
  funext e s
  cases e <;> rfl
theorem block_QT (id : Nat) : blockQ id (QT n xs r p) = QT n ((id, n) :: xs) r p := by
  funext e s
  cases e with
  | exit i =>
    simp only [blockQ, QT, List.lookup_cons]
    by_cases h : i = id
    · subst h; simp
    · have : (i == id) = false := by simpa using h
      simp only [h, this, if_false]
  | _ => rfl
theorem Q.seq {c d : Code} (h : ∀ K : AS → Prop, (∀ s, SWP G C d (QT n xs r p) s → K s) → SWP G C c (QT K xs r p) st) : SWP G C (.seq c d) (QT n xs r p) st :=
  .seq (by rw [then_QT]; exact h _ fun _ h => h)
theorem Q.block {id : Nat} {c : Code} (h : SWP G C c (QT n ((id, n) :: xs) r p) st) : SWP G C (.block id c) (QT n xs r p) st := .block (by rw [block_QT]; exact h)
theorem Q.skip (h : n st) : SWP G C .skip (QT n xs r p) st := .skip h
theorem Q.ret (h : r st) : SWP G C .ret (QT n xs r p) st := .ret h
theorem Q.cond {x : Operand} {c d : Code} {b : Bool} (hx : st.ev G.Γ x = .bool b) (ht : b = true → SWP G C c (QT n xs r p) st) (hf : b = false → SWP G C d (QT n xs r p) st) : SWP G C (.cond x c d) (QT n xs r p) st := .cond hx ht hf
theorem Q.loop {c : Code} {σ : Type} (I : σ → AS → Prop) (μ : σ → Nat) (x : σ) (h0 : I x st)
    (hr : ∀ x s, I x s → ∀ K : AS → Prop, (∀ y s', I y s' → μ y < μ x → K s') → SWP G C c (QT K xs r p) s) : SWP G C (.loop c) (QT n xs r p) st :=
  .loop I μ x h0 fun x s hI => by rw [then_QT]; exact hr x s hI _ fun y s' h1 h2 => ⟨y, h1, h2⟩
theorem Q.region {id : Nat} {ops : Array Oper} {l : List SO} (hl : strip ops.toList ops.toList = l) (h : SRun G C (QT n xs r p) l st) : SWP G C (.region id ops false) (QT n xs r p) st := .plain hl h
theorem Q.nil (h : n st) : SRun G C (QT n xs r p) [] st := .nil h
def FinR (G : Prg) (fn : Func) (nb : Nat) (R : Out → List Box → Prop) (st : AS) : Prop := ∃ (m : Nat) (r : PV), nb ≤ m ∧ m ≤ st.h.bx.length ∧ aret G fn st = some r ∧ r.sc m = true ∧ ((st.h.bx.take m).all fun b => scL m b.cs) = true ∧ R (.ret r) (st.h.bx.take m)
def FinP (nb : Nat) (R : Out → List Box → Prop) (x : PV) (st : AS) : Prop := ∃ (m : Nat), nb ≤ m ∧ m ≤ st.h.bx.length ∧ x.sc m = true ∧ ((st.h.bx.take m).all fun b => scL m b.cs) = true ∧ R (.pan x) (st.h.bx.take m)
theorem Q.fin (G : Prg) (fn : Func) (nb : Nat) (R : Out → List Box → Prop) : Fin G fn nb R = QT (FinR G fn nb R) [] (FinR G fn nb R) (FinP nb R) := by
  funext e s
  cases e <;> rfl
theorem FinP.panT (nb : Nat) (R : Out → List Box → Prop) : PanT (FinP nb R) := fun x s h => h
theorem FinR.pure {fn : Func} {R : PV → Prop} {s : AS} {r : PV} (hr : aret G fn s = some r) (hp : r.sc 0 = true) (h : R r) : FinR G fn ([] : List Box).length (fun o b => b = [] ∧ ∃ r, o = .ret r ∧ R r) s :=
  ⟨0, r, Nat.le_refl _, Nat.zero_le _, hr, hp, rfl, rfl, r, rfl, h⟩
end
attribute [push_cast] unsl step1 aval AS.ev lk constOf cellOf dstOk AS.put AS.newBox AS.storeBox aeq isCo abin aun aload AS.cellsAt aaddr afieldAddr afield aidx aindex aextract aconv amkiface alen amax amin PV.part PV.cells PV.one allOne splice strip SO.of enum
attribute [push_cast] aret AS.tmps PV.sc scL PV.pure pureL PV.kill killL killT killB PV.fz fzL fzT fzB AS.freeze AS.setRow AS.newRow AS.storeRow srcOf aslice bound abuild aplace afill abuildSlice TK.agg target
attribute [push_cast] List.lookup_cons List.getElem?_cons_zero List.getElem?_cons_succ List.length_cons List.length_nil List.drop_zero List.drop_succ_cons List.take_zero List.take_succ_cons List.set_cons_zero List.set_cons_succ List.map_cons List.map_nil List.append_nil List.nil_append List.cons_append List.headD_cons
attribute [push_cast] if_true if_false and_true true_and and_self Option.map_some Option.map_none Option.bind_some Option.bind_none beq_self_eq_true Option.some.injEq List.toList_toArray
end Go.AS
namespace Go.AS
open Go.RowKit
set_option linter.unusedVariables false
set_option linter.unusedSimpArgs false
section
variable {G : Prg} {C : Ctx} {Q : AEx → AS → Prop} {K : AS → Prop} {st : AS} {E : Env} {a : Act} {w w' : World}
theorem Rel.called (hr : Rel G C E st a w) {E' : Env} {bx' : List Box} (hh : HRep G.Γ E' w' ⟨bx', []⟩) (hx : PExt st.h.bx.length { E with nr := 0 } w E' w') :
    Rel G C { E' with ρ := E.ρ, nr := E.nr, lo := E.lo } { st with h := ⟨bx', st.h.rw⟩ } a w' := by
  have hnb := hr.hp.nb
  have hβ : ∀ i, i < E.nb → E'.β i = E.β i := fun i hi => hx.β i (by omega)
  have hsz := hx.sz
  have him : ∀ k, E.im k → w'.heap[k]? = w.heap[k]? := fun k hk => hx.keep k (hr.hp.im_lt k hk) fun i hi => hr.hp.im_b k i (by omega) hk
  have mv : ∀ x v, VRep E w x v → VRep { E' with ρ := E.ρ, nr := E.nr, lo := E.lo } w' x v := fun x v hv => hv.move (by have := hx.more; simp only []; omega) (Nat.le_refl _) hβ (fun _ _ => rfl) hx.up him
  have hnr : E'.nr = 0 := hh.nr
  have mv' : ∀ x v, VRep E' w' x v → VRep { E' with ρ := E.ρ, nr := E.nr, lo := E.lo } w' x v := fun x v hv => hv.move (Nat.le_refl _) (by omega) (fun _ _ => rfl) (fun i hi => by omega) (fun _ h => h) (fun _ _ => rfl)
  have hown : ∀ (j : Nat) (s : Row) (k : Nat), st.h.rw[j]? = some (some s) → (E.ρ j).ownBlock = some k → k < w.heap.size ∧ w'.heap[k]? = w.heap[k]? := fun j s k hj hk => by
    obtain ⟨xs, ho, _⟩ := hr.hp.row j s hj
    have hlt := (ownsRow_lt ho hk).2
    exact ⟨hlt, hx.keep k hlt fun i hi he => hr.hp.brw i j s (by omega) hj (by rw [hk, ← he])⟩
  refine ⟨hr.defers, hr.size, hr.fr.move mv, ⟨hh.nb, hr.hp.nr, Nat.le_trans hr.hp.lo hsz, fun i b hb => ?_, fun j s hj => ?_, hh.inj, fun i j r s k hi hj => hr.hp.rinj i j r s k hi hj, fun i j r hi hj => ?_, hh.im_lt, hh.im_b, fun k j s hj hk => ?_, hh.gl⟩,
    hr.lo, ?_, fun i hi => ?_, fun i h1 h2 => ?_, fun k hk => hx.up k (hr.up k hk), fun k hk => ?_, fun k h1 h2 h3 => ?_, hx.os.trans hr.os, hx.tape.trans hr.tape, hx.out.trans hr.out, Nat.le_trans hr.sz hsz, hr.rows⟩
  · obtain ⟨vs, h1, h2⟩ := hh.box i b hb
    exact ⟨vs, h1, h2.move mv'⟩
  · obtain ⟨xs, ho, hxs, h1⟩ := hr.hp.row j s hj
    exact ⟨xs, ownsRow_move ho fun k hk => (hown j s k hj hk).2, hxs.move hx.up him, h1⟩
  · intro hk
    have h1 := hown j r _ hj hk
    rcases Nat.lt_or_ge i E.nb with hlt | hge
    · exact hr.hp.brw i j r hlt hj (by rw [hk]; simp only []; rw [hβ i hlt])
    · have := hx.own i (by omega) hi
      simp only [] at h1
      omega
  · intro hc
    have h1 := hown j s k hj hc
    rcases hx.dn k hk with h2 | h2
    · exact hr.hp.im_r k j s hj h2 hc
    · omega
  · have h1 := hr.nb; have h2 := hx.more; simp only [] at h2 ⊢; omega
  · simp only []
    rw [hβ i (by have := hr.nb; omega)]
    exact hr.β i hi
  · simp only [] at h2 ⊢
    rcases Nat.lt_or_ge i E.nb with hlt | hge
    · rw [hβ i hlt]; exact hr.own i h1 hlt
    · have h3 := hx.own i (by omega) h2
      have h4 := hr.sz
      omega
  · rcases hx.dn k hk with h | h
    · exact hr.dn k h
    · exact .inr (.inl (Nat.le_trans hr.sz h))
  · refine (hx.keep k (Nat.lt_of_lt_of_le h1 hr.sz) fun i hi he => ?_).trans (hr.keep k h1 h2 h3)
    rcases Nat.lt_or_ge i C.nb with hlt | hge
    · exact h2 i hlt (by rw [← hr.β i hlt]; exact he)
    · have := hr.own i hge (by omega)
      simp only [] at he
      omega
theorem callB_hyp (hr : Rel G C E st a w) (hbx : (st.h.bx.all fun b => scL st.h.bx.length b.cs) = true) : HRep G.Γ { E with nr := 0 } w ⟨st.h.bx, []⟩ :=
  ⟨hr.hp.nb, rfl, hr.hp.lo, fun i b hb => by
    obtain ⟨vs, hv, hvr⟩ := hr.hp.box i b hb
    have hsc := List.all_eq_true.1 hbx b (List.mem_of_getElem? hb)
    exact ⟨vs, hv, hvr.1, fun j x v hx hv' => (hvr.2 j x v hx hv').sc (scL_get hsc hx) (by simp [hr.hp.nb]) (fun _ _ => rfl) rfl⟩,
    fun i r h => by simp at h, hr.hp.inj, fun i j r s k h => by simp at h, fun i j r _ h => by simp at h, hr.hp.im_lt, hr.hp.im_b, fun k j r h => by simp at h, hr.hp.gl⟩
theorem SOp.callB {o : Oper} {c : Call} {f : FuncId} {fn : Func} {args : List PV} {R : Out → List Box → Prop} (ho : o.op = .call c) (ht : target st G c = some (f, args)) (hf : G.P.funcs[f]? = some fn) (hname : (fn.name == "runtime.NumGoroutine") = false) (hb : fn.body.isSome = true)
    (hargs : scL st.h.bx.length args = true) (hbx : (st.h.bx.all fun b => scL st.h.bx.length b.cs) = true) (hd : dstOk C.nt o.dst = true) (hc : PCalls G f args st.h.bx R)
    (h : ∀ r bx', R (.ret r) bx' → K (({ st with h := ⟨bx', st.h.rw⟩ } : AS).put o.dst r)) (hp : ∀ x bx', R (.pan x) bx' → Q (.panic x) { st with h := ⟨bx', st.h.rw⟩ }) : SOp G C o Q K st := fun E a w hr => by
  obtain ⟨vs, hrun, hvs⟩ := target_ok ho ht hf hname hb hr
  unfold Oper.wp
  rw [hrun]
  have hvs' : VReps { E with nr := 0 } w args vs := ⟨hvs.1, fun j x v hx hv => (hvs.2 j x v hx hv).sc (scL_get hargs hx) (by simp [hr.hp.nb]) (fun _ _ => rfl) rfl⟩
  refine (hc { E with nr := 0 } w vs (callB_hyp hr hbx) hvs').mono ?_
  rintro e w' ⟨out, bx', E', hR, ho', hh, hx⟩
  have hr2 := hr.called hh hx
  have hnr : E'.nr = 0 := hh.nr
  have mv' : ∀ x v, VRep E' w' x v → VRep { E' with ρ := E.ρ, nr := E.nr, lo := E.lo } w' x v := fun x v hv => hv.move (Nat.le_refl _) (by omega) (fun _ _ => rfl) (fun i hi => by omega) (fun _ h => h) (fun _ _ => rfl)
  cases out with
  | ret r =>
    obtain ⟨v, rfl, hv⟩ := ho'
    exact ⟨_, _, h r bx' hR, hr2.put hd (mv' _ _ hv)⟩
  | pan x =>
    obtain ⟨v, rfl, hv⟩ := ho'
    exact ⟨.panic x, _, _, hp x bx' hR, ⟨v, rfl, mv' _ _ hv⟩, hr2⟩
def frz : List Nat → AS → AS
  | [], s => s
  | r :: rs, s => match s.h.rw[r]? with
    | some (some x) => frz rs (s.freeze r x)
    | _ => frz rs s
theorem Rel.frz {rs : List Nat} : ∀ {st : AS} {E : Env}, Rel G C E st a w → ∃ E', Rel G C E' (frz rs st) a w := by
  induction rs with
  | nil => intro st E h; exact ⟨E, h⟩
  | cons r rs ih =>
    intro st E h
    simp only [AS.frz]
    split
    · rename_i x hx
      obtain ⟨E', h'⟩ := h.freeze hx
      exact ih h'
    · exact ih h
theorem SOp.frz {o : Oper} (rs : List Nat) (h : SOp G C o Q K (frz rs st)) : SOp G C o Q K st := fun E a w hr => by
  obtain ⟨E', hr'⟩ := hr.frz (rs := rs)
  exact h E' a w hr'
theorem SOpG.frz {o : Oper} (rs : List Nat) (h : SOpG G C o Q K (frz rs st)) : SOpG G C o Q K st := fun E a w hr => by
  obtain ⟨E', hr'⟩ := hr.frz (rs := rs)
  exact h E' a w hr'
def AS.adopt (st : AS) (s : Nat) (ty : TypeId) (sz : Nat) : AS := ⟨adoptT s st.h.rw.length st.t, ⟨st.h.bx, st.h.rw ++ [some ⟨[], 0, ty, sz⟩]⟩⟩
theorem SOp.adopt {o : Oper} (s : Nat) (ty : TypeId) (sz : Nat) (hs : lk st.t s = .nil) (h : SOp G C o Q K (st.adopt s ty sz)) : SOp G C o Q K st := fun E a w hr => by
  obtain ⟨E', hr'⟩ := hr.adopt hs ty sz
  exact h E' a w hr'
def frzAll (s : AS) : AS := frz (List.range s.h.rw.length) s
def frzQ (Q : AEx → AS → Prop) : AEx → AS → Prop
  | .panic x, s => Q (.panic x) s
  | e, s => Q e (frzAll s)
theorem SWP.frzAll {c : Code} (h : SWP G C c (frzQ Q) st) : SWP G C c Q st := fun E a w hr =>
  wp_mono (h E a w hr) fun e a w ⟨ae, s, E', q, x, r⟩ => by
    cases ae with
    | panic y => exact ⟨_, _, _, q, x, r⟩
    | normal => obtain ⟨E2, r2⟩ := r.frz (rs := List.range s.h.rw.length); exact ⟨.normal, _, E2, q, x, r2⟩
    | ret => obtain ⟨E2, r2⟩ := r.frz (rs := List.range s.h.rw.length); exact ⟨.ret, _, E2, q, x, r2⟩
    | exit i => obtain ⟨E2, r2⟩ := r.frz (rs := List.range s.h.rw.length); exact ⟨.exit i, _, E2, q, x, r2⟩
def SRounds (G : Prg) (C : Ctx) (c : Code) (Q : AEx → AS → Prop) : Nat → AS → Prop
  | 0, _ => False
  | n + 1, s => SWP G C c (thenQ (SRounds G C c Q n) Q) s
theorem SRounds.loop {c : Code} {n : Nat} (h : SRounds G C c Q n st) : SWP G C (.loop c) Q st := by
  refine .loop (fun m s => SRounds G C c Q m s) id n h fun m s hs => ?_
  cases m with
  | zero => exact hs.elim
  | succ m =>
    refine SWP.mono hs fun e s q => ?_
    cases e with
    | normal => exact ⟨m, q, Nat.lt_succ_self m⟩
    | exit i => exact q
    | ret => exact q
    | panic x => exact q
end
inductive ARel (pos : Nat → Nat) (k : Nat) : PV → PV → Prop where
  | pure {x : PV} (h : x.pure = true) : ARel pos k x x
  | ptr {b o : Nat} (h : b < k) : ARel pos k (.ptr (pos b) o) (.ptr b o)
  | bsl {b n m : Nat} (h : b < k) : ARel pos k (.bsl (pos b) n m) (.bsl b n m)
  | junk (y : PV) : ARel pos k y .junk
  | func {fn : Fn} {ys xs : List PV} (hl : ys.length = xs.length) (h : ∀ (j : Nat) (y x : PV), ys[j]? = some y → xs[j]? = some x → ARel pos k y x) : ARel pos k (.func fn ys) (.func fn xs)
theorem ARel.rep {pos : Nat → Nat} {k : Nat} {y x : PV} (h : ARel pos k y x) {E E' : Env} {w : World} (hβ : ∀ i, i < k → E'.β i = E.β (pos i)) (hnb : E'.nb = k) (him : E'.im = E.im) {v : Value} (hv : VRep E w y v) : VRep E' w x v := by
  induction h generalizing v with
  | pure hp => exact .imm (by rw [him]; exact hv.pure hp)
  | ptr hb =>
    obtain ⟨rfl, _⟩ := hv.ptr_inv
    rw [← hβ _ hb]
    exact .ptr _ (by omega)
  | bsl hb =>
    obtain ⟨rfl, _, hn⟩ := hv.bsl_inv
    rw [← hβ _ hb]
    exact .bsl (by omega) hn
  | junk y => exact .junk _
  | func hl _ ih =>
    obtain ⟨vs, rfl, hvs⟩ := hv.func_inv
    refine .func (by rw [hvs.1, hl]) fun j x u hx hu => ?_
    have hj := (List.getElem?_eq_some_iff.1 hx).1
    obtain ⟨y, hy⟩ : ∃ y, _ = some y := ⟨_, List.getElem?_eq_getElem (by rw [hl]; exact hj)⟩
    exact ih j y x hy hx (hvs.2 j y u hy hu)
section
variable {G : Prg} {C : Ctx} {Q : AEx → AS → Prop} {K : AS → Prop} {st : AS}
theorem SOp.callF {o : Oper} {c : Call} {f : FuncId} {fn : Func} {ys xs : List PV} {R : Out → List Box → Prop} (pos : Nat → Nat) (bxs : List Box) (ho : o.op = .call c) (ht : target st G c = some (f, ys)) (hf : G.P.funcs[f]? = some fn) (hname : (fn.name == "runtime.NumGoroutine") = false) (hfb : fn.body.isSome = true)
    (hl : ys.length = xs.length) (ha : ∀ (j : Nat) (y x : PV), ys[j]? = some y → xs[j]? = some x → ARel pos bxs.length y x)
    (hb : ∀ (i : Nat) (b : Box), bxs[i]? = some b → st.h.bx[pos i]? = some b) (hsc : (bxs.all fun b => scL 0 b.cs) = true) (hinj : ∀ i j, i < bxs.length → j < bxs.length → pos i = pos j → i = j) (hd : dstOk C.nt o.dst = true) (hc : PCalls G f xs bxs R)
    (h : ∀ o' b, R o' b → ∃ r bx', o' = .ret r ∧ r.sc 0 = true ∧ ((b.take bxs.length).all fun b => scL 0 b.cs) = true ∧ bx'.length = st.h.bx.length ∧ (∀ i, i < bxs.length → bx'[pos i]? = b[i]?) ∧ (∀ j, (∀ i, i < bxs.length → pos i ≠ j) → bx'[j]? = st.h.bx[j]?) ∧ K (({ st with h := ⟨bx', st.h.rw⟩ } : AS).put o.dst r)) : SOp G C o Q K st := fun E a w hr => by
  obtain ⟨vs, hrun, hvs⟩ := target_ok ho ht hf hname hfb hr
  unfold Oper.wp
  rw [hrun]
  have hget : ∀ i, i < bxs.length → ∃ b, bxs[i]? = some b ∧ st.h.bx[pos i]? = some b := fun i hi => ⟨_, List.getElem?_eq_getElem hi, hb i _ (List.getElem?_eq_getElem hi)⟩
  have hpos : ∀ i, i < bxs.length → pos i < E.nb := fun i hi => by
    obtain ⟨b, _, h2⟩ := hget i hi
    rw [hr.hp.nb]
    exact (List.getElem?_eq_some_iff.1 h2).1
  let Ec : Env := { E with β := fun i => E.β (pos i), nb := bxs.length, nr := 0 }
  have hH : HRep G.Γ Ec w ⟨bxs, []⟩ := ⟨rfl, rfl, hr.hp.lo, fun i b hib => by
      obtain ⟨us, h1, h2⟩ := hr.hp.box (pos i) b (hb i b hib)
      exact ⟨us, h1, h2.1, fun j x v hx hv => (h2.2 j x v hx hv).sc (scL_get (List.all_eq_true.1 hsc b (List.mem_of_getElem? hib)) hx) (Nat.zero_le _) (fun _ h => absurd h (Nat.not_lt_zero _)) rfl⟩,
    fun i r h => by simp at h, fun i j hi hj he => hinj i j hi hj (hr.hp.inj _ _ (hpos i hi) (hpos j hj) he), fun i j r s k h => by simp at h, fun i j r _ h => by simp at h, hr.hp.im_lt, fun k i hi hk => hr.hp.im_b k (pos i) (hpos i hi) hk, fun k j r h => by simp at h, hr.hp.gl⟩
  have hargs : VReps Ec w xs vs := ⟨by rw [hvs.1, hl], fun j x v hx hv => by
    have hj := (List.getElem?_eq_some_iff.1 hx).1
    obtain ⟨y, hy⟩ : ∃ y, ys[j]? = some y := ⟨_, List.getElem?_eq_getElem (by rw [hl]; exact hj)⟩
    exact ARel.rep (E := E) (E' := Ec) (ha j y x hy hx) (fun _ _ => rfl) rfl rfl (hvs.2 j y v hy hv)⟩
  refine (hc Ec w vs hH hargs).mono ?_
  rintro e w' ⟨out, b, E', hR, ho', hh, hx⟩
  obtain ⟨r, bx', rfl, hrs, hbs, hlen, hin, hout, hK⟩ := h out b hR
  obtain ⟨v, rfl, hv⟩ := ho'
  have hsz := hx.sz
  have keep : ∀ k, k < w.heap.size → (∀ i, i < bxs.length → E.β (pos i) ≠ k) → w'.heap[k]? = w.heap[k]? := fun k h1 h2 => hx.keep k h1 h2
  have him : ∀ k, E.im k → w'.heap[k]? = w.heap[k]? := fun k hk => keep k (hr.hp.im_lt k hk) fun i hi => hr.hp.im_b k (pos i) (hpos i hi) hk
  let E2 : Env := { E with im := E'.im }
  have mv : ∀ x v, VRep E w x v → VRep E2 w' x v := fun x v hv => hv.move (Nat.le_refl _) (Nat.le_refl _) (fun _ _ => rfl) (fun _ _ => rfl) hx.up him
  have hrow : ∀ (j : Nat) (s : Row) (k : Nat), st.h.rw[j]? = some (some s) → (E.ρ j).ownBlock = some k → k < w.heap.size ∧ w'.heap[k]? = w.heap[k]? := fun j s k hj hk => by
    obtain ⟨us, ho, _⟩ := hr.hp.row j s hj
    have hlt := (ownsRow_lt ho hk).2
    exact ⟨hlt, keep k hlt fun i hi he => hr.hp.brw (pos i) j s (hpos i hi) hj (by rw [hk, ← he])⟩
  have hrel : Rel G C E2 { st with h := ⟨bx', st.h.rw⟩ } a w' := by
    refine ⟨hr.defers, hr.size, hr.fr.move mv, ⟨by simp only []; rw [hlen]; exact hr.hp.nb, hr.hp.nr, Nat.le_trans hr.hp.lo hsz, fun i bb hi => ?_, fun j s hj => ?_, hr.hp.inj, hr.hp.rinj, hr.hp.brw, hh.im_lt, fun k i hi hk => ?_, fun k j s hj hk => ?_, hh.gl⟩,
      hr.lo, hr.nb, hr.β, hr.own, fun k hk => hx.up k (hr.up k hk), fun k hk => ?_, fun k h1 h2 h3 => ?_, hx.os.trans hr.os, hx.tape.trans hr.tape, hx.out.trans hr.out, Nat.le_trans hr.sz hsz, hr.rows⟩
    · simp only [] at hi
      by_cases hp : ∃ i0, i0 < bxs.length ∧ pos i0 = i
      · obtain ⟨i0, h0, rfl⟩ := hp
        rw [hin i0 h0] at hi
        obtain ⟨us, h1, h2⟩ := hh.box i0 bb hi
        have hm : bb ∈ b.take bxs.length := List.mem_of_getElem? (i := i0) (by rw [List.getElem?_take, if_pos h0]; exact hi)
        refine ⟨us, by rw [hx.β i0 h0] at h1; exact h1, h2.1, fun j x u hx' hu => ?_⟩
        exact (h2.2 j x u hx' hu).sc (scL_get (List.all_eq_true.1 hbs bb hm) hx') (Nat.zero_le _) (fun _ h => absurd h (Nat.not_lt_zero _)) rfl
      · have hno : ∀ i0, i0 < bxs.length → pos i0 ≠ i := fun i0 h0 he => hp ⟨i0, h0, he⟩
        rw [hout i hno] at hi
        obtain ⟨us, h1, h2⟩ := hr.hp.box i bb hi
        have hiE : i < E.nb := by rw [hr.hp.nb]; exact (List.getElem?_eq_some_iff.1 hi).1
        exact ⟨us, (keep _ (lt_of_some h1) fun i0 h0 he => hno i0 h0 (hr.hp.inj _ _ (hpos i0 h0) hiE he)).trans h1, h2.move mv⟩
    · obtain ⟨us, ho, hxs, h1⟩ := hr.hp.row j s hj
      exact ⟨us, ownsRow_move ho fun k hk => (hrow j s k hj hk).2, hxs.move hx.up him, h1⟩
    · rcases hx.dn k hk with h2 | h2
      · exact hr.hp.im_b k i hi h2
      · have := hr.hp.bx_lt hi
        intro he
        have he' : E.β i = k := he
        omega
    · intro hcn
      have h1 := hrow j s k hj hcn
      rcases hx.dn k hk with h2 | h2
      · exact hr.hp.im_r k j s hj h2 hcn
      · omega
    · rcases hx.dn k hk with h | h
      · exact hr.dn k h
      · exact .inr (.inl (Nat.le_trans hr.sz h))
    · refine (keep k (Nat.lt_of_lt_of_le h1 hr.sz) fun i hi he => ?_).trans (hr.keep k h1 h2 h3)
      rcases Nat.lt_or_ge (pos i) C.nb with hlt | hge
      · exact h2 (pos i) hlt (by rw [← hr.β _ hlt]; exact he)
      · have := hr.own (pos i) hge (hpos i hi)
        omega
  exact ⟨_, _, hK, hrel.put hd (hv.sc hrs (Nat.zero_le _) (fun _ h => absurd h (Nat.not_lt_zero _)) rfl)⟩
end
def ren1 (b : Nat) : PV → Option PV
  | .ptr c o => match Nat.beq c b with
    | true => some (.ptr 0 o)
    | false => none
  | y => match y.pure with
    | true => some y
    | false => none
mutual
def ren (b : Nat) : PV → Option PV
  | .func fn cs => match renL b cs with
    | some xs => some (.func fn xs)
    | none => none
  | .ptr c o => ren1 b (.ptr c o)
  | .int k n => some (.int k n)
  | .bool v => some (.bool v)
  | .str s => some (.str s)
  | .slice n cs => some (.slice n cs)
  | .nil => some .nil
  | y => ren1 b y
def renL (b : Nat) : List PV → Option (List PV)
  | [] => some []
  | y :: ys => match ren b y, renL b ys with
    | some x, some xs => some (x :: xs)
    | _, _ => none
end
theorem ren1_ok {b : Nat} {y x : PV} (h : ren1 b y = some x) : ARel (fun _ => b) 1 y x := by
  unfold ren1 at h
  split at h
  · split at h
    · rename_i hb
      cases h
      obtain rfl := Nat.eq_of_beq_eq_true hb
      exact .ptr (pos := fun _ => _) (b := 0) (Nat.lt_succ_self 0)
    · cases h
  · split at h
    · rename_i hp
      cases h
      exact .pure hp
    · cases h
mutual
theorem ren_ok {b : Nat} : ∀ (y x : PV), ren b y = some x → ARel (fun _ => b) 1 y x
  | .func fn cs, x, h => by
    simp only [ren] at h
    split at h
    · rename_i xs hx
      cases h
      obtain ⟨h1, h2⟩ := renL_ok cs xs hx
      exact .func h1 h2
    · cases h
  | .ptr c o, x, h => ren1_ok (by simpa only [ren] using h)
  | .int k n, x, h => by simp only [ren] at h; cases h; exact .pure rfl
  | .bool v, x, h => by simp only [ren] at h; cases h; exact .pure rfl
  | .str s, x, h => by simp only [ren] at h; cases h; exact .pure rfl
  | .slice n cs, x, h => by simp only [ren] at h; cases h; exact .pure rfl
  | .nil, x, h => by simp only [ren] at h; cases h; exact .pure rfl
  | .own _ _, x, h => ren1_ok (by simpa only [ren] using h)
  | .sl _ _ _, x, h => ren1_ok (by simpa only [ren] using h)
  | .exact _, x, h => ren1_ok (by simpa only [ren] using h)
  | .rpos _ _, x, h => ren1_ok (by simpa only [ren] using h)
  | .bsl _ _ _, x, h => ren1_ok (by simpa only [ren] using h)
  | .epos _, x, h => ren1_ok (by simpa only [ren] using h)
  | .nilptr, x, h => ren1_ok (by simpa only [ren] using h)
  | .nilfunc, x, h => ren1_ok (by simpa only [ren] using h)
  | .niliface, x, h => ren1_ok (by simpa only [ren] using h)
  | .agg _, x, h => ren1_ok (by simpa only [ren] using h)
  | .tup _, x, h => ren1_ok (by simpa only [ren] using h)
  | .iface _ _, x, h => ren1_ok (by simpa only [ren] using h)
  | .junk, x, h => ren1_ok (by simpa only [ren] using h)
theorem renL_ok {b : Nat} : ∀ (ys xs : List PV), renL b ys = some xs → ys.length = xs.length ∧ ∀ (j : Nat) (y x : PV), ys[j]? = some y → xs[j]? = some x → ARel (fun _ => b) 1 y x
  | [], xs, h => by simp only [renL] at h; cases h; exact ⟨rfl, fun j y x h => by simp at h⟩
  | y :: ys, xs, h => by
    simp only [renL] at h
    split at h
    · rename_i x xs' hx hxs
      cases h
      obtain ⟨h1, h2⟩ := renL_ok ys xs' hxs
      refine ⟨by simp [h1], fun j y' x' hy hx' => ?_⟩
      cases j with
      | zero => simp at hy hx'; subst hy; subst hx'; exact ren_ok y x hx
      | succ j => exact h2 j y' x' (by simpa using hy) (by simpa using hx')
    · cases h
end
mutual
def ptrOf : PV → Option Nat
  | .ptr b _ => some b
  | .func _ cs => ptrOfL cs
  | _ => none
def ptrOfL : List PV → Option Nat
  | [] => none
  | y :: ys => match ptrOf y with
    | some b => some b
    | none => ptrOfL ys
end
def Fresh (G : Prg) (f : FuncId) (args : List PV) (row : Row) : Prop :=
  ∀ E w vs, HRep G.Γ E w ⟨[], []⟩ → VReps E w args vs → Calls G.P f vs.toArray w fun e w' => ∃ v ys E', e = .returned v ∧ w'.ownsRow w.heap.size row.ty row.sz v row.n ys ∧ IReps E'.im w' row.cs ys ∧ (∀ u ∈ ys, u.oneCell' = true) ∧ (∀ k, v.ownBlock = some k → ¬ E'.im k) ∧ HRep G.Γ E' w' ⟨[], []⟩ ∧ PExt 0 E w E' w'
section
variable {G : Prg} {C : Ctx} {Q : AEx → AS → Prop} {K : AS → Prop} {st : AS}
theorem SOpG.callFresh {o : Oper} {c : Call} {f : FuncId} {fn : Func} {args : List PV} {row : Row} (ho : o.op = .call c) (ht : target st G c = some (f, args)) (hf : G.P.funcs[f]? = some fn) (hname : (fn.name == "runtime.NumGoroutine") = false) (hb : fn.body.isSome = true)
    (hp : pureL args = true) (hd : dstOk C.nt o.dst = true) (hc : Fresh G f args row) (h : K ((st.newRow row).put o.dst (.own st.h.rw.length row.n))) : SOpG G C o Q K st := fun E a w hr => by
  obtain ⟨vs, hrun, hvs⟩ := target_ok ho ht hf hname hb hr
  unfold Oper.wp
  rw [hrun]
  have hH : HRep G.Γ { E with nb := 0, nr := 0 } w ⟨[], []⟩ := ⟨rfl, rfl, hr.hp.lo, fun i b hb => by simp at hb, fun i r hr => by simp at hr, fun i j h => by simp at h, fun i j r s k h => by simp at h, fun i j r h => by simp at h, hr.hp.im_lt, fun k i h => by simp at h, fun k j r h => by simp at h, hr.hp.gl⟩
  refine (hc { E with nb := 0, nr := 0 } w vs hH ((hvs.pure hp).v (E := { E with nb := 0, nr := 0 }))).mono ?_
  rintro e w' ⟨v, ys, E', rfl, h1, h2, h3, h4, hh, hx⟩
  have hr2 := hr.more (im := E'.im) hx.sz (fun k hk => hx.keep k hk (fun i hi => by simp at hi)) hx.os hx.tape hx.out hx.up hx.dn hh.im_lt
  obtain ⟨hr3, hv⟩ := hr2.newRow (x := row) (v := v) (xs := ys) (World.ownsRow.mono h1 hr.hp.lo) h2 h3 (fun k i hi hk => by
      have a1 := (World.ownsRow.lt h1 k hk).1
      have a2 := hr.hp.bx_lt (i := i) hi
      intro he
      have he' : E.β i = k := he
      omega) h4 (fun k j s hj hk => by
      obtain ⟨xs, ho, _⟩ := hr.hp.row j s hj
      intro he
      have a1 := (World.ownsRow.lt h1 k hk).1
      have a2 := (ownsRow_lt ho he).2
      omega) (fun k hk => .inl (Nat.le_trans hr.sz (World.ownsRow.lt h1 k hk).1))
  exact ⟨⟨fun k hk => hx.keep k hk (fun i hi => by simp at hi), hx.sz⟩, _, _, h, hr3.put hd hv⟩
def FinF (G : Prg) (fn : Func) (row : Row) (st : AS) : Prop := ∃ r, aret G fn st = some (.own r row.n) ∧ st.h.rw[r]? = some (some row)
theorem Fresh.of_swp {f : FuncId} {fn : Func} {c : Code} {args : List PV} {row : Row} (hf : G.P.funcs[f]? = some fn) (hb : fn.body = some c) (hn : args.length ≤ fn.ntmps)
    (h : ∀ w0 E0, SWP G (Ctx.of w0 E0 0 fn.ntmps) c (QT (FinF G fn row) [] (FinF G fn row) (fun _ _ => False)) ⟨enum 0 args, ⟨[], []⟩⟩) : Fresh G f args row := fun E w vs hh hv => by
  refine calls_of_wp hf hb ?_
  have hE : HRep G.Γ { E with lo := w.heap.size } w ⟨[], []⟩ := ⟨hh.nb, hh.nr, Nat.le_refl _, fun i b hb => by simp at hb, fun i r hr => by simp at hr, hh.inj, hh.rinj, hh.brw, hh.im_lt, hh.im_b, hh.im_r, hh.gl⟩
  have hv' : VReps { E with lo := w.heap.size } w args vs := hv.move fun x v hx => hx.move (Nat.le_refl _) (Nat.le_refl _) (fun _ _ => rfl) (fun _ _ => rfl) (fun _ h => h) (fun _ _ => rfl)
  have hrel : Rel G (Ctx.of w E 0 fn.ntmps) { E with lo := w.heap.size } ⟨enum 0 args, ⟨[], []⟩⟩ { tmps := vs.toArray ++ Array.replicate (fn.ntmps - vs.toArray.size) undef, defers := [] } w :=
    ⟨rfl, by simp [hv.1]; omega, fun s => by
      rcases lk_enum args vs 0 (fn.ntmps - vs.length) s hv' with h | h
      · have e : (vs.toArray ++ Array.replicate (fn.ntmps - vs.toArray.size) undef).getD s undef = (vs ++ List.replicate (fn.ntmps - vs.length) undef).getD (s - 0) undef := by
          rw [Array.getD_eq_getD_getElem?, List.getD, ← Array.getElem?_toList]
          simp
        rw [e]
        exact h
      · omega, hE, rfl, Nat.zero_le _, fun _ _ => rfl, fun i h1 h2 => absurd (show i < 0 by have e : E.nb = 0 := hh.nb; exact Nat.lt_of_lt_of_eq h2 e) (Nat.not_lt_zero _), fun _ h => h, fun _ h => .inl h, fun _ _ _ _ => rfl, rfl, rfl, rfl, Nat.le_refl _, fun j s k hj => by simp at hj⟩
  refine wp_mono (h w E _ _ _ hrel) fun e a' w' ⟨ae, s, E', q, x, r⟩ => ?_
  have fin : FinF G fn row s → a'.defers = [] ∧ ∃ v, (results fn a'.tmps).run G.P w' = .ok v w' ∧ ∃ v' ys E', (Ending.returned v) = .returned v' ∧ w'.ownsRow w.heap.size row.ty row.sz v' row.n ys ∧ IReps E'.im w' row.cs ys ∧ (∀ u ∈ ys, u.oneCell' = true) ∧ (∀ k, v'.ownBlock = some k → ¬ E'.im k) ∧ HRep G.Γ E' w' ⟨[], []⟩ ∧ PExt 0 E w E' w' := fun ⟨rr, h3, h4⟩ => by
    obtain ⟨v, hv1, hv2⟩ := aret_ok r.fr r.hp h3
    obtain ⟨us, ho, hus, h1⟩ := r.hp.row rr row h4
    obtain ⟨k1, k2⟩ := close_ok r (fun _ h => h) (m := 0) (Nat.le_refl _) (Nat.zero_le _) rfl
    have hve : v = E'.ρ rr := by
      cases hv2 with
      | imm h => cases h
      | own hr he hn => subst hn; rw [he]
    refine ⟨r.defers, v, hv1, v, us, { E' with nb := 0, nr := 0 }, rfl, ?_, hus, h1, fun k hk him => ?_, k1, ⟨k2.sz, k2.os, k2.tape, k2.out, k2.keep, k2.more, k2.β, k2.up, k2.dn, k2.own⟩⟩
    · rw [hve]
      have hlo : E'.lo = w.heap.size := r.lo
      rw [← hlo]
      exact ho
    · rw [hve] at hk
      exact r.hp.im_r k rr row h4 him hk
  cases ae with
  | normal => cases x; exact fin q
  | ret => cases x; exact fin q
  | exit i => exact q.elim
  | panic y => exact q.elim
theorem SOpG.isNil0 {o : Oper} {t t' : TypeId} {e : TypeId} {td : TD} {x y : Operand} (ho : o.op = .binOp .eql t x y t') (ht : G.T t = some td) (hk : td.k = .slice e) (hx : st.ev G.Γ x = .slice 0 []) (hy : st.ev G.Γ y = .nil) (hd : dstOk C.nt o.dst = true) (h : ∀ b, K (st.put o.dst (.bool b))) : SOpG G C o Q K st := fun E a w hr => by
  have hu := ev_rep hr.fr hr.hp x
  have hv := ev_rep hr.fr hr.hp y
  rw [hx] at hu
  rw [hy] at hv
  obtain ⟨d, hdd, hkk⟩ := (G.hT _ _ ht).und
  rw [hk] at hkk
  simp only [TK.ok] at hkk
  subst hkk
  have hrr : ∀ w, (underlying t).run G.P w = .ok (.slice e) w := fun w => wf_und hdd w
  have hv0 := hv.nil_inv
  have key : ∃ b, (execOp a.eval o).run G.P w = .ok (.value (.bool b)) w := by
    rcases hu.slice_inv with ⟨h0, _, _⟩ | ⟨ad, c, vs, h0, _⟩
    · refine ⟨true, ?_⟩
      have h1 : (Op.equal t (a.eval x) (a.eval y)).run G.P w = .ok true w := by
        rw [h0, hv0, Op.equal, show Op.maxDepth = 9999 + 1 from rfl, Op.equalIn]; simp [hrr, Result.andThen]
      have h2 : binOp .eql t (a.eval x) (a.eval y) = (do pure (.bool (← Op.equal t (a.eval x) (a.eval y)))) := by rw [h0, hv0]; rfl
      have h3 : ∀ op p q, (eqGuard op t p q (a.eval x) (a.eval y)).run G.P w = .ok () w := fun op p q => by rw [h0, hv0]; cases op <;> simp [eqGuard]
      simp [execOp, ho, h1, h2, h3, Result.andThen]
    · refine ⟨false, ?_⟩
      have h1 : (Op.equal t (a.eval x) (a.eval y)).run G.P w = .ok false w := by
        rw [h0, hv0, Op.equal, show Op.maxDepth = 9999 + 1 from rfl, Op.equalIn]; simp [hrr, Result.andThen]
      have h2 : binOp .eql t (a.eval x) (a.eval y) = (do pure (.bool (← Op.equal t (a.eval x) (a.eval y)))) := by rw [h0, hv0]; rfl
      have h3 : ∀ op p q, (eqGuard op t p q (a.eval x) (a.eval y)).run G.P w = .ok () w := fun op p q => by rw [h0, hv0]; cases op <;> simp [eqGuard]
      simp [execOp, ho, h1, h2, h3, Result.andThen]
  obtain ⟨b, hrun⟩ := key
  unfold Oper.wp
  rw [hrun]
  exact ⟨⟨Gr.refl w, Nat.le_refl _⟩, _, E, h b, hr.put hd (.imm (.bool b))⟩
end
def pickS (sl : List Nat) (t : List (Nat × PV)) : List (Nat × PV) := sl.map fun k => (k, lk t k)
theorem lk_pickS (sl : List Nat) (t : List (Nat × PV)) (k : Nat) : lk (pickS sl t) k = .junk ∨ lk (pickS sl t) k = lk t k := by
  induction sl with
  | nil => exact .inl rfl
  | cons s sl ih =>
    simp only [pickS, List.map_cons, lk] at ih ⊢
    split
    · rename_i h; subst h; exact .inr rfl
    · exact ih
def nrm (sl : List Nat) (s : AS) : AS := ⟨pickS sl s.t, s.h⟩
section
variable {G : Prg} {C : Ctx} {Q : AEx → AS → Prop} {st : AS}
theorem Rel.norm {E : Env} {a : Act} {w : World} (hr : Rel G C E st a w) (sl : List Nat) : Rel G C E (nrm sl st) a w :=
  ⟨hr.defers, hr.size, fun k => by
    simp only [nrm]
    rcases lk_pickS sl st.t k with h | h
    · rw [h]; exact .junk _
    · rw [h]; exact hr.fr k, hr.hp, hr.lo, hr.nb, hr.β, hr.own, hr.up, hr.dn, hr.keep, hr.os, hr.tape, hr.out, hr.sz, hr.rows⟩
theorem SWP.norm {c : Code} (sl : List Nat) (h : SWP G C c Q (nrm sl st)) : SWP G C c Q st := fun E a w hr => h E a w (hr.norm sl)
theorem SWP.normQ {c : Code} (h : SWP G C c (fun e s => ∃ sl, Q e (nrm sl s)) st) : SWP G C c Q st := fun E a w hr =>
  wp_mono (h E a w hr) fun e a w ⟨ae, s, E', ⟨sl, q⟩, x, r⟩ => ⟨ae, _, E', q, x, r.norm sl⟩
end
section
variable {P : Program} {ops : Array Oper} {Q : Exit → Act → World → Prop} {ds : List Nat}
theorem wpG_free {i : Nat} {oi : Oper} {v : Value} (hi : ops[i]? = some oi) (hsel : ∀ (j : Nat) (o : Oper) cs b, ops[j]? = some o → o.op ≠ .select cs b)
    (hQ : ∀ c a w, Q (.panic c) (a.put oi.dst v) w → Q (.panic c) a w) :
    ∀ (fuel : Nat) (l : Array Bool) (a : Act) (w : World),
      (∀ j oj, ops[j]? = some oj → j ≠ i → l.getD j true = false → (∀ e ∈ oj.after, Region.binds .any e = true → e.on ≠ i) → oi.apart ops oj = true) →
      i ∈ Region.ready .any ops l → YieldsIf P ops (fun _ => True) oi v a →
      wpG P ops Q ds fuel (l.setIfInBounds i true) (a.put oi.dst v) w → wpG P ops Q ds (fuel + 1) l a w := by
  intro fuel
  induction fuel with
  | zero =>
    intro l a w _ hr hy H
    refine ⟨fun h => (by rw [h] at hr; cases hr), fun j hj => ?_⟩
    by_cases hji : j = i
    · subst hji; exact hy.wpOp hi trivial ⟨fun _ => ⟨Gr.refl w, Nat.le_refl _⟩, H⟩
    · have := ready_mono hj hji
      rw [H.1] at this
      cases this
  | succ fuel ih =>
    intro l a w hfree hr hy H
    refine ⟨fun h => (by rw [h] at hr; cases hr), fun j hj => ?_⟩
    by_cases hji : j = i
    · subst hji; exact hy.wpOp hi trivial ⟨fun _ => ⟨Gr.refl w, Nat.le_refl _⟩, H⟩
    · have h1 := H.2 j (ready_mono hj hji)
      obtain ⟨hjun, oj, hoj, hall⟩ := mem_ready.1 hj
      have hiun := (mem_ready.1 hr).1
      have hif := getD_listed hiun
      have hnot : ∀ e ∈ oj.after, Region.binds .any e = true → e.on ≠ i := fun e he hb heq => by
        have h1 := hall e he hb
        rw [heq, hif] at h1
        cases h1
      have h2 := wpOp_putIf hoj (hfree j oj hoj hji hjun hnot) (fun cs b => hsel i oi cs b hi) (fun cs b => hsel j oj cs b hoj) hQ hy h1
      have un : ∀ k, (l.setIfInBounds j true).getD k true = false → l.getD k true = false := fun k hun => by
        by_cases hjk : j = k
        · subst hjk; exact hjun
        · rw [getD_set_of hjk] at hun; exact hun
      refine wpOp_mono (fun a' w' h3 => ⟨h3.2.1, ih (l.setIfInBounds j true) a' w' (fun k ok hk hki hun hno => hfree k ok hk hki (un k hun) hno) (ready_mono hr (Ne.symm hji)) h3.1 ?_⟩) h2
      rw [Array.setIfInBounds_comm _ _ hji]
      exact h3.2.2
end
def mval (G : Prg) (st : AS) : Op → Option PV
  | .move x | .assign x => some (st.ev G.Γ x)
  | _ => none
def freeOk (ops : Array Oper) (l l' : Array Bool) (i : Nat) : Bool := Region.noSelect ops && Region.free .any ops l i && (Region.ready .any ops l).contains i && (l.setIfInBounds i true == l')
theorem SAny.free {G : Prg} {C : Ctx} {Q : AEx → AS → Prop} {st : AS} {ops : Array Oper} {ds : List Nat} {n : Nat} {i : Nat} {o : Oper} {l l' : Array Bool} {x : PV} (hi : ops[i]? = some o) (hg : o.guard = none) (hx : mval G st o.op = some x) (hd : dstOk C.nt o.dst = true) (hc : freeOk ops l l' i = true)
    (hQ : PanicT Q) (h : SAny G C ops Q ds n l' (st.put o.dst x)) : SAny G C ops Q ds (n + 1) l st := fun E a w hr => by
  have key : ∃ v, YieldsIf G.P ops (fun _ => True) o v a ∧ VRep E w x v := by
    unfold mval at hx
    split at hx
    · rename_i y ho
      cases hx
      exact ⟨a.eval y, .inl ⟨by simp [Region.wanted, hg], fun w' _ => by simp [execOp, ho]⟩, ev_rep hr.fr hr.hp y⟩
    · rename_i y ho
      cases hx
      exact ⟨a.eval y, .inl ⟨by simp [Region.wanted, hg], fun w' _ => by simp [execOp, ho]⟩, ev_rep hr.fr hr.hp y⟩
    · cases hx
  obtain ⟨v, hy, hv⟩ := key
  simp only [freeOk, Bool.and_eq_true, beq_iff_eq] at hc
  obtain ⟨⟨⟨h1, h2⟩, h3⟩, rfl⟩ := hc
  exact wpG_free hi (Region.noSelect_spec h1) (fun c a w => hQ.put o.dst v c a w) n l a w (Region.free_spec hi h2) (by simpa using h3) hy (h E _ w (hr.put hd hv))
noncomputable def sameS (x y : AS) : Bool := by
  classical exact decide (x = y)
theorem sameS_self (x : AS) : sameS x x = true := by unfold sameS; classical exact decide_eq_true rfl
theorem of_sameS {x y : AS} (h : sameS x y = true) : x = y := by unfold sameS at h; classical exact of_decide_eq_true h
mutual
def PV.lone : PV → Bool
  | .int _ _ | .bool _ | .str _ | .nil | .nilptr | .nilfunc | .niliface => true
  | .agg cs => loneL cs
  | .tup cs => loneL cs
  | .iface _ x => x.lone
  | _ => false
def loneL : List PV → Bool
  | [] => true
  | x :: xs => x.lone && loneL xs
end
theorem loneL_get {xs : List PV} (h : loneL xs = true) {j : Nat} {x : PV} (hj : xs[j]? = some x) : x.lone = true := by
  induction xs generalizing j with
  | nil => simp at hj
  | cons y ys ih =>
    simp only [loneL, Bool.and_eq_true] at h
    cases j with
    | zero => simp at hj; subst hj; exact h.1
    | succ j => exact ih h.2 (by simpa using hj)
theorem IRep.lone {im im' : Nat → Prop} {w w' : World} {x : PV} {v : Value} (h : IRep im w x v) (hl : x.lone = true) : IRep im' w' x v := by
  induction h with
  | int | bool | str | nil | nilptr | nilfunc | niliface => constructor
  | slice0 | slice | epos | func | exact | sl => simp [PV.lone] at hl
  | iface t _ ih => exact .iface t (ih (by simpa [PV.lone] using hl))
  | agg hn hr ih => exact .agg hn fun j x v hx hv => ih j x v hx hv (loneL_get (by simpa [PV.lone] using hl) hx)
  | tup hn hr ih => exact .tup hn fun j x v hx hv => ih j x v hx hv (loneL_get (by simpa [PV.lone] using hl) hx)
theorem VRep.lone {E E' : Env} {w w' : World} {x : PV} {v : Value} (h : VRep E w x v) (hl : x.lone = true) : VRep E' w' x v := by
  induction h with
  | imm h => exact .imm (h.lone hl)
  | own | rpos | ptr | bsl | func | junk => simp [PV.lone] at hl
  | iface t _ ih => exact .iface t (ih (by simpa [PV.lone] using hl))
  | agg hn hr ih => exact .agg hn fun j x v hx hv => ih j x v hx hv (loneL_get (by simpa [PV.lone] using hl) hx)
  | tup hn hr ih => exact .tup hn fun j x v hx hv => ih j x v hx hv (loneL_get (by simpa [PV.lone] using hl) hx)
section
variable {G : Prg} {C : Ctx} {Q : AEx → AS → Prop} {K : AS → Prop} {st : AS}
theorem SOpG.look {o : Oper} {c : Call} {f : FuncId} {fn : Func} {args : List PV} {R : PV → Prop} (rs : List Nat) (ho : o.op = .call c) (ht : target (AS.frz rs st) G c = some (f, args)) (hf : G.P.funcs[f]? = some fn) (hname : (fn.name == "runtime.NumGoroutine") = false) (hb : fn.body.isSome = true)
    (hp : pureL args = true) (hd : dstOk C.nt o.dst = true) (hc : Pure G f args R) (h : ∀ r, R r → r.lone = true ∧ K (st.put o.dst r)) : SOpG G C o Q K st := fun E a w hr => by
  obtain ⟨E2, hr2⟩ := hr.frz (rs := rs)
  obtain ⟨vs, hrun, hvs⟩ := target_ok ho ht hf hname hb hr2
  unfold Oper.wp
  rw [hrun]
  have hH : HRep G.Γ { E2 with nb := 0, nr := 0 } w ⟨[], []⟩ := ⟨rfl, rfl, hr2.hp.lo, fun i b hb => by simp at hb, fun i r hr => by simp at hr, fun i j h => by simp at h, fun i j r s k h => by simp at h, fun i j r h => by simp at h, hr2.hp.im_lt, fun k i h => by simp at h, fun k j r h => by simp at h, hr2.hp.gl⟩
  refine (hc { E2 with nb := 0, nr := 0 } w vs hH ((hvs.pure hp).v (E := { E2 with nb := 0, nr := 0 }))).mono ?_
  rintro e w' ⟨out, bx', E', ⟨rfl, r, rfl, hR⟩, ⟨v, rfl, hv⟩, hh, hx⟩
  obtain ⟨h1, h2⟩ := h r hR
  have hr3 := hr.more (im := E.im) hx.sz (fun k hk => hx.keep k hk (fun i hi => by simp at hi)) hx.os hx.tape hx.out (fun k h => h) (fun k h => .inl h) (fun k h => Nat.lt_of_lt_of_le (hr.hp.im_lt k h) hx.sz)
  exact ⟨⟨fun k hk => hx.keep k hk (fun i hi => by simp at hi), hx.sz⟩, _, _, h2, hr3.put hd (hv.lone h1)⟩
end
end Go.AS
