/- Which data are right: what it says; laws that the interpreter takes. -/
import Derived.Test.YteimebpgmfhgjaaDoorSym1
import Derived.Test.YteimebpgmfhgjaaDoorCut2
namespace Go.Proofs.YteimebpgmfhgjaaDoor
open Go.AS
set_option linter.unusedVariables false
set_option linter.unusedSimpArgs false
set_option maxRecDepth 100000
namespace Seat
mutual
def formedD : Dat → Bool
  | .mk k n s ks => (decide (k = 1) && decide (s.size = 0) && decide (ks.len = 0)) || (decide (k = 2) && decide (n = 0) && symOk s && decide (ks.len = 0)) || (decide (k = 3) && decide (n = 0) && decide (s.size = 0) && formedL ks)
def formedL : Dats → Bool
  | .nil => true
  | .cons d ds => formedD d && formedL ds
end
theorem formedL_iff : ∀ ks : Dats, formedL ks = true ↔ ∀ j, j < ks.len → formedD (ks.get j) = true
  | .nil => by simp [formedL, Dats.len]
  | .cons d ds => by
    simp only [formedL, Bool.and_eq_true, formedL_iff ds, Dats.len]
    constructor
    · rintro ⟨h1, h2⟩ j hj
      cases j with
      | zero => exact h1
      | succ j => exact h2 j (by omega)
    · intro h
      exact ⟨h 0 (by omega), fun j hj => h (j + 1) (by omega)⟩
theorem formedL_not {ks : Dats} {j : Nat} (hj : j < ks.len) (h : formedD (ks.get j) = false) : formedL ks = false := by
  cases hf : formedL ks with
  | false => rfl
  | true => rw [(formedL_iff ks).1 hf j hj] at h; cases h
/-- The first that isn't right, or -1. -/
def badIdx (ks : Dats) : Int := match (List.range ks.len).find? fun j => !formedD (ks.get j) with
  | some j => j
  | none => -1
theorem badIdx_at {ks : Dats} {j : Nat} (hj : j < ks.len) (h : formedD (ks.get j) = false) (hl : ∀ i, i < j → formedD (ks.get i) = true) : badIdx ks = j := by
  unfold badIdx
  have : (List.range ks.len).find? (fun j => !formedD (ks.get j)) = some j := by
    rw [List.find?_range_eq_some]
    exact ⟨by simp [h], List.mem_range.2 hj, fun i hi => by simp [hl i hi]⟩
  rw [this]
theorem badIdx_none {ks : Dats} (hl : ∀ i, i < ks.len → formedD (ks.get i) = true) : badIdx ks = -1 := by
  unfold badIdx
  have : (List.range ks.len).find? (fun j => !formedD (ks.get j)) = none := by
    rw [List.find?_eq_none]
    intro i hi
    simp [hl i (List.mem_range.1 hi)]
  rw [this]
theorem badIdx_formed (ks : Dats) : decide (0 ≤ badIdx ks) = !formedL ks := by
  cases h : formedL ks with
  | true => rw [badIdx_none fun i hi => (formedL_iff ks).1 h i hi]; rfl
  | false =>
    unfold badIdx
    split
    · rename_i j hj
      simp
    · rename_i hn
      rw [List.find?_eq_none] at hn
      have : formedL ks = true := (formedL_iff ks).2 fun j hj => by simpa using hn j (List.mem_range.2 hj)
      rw [this] at h
      cases h
open Classical in
/-- The cells are those of so many trees, of less than N. -/
noncomputable def isDats (N n : Nat) (cs : List PV) : Bool := decide (∃ ks : Dats, ks.cells = cs ∧ ks.len = n ∧ ks.size < N ∧ ks.len ≤ 9223372036854775807 ∧ ks.ok)
open Classical in
noncomputable def ofCellsL {α : Type} (f : Dats → α) (z : α) (cs : List PV) : α := if h : ∃ ks : Dats, ks.cells = cs then f h.choose else z
theorem ofCellsL_at {α : Type} (f : Dats → α) (z : α) (ks : Dats) : ofCellsL f z ks.cells = f ks := by
  have h : ∃ e : Dats, e.cells = ks.cells := ⟨ks, rfl⟩
  unfold ofCellsL
  rw [dif_pos h, Dats.inj _ _ h.choose_spec]
theorem isDats_at {N : Nat} {ks : Dats} (h : ks.size < N) (hl : ks.len ≤ 9223372036854775807) (ho : ks.ok) : isDats N ks.len ks.cells = true := by
  unfold isDats
  classical exact decide_eq_true ⟨ks, rfl, rfl, h, hl, ho⟩
theorem isDats_of {N n : Nat} {cs : List PV} (h : isDats N n cs = true) : ∃ ks : Dats, ks.cells = cs ∧ ks.len = n ∧ ks.size < N ∧ ks.len ≤ 9223372036854775807 ∧ ks.ok := by
  unfold isDats at h
  classical exact of_decide_eq_true h
/-- Law of formed, of data of less than N. -/
def FormAt (N : Nat) : Prop := ∀ d : Dat, d.size < N → d.ok → Pure G0 45 [.agg d.cells] (fun r => r = .bool (formedD d))
def IdxAt (N : Nat) : Prop := ∀ ks : Dats, ks.size < N → ks.len ≤ 9223372036854775807 → ks.ok → Pure G0 73 [.slice ks.len ks.cells, .func (.func 63) []] (fun r => r = .int .i64 (badIdx ks))
noncomputable def formS (N : Nat) (f : Nat) (args : List PV) : Option (PV × Ob) := match f, args with
  | 45, [.agg cs] => some (.bool (ofCells formedD false cs), [(isDat N cs, true)])
  | _, _ => none
theorem formS_ok {N : Nat} (ih : FormAt N) (f : Nat) (args : List PV) (r : PV) (o : Ob) (h : formS N f args = some (r, o)) (ho : ∀ p ∈ o, p.1 = p.2) (_ : pureL args = true) : Pure G0 f args (fun x => x = r) := by
  unfold formS at h
  split at h
  · cases h
    obtain ⟨d, rfl, h1, h2⟩ := isDat_of (ho _ (List.mem_singleton.2 rfl))
    rw [ofCells_at]
    exact ih d h1 h2
  · cases h
noncomputable def idxS (N : Nat) (f : Nat) (args : List PV) : Option (PV × Ob) := match f, args with
  | 73, [.slice n cs, .func (.func 63) []] => some (.int .i64 (ofCellsL badIdx 0 cs), [(isDats N n cs, true)])
  | 61, [.str s] => some (.bool (symOk s), [])
  | _, _ => none
theorem idxS_ok {N : Nat} (ih : IdxAt N) (f : Nat) (args : List PV) (r : PV) (o : Ob) (h : idxS N f args = some (r, o)) (ho : ∀ p ∈ o, p.1 = p.2) (_ : pureL args = true) : Pure G0 f args (fun x => x = r) := by
  unfold idxS at h
  split at h
  · cases h
    obtain ⟨ks, rfl, rfl, h1, hl, h2⟩ := isDats_of (ho _ (List.mem_singleton.2 rfl))
    rw [ofCellsL_at]
    exact ih ks h1 hl h2
  · cases h; exact isSymbol_ok _
  · cases h
end Seat
end Go.Proofs.YteimebpgmfhgjaaDoor
