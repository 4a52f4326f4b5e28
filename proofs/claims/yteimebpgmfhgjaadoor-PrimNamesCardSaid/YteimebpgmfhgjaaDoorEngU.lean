/- Trees of data: their cells; laws of functions over them, as the interpreter takes them. -/
import Derived.Test.YteimebpgmfhgjaaDoorEngT
namespace Go.AS
set_option linter.unusedVariables false
set_option linter.unusedSimpArgs false
mutual
inductive Dat where
  | mk (k n : Int) (s : ByteArray) (ks : Dats)
inductive Dats where
  | nil
  | cons (d : Dat) (ds : Dats)
end
mutual
def Dat.cells : Dat → List PV
  | .mk k n s ks => [.int .i64 k, .int .i64 n, .str s, .slice ks.len ks.cells]
def Dats.cells : Dats → List PV
  | .nil => []
  | .cons d ds => d.cells ++ ds.cells
def Dats.len : Dats → Nat
  | .nil => 0
  | .cons _ ds => ds.len + 1
end
mutual
def Dat.size : Dat → Nat
  | .mk _ _ _ ks => ks.size + 1
def Dats.size : Dats → Nat
  | .nil => 0
  | .cons d ds => d.size + ds.size + 1
end
mutual
/-- Short enough for a machine. -/
def Dat.ok : Dat → Prop
  | .mk _ _ _ ks => ks.len ≤ 9223372036854775807 ∧ ks.ok
def Dats.ok : Dats → Prop
  | .nil => True
  | .cons d ds => d.ok ∧ ds.ok
end
theorem Dat.cells_len (d : Dat) : d.cells.length = 4 := by cases d; rfl
theorem Dats.cells_len : ∀ ds : Dats, ds.cells.length = ds.len * 4
  | .nil => rfl
  | .cons d ds => by simp only [Dats.cells, Dats.len, List.length_append, Dat.cells_len, Dats.cells_len ds]; omega
theorem Dat.pure (d : Dat) : pureL d.cells = true := by cases d; rfl
theorem Dat.pure1 (d : Dat) : pureL [.agg d.cells] = true := by simp only [pureL, PV.pure, Dat.pure, Bool.and_true]
def Dats.get : Dats → Nat → Dat
  | .nil, _ => .mk 0 0 ⟨#[]⟩ .nil
  | .cons d _, 0 => d
  | .cons _ ds, i + 1 => ds.get i
def Dats.take : Dats → Nat → Dats
  | _, 0 => .nil
  | .nil, _ => .nil
  | .cons d ds, i + 1 => .cons d (ds.take i)
theorem Dats.get_cells : ∀ (ds : Dats) (i : Nat), i < ds.len → (ds.cells.drop (i * 4)).take 4 = (ds.get i).cells
  | .nil, i, h => by simp [Dats.len] at h
  | .cons d ds, 0, h => by
    simp only [Dats.cells, Dats.get, Nat.zero_mul, List.drop_zero]
    rw [List.take_append_of_le_length (by rw [Dat.cells_len]; omega), List.take_of_length_le (by rw [Dat.cells_len]; omega)]
  | .cons d ds, i + 1, h => by
    simp only [Dats.cells, Dats.get]
    have e : (i + 1) * 4 = d.cells.length + i * 4 := by rw [Dat.cells_len]; omega
    rw [e, List.drop_append, ← Dats.get_cells ds i (by simp only [Dats.len] at h; omega)]
    congr 1
    rw [List.drop_eq_nil_of_le (by omega), List.nil_append]
    congr 1
    omega
theorem Dats.get_ok : ∀ (ds : Dats) (i : Nat), i < ds.len → ds.ok → (ds.get i).ok
  | .nil, i, h, _ => by simp [Dats.len] at h
  | .cons d ds, 0, h, ho => ho.1
  | .cons d ds, i + 1, h, ho => Dats.get_ok ds i (by simp only [Dats.len] at h; omega) ho.2
theorem Dats.get_size : ∀ (ds : Dats) (i : Nat), i < ds.len → (ds.get i).size < ds.size
  | .nil, i, h => by simp [Dats.len] at h
  | .cons d ds, 0, h => by simp only [Dats.get, Dats.size]; omega
  | .cons d ds, i + 1, h => by
    have := Dats.get_size ds i (by simp only [Dats.len] at h; omega)
    simp only [Dats.get, Dats.size]; omega
mutual
theorem Dat.inj : ∀ (a b : Dat), a.cells = b.cells → a = b
  | .mk k n s ks, .mk k' n' s' ks', h => by
    simp only [Dat.cells, List.cons.injEq, PV.int.injEq, PV.str.injEq, PV.slice.injEq, true_and, and_true] at h
    obtain ⟨rfl, rfl, rfl, _, h⟩ := h
    rw [Dats.inj ks ks' h]
theorem Dats.inj : ∀ (a b : Dats), a.cells = b.cells → a = b
  | .nil, .nil, _ => rfl
  | .nil, .cons d ds, h => by
    have := congrArg List.length h
    simp only [Dats.cells, List.length_append, Dat.cells_len, List.length_nil] at this
    omega
  | .cons d ds, .nil, h => by
    have := congrArg List.length h
    simp only [Dats.cells, List.length_append, Dat.cells_len, List.length_nil] at this
    omega
  | .cons d ds, .cons e es, h => by
    simp only [Dats.cells] at h
    obtain ⟨h1, h2⟩ := List.append_inj h (by rw [Dat.cells_len, Dat.cells_len])
    rw [Dat.inj d e h1, Dats.inj ds es h2]
end
open Classical in
/-- The cells are a tree's of less than N. -/
noncomputable def isDat (N : Nat) (cs : List PV) : Bool := decide (∃ d : Dat, d.cells = cs ∧ d.size < N ∧ d.ok)
open Classical in
/-- What is said of a tree, said of its cells. -/
noncomputable def ofCells {α : Type} (f : Dat → α) (z : α) (cs : List PV) : α := if h : ∃ d : Dat, d.cells = cs then f h.choose else z
theorem ofCells_at {α : Type} (f : Dat → α) (z : α) (d : Dat) : ofCells f z d.cells = f d := by
  have h : ∃ e : Dat, e.cells = d.cells := ⟨d, rfl⟩
  unfold ofCells
  rw [dif_pos h, Dat.inj _ _ h.choose_spec]
theorem isDat_at {N : Nat} {d : Dat} (h : d.size < N) (ho : d.ok) : isDat N d.cells = true := by
  unfold isDat
  classical exact decide_eq_true ⟨d, rfl, h, ho⟩
theorem isDat_of {N : Nat} {cs : List PV} (h : isDat N cs = true) : ∃ d : Dat, d.cells = cs ∧ d.size < N ∧ d.ok := by
  unfold isDat at h
  classical exact of_decide_eq_true h
end Go.AS
