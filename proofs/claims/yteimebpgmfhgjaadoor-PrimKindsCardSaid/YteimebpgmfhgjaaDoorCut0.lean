/- pagodaref01.Cut: what it comes to. -/
import Derived.Test.YteimebpgmfhgjaaDoorEach4
namespace Go.Proofs.YteimebpgmfhgjaaDoor
open Go.AS
set_option linter.unusedVariables false
set_option linter.unusedSimpArgs false
namespace Seat
def Dats.snoc : Dats → Dat → Dats
  | .nil, e => .cons e .nil
  | .cons d ds, e => .cons d (Dats.snoc ds e)
theorem snoc_cells : ∀ (ds : Dats) (e : Dat), (Dats.snoc ds e).cells = ds.cells ++ e.cells
  | .nil, e => by simp [Dats.snoc, Dats.cells]
  | .cons d ds, e => by simp only [Dats.snoc, Dats.cells, snoc_cells ds e, List.append_assoc]
theorem snoc_len : ∀ (ds : Dats) (e : Dat), (Dats.snoc ds e).len = ds.len + 1
  | .nil, e => rfl
  | .cons d ds, e => by simp only [Dats.snoc, Dats.len, snoc_len ds e]
/-- The string, cut off. -/
def cutS (s : ByteArray) : ByteArray := s.extract 0 (min (s.size : Int) 42).toNat
mutual
/-- The datum, as far as there is room; the room that is left. -/
def cutD : Dat → Int → Int → Dat × Int
  | .mk k n s ks, deep, left =>
    let r := cutL ks deep (left - 1)
    (.mk k n (cutS s) r.1, r.2)
def cutL : Dats → Int → Int → Dats × Int
  | .nil, _, left => (.nil, left)
  | .cons d ds, deep, left => if 1 < deep ∧ 0 < left then
      let r := cutD d (deep - 1) left
      let q := cutL ds deep r.2
      (.cons r.1 q.1, q.2)
    else (.nil, left)
end
/-- The first j, whatever room there is. -/
def cutN (ks : Dats) (deep left : Int) : Nat → Dats × Int
  | 0 => (.nil, left)
  | j + 1 => (Dats.snoc (cutN ks deep left j).1 (cutD (ks.get j) (deep - 1) (cutN ks deep left j).2).1, (cutD (ks.get j) (deep - 1) (cutN ks deep left j).2).2)
theorem cutN_cons (d : Dat) (ds : Dats) (deep left : Int) (j : Nat) : cutN (.cons d ds) deep left (j + 1) = (.cons (cutD d (deep - 1) left).1 (cutN ds deep (cutD d (deep - 1) left).2 j).1, (cutN ds deep (cutD d (deep - 1) left).2 j).2) := by
  induction j with
  | zero => simp [cutN, Dats.get, Dats.snoc]
  | succ j ih =>
    rw [cutN, ih]
    simp only [cutN, Dats.get, Dats.snoc]
/-- Where the loop stops. -/
theorem cutN_stop : ∀ (ks : Dats) (deep left : Int) (m : Nat), m ≤ ks.len → (∀ i, i < m → 1 < deep ∧ 0 < (cutN ks deep left i).2) → (m = ks.len ∨ ¬ (1 < deep ∧ 0 < (cutN ks deep left m).2)) → cutL ks deep left = cutN ks deep left m
  | .nil, deep, left, m, hm, hl, hs => by
    simp only [Dats.len] at hm
    obtain rfl : m = 0 := by omega
    rfl
  | .cons d ds, deep, left, 0, hm, hl, hs => by
    rcases hs with h | h
    · simp [Dats.len] at h
    · simp only [cutN] at h
      simp only [cutL, if_neg h, cutN]
  | .cons d ds, deep, left, m + 1, hm, hl, hs => by
    have h0 := hl 0 (by omega)
    simp only [cutN] at h0
    have ih := cutN_stop ds deep (cutD d (deep - 1) left).2 m (by simp only [Dats.len] at hm; omega) (fun i hi => by have := hl (i + 1) (by omega); rw [cutN_cons] at this; exact this) (by
      rcases hs with h | h
      · left; simp only [Dats.len] at h; omega
      · right; rw [cutN_cons] at h; exact h)
    rw [cutN_cons]
    simp only [cutL, if_pos h0, ih]
theorem cutN_len (ks : Dats) (deep left : Int) (j : Nat) : (cutN ks deep left j).1.len = j := by
  induction j with
  | zero => rfl
  | succ j ih => simp only [cutN, snoc_len, ih]
mutual
/-- It takes as much room as it has parts. -/
theorem cutD_parts : ∀ (d : Dat) (deep left : Int), 1 ≤ left → 0 ≤ (cutD d deep left).2 ∧ (cutD d deep left).2 + parts (cutD d deep left).1 = left
  | .mk k n s ks, deep, left, h => by
    have := cutL_parts ks deep (left - 1) (by omega)
    simp only [cutD, parts]
    omega
theorem cutL_parts : ∀ (ks : Dats) (deep left : Int), 0 ≤ left → 0 ≤ (cutL ks deep left).2 ∧ (cutL ks deep left).2 + partsL (cutL ks deep left).1 = left
  | .nil, deep, left, h => by simp only [cutL, partsL]; omega
  | .cons d ds, deep, left, h => by
    simp only [cutL]
    split
    · have h1 := cutD_parts d (deep - 1) left (by omega)
      have h2 := cutL_parts ds deep (cutD d (deep - 1) left).2 h1.1
      simp only [partsL]
      omega
    · simp only [partsL]; omega
end
mutual
theorem cutD_deep : ∀ (d : Dat) (deep left : Int), 1 ≤ deep → (deepN (cutD d deep left).1 : Int) ≤ deep
  | .mk k n s ks, deep, left, h => by
    have := cutL_deep ks deep (left - 1) h
    simp only [cutD, deepN]
    omega
theorem cutL_deep : ∀ (ks : Dats) (deep left : Int), 1 ≤ deep → (deepNL (cutL ks deep left).1 : Int) ≤ deep - 1
  | .nil, deep, left, h => by simp only [cutL, deepNL]; omega
  | .cons d ds, deep, left, h => by
    simp only [cutL]
    split
    · have h1 := cutD_deep d (deep - 1) left (by omega)
      have h2 := cutL_deep ds deep (cutD d (deep - 1) left).2 h
      simp only [deepNL]
      omega
    · simp only [deepNL]; omega
end
end Seat
end Go.Proofs.YteimebpgmfhgjaaDoor
