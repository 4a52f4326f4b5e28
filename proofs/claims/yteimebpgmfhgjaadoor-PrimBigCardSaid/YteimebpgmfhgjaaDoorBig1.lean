/- PrimBig: plain laws of its data. -/
import Derived.Test.YteimebpgmfhgjaaDoorBig0
namespace Go.Proofs.YteimebpgmfhgjaaDoor
open Go.AS
set_option linter.unusedVariables false
set_option linter.unusedSimpArgs false
set_option maxRecDepth 100000
namespace Seat
theorem kids_parts : ∀ t, partsL (kids t) = t
  | 0 => rfl
  | t + 1 => by simp only [kids, partsL, parts, kids_parts t, Nat.add_zero]
theorem kids_deep : ∀ t, deepNL (kids t) = t
  | 0 => rfl
  | t + 1 => by simp only [kids, deepNL, deepN, kids_deep t]; omega
theorem kids_formed : ∀ t, formedL (kids t) = true
  | 0 => rfl
  | t + 1 => by simp [kids, formedL, formedD, kids_formed t]; rfl
theorem ones_parts : ∀ m, partsL (Dats.ones m) = m
  | 0 => rfl
  | m + 1 => by simp only [Dats.ones, partsL, parts, ones_parts m]; omega
theorem ones_deep : ∀ m, deepNL (Dats.ones m) ≤ 1
  | 0 => by simp [Dats.ones, deepNL]
  | m + 1 => by have := ones_deep m; simp only [Dats.ones, deepNL, deepN]; omega
theorem ones_formed : ∀ m, formedL (Dats.ones m) = true
  | 0 => rfl
  | m + 1 => by simp [Dats.ones, formedL, formedD, ones_formed m, Dats.len]; rfl
theorem ones_len : ∀ m, (Dats.ones m).len = m
  | 0 => rfl
  | m + 1 => by simp only [Dats.ones, Dats.len, ones_len m]
theorem ones_snoc : ∀ m, (Dats.ones m).cells ++ [.int .i64 1, .int .i64 1, .str ⟨#[]⟩, .slice 0 []] = (Dats.ones (m + 1)).cells
  | 0 => rfl
  | m + 1 => by
    have := ones_snoc m
    rw [show (Dats.ones (m + 1 + 1)).cells = (.int .i64 1 :: .int .i64 1 :: .str ⟨#[]⟩ :: .slice 0 [] :: (Dats.ones (m + 1)).cells) from rfl]
    exact congrArg (fun l => PV.int .i64 1 :: .int .i64 1 :: .str ⟨#[]⟩ :: .slice 0 [] :: l) this
theorem chk_big {d : Dat} (h1 : formedD d = true) (h2 : parts d ≤ 2000000) (h3 : 100000 < parts d ∨ 1000 < deepN d) : chkD d ≠ 0 := by
  unfold chkD
  rw [w64_in (parts d) (by omega), if_neg (by simp [h1])]
  rcases h3 with h3 | h3
  · rw [if_pos (by omega)]; decide
  · split
    · decide
    · rw [if_pos (by omega)]; decide
theorem bigK_parts (t m : Nat) : partsL (bigK t m) = t + 1 + m := by simp only [bigK, partsL, parts, kids_parts, ones_parts]
theorem bigK_deep (t m : Nat) : deepNL (bigK t m) = t + 1 := by
  have := ones_deep m
  simp only [bigK, deepNL, deepN, kids_deep]
  omega
theorem bigK_formed (t m : Nat) : formedL (bigK t m) = true := by
  simp [bigK, formedL, formedD, kids_formed, ones_formed]
  rfl
theorem bigK_len (t m : Nat) : (bigK t m).len = m + 1 := by simp only [bigK, Dats.len, ones_len]
end Seat
end Go.Proofs.YteimebpgmfhgjaaDoor
