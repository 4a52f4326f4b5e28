/- The seat's types of data: what is read of them is kept; trees. -/
import Derived.Test.YteimebpgmfhgjaaDoorWit
import Derived.Test.YteimebpgmfhgjaaDoorEng1
namespace Go.Proofs.YteimebpgmfhgjaaDoor.Seat
open Go.ChangeShapes Go.WideShapes Go.ChangeAt Go.RowKit Go.AS
set_option linter.unusedVariables false
set_option maxRecDepth 100000
def flatT (t : TypeId) : Prop := t = 3 ∨ t = 2 ∨ t = 9 ∨ t = 22 ∨ t = 24
theorem flat : Flat Tryd.prog flatT := ⟨fun t ht => by
  rcases ht with rfl | rfl | rfl | rfl | rfl
  · exact .inr (.inl ⟨_, Tryd.underlying3⟩)
  · exact .inr (.inl ⟨_, Tryd.underlying2⟩)
  · exact .inr (.inr (.inl Tryd.underlying9))
  · exact .inr (.inr (.inr (.inl ⟨_, Tryd.underlying22, .inr (.inr (.inr (.inr rfl))), by rw [show Tryd.prog.cellsOf 24 = 4 by kernel_rfl]; exact Nat.le_of_ble_eq_true rfl⟩)))
  · refine .inr (.inr (.inr (.inr ⟨_, Tryd.underlying24, fun f hf => ?_⟩)))
    simp only [List.mem_cons, List.not_mem_nil, or_false] at hf
    rcases hf with rfl | rfl | rfl | rfl
    · exact .inl rfl
    · exact .inr (.inl rfl)
    · exact .inr (.inr (.inl rfl))
    · exact .inr (.inr (.inr (.inl rfl)))⟩
theorem datT : DatT Tryd.prog 24 22 :=
  ⟨⟨_, _, _, _, _, Tryd.underlying24, rfl, rfl, rfl, rfl, rfl, Tryd.underlying3, Tryd.underlying2, Tryd.underlying9, rfl, by kernel_rfl, by kernel_rfl, by kernel_rfl, by kernel_rfl⟩, Tryd.underlying22, by kernel_rfl⟩
/-- A datum that is handed in is a tree. -/
theorem open_dat {H : Type} {enc : TypeId × Value → H} {W : World} {base b0 : Nat} {sp : Nat → Bool} {held : Bool} {v : Value} {d : DataW H} {p : List MemPlace} (hv : Value.okWide Tryd.prog W .any base 24 v) (h : DataW.Trod enc Tryd.prog W b0 sp held 24 v d p) :
    ∃ D : Dat, D.ok ∧ IRep (old W) W (.agg D.cells) v := by
  unfold Value.okWide at hv
  rw [Tryd.underlying24] at hv
  obtain ⟨cs, rfl, _, _⟩ := hv
  obtain ⟨m, h⟩ := h
  obtain ⟨D, h1, h2, _⟩ := trod_dat (enc := enc) (w := W) datT m m (Nat.le_refl _) _ _ _ h
  refine ⟨D, h1, ?_⟩
  have : IRep (old W) W (.agg D.cells) (.agg cs.toList.toArray) := .agg h2.1 h2.2
  rwa [Array.toArray_toList] at this
end Go.Proofs.YteimebpgmfhgjaaDoor.Seat
