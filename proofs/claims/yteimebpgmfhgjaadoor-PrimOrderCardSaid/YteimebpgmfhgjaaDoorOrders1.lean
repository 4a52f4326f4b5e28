/- PrimOrder's argument: three numbers and two trees. -/
import Derived.Test.YteimebpgmfhgjaaDoorFlat1
namespace Go.Proofs.YteimebpgmfhgjaaDoor.Seat
open Go.ChangeShapes Go.WideShapes Go.ChangeAt Go.RowKit Go.AS
set_option linter.unusedVariables false
set_option maxRecDepth 100000
def flatOT (t : TypeId) : Prop := t = 49 ∨ flatT t
theorem flatO : Flat Tryd.prog flatOT := ⟨fun t ht => by
  rcases ht with rfl | ht
  · refine .inr (.inr (.inr (.inr ⟨_, Tryd.underlying49, fun f hf => ?_⟩)))
    simp only [List.mem_cons, List.not_mem_nil, or_false] at hf
    rcases hf with rfl | rfl | rfl | rfl | rfl
    all_goals simp only [flatOT, flatT, true_or, or_true]
  · rcases flat.at' t ht with h | h | h | ⟨e, h1, h2, h3⟩ | ⟨fs, h1, h2⟩
    · exact .inl h
    · exact .inr (.inl h)
    · exact .inr (.inr (.inl h))
    · exact .inr (.inr (.inr (.inl ⟨e, h1, .inr h2, h3⟩)))
    · exact .inr (.inr (.inr (.inr ⟨fs, h1, fun f hf => .inr (h2 f hf)⟩)))⟩
theorem open_orders {H : Type} {enc : TypeId × Value → H} {W : World} {base b0 : Nat} {sp : Nat → Bool} {held : Bool} {v : Value} {d : DataW H} {p : List MemPlace} (hv : Value.okWide Tryd.prog W .any base 49 v) (h : DataW.Trod enc Tryd.prog W b0 sp held 49 v d p) :
    ∃ (a b c : Int) (D E : Dat), D.ok ∧ E.ok ∧ IRep (old W) W (.agg ([.int .i64 a, .int .i64 b, .int .i64 c] ++ (D.cells ++ E.cells))) v := by
  unfold Value.okWide at hv
  rw [Tryd.underlying49] at hv
  obtain ⟨cs, rfl, hsz, _⟩ := hv
  obtain ⟨m, h⟩ := h
  obtain ⟨xs, n, rfl, hx, hl, hlen, hf⟩ := DataW.trod_struct Tryd.underlying49 h
  have c2 : Tryd.prog.cellsOf 2 = 1 := by kernel_rfl
  have c24 : Tryd.prog.cellsOf 24 = 4 := by kernel_rfl
  have c49 : Tryd.prog.cellsOf 49 = 11 := by kernel_rfl
  have hcl : cs.toList.length = 11 := hl.trans c49
  have e0 : DataW.trod enc Tryd.prog W b0 sp held n 2 ((cs.toList.drop 0).take (Tryd.prog.cellsOf 2)) = xs[0]? := hf 0 _ rfl
  have e1 : DataW.trod enc Tryd.prog W b0 sp held n 2 ((cs.toList.drop 1).take (Tryd.prog.cellsOf 2)) = xs[1]? := hf 1 _ rfl
  have e2 : DataW.trod enc Tryd.prog W b0 sp held n 2 ((cs.toList.drop 2).take (Tryd.prog.cellsOf 2)) = xs[2]? := hf 2 _ rfl
  have e3 : DataW.trod enc Tryd.prog W b0 sp held n 24 ((cs.toList.drop 3).take (Tryd.prog.cellsOf 24)) = xs[3]? := hf 3 _ rfl
  have e4 : DataW.trod enc Tryd.prog W b0 sp held n 24 ((cs.toList.drop 7).take (Tryd.prog.cellsOf 24)) = xs[4]? := hf 4 _ rfl
  rw [c2] at e0 e1 e2
  rw [c24] at e3 e4
  have hxl : xs.length = 5 := hlen
  have gx : ∀ i, i < 5 → ∃ x, xs[i]? = some x := fun i hi => ⟨_, List.getElem?_eq_getElem (by omega)⟩
  obtain ⟨x0, hx0⟩ := gx 0 (by omega)
  obtain ⟨x1, hx1⟩ := gx 1 (by omega)
  obtain ⟨x2, hx2⟩ := gx 2 (by omega)
  obtain ⟨⟨x3, p3⟩, hx3⟩ := gx 3 (by omega)
  obtain ⟨⟨x4, p4⟩, hx4⟩ := gx 4 (by omega)
  obtain ⟨a, ha, _⟩ := DataW.trod_int Tryd.underlying2 (e0.trans hx0)
  obtain ⟨b, hb, _⟩ := DataW.trod_int Tryd.underlying2 (e1.trans hx1)
  obtain ⟨c, hc, _⟩ := DataW.trod_int Tryd.underlying2 (e2.trans hx2)
  obtain ⟨D, hD, hDr, _⟩ := trod_dat (enc := enc) (w := W) datT n n (Nat.le_refl _) _ _ _ (e3.trans hx3)
  obtain ⟨E, hE, hEr, _⟩ := trod_dat (enc := enc) (w := W) datT n n (Nat.le_refl _) _ _ _ (e4.trans hx4)
  refine ⟨a, b, c, D, E, hD, hE, ?_⟩
  have hall : IReps (old W) W ([.int .i64 a, .int .i64 b, .int .i64 c] ++ (D.cells ++ E.cells)) cs.toList := by
    generalize cs.toList = l at *
    match l, hcl with
    | [w0, w1, w2, w3, w4, w5, w6, w7, w8, w9, w10], _ =>
      simp only [List.drop_zero, List.drop_succ_cons, List.take_succ_cons, List.take_zero, List.cons.injEq, and_true] at ha hb hc hDr hEr
      subst ha hb hc
      exact IReps.append (vs := [_, _, _]) (IReps.append (vs := [_]) (.one (.int _ _)) (IReps.append (vs := [_]) (.one (.int _ _)) (.one (.int _ _)))) (IReps.append hDr hEr)
  have : IRep (old W) W (.agg ([.int .i64 a, .int .i64 b, .int .i64 c] ++ (D.cells ++ E.cells))) (.agg cs.toList.toArray) := .agg hall.1 hall.2
  rwa [Array.toArray_toList] at this
end Go.Proofs.YteimebpgmfhgjaaDoor.Seat
