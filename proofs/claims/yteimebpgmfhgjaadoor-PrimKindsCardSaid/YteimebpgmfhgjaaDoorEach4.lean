/- datum.Parts, datum.Deep. -/
import Derived.Test.YteimebpgmfhgjaaDoorEach3
import Derived.Test.YteimebpgmfhgjaaDoorParts
import Derived.Test.YteimebpgmfhgjaaDoorDeep
namespace Go.Proofs.YteimebpgmfhgjaaDoor
open Go.AS
set_option linter.unusedVariables false
set_option linter.unusedSimpArgs false
set_option maxRecDepth 100000
namespace Seat
mutual
theorem eachF_parts : ∀ (d : Dat) (c : Int) (n : Nat), eachF fParts d c n = w64 (c + parts d)
  | .mk k n' s ks, c, n => by
    simp only [eachF, parts, fParts]
    rw [eachL_parts ks]
    congr 1
    push_cast
    omega
theorem eachL_parts : ∀ (ks : Dats) (c : Int) (n : Nat), eachL fParts ks (w64 c) n = w64 (c + partsL ks)
  | .nil, c, n => by simp [eachL, partsL]
  | .cons d ds, c, n => by
    simp only [eachL, partsL]
    rw [eachF_parts d]
    have e : w64 (w64 c + (parts d : Int)) = w64 (c + parts d) := by unfold w64; simp only [IntKind.wrap_i64]; omega
    rw [e, eachL_parts ds]
    congr 1
    push_cast
    omega
end
mutual
theorem eachF_deep : ∀ (d : Dat) (c : Int) (n : Nat), n + deepN d ≤ 17592186044415 → eachF fDeep d c n = max c ((n + deepN d : Nat) : Int)
  | .mk k n' s ks, c, n, h => by
    simp only [deepN] at h
    have e : fDeep c n = max c ((n + 1 : Nat) : Int) := by
      unfold fDeep mxi
      have := wrapN (n + 1) (by omega)
      push_cast at this ⊢
      rw [this]
      split <;> omega
    simp only [eachF, deepN]
    rw [eachL_deep ks _ _ (by omega) (by rw [e]; omega), e]
    omega
theorem eachL_deep : ∀ (ks : Dats) (c : Int) (n : Nat), n + deepNL ks ≤ 17592186044415 → (n : Int) ≤ c → eachL fDeep ks c n = max c ((n + deepNL ks : Nat) : Int)
  | .nil, c, n, h, hc => by simp only [eachL, deepNL]; omega
  | .cons d ds, c, n, h, hc => by
    simp only [deepNL] at h
    simp only [eachL, deepNL]
    rw [eachF_deep d _ _ (by omega), eachL_deep ds _ _ (by omega) (by omega)]
    omega
end
/-- Not too deep. -/
def Good (d : Dat) : Prop := d.ok ∧ deepN d ≤ 17592186044415
open Classical in
noncomputable def isGood (cs : List PV) : Bool := decide (∃ d : Dat, d.cells = cs ∧ Good d)
theorem isGood_at {d : Dat} (h : Good d) : isGood d.cells = true := by
  unfold isGood
  classical exact decide_eq_true ⟨d, rfl, h⟩
theorem isGood_of {cs : List PV} (h : isGood cs = true) : ∃ d : Dat, d.cells = cs ∧ Good d := by
  unfold isGood at h
  classical exact of_decide_eq_true h
/-- each, of no path, as the interpreter takes it. -/
noncomputable def eachB (f : Nat) (args : List PV) (x : Box) : Option (PV × Box × Ob) := match f, args, x with
  | 64, [.agg cs, .nil, .func (.func Y) [.ptr 0 0]], ⟨[.int .i64 cnt], 3⟩ => match Y with
      | 65 => some (.bool true, ctr (ofCells (fun d => eachF fParts d cnt 0) 0 cs), [(isGood cs, true)])
      | 66 => some (.bool true, ctr (ofCells (fun d => eachF fDeep d cnt 0) 0 cs), [(isGood cs, true)])
      | _ => none
  | _, _, _ => none
theorem eachB_ok : ∀ f xs x r x' o, eachB f xs x = some (r, x', o) → (∀ p ∈ o, p.1 = p.2) → PCalls G0 f xs [x] (fun o' b' => o' = .ret r ∧ b' = [x']) ∧ r.sc 0 = true ∧ scL 0 x.cs = true ∧ scL 0 x'.cs = true := by
  intro f args x r b o h ho
  unfold eachB at h
  split at h
  · rename_i cs Y cnt
    split at h
    · cases h
      obtain ⟨d, rfl, h1⟩ := isGood_of (ho _ (List.mem_singleton.2 rfl))
      simp only [ofCells_at]
      exact ⟨each_nil yParts d h1.1 cnt h1.2, rfl, rfl, rfl⟩
    · cases h
      obtain ⟨d, rfl, h1⟩ := isGood_of (ho _ (List.mem_singleton.2 rfl))
      simp only [ofCells_at]
      exact ⟨each_nil yDeep d h1.1 cnt h1.2, rfl, rfl, rfl⟩
    · cases h
  · cases h
noncomputable def SE : Cfg G0 := { F := F, hF := hF, S := fun _ _ => none, hS := fun _ _ _ _ h => (by cases h), B := eachB, hB := eachB_ok }
theorem dparts_ok (d : Dat) (hd : Good d) : Pure G0 46 [.agg d.cells] (fun r => r = .int .i64 (w64 (parts d))) := by
  have e : w64 (parts d) = ofCells (fun d => eachF fParts d 0 0) 0 d.cells := by rw [ofCells_at, eachF_parts, Int.zero_add]
  rw [e]
  obtain ⟨k, n, s, ks⟩ := d
  exact Pure.runO (S := SE) 100 (o := [(isGood (Dat.mk k n s ks).cells, true)]) (by kernel_rfl) (fun p hp => by
    rw [List.mem_singleton.1 hp]; exact isGood_at hd)
theorem ddeep_ok (d : Dat) (hd : Good d) : Pure G0 47 [.agg d.cells] (fun r => r = .int .i64 (deepN d)) := by
  have e : (deepN d : Int) = ofCells (fun d => eachF fDeep d 0 0) 0 d.cells := by rw [ofCells_at, eachF_deep _ _ _ (by have := hd.2; omega)]; omega
  rw [e]
  obtain ⟨k, n, s, ks⟩ := d
  exact Pure.runO (S := SE) 100 (o := [(isGood (Dat.mk k n s ks).cells, true)]) (by kernel_rfl) (fun p hp => by
    rw [List.mem_singleton.1 hp]; exact isGood_at hd)
end Seat
end Go.Proofs.YteimebpgmfhgjaaDoor
