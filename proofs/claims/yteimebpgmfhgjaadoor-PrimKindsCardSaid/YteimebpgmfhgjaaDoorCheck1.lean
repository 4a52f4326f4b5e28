/- datum.Check; pagodaref01.Cut: the laws. -/
import Derived.Test.YteimebpgmfhgjaaDoorForm2
namespace Go.Proofs.YteimebpgmfhgjaaDoor
open Go.AS
set_option linter.unusedVariables false
set_option linter.unusedSimpArgs false
set_option maxRecDepth 100000
namespace Seat
/-- What Check tells. -/
def chkD (d : Dat) : Int := if formedD d = false then 4 else if 100000 < w64 (parts d) then 3 else if 1000 < (deepN d : Int) then 3 else 0
noncomputable def chkS (f : Nat) (args : List PV) : Option (PV × Ob) := match f, args with
  | 45, [.agg cs] => some (.bool (ofCells formedD false cs), [(isGood cs, true)])
  | 46, [.agg cs] => some (.int .i64 (ofCells (fun d => w64 (parts d)) 0 cs), [(isGood cs, true)])
  | 47, [.agg cs] => some (.int .i64 (ofCells (fun d => (deepN d : Int)) 0 cs), [(isGood cs, true)])
  | _, _ => none
theorem chkS_ok (f : Nat) (args : List PV) (r : PV) (o : Ob) (h : chkS f args = some (r, o)) (ho : ∀ p ∈ o, p.1 = p.2) (_ : pureL args = true) : Pure G0 f args (fun x => x = r) := by
  unfold chkS at h
  split at h
  · cases h
    obtain ⟨d, rfl, h1⟩ := isGood_of (ho _ (List.mem_singleton.2 rfl))
    rw [ofCells_at]; exact dformed_ok d h1.1
  · cases h
    obtain ⟨d, rfl, h1⟩ := isGood_of (ho _ (List.mem_singleton.2 rfl))
    rw [ofCells_at]; exact dparts_ok d h1
  · cases h
    obtain ⟨d, rfl, h1⟩ := isGood_of (ho _ (List.mem_singleton.2 rfl))
    rw [ofCells_at]; exact ddeep_ok d h1
  · cases h
noncomputable def SK (l : List (Nat × List (Nat × Bool))) : Cfg G0 := { F := F, hF := hF, S := chkS, hS := chkS_ok, orc := orcM l }
theorem dcheck_ok (d : Dat) (hd : Good d) : Pure G0 24 [.agg d.cells] (fun r => r = .int .i64 (chkD d)) := by
  obtain ⟨k, n, s, ks⟩ := d
  have hg : isGood [.int .i64 k, .int .i64 n, .str s, .slice ks.len ks.cells] = true := isGood_at hd
  have e1 : ∀ {α : Type} (f : Dat → α) (z : α), ofCells f z [.int .i64 k, .int .i64 n, .str s, .slice ks.len ks.cells] = f (.mk k n s ks) := fun f z => ofCells_at f z (.mk k n s ks)
  by_cases h1 : formedD (.mk k n s ks) = false
  · have : chkD (.mk k n s ks) = 4 := by simp [chkD, h1]
    rw [this]
    exact Pure.runO (S := SK [(16, [(5, false)])]) 60 (o := [(true, true), (isGood [.int .i64 k, .int .i64 n, .str s, .slice ks.len ks.cells], true), (ofCells formedD false [.int .i64 k, .int .i64 n, .str s, .slice ks.len ks.cells], false)]) (by kernel_rfl) (by simp [okO, hg, e1, h1])
  · simp only [Bool.not_eq_false] at h1
    by_cases h2 : 100000 < w64 (parts (.mk k n s ks))
    · have : chkD (.mk k n s ks) = 3 := by simp [chkD, h1, h2]
      rw [this]
      exact Pure.runO (S := SK [(16, [(5, true), (10, true)])]) 60 (o := [(true, true), (isGood [.int .i64 k, .int .i64 n, .str s, .slice ks.len ks.cells], true), (ofCells formedD false [.int .i64 k, .int .i64 n, .str s, .slice ks.len ks.cells], true), (true, true), (isGood [.int .i64 k, .int .i64 n, .str s, .slice ks.len ks.cells], true), (decide ((100000 : Int) < ofCells (fun d => w64 (parts d)) 0 [.int .i64 k, .int .i64 n, .str s, .slice ks.len ks.cells]), true)]) (by kernel_rfl) (by simp [okO, hg, e1, h1, h2])
    · have h2' : w64 (parts (.mk k n s ks)) ≤ 100000 := by omega
      by_cases h3 : 1000 < (deepN (.mk k n s ks) : Int)
      · have : chkD (.mk k n s ks) = 3 := by simp only [chkD, h1, h2, h3, if_true, if_false]; rfl
        rw [this]
        exact Pure.runO (S := SK [(16, [(5, true), (10, false), (14, true)])]) 60 (o := [(true, true), (isGood [.int .i64 k, .int .i64 n, .str s, .slice ks.len ks.cells], true), (ofCells formedD false [.int .i64 k, .int .i64 n, .str s, .slice ks.len ks.cells], true), (true, true), (isGood [.int .i64 k, .int .i64 n, .str s, .slice ks.len ks.cells], true), (decide ((100000 : Int) < ofCells (fun d => w64 (parts d)) 0 [.int .i64 k, .int .i64 n, .str s, .slice ks.len ks.cells]), false), (true, true), (isGood [.int .i64 k, .int .i64 n, .str s, .slice ks.len ks.cells], true), (decide ((1000 : Int) < ofCells (fun d => (deepN d : Int)) 0 [.int .i64 k, .int .i64 n, .str s, .slice ks.len ks.cells]), true)]) (by kernel_rfl) (by simp only [okO, List.forall_mem_cons, List.not_mem_nil, false_imp_iff, implies_true, and_true, hg, e1, h1, true_and, decide_eq_true_eq, decide_eq_false_iff_not]; exact ⟨h2, h3⟩)
      · have : chkD (.mk k n s ks) = 0 := by simp only [chkD, h1, h2, h3, if_true, if_false]; rfl
        rw [this]
        exact Pure.runO (S := SK [(16, [(5, true), (10, false), (14, false)])]) 60 (o := [(true, true), (isGood [.int .i64 k, .int .i64 n, .str s, .slice ks.len ks.cells], true), (ofCells formedD false [.int .i64 k, .int .i64 n, .str s, .slice ks.len ks.cells], true), (true, true), (isGood [.int .i64 k, .int .i64 n, .str s, .slice ks.len ks.cells], true), (decide ((100000 : Int) < ofCells (fun d => w64 (parts d)) 0 [.int .i64 k, .int .i64 n, .str s, .slice ks.len ks.cells]), false), (true, true), (isGood [.int .i64 k, .int .i64 n, .str s, .slice ks.len ks.cells], true), (decide ((1000 : Int) < ofCells (fun d => (deepN d : Int)) 0 [.int .i64 k, .int .i64 n, .str s, .slice ks.len ks.cells]), false)]) (by kernel_rfl) (by simp only [okO, List.forall_mem_cons, List.not_mem_nil, false_imp_iff, implies_true, and_true, hg, e1, h1, true_and, decide_eq_true_eq, decide_eq_false_iff_not]; exact ⟨h2, h3⟩)
open Classical in
noncomputable def isOk (cs : List PV) : Bool := decide (∃ d : Dat, d.cells = cs ∧ d.ok)
theorem isOk_at {d : Dat} (h : d.ok) : isOk d.cells = true := by
  unfold isOk
  classical exact decide_eq_true ⟨d, rfl, h⟩
theorem isOk_of {cs : List PV} (h : isOk cs = true) : ∃ d : Dat, d.cells = cs ∧ d.ok := by
  unfold isOk at h
  classical exact of_decide_eq_true h
theorem cut_ok (d : Dat) (hd : d.ok) (p dp : Int) (h : 1 ≤ dp ∧ dp ≤ 4611686018427387904 ∧ 1 ≤ p ∧ p ≤ 1000000) : Pure G0 23 [.agg d.cells, .int .i64 p, .int .i64 dp] (fun r => r = .agg (cutD d dp p).1.cells) := by
  obtain ⟨k, n, s, ks⟩ := d
  obtain ⟨k2, n2, s2, ks2, e⟩ := Dat.is_mk (cutD (.mk k n s ks) dp p).1
  have e1 : ofCells (fun d => (cutD d dp p).1.cells) [] [.int .i64 k, .int .i64 n, .str s, .slice ks.len ks.cells] = (cutD (.mk k n s ks) dp p).1.cells := ofCells_at _ _ (.mk k n s ks)
  rw [e]
  exact Pure.runO (S := { SC (cutAt ((Dat.mk k n s ks).size + 1)) [] [(15, [(14, .agg [.int .i64 k2, .int .i64 n2, .str s2, .slice ks2.len ks2.cells])])] with D := fun _ => false }) 60
    (o := [(isDat ((Dat.mk k n s ks).size + 1) [.int .i64 k, .int .i64 n, .str s, .slice ks.len ks.cells], true), (decide (1 ≤ dp ∧ dp ≤ 4611686018427387904 ∧ 1 ≤ p ∧ p ≤ 1000000), true), (same (.agg (ofCells (fun d => (cutD d dp p).1.cells) [] [.int .i64 k, .int .i64 n, .str s, .slice ks.len ks.cells])) (.agg [.int .i64 k2, .int .i64 n2, .str s2, .slice ks2.len ks2.cells]), true)]) (by kernel_rfl) (fun q hq => by
      simp only [List.mem_cons, List.not_mem_nil, or_false] at hq
      rcases hq with rfl | rfl | rfl
      · exact isDat_at (d := .mk k n s ks) (Nat.lt_succ_self _) hd
      · exact decide_eq_true h
      · exact same_of (by rw [e1, e]; rfl))
mutual
theorem cutD_ok : ∀ (d : Dat) (dp p : Int), d.ok → (cutD d dp p).1.ok
  | .mk k n s ks, dp, p, h => by
    have h1 := cutL_ok ks dp (p - 1) h.2
    have h2 := cutL_len ks dp (p - 1)
    simp only [cutD, Dat.ok]
    exact ⟨by have := h.1; omega, h1⟩
theorem cutL_ok : ∀ (ks : Dats) (dp p : Int), ks.ok → (cutL ks dp p).1.ok
  | .nil, dp, p, h => by simp only [cutL, Dats.ok]
  | .cons d ds, dp, p, h => by
    simp only [cutL]
    split
    · exact ⟨cutD_ok d (dp - 1) p h.1, cutL_ok ds dp _ h.2⟩
    · trivial
theorem cutL_len : ∀ (ks : Dats) (dp p : Int), (cutL ks dp p).1.len ≤ ks.len
  | .nil, dp, p => by simp only [cutL, Dats.len]; omega
  | .cons d ds, dp, p => by
    have := cutL_len ds dp (cutD d (dp - 1) p).2
    simp only [cutL]
    split
    · simp only [Dats.len]; omega
    · simp only [Dats.len]; omega
end
theorem cut_good (d : Dat) (hd : d.ok) (p dp : Int) (h : 1 ≤ dp ∧ dp ≤ 17592186044415) : Good (cutD d dp p).1 := ⟨cutD_ok d dp p hd, by have := cutD_deep d dp p h.1; omega⟩
end Seat
end Go.Proofs.YteimebpgmfhgjaaDoor
