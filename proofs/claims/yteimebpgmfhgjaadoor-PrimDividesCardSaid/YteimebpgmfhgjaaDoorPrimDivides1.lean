/- PrimDivides: the runs, with what its comparisons say; that they say so. -/
import Derived.Test.YteimebpgmfhgjaaDoorBase
import Derived.IntWalk
namespace Go.Proofs.YteimebpgmfhgjaaDoor
open Go.AS
set_option linter.unusedVariables false
set_option linter.unusedSimpArgs false
set_option maxRecDepth 100000
namespace Seat
theorem aliveD : Pure G0 15 [] (fun r => r = .bool true) := Pure.run (S := S0) 400 (by kernel_rfl)
def divS : Nat → List PV → Option PV
  | 15, [] => some (.bool true)
  | _, _ => none
theorem divS_ok (f : Nat) (args : List PV) (r : PV) (h : divS f args = some r) (_ : pureL args = true) : Pure G0 f args (fun x => x = r) := by
  unfold divS at h
  split at h
  · cases h; exact aliveD
  · cases h
abbrev wi (n : Int) : Int := IntKind.i64.wrap n
abbrev wu (n : Int) : Int := IntKind.u64.wrap n
def divO (rn bn rz : Bool) (nt k : Nat) : Option Bool := match Nat.beq nt 54, Nat.beq nt 114 with
  | true, _ => match [32, 35, 44, 50, 53].contains k with
    | true => some false
    | false => none
  | _, true => match k with
    | 18 => some false
    | 83 => some false
    | 90 => some rn
    | 94 => some bn
    | 99 => some true
    | 102 => some rz
    | 108 => some true
    | _ => none
  | _, _ => none
noncomputable def Sdiv (rn bn rz : Bool) : Cfg G0 := ⟨F, hF, divS, divS_ok, divO rn bn rz⟩
def divM (nt k : Nat) : Option Bool := match Nat.beq nt 114, Nat.beq k 83 with
  | true, true => some false
  | _, _ => none
noncomputable def Smin : Cfg G0 := ⟨F, hF, divS, divS_ok, divM⟩
theorem div_0 (a : Int) : call Smin 400 6 [.int .i64 a, .int .i64 0] = some (.bool true, []) := by kernel_rfl
theorem div_m (a : Int) : call Smin 400 6 [.int .i64 a, .int .i64 (-1)] = some (.bool true, [(wi (wi (-1 * wi (0 - a)) + 0) != a, false)]) := by kernel_rfl
def ob4 (b : Int) : Ob := [(b == 0, false), (b == -1, false), (b == -1, false), (decide (b = 0), false)]
def neg? (t : Bool) (n : Int) : Int := bif t then wu (0 - wu n) else wu n
theorem div_x (a b : Int) (rn bn rz : Bool) : call (Sdiv rn bn rz) 400 6 [.int .i64 a, .int .i64 b] = some (.bool true, (b == 0, false) :: (false, false) :: (ob4 b ++ (ob4 b ++ ([(wi (wi (b * wi (a.tdiv b)) + a.tmod b) != a, false), (decide (a.tmod b < 0), rn), (rn, rn), (decide (b < 0), bn), (bn, bn), (decide (neg? rn (a.tmod b) < neg? bn b), true), (a.tmod b == 0, rz)] ++ (bif rz then [] else [(decide (a.tmod b < 0) == decide (a < 0), true)]))))) := by
  cases rn <;> cases bn <;> cases rz <;> kernel_rfl
theorem wi_k (x : Int) : ∃ k, wi x = x + k * 18446744073709551616 := ⟨(wi x - x) / 18446744073709551616, by unfold wi; rw [IntKind.wrap_i64]; omega⟩
theorem wi_c {x y : Int} (k : Int) (h : x = y + k * 18446744073709551616) : wi x = wi y := by unfold wi; rw [IntKind.wrap_i64, IntKind.wrap_i64]; omega
theorem neg_abs (n : Int) (h : -9223372036854775808 ≤ n ∧ n ≤ 9223372036854775807) : neg? (decide (n < 0)) n = n.natAbs := by
  by_cases hn : n < 0
  · simp only [neg?, hn, decide_true, cond_true, wu]
    rw [IntKind.wrap_u64, IntKind.wrap_u64]
    omega
  · simp only [neg?, hn, decide_false, cond_false, wu]
    rw [IntKind.wrap_u64]
    omega
theorem tmod_abs (a b : Int) (hb : b ≠ 0) : (a.tmod b).natAbs < b.natAbs := by
  rw [Int.natAbs_tmod]
  exact Nat.mod_lt _ (by omega)
theorem tmod_sign (a b : Int) (h : ¬ a.tmod b = 0) : (a.tmod b < 0) = (a < 0) := by
  by_cases ha : a < 0
  · have h1 : 0 ≤ (-a).tmod b := Int.tmod_nonneg b (by omega)
    rw [Int.neg_tmod] at h1
    simp only [ha, eq_iff_iff, iff_true]
    omega
  · have h1 : 0 ≤ a.tmod b := Int.tmod_nonneg b (by omega)
    simp only [ha, eq_iff_iff, iff_false]
    omega
theorem div_ok (a b : Int) (ha : -9223372036854775808 ≤ a ∧ a ≤ 9223372036854775807) (hb : -9223372036854775808 ≤ b ∧ b ≤ 9223372036854775807) : Pure G0 6 [.int .i64 a, .int .i64 b] (fun r => r = .bool true) := by
  by_cases h0 : b = 0
  · subst h0; exact Pure.run (S := Smin) 400 (div_0 a)
  by_cases h1 : b = -1
  · subst h1
    refine Pure.runO (S := Smin) 400 (div_m a) fun p hp => ?_
    obtain rfl := List.mem_singleton.1 hp
    obtain ⟨k, hk⟩ := wi_k (0 - a)
    have : wi (wi (-1 * wi (0 - a)) + 0) = a := by
      obtain ⟨k2, hk2⟩ := wi_k (-1 * wi (0 - a))
      rw [hk2, hk, wi_c (y := a) (k2 - k) (by omega)]
      unfold wi; exact IntWalk.i64_in a ha
    simp only [this, bne_self_eq_false]
  have hlt := tmod_abs a b h0
  have hle : (a.tmod b).natAbs ≤ a.natAbs := by rw [Int.natAbs_tmod]; exact Nat.mod_le _ _
  have hr : -9223372036854775808 ≤ a.tmod b ∧ a.tmod b ≤ 9223372036854775807 := by omega
  refine Pure.runO (S := Sdiv (decide (a.tmod b < 0)) (decide (b < 0)) (a.tmod b == 0)) 400 (div_x a b _ _ _) fun p hp => ?_
  have e0 : (b == 0) = false := by simpa using h0
  have e1 : (b == -1) = false := by simpa using h1
  have e4 : ∀ p ∈ ob4 b, p.1 = p.2 := fun p hp => by
    simp only [ob4, List.mem_cons, List.not_mem_nil, or_false] at hp
    rcases hp with rfl | rfl | rfl | rfl
    · exact e0
    · exact e1
    · exact e1
    · simpa using h0
  simp only [List.mem_cons, List.mem_append, List.not_mem_nil, or_false] at hp
  rcases hp with rfl | rfl | hp | hp | ((rfl | rfl | rfl | rfl | rfl | rfl | rfl) | hp)
  · exact e0
  · rfl
  · exact e4 p hp
  · exact e4 p hp
  · have : wi (wi (b * wi (a.tdiv b)) + a.tmod b) = a := by
      obtain ⟨k, hk⟩ := wi_k (a.tdiv b)
      obtain ⟨k2, hk2⟩ := wi_k (b * wi (a.tdiv b))
      have e : b * (a.tdiv b + k * 18446744073709551616) = b * a.tdiv b + (b * k) * 18446744073709551616 := by rw [Int.mul_add, Int.mul_assoc]
      have em := Int.tmod_def a b
      rw [hk2, hk, e, wi_c (y := a) (k2 + b * k) (by omega)]
      unfold wi; exact IntWalk.i64_in a ha
    simp [this]
  · rfl
  · rfl
  · rfl
  · rfl
  · simp only [neg_abs _ hr, neg_abs _ hb]
    rw [decide_eq_true_eq]
    omega
  · rfl
  · cases hz : (a.tmod b == 0) with
    | true => rw [hz] at hp; simp at hp
    | false =>
      rw [hz] at hp
      simp only [cond_false, List.mem_singleton] at hp
      subst hp
      have hz' : ¬ a.tmod b = 0 := by simpa using hz
      simp only [tmod_sign a b hz', beq_self_eq_true]
end Seat
end Go.Proofs.YteimebpgmfhgjaaDoor
