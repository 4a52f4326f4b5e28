/- PrimRing: the run, with what its comparisons say. -/
import Derived.Test.YteimebpgmfhgjaaDoorPrimRing1
import Derived.IntWalk
namespace Go.Proofs.YteimebpgmfhgjaaDoor
open Go.AS
set_option linter.unusedVariables false
set_option linter.unusedSimpArgs false
set_option maxRecDepth 100000
namespace Seat
def numS : Nat → List PV → Option PV
  | 21, [.str s, .slice 2 [.int .i64 a, .int .i64 b]] => if s.data.toList == [43] then some (.tup [.int .i64 (IntKind.i64.wrap (a + b)), .bool true])
    else if s.data.toList == [45] then some (.tup [.int .i64 (IntKind.i64.wrap (a - b)), .bool true])
    else if s.data.toList == [42] then some (.tup [.int .i64 (IntKind.i64.wrap (a * b)), .bool true])
    else none
  | 15, [] => some (.bool true)
  | _, _ => none
theorem str_eq {s : ByteArray} {l : List UInt8} (h : (s.data.toList == l) = true) : s = ⟨l.toArray⟩ := by
  have : s.data.toList = l := by simpa using h
  subst this
  rfl
theorem numS_ok (f : Nat) (args : List PV) (r : PV) (h : numS f args = some r) (_ : pureL args = true) : Pure G0 f args (fun x => x = r) := by
  unfold numS at h
  split at h
  · split at h
    · rename_i hs; cases h; rw [str_eq hs]; exact num_add _ _
    · split at h
      · rename_i hs; cases h; rw [str_eq hs]; exact num_sub _ _
      · split at h
        · rename_i hs; cases h; rw [str_eq hs]; exact num_mul _ _
        · cases h
  · cases h; exact alive
  · cases h
def ringO (nt k : Nat) : Option Bool := match Nat.beq nt 210 with
  | true => match [170, 175, 180, 185, 190, 195, 200, 205].contains k with
    | true => some true
    | false => none
  | false => none
noncomputable def Sring : Cfg G0 := ⟨F, hF, numS, numS_ok, ringO⟩
abbrev w (n : Int) : Int := IntKind.i64.wrap n
theorem ring_run (a b c : Int) : call Sring 400 5 [.int .i64 a, .int .i64 b, .int .i64 c] = some (.bool true, [(w (a + b) == w (b + a), true), (w (w (a + b) + c) == w (a + w (b + c)), true), (w (a * b) == w (b * a), true), (w (a * w (b + c)) == w (w (a * b) + w (a * c)), true), (w (w (a * b) * c) == w (a * w (b * c)), true), (w (w (a + b) - b) == a, true), (w (a + 0) == a, true), (w (a * 1) == a, true)]) := by kernel_rfl
theorem w_k (x : Int) : ∃ k, w x = x + k * 18446744073709551616 := ⟨(w x - x) / 18446744073709551616, by unfold w; rw [IntKind.wrap_i64]; omega⟩
theorem w_c {x y : Int} (k : Int) (h : x = y + k * 18446744073709551616) : w x = w y := by unfold w; rw [IntKind.wrap_i64, IntKind.wrap_i64]; omega
theorem ring_ok (a b c : Int) (ha : -9223372036854775808 ≤ a ∧ a ≤ 9223372036854775807) : Pure G0 5 [.int .i64 a, .int .i64 b, .int .i64 c] (fun r => r = .bool true) := by
  refine Pure.runO 400 (ring_run a b c) ?_
  intro p hp
  simp only [List.mem_cons, List.not_mem_nil, or_false] at hp
  rcases hp with rfl | rfl | rfl | rfl | rfl | rfl | rfl | rfl <;> simp only [beq_iff_eq]
  · rw [Int.add_comm]
  · obtain ⟨k1, h1⟩ := w_k (a + b); obtain ⟨k2, h2⟩ := w_k (b + c)
    rw [h1, h2]; exact w_c (k1 - k2) (by omega)
  · rw [Int.mul_comm]
  · obtain ⟨k1, h1⟩ := w_k (b + c); obtain ⟨k2, h2⟩ := w_k (a * b); obtain ⟨k3, h3⟩ := w_k (a * c)
    rw [h1, h2, h3]
    have e : a * (b + c + k1 * 18446744073709551616) = a * b + a * c + (a * k1) * 18446744073709551616 := by rw [Int.mul_add, Int.mul_add, Int.mul_assoc]
    rw [e]
    exact w_c (a * k1 - k2 - k3) (by omega)
  · obtain ⟨k1, h1⟩ := w_k (a * b); obtain ⟨k2, h2⟩ := w_k (b * c)
    rw [h1, h2]
    have e1 : (a * b + k1 * 18446744073709551616) * c = a * b * c + (k1 * c) * 18446744073709551616 := by rw [Int.add_mul, Int.mul_assoc k1, Int.mul_comm 18446744073709551616 c, Int.mul_assoc k1]
    have e2 : a * (b * c + k2 * 18446744073709551616) = a * b * c + (a * k2) * 18446744073709551616 := by rw [Int.mul_add, Int.mul_assoc a b c, Int.mul_assoc a k2]
    rw [e1, e2]
    exact w_c (k1 * c - a * k2) (by omega)
  · obtain ⟨k1, h1⟩ := w_k (a + b)
    rw [h1, w_c (x := a + b + k1 * 18446744073709551616 - b) (y := a) k1 (by omega)]
    unfold w; exact IntWalk.i64_in a ha
  · rw [Int.add_zero]; unfold w; exact IntWalk.i64_in a ha
  · rw [Int.mul_one]; unfold w; exact IntWalk.i64_in a ha
end Seat
end Go.Proofs.YteimebpgmfhgjaaDoor
