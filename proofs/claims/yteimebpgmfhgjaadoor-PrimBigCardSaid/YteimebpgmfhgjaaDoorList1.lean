/- PrimLists: plain laws of its data. -/
import Derived.Test.YteimebpgmfhgjaaDoorList0
namespace Go.Proofs.YteimebpgmfhgjaaDoor
open Go.AS
set_option linter.unusedVariables false
set_option linter.unusedSimpArgs false
set_option maxRecDepth 100000
namespace Seat
mutual
theorem eqD_refl : ∀ d : Dat, eqD d d = true
  | .mk k n s ks => by simp [eqD, eqL_refl ks]
theorem eqL_refl : ∀ ks : Dats, eqL ks ks = true
  | .nil => rfl
  | .cons d ds => by simp [eqL, eqD_refl d, eqL_refl ds]
end
theorem w64_in (n : Nat) (h : n ≤ 9223372036854775807) : w64 (n : Int) = n := by unfold w64; rw [IntKind.wrap_i64]; omega
theorem chk0 {d : Dat} (h : chkD d = 0) : formedD d = true ∧ w64 (parts d) ≤ 100000 ∧ (deepN d : Int) ≤ 1000 := by
  unfold chkD at h
  split at h
  · cases h
  · rename_i h1
    split at h
    · cases h
    · rename_i h2
      split at h
      · cases h
      · rename_i h3
        exact ⟨by simpa using h1, by omega, by omega⟩
theorem chk_of {d : Dat} (h1 : formedD d = true) (h2 : parts d ≤ 100000) (h3 : deepN d ≤ 1000) : chkD d = 0 := by
  unfold chkD
  rw [w64_in (parts d) (by omega)]
  rw [if_neg (by simp [h1]), if_neg (by omega), if_neg (by omega)]
theorem formed_list {n : Int} {s : ByteArray} {ks : Dats} (h : formedD (.mk 3 n s ks) = true) : n = 0 ∧ s.size = 0 ∧ formedL ks = true := by
  simp [formedD] at h
  exact ⟨h.1.1, by rw [h.1.2]; rfl, h.2⟩
theorem cut_parts (d : Dat) (p dp : Int) (h : 1 ≤ p) : (parts (cutD d dp p).1 : Int) ≤ p := by
  have := cutD_parts d dp p h
  omega
theorem nil_toList {s : ByteArray} (h : s.size = 0) : s.toList = (⟨#[]⟩ : ByteArray).toList := by
  rw [(str_nil s).2 h]; exact ((str_nil ⟨#[]⟩).2 rfl).symm
end Seat
end Go.Proofs.YteimebpgmfhgjaaDoor
