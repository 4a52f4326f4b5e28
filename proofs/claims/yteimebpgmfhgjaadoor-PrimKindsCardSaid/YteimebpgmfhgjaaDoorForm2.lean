/- datum.formed: the law. -/
import Derived.Test.YteimebpgmfhgjaaDoorForm1
namespace Go.Proofs.YteimebpgmfhgjaaDoor
open Go.AS
set_option linter.unusedVariables false
set_option linter.unusedSimpArgs false
set_option maxRecDepth 100000
namespace Seat
theorem formAt (N : Nat) : FormAt N := by
  induction N with
  | zero => intro d h; omega
  | succ N ih =>
    intro d hN hok
    have hI := idxAt ih
    obtain ⟨k, n, s, ks⟩ := d
    have hks : ks.size < N + 1 := by simp only [Dat.size] at hN; omega
    have run : ∀ (l : List (Nat × Bool)) (r : Bool) (o : Ob), call (SI hI [(48, l)]) 60 45 [.agg [.int .i64 k, .int .i64 n, .str s, .slice ks.len ks.cells]] = some (.bool r, o) → okO o → r = formedD (.mk k n s ks) → Pure G0 45 [.agg (Dat.mk k n s ks).cells] (fun r => r = .bool (formedD (.mk k n s ks))) := fun l r o h ho hr => by
      rw [← hr]
      exact Pure.runO 60 h ho
    have d3 := isDats_at (N := N + 1) hks hok.1 hok.2
    have b3 : decide (0 ≤ ofCellsL badIdx 0 ks.cells) = !formedL ks := by rw [ofCellsL_at, badIdx_formed]
    by_cases h1 : k = 1
    · by_cases h2 : s.size = 0
      · exact run [(6, true), (9, true)] ((ks.len : Int) == 0) [(k == 1, true), (s.toList == [], true)] (by kernel_rfl) (by simp [okO, beq0, h1, str_nil, h2]) (by simp [formedD, h1, h2, beq0])
      · exact run [(6, true), (9, false)] false [(k == 1, true), (s.toList == [], false)] (by kernel_rfl) (by simp [okO, beq0, h1, str_nil, h2]) (by simp [formedD, h1, h2])
    · by_cases h2 : k = 2
      · by_cases h3 : n = 0
        · by_cases h4 : ks.len = 0
          · exact run [(6, false), (17, true), (20, true), (25, true)] (symOk s) [(k == 1, false), (k == 2, true), (n == 0, true), ((ks.len : Int) == 0, true), (true, true)] (by kernel_rfl) (by simp [okO, beq0, h2, h3, h4]) (by simp [formedD, h2, h3, h4])
          · exact run [(6, false), (17, true), (20, true), (25, false)] false [(k == 1, false), (k == 2, true), (n == 0, true), ((ks.len : Int) == 0, false)] (by kernel_rfl) (by simp [okO, beq0, h2, h3, h4]) (by simp [formedD, h2, h3, h4])
        · exact run [(6, false), (17, true), (20, false)] false [(k == 1, false), (k == 2, true), (n == 0, false)] (by kernel_rfl) (by simp [okO, beq0, h2, h3]) (by simp [formedD, h2, h3])
      · by_cases h3 : k = 3
        · by_cases h4 : n = 0
          · by_cases h5 : s.size = 0
            · exact run [(6, false), (17, false), (33, true), (36, true), (40, true)] (!decide (0 ≤ ofCellsL badIdx 0 ks.cells)) [(k == 1, false), (k == 2, false), (k == 3, true), (n == 0, true), (s.toList == [], true), (true, true), (isDats (N + 1) ks.len ks.cells, true)] (by kernel_rfl) (by simp [okO, beq0, h3, h4, h5, str_nil, d3]) (by rw [b3]; simp [formedD, h3, h4, h5])
            · exact run [(6, false), (17, false), (33, true), (36, true), (40, false)] false [(k == 1, false), (k == 2, false), (k == 3, true), (n == 0, true), (s.toList == [], false)] (by kernel_rfl) (by simp [okO, beq0, h3, h4, h5, str_nil]) (by simp [formedD, h3, h4, h5])
          · exact run [(6, false), (17, false), (33, true), (36, false)] false [(k == 1, false), (k == 2, false), (k == 3, true), (n == 0, false)] (by kernel_rfl) (by simp [okO, beq0, h3, h4]) (by simp [formedD, h3, h4])
        · exact run [(6, false), (17, false), (33, false)] false [(k == 1, false), (k == 2, false), (k == 3, false)] (by kernel_rfl) (by simp [okO, beq0, h1, h2, h3]) (by simp [formedD, h1, h2, h3])
theorem dformed_ok (d : Dat) (hok : d.ok) : Pure G0 45 [.agg d.cells] (fun r => r = .bool (formedD d)) := formAt (d.size + 1) d (Nat.lt_succ_self _) hok
end Seat
end Go.Proofs.YteimebpgmfhgjaaDoor
