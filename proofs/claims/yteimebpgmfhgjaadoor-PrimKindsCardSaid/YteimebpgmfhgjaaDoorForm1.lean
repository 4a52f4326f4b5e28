/- datum.formed: which data are right. -/
import Derived.Test.YteimebpgmfhgjaaDoorForm0
namespace Go.Proofs.YteimebpgmfhgjaaDoor
open Go.AS
set_option linter.unusedVariables false
set_option linter.unusedSimpArgs false
set_option maxRecDepth 100000
namespace Seat
noncomputable def SF {N : Nat} (ih : FormAt N) (l : List (Nat × List (Nat × Bool))) (v : List (Nat × List (Nat × PV))) : Cfg G0 := { F := F, hF := hF, S := formS N, hS := formS_ok ih, orc := orcM l, val := valM v }
noncomputable def SI {N : Nat} (ih : IdxAt N) (l : List (Nat × List (Nat × Bool))) : Cfg G0 := { F := F, hF := hF, S := idxS N, hS := idxS_ok ih, orc := orcM l }
theorem idxAt {N : Nat} (ih : FormAt N) : IdxAt (N + 1) := fun ks hN hlen hok => by
  refine Fn.enterN Tryd.func73 Tryd.ntmps73 rfl (Nat.le_of_ble_eq_true rfl) fun C fr fp hnt hp hfr hfp => ?_
  refine Q.runSeq S0 50 19 hnt [0, 1] (z := ⟨[(0, .slice ks.len ks.cells), (1, .func (.func 63) [])], ⟨[], []⟩⟩) (o := []) (by kernel_rfl) okO_nil ?_
  refine Q.seq fun K hK => ?_
  refine Q.runSeq S0 50 19 hnt [0, 1, 7, 8] (z := ⟨[(0, .slice ks.len ks.cells), (1, .func (.func 63) []), (7, .int .i64 ks.len), (8, .int .i64 0)], ⟨[], []⟩⟩) (o := []) (by kernel_rfl) okO_nil ?_
  refine Q.block ?_
  refine Q.loopI (σ := { j : Nat // j ≤ ks.len ∧ ∀ i, i < j → formedD (ks.get i) = true }) [0, 1, 7, 8] (fun j => ⟨[(0, .slice ks.len ks.cells), (1, .func (.func 63) []), (7, .int .i64 ks.len), (8, .int .i64 j.1)], ⟨[], []⟩⟩) (fun j => ks.len - j.1) ⟨0, Nat.zero_le _, fun i h => absurd h (Nat.not_lt_zero _)⟩ rfl fun ⟨j, hj, hl⟩ => ?_
  rcases Nat.lt_or_ge j ks.len with hlt | hge
  · obtain ⟨k', n', s', ks', hget⟩ := Dats.get_mk ks j
    have hcl : (Dat.mk k' n' s' ks').cells = [.int .i64 k', .int .i64 n', .str s', .slice ks'.len ks'.cells] := rfl
    have hsz := Dats.get_size ks j hlt
    have hokj := Dats.get_ok ks j hlt hok
    rw [hget] at hsz hokj
    have oks : ∀ b, formedD (ks.get j) = b → okO [(decide ((j : Int) < (ks.len : Int)), true), (true, true), (decide (0 ≤ (j : Int) ∧ (j : Int) < (ks.len : Int)), true), (decide (4 ≤ (ks.cells.drop ((j : Int).toNat * 4)).length), true), (same (.agg ((ks.cells.drop ((j : Int).toNat * 4)).take 4)) (.agg [.int .i64 k', .int .i64 n', .str s', .slice ks'.len ks'.cells]), true), (true, true), (isDat N [.int .i64 k', .int .i64 n', .str s', .slice ks'.len ks'.cells], true), (!ofCells formedD false [.int .i64 k', .int .i64 n', .str s', .slice ks'.len ks'.cells], !b), (!b, !b)] := fun b hb => by
      simp only [okO, List.forall_mem_cons, List.not_mem_nil, false_imp_iff, implies_true, and_true, true_and, Int.toNat_natCast, Dats.get_cells ks j hlt]
      refine ⟨by simpa using hlt, by simpa using hlt, ?_, same_of (by rw [hget]; rfl), isDat_at (d := .mk k' n' s' ks') (by omega) hokj, ?_⟩
      · simp only [List.length_drop, Dats.cells_len, decide_eq_true_eq]; omega
      · rw [← hcl, ofCells_at, ← hget, hb]
    cases hf : formedD (ks.get j) with
    | true =>
      refine SWP.runQ (SF ih [(19, [(9, true), (14, true), (15, true), (16, false)])] [(19, [(15, .agg [.int .i64 k', .int .i64 n', .str s', .slice ks'.len ks'.cells])])]) 60 19 hnt [0, 1, 7, 8] (e := .normal) (z := ⟨[(0, .slice ks.len ks.cells), (1, .func (.func 63) []), (7, .int .i64 ks.len), (8, .int .i64 (IntKind.i64.wrap ((j : Int) + 1)))], ⟨[], []⟩⟩)
        (by kernel_rfl) (oks true hf) (fun st hs => ⟨⟨j + 1, hlt, fun i hi => ?_⟩, Nat.sub_lt_sub_left hlt (Nat.lt_succ_self j), ?_⟩)
      · rcases Nat.lt_succ_iff_lt_or_eq.1 hi with h | h
        · exact hl i h
        · rw [h]; exact hf
      · rw [hs, wrap1 j (by omega)]
    | false =>
      refine SWP.runQ (SF ih [(19, [(9, true), (14, true), (15, true), (16, true)])] [(19, [(15, .agg [.int .i64 k', .int .i64 n', .str s', .slice ks'.len ks'.cells])])]) 60 19 hnt [4] (e := .ret) (z := ⟨[(4, .int .i64 j)], ⟨[], []⟩⟩)
        (by kernel_rfl) (oks false hf) (fun st hs => hfr st [4] ?_)
      rw [hs]
      exact FinR.pure (r := .int .i64 j) (by kernel_rfl) rfl (by rw [badIdx_at hlt hf hl])
  · refine SWP.runQ (SF ih [(19, [(9, false)])] []) 60 19 hnt [0] (e := .exit 0) (z := ⟨[(0, .slice ks.len ks.cells)], ⟨[], []⟩⟩) (o := [(decide ((j : Int) < (ks.len : Int)), false), (false, false)]) (by kernel_rfl) (by simp only [okO, List.forall_mem_cons, List.not_mem_nil, false_imp_iff, implies_true, and_true]; simp; omega) (fun st hs => hK st (.norm [0] ?_))
    rw [hs]
    refine SWP.runQ S0 50 19 hnt [4] (e := .ret) (z := ⟨[(4, .int .i64 (-1))], ⟨[], []⟩⟩) (o := []) (by kernel_rfl) okO_nil (fun st hs => hfr st [4] ?_)
    rw [hs]
    exact FinR.pure (r := .int .i64 (-1)) (by kernel_rfl) rfl (by rw [badIdx_none fun i hi => hl i (by omega)])
end Seat
end Go.Proofs.YteimebpgmfhgjaaDoor
