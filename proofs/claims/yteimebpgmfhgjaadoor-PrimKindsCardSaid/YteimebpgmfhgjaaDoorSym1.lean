/- Symbols: datum.IsSymbol, pagodaref01.Symbol. Printed by dev/sym1.py (this session's). -/
import Derived.Test.YteimebpgmfhgjaaDoorBytes
namespace Go.Proofs.YteimebpgmfhgjaaDoor
open Go.AS
set_option linter.unusedVariables false
set_option linter.unusedSimpArgs false
set_option maxRecDepth 100000
namespace Seat
noncomputable def symS (f : Nat) (args : List PV) : Option (PV × Ob) := match f, args with
  | 71, [.int .u8 c] => some (.bool (digC c), [(decide (0 ≤ c ∧ c < 256), true)])
  | 72, [.int .u8 c] => some (.bool (letC c), [(decide (0 ≤ c ∧ c < 256), true)])
  | 69, [.int .u8 c] => some (.bool (digC c), [(decide (0 ≤ c ∧ c < 256), true)])
  | 70, [.int .u8 c] => some (.bool (letC c), [(decide (0 ≤ c ∧ c < 256), true)])
  | _, _ => none
theorem symS_ok (f : Nat) (args : List PV) (r : PV) (o : Ob) (h : symS f args = some (r, o)) (ho : ∀ p ∈ o, p.1 = p.2) (_ : pureL args = true) : Pure G0 f args (fun x => x = r) := by
  unfold symS at h
  split at h
  · cases h; exact isDigit_ok _ (of_decide_eq_true (ho _ (List.mem_singleton.2 rfl)))
  · cases h; exact isAtom_ok _ (of_decide_eq_true (ho _ (List.mem_singleton.2 rfl)))
  · cases h; exact digit_ok _ (of_decide_eq_true (ho _ (List.mem_singleton.2 rfl)))
  · cases h; exact letter_ok _ (of_decide_eq_true (ho _ (List.mem_singleton.2 rfl)))
  · cases h
noncomputable def SY (l : List (Nat × Bool)) : Cfg G0 := { F := F, hF := hF, S := symS, hS := symS_ok, orc := orcL 43 l }
/-- What is no symbol at once. -/
def symBad (s : ByteArray) : Bool := decide (s.size = 0) || decide (40 < s.size) || digC (bt s 0) || (bt s 0 == 45 && decide (1 < s.size) && digC (bt s 1))
def symOk (s : ByteArray) : Bool := !symBad s && (List.range s.size).all fun i => letC (bt s i)
theorem symOk_bad {s : ByteArray} (h : symBad s = true) : symOk s = false := by simp [symOk, h]
theorem symOk_let {s : ByteArray} {i : Nat} (hi : i < s.size) (h : letC (bt s i) = false) : symOk s = false := by
  unfold symOk
  have : ((List.range s.size).all fun i => letC (bt s i)) = false := by
    rw [List.all_eq_false]
    exact ⟨i, List.mem_range.2 hi, by simp [h]⟩
  rw [this, Bool.and_false]
theorem symOk_all {s : ByteArray} (h : symBad s = false) (hl : ∀ i, i < s.size → letC (bt s i) = true) : symOk s = true := by
  unfold symOk
  rw [h, Bool.not_false, Bool.true_and, List.all_eq_true]
  exact fun i hi => hl i (List.mem_range.1 hi)
theorem symBad_size {s : ByteArray} (h : symBad s = false) : s.size ≤ 40 := by
  simp [symBad] at h
  omega
theorem dig45 : digC 45 = false := by decide
theorem isSymbol_ok (s : ByteArray) : Pure G0 61 [.str s] (fun r => r = .bool (symOk s)) := by
  refine Fn.enterN Tryd.func61 Tryd.ntmps61 rfl (Nat.le_of_ble_eq_true rfl) fun C fr fp hnt hp hfr hfp => ?_
  refine Q.runSeq S0 50 43 hnt [0] (z := ⟨[(0, .str s)], ⟨[], []⟩⟩) (o := []) (by kernel_rfl) okO_nil ?_
  refine Q.seq fun K hK => ?_
  refine Q.seq fun K1 hK1 => ?_
  have next : ∀ st, nrm [0, 31] st = ⟨[(0, .str s), (31, .bool (symBad s))], ⟨[], []⟩⟩ → K1 st := fun st hst => by
    refine hK1 st (.norm [0, 31] ?_)
    rw [hst]
    refine Q.cond rfl (fun hb => ?_) (fun hb => ?_)
    · refine SWP.runQ S0 50 43 hnt [2] (e := .ret) (z := ⟨[(2, .bool false)], ⟨[], []⟩⟩) (o := []) (by kernel_rfl) okO_nil (fun st hs => hfr st [2] ?_)
      rw [hs]
      exact FinR.pure (r := .bool false) (by kernel_rfl) rfl (by rw [symOk_bad hb])
    · refine Q.skip (hK _ (.norm [0] ?_))
      have hsz := symBad_size hb
      refine Q.seq fun K3 hK3 => ?_
      refine Q.runSeq S0 50 43 hnt [0, 33, 34] (z := ⟨[(0, .str s), (33, .int .i64 s.size), (34, .int .i64 0)], ⟨[], []⟩⟩) (o := []) (by kernel_rfl) okO_nil ?_
      refine Q.block ?_
      refine Q.loopI (σ := { j : Nat // j ≤ s.size ∧ ∀ i, i < j → letC (bt s i) = true }) [0, 33, 34] (fun j => ⟨[(0, .str s), (33, .int .i64 s.size), (34, .int .i64 j.1)], ⟨[], []⟩⟩) (fun j => s.size - j.1) ⟨0, Nat.zero_le _, fun i h => absurd h (Nat.not_lt_zero _)⟩ rfl fun ⟨j, hj, hl⟩ => ?_
      have bj := bt_in s j
      rcases Nat.lt_or_ge j s.size with hlt | hge
      · by_cases hc : letC (bt s j) = true
        · refine SWP.runQ (SY [(35, true), (39, true), (40, true)]) 60 43 hnt [0, 33, 34] (e := .normal) (z := ⟨[(0, .str s), (33, .int .i64 s.size), (34, .int .i64 (IntKind.i64.wrap ((j : Int) + 1)))], ⟨[], []⟩⟩) (o := [(decide ((j : Int) < (s.size : Int)), true), (true, true), (decide (0 ≤ (j : Int) ∧ (j : Int) < (s.size : Int)), true), (true, true), (decide (0 ≤ bt s j ∧ bt s j < 256), true), (letC (bt s j), true)]) (by kernel_rfl) (by simp only [okO, List.forall_mem_cons, List.not_mem_nil, false_imp_iff, implies_true, and_true]; simp [hc, bj]; omega) (fun st hs => ⟨⟨j + 1, hlt, fun i hi => ?_⟩, Nat.sub_lt_sub_left hlt (Nat.lt_succ_self j), ?_⟩)
          · rcases Nat.lt_succ_iff_lt_or_eq.1 hi with h | h
            · exact hl i h
            · rw [h]; exact hc
          · rw [hs, wrap1 j (by omega)]
        · simp only [Bool.not_eq_true] at hc
          refine SWP.runQ (SY [(35, true), (39, true), (40, false)]) 60 43 hnt [2] (e := .ret) (z := ⟨[(2, .bool false)], ⟨[], []⟩⟩) (o := [(decide ((j : Int) < (s.size : Int)), true), (true, true), (decide (0 ≤ (j : Int) ∧ (j : Int) < (s.size : Int)), true), (true, true), (decide (0 ≤ bt s j ∧ bt s j < 256), true), (letC (bt s j), false)]) (by kernel_rfl) (by simp only [okO, List.forall_mem_cons, List.not_mem_nil, false_imp_iff, implies_true, and_true]; simp [hc, bj]; omega) (fun st hs => hfr st [2] ?_)
          rw [hs]
          exact FinR.pure (r := .bool false) (by kernel_rfl) rfl (by rw [symOk_let hlt hc])
      · refine SWP.runQ (SY [(35, false)]) 60 43 hnt [0] (e := .exit 0) (z := ⟨[(0, .str s)], ⟨[], []⟩⟩) (o := [(decide ((j : Int) < (s.size : Int)), false), (false, false)]) (by kernel_rfl) (by simp only [okO, List.forall_mem_cons, List.not_mem_nil, false_imp_iff, implies_true, and_true]; simp; omega) (fun st hs => hK3 st (.norm [0] ?_))
        rw [hs]
        refine SWP.runQ S0 50 43 hnt [2] (e := .ret) (z := ⟨[(2, .bool true)], ⟨[], []⟩⟩) (o := []) (by kernel_rfl) okO_nil (fun st hs => hfr st [2] ?_)
        rw [hs]
        exact FinR.pure (r := .bool true) (by kernel_rfl) rfl (by rw [symOk_all hb fun i hi => hl i (by omega)])
  have b0 := bt_in s 0; have b1 := bt_in s 1
  by_cases h0 : s.size = 0
  · refine SWP.runQ (SY [(6, true)]) 60 43 hnt [0, 31] (e := .normal) (z := ⟨[(0, .str s), (31, .bool true)], ⟨[], []⟩⟩) (o := [((s.size : Int) == 0, true)]) (by kernel_rfl) ?_ (fun st hs => next st (by rw [hs]; simp [symBad, dig45, h0]))
    simp only [okO, List.forall_mem_cons, List.not_mem_nil, false_imp_iff, implies_true, and_true]; simp [dig45, h0]; try omega
  · by_cases h1 : 40 < s.size
    · refine SWP.runQ (SY [(6, false), (10, true)]) 60 43 hnt [0, 31] (e := .normal) (z := ⟨[(0, .str s), (31, .bool true)], ⟨[], []⟩⟩) (o := [((s.size : Int) == 0, false), (decide ((40 : Int) < (s.size : Int)), true)]) (by kernel_rfl) ?_ (fun st hs => next st (by rw [hs]; simp [symBad, dig45, h0, h1]))
      simp only [okO, List.forall_mem_cons, List.not_mem_nil, false_imp_iff, implies_true, and_true]; simp [dig45, h0, h1]; try omega
    · by_cases h2 : digC (bt s 0) = true
      · refine SWP.runQ (SY [(6, false), (10, false), (14, true), (15, true)]) 60 43 hnt [0, 31] (e := .normal) (z := ⟨[(0, .str s), (31, .bool true)], ⟨[], []⟩⟩) (o := [((s.size : Int) == 0, false), (decide ((40 : Int) < (s.size : Int)), false), (decide ((0 : Int) ≤ 0 ∧ (0 : Int) < (s.size : Int)), true), (true, true), (decide (0 ≤ bt s 0 ∧ bt s 0 < 256), true), (digC (bt s 0), true)]) (by kernel_rfl) ?_ (fun st hs => next st (by rw [hs]; simp [symBad, dig45, h0, h1, h2]))
        simp only [okO, List.forall_mem_cons, List.not_mem_nil, false_imp_iff, implies_true, and_true]; simp [dig45, h0, h1, h2]; try omega
      · simp only [Bool.not_eq_true] at h2
        by_cases h3 : bt s 0 = 45
        · by_cases h4 : 1 < s.size
          · by_cases h5 : digC (bt s 1) = true
            · refine SWP.runQ (SY [(6, false), (10, false), (14, true), (15, false), (19, true), (20, true), (24, true), (28, true), (29, true)]) 60 43 hnt [0, 31] (e := .normal) (z := ⟨[(0, .str s), (31, .bool true)], ⟨[], []⟩⟩) (o := [((s.size : Int) == 0, false), (decide ((40 : Int) < (s.size : Int)), false), (decide ((0 : Int) ≤ 0 ∧ (0 : Int) < (s.size : Int)), true), (true, true), (decide (0 ≤ bt s 0 ∧ bt s 0 < 256), true), (digC (bt s 0), false), (decide ((0 : Int) ≤ 0 ∧ (0 : Int) < (s.size : Int)), true), (bt s 0 == 45, true), (decide ((1 : Int) < (s.size : Int)), true), (decide ((0 : Int) ≤ 1 ∧ (1 : Int) < (s.size : Int)), true), (true, true), (decide (0 ≤ bt s 1 ∧ bt s 1 < 256), true), (digC (bt s 1), true)]) (by kernel_rfl) ?_ (fun st hs => next st (by rw [hs]; simp [symBad, dig45, h0, h1, h2, h3, h4, h5]))
              simp only [okO, List.forall_mem_cons, List.not_mem_nil, false_imp_iff, implies_true, and_true]; simp [dig45, h0, h1, h2, h3, h4, h5]; try omega
            · simp only [Bool.not_eq_true] at h5
              refine SWP.runQ (SY [(6, false), (10, false), (14, true), (15, false), (19, true), (20, true), (24, true), (28, true), (29, false)]) 60 43 hnt [0, 31] (e := .normal) (z := ⟨[(0, .str s), (31, .bool false)], ⟨[], []⟩⟩) (o := [((s.size : Int) == 0, false), (decide ((40 : Int) < (s.size : Int)), false), (decide ((0 : Int) ≤ 0 ∧ (0 : Int) < (s.size : Int)), true), (true, true), (decide (0 ≤ bt s 0 ∧ bt s 0 < 256), true), (digC (bt s 0), false), (decide ((0 : Int) ≤ 0 ∧ (0 : Int) < (s.size : Int)), true), (bt s 0 == 45, true), (decide ((1 : Int) < (s.size : Int)), true), (decide ((0 : Int) ≤ 1 ∧ (1 : Int) < (s.size : Int)), true), (true, true), (decide (0 ≤ bt s 1 ∧ bt s 1 < 256), true), (digC (bt s 1), false)]) (by kernel_rfl) ?_ (fun st hs => next st (by rw [hs]; simp [symBad, dig45, h0, h1, h2, h3, h4, h5]))
              simp only [okO, List.forall_mem_cons, List.not_mem_nil, false_imp_iff, implies_true, and_true]; simp [dig45, h0, h1, h2, h3, h4, h5]; try omega
          · refine SWP.runQ (SY [(6, false), (10, false), (14, true), (15, false), (19, true), (20, true), (24, false)]) 60 43 hnt [0, 31] (e := .normal) (z := ⟨[(0, .str s), (31, .bool false)], ⟨[], []⟩⟩) (o := [((s.size : Int) == 0, false), (decide ((40 : Int) < (s.size : Int)), false), (decide ((0 : Int) ≤ 0 ∧ (0 : Int) < (s.size : Int)), true), (true, true), (decide (0 ≤ bt s 0 ∧ bt s 0 < 256), true), (digC (bt s 0), false), (decide ((0 : Int) ≤ 0 ∧ (0 : Int) < (s.size : Int)), true), (bt s 0 == 45, true), (decide ((1 : Int) < (s.size : Int)), false)]) (by kernel_rfl) ?_ (fun st hs => next st (by rw [hs]; simp [symBad, dig45, h0, h1, h2, h3, h4]))
            simp only [okO, List.forall_mem_cons, List.not_mem_nil, false_imp_iff, implies_true, and_true]; simp [dig45, h0, h1, h2, h3, h4]; try omega
        · refine SWP.runQ (SY [(6, false), (10, false), (14, true), (15, false), (19, true), (20, false)]) 60 43 hnt [0, 31] (e := .normal) (z := ⟨[(0, .str s), (31, .bool false)], ⟨[], []⟩⟩) (o := [((s.size : Int) == 0, false), (decide ((40 : Int) < (s.size : Int)), false), (decide ((0 : Int) ≤ 0 ∧ (0 : Int) < (s.size : Int)), true), (true, true), (decide (0 ≤ bt s 0 ∧ bt s 0 < 256), true), (digC (bt s 0), false), (decide ((0 : Int) ≤ 0 ∧ (0 : Int) < (s.size : Int)), true), (bt s 0 == 45, false)]) (by kernel_rfl) ?_ (fun st hs => next st (by rw [hs]; simp [symBad, dig45, h0, h1, h2, h3]))
          simp only [okO, List.forall_mem_cons, List.not_mem_nil, false_imp_iff, implies_true, and_true]; simp [dig45, h0, h1, h2, h3]; try omega
theorem symbol_ok (s : ByteArray) : Pure G0 60 [.str s] (fun r => r = .bool (symOk s)) := by
  refine Fn.enterN Tryd.func60 Tryd.ntmps60 rfl (Nat.le_of_ble_eq_true rfl) fun C fr fp hnt hp hfr hfp => ?_
  refine Q.runSeq S0 50 43 hnt [0] (z := ⟨[(0, .str s)], ⟨[], []⟩⟩) (o := []) (by kernel_rfl) okO_nil ?_
  refine Q.seq fun K hK => ?_
  refine Q.seq fun K1 hK1 => ?_
  have next : ∀ st, nrm [0, 31] st = ⟨[(0, .str s), (31, .bool (symBad s))], ⟨[], []⟩⟩ → K1 st := fun st hst => by
    refine hK1 st (.norm [0, 31] ?_)
    rw [hst]
    refine Q.cond rfl (fun hb => ?_) (fun hb => ?_)
    · refine SWP.runQ S0 50 43 hnt [2] (e := .ret) (z := ⟨[(2, .bool false)], ⟨[], []⟩⟩) (o := []) (by kernel_rfl) okO_nil (fun st hs => hfr st [2] ?_)
      rw [hs]
      exact FinR.pure (r := .bool false) (by kernel_rfl) rfl (by rw [symOk_bad hb])
    · refine Q.skip (hK _ (.norm [0] ?_))
      have hsz := symBad_size hb
      refine Q.seq fun K3 hK3 => ?_
      refine Q.runSeq S0 50 43 hnt [0, 3] (z := ⟨[(0, .str s), (3, .int .i64 0)], ⟨[], []⟩⟩) (o := []) (by kernel_rfl) okO_nil ?_
      refine Q.block ?_
      refine Q.loopI (σ := { j : Nat // j ≤ s.size ∧ ∀ i, i < j → letC (bt s i) = true }) [0, 3] (fun j => ⟨[(0, .str s), (3, .int .i64 j.1)], ⟨[], []⟩⟩) (fun j => s.size - j.1) ⟨0, Nat.zero_le _, fun i h => absurd h (Nat.not_lt_zero _)⟩ rfl fun ⟨j, hj, hl⟩ => ?_
      have bj := bt_in s j
      rcases Nat.lt_or_ge j s.size with hlt | hge
      · by_cases hc : letC (bt s j) = true
        · refine SWP.runQ (SY [(35, true), (40, true), (41, true)]) 60 43 hnt [0, 3] (e := .normal) (z := ⟨[(0, .str s), (3, .int .i64 (IntKind.i64.wrap ((j : Int) + 1)))], ⟨[], []⟩⟩) (o := [(decide ((j : Int) < (s.size : Int)), true), (true, true), (decide (0 ≤ (j : Int) ∧ (j : Int) < (s.size : Int)), true), (true, true), (decide (0 ≤ bt s j ∧ bt s j < 256), true), (letC (bt s j), true)]) (by kernel_rfl) (by simp only [okO, List.forall_mem_cons, List.not_mem_nil, false_imp_iff, implies_true, and_true]; simp [hc, bj]; omega) (fun st hs => ⟨⟨j + 1, hlt, fun i hi => ?_⟩, Nat.sub_lt_sub_left hlt (Nat.lt_succ_self j), ?_⟩)
          · rcases Nat.lt_succ_iff_lt_or_eq.1 hi with h | h
            · exact hl i h
            · rw [h]; exact hc
          · rw [hs, wrap1 j (by omega)]
        · simp only [Bool.not_eq_true] at hc
          refine SWP.runQ (SY [(35, true), (40, true), (41, false)]) 60 43 hnt [2] (e := .ret) (z := ⟨[(2, .bool false)], ⟨[], []⟩⟩) (o := [(decide ((j : Int) < (s.size : Int)), true), (true, true), (decide (0 ≤ (j : Int) ∧ (j : Int) < (s.size : Int)), true), (true, true), (decide (0 ≤ bt s j ∧ bt s j < 256), true), (letC (bt s j), false)]) (by kernel_rfl) (by simp only [okO, List.forall_mem_cons, List.not_mem_nil, false_imp_iff, implies_true, and_true]; simp [hc, bj]; omega) (fun st hs => hfr st [2] ?_)
          rw [hs]
          exact FinR.pure (r := .bool false) (by kernel_rfl) rfl (by rw [symOk_let hlt hc])
      · refine SWP.runQ (SY [(35, false)]) 60 43 hnt [0] (e := .exit 0) (z := ⟨[(0, .str s)], ⟨[], []⟩⟩) (o := [(decide ((j : Int) < (s.size : Int)), false), (false, false)]) (by kernel_rfl) (by simp only [okO, List.forall_mem_cons, List.not_mem_nil, false_imp_iff, implies_true, and_true]; simp; omega) (fun st hs => hK3 st (.norm [0] ?_))
        rw [hs]
        refine SWP.runQ S0 50 43 hnt [2] (e := .ret) (z := ⟨[(2, .bool true)], ⟨[], []⟩⟩) (o := []) (by kernel_rfl) okO_nil (fun st hs => hfr st [2] ?_)
        rw [hs]
        exact FinR.pure (r := .bool true) (by kernel_rfl) rfl (by rw [symOk_all hb fun i hi => hl i (by omega)])
  have b0 := bt_in s 0; have b1 := bt_in s 1
  by_cases h0 : s.size = 0
  · refine SWP.runQ (SY [(6, true)]) 60 43 hnt [0, 31] (e := .normal) (z := ⟨[(0, .str s), (31, .bool true)], ⟨[], []⟩⟩) (o := [(decide ((s.size : Int) < 1), true)]) (by kernel_rfl) ?_ (fun st hs => next st (by rw [hs]; simp [symBad, dig45, h0]))
    simp only [okO, List.forall_mem_cons, List.not_mem_nil, false_imp_iff, implies_true, and_true]; simp [dig45, h0]; try omega
  · by_cases h1 : 40 < s.size
    · refine SWP.runQ (SY [(6, false), (10, true)]) 60 43 hnt [0, 31] (e := .normal) (z := ⟨[(0, .str s), (31, .bool true)], ⟨[], []⟩⟩) (o := [(decide ((s.size : Int) < 1), false), (decide ((40 : Int) < (s.size : Int)), true)]) (by kernel_rfl) ?_ (fun st hs => next st (by rw [hs]; simp [symBad, dig45, h0, h1]))
      simp only [okO, List.forall_mem_cons, List.not_mem_nil, false_imp_iff, implies_true, and_true]; simp [dig45, h0, h1]; try omega
    · by_cases h2 : digC (bt s 0) = true
      · refine SWP.runQ (SY [(6, false), (10, false), (14, true), (15, true)]) 60 43 hnt [0, 31] (e := .normal) (z := ⟨[(0, .str s), (31, .bool true)], ⟨[], []⟩⟩) (o := [(decide ((s.size : Int) < 1), false), (decide ((40 : Int) < (s.size : Int)), false), (decide ((0 : Int) ≤ 0 ∧ (0 : Int) < (s.size : Int)), true), (true, true), (decide (0 ≤ bt s 0 ∧ bt s 0 < 256), true), (digC (bt s 0), true)]) (by kernel_rfl) ?_ (fun st hs => next st (by rw [hs]; simp [symBad, dig45, h0, h1, h2]))
        simp only [okO, List.forall_mem_cons, List.not_mem_nil, false_imp_iff, implies_true, and_true]; simp [dig45, h0, h1, h2]; try omega
      · simp only [Bool.not_eq_true] at h2
        by_cases h3 : bt s 0 = 45
        · by_cases h4 : 1 < s.size
          · by_cases h5 : digC (bt s 1) = true
            · refine SWP.runQ (SY [(6, false), (10, false), (14, true), (15, false), (19, true), (20, true), (24, true), (28, true), (29, true)]) 60 43 hnt [0, 31] (e := .normal) (z := ⟨[(0, .str s), (31, .bool true)], ⟨[], []⟩⟩) (o := [(decide ((s.size : Int) < 1), false), (decide ((40 : Int) < (s.size : Int)), false), (decide ((0 : Int) ≤ 0 ∧ (0 : Int) < (s.size : Int)), true), (true, true), (decide (0 ≤ bt s 0 ∧ bt s 0 < 256), true), (digC (bt s 0), false), (decide ((0 : Int) ≤ 0 ∧ (0 : Int) < (s.size : Int)), true), (bt s 0 == 45, true), (decide ((1 : Int) < (s.size : Int)), true), (decide ((0 : Int) ≤ 1 ∧ (1 : Int) < (s.size : Int)), true), (true, true), (decide (0 ≤ bt s 1 ∧ bt s 1 < 256), true), (digC (bt s 1), true)]) (by kernel_rfl) ?_ (fun st hs => next st (by rw [hs]; simp [symBad, dig45, h0, h1, h2, h3, h4, h5]))
              simp only [okO, List.forall_mem_cons, List.not_mem_nil, false_imp_iff, implies_true, and_true]; simp [dig45, h0, h1, h2, h3, h4, h5]; try omega
            · simp only [Bool.not_eq_true] at h5
              refine SWP.runQ (SY [(6, false), (10, false), (14, true), (15, false), (19, true), (20, true), (24, true), (28, true), (29, false)]) 60 43 hnt [0, 31] (e := .normal) (z := ⟨[(0, .str s), (31, .bool false)], ⟨[], []⟩⟩) (o := [(decide ((s.size : Int) < 1), false), (decide ((40 : Int) < (s.size : Int)), false), (decide ((0 : Int) ≤ 0 ∧ (0 : Int) < (s.size : Int)), true), (true, true), (decide (0 ≤ bt s 0 ∧ bt s 0 < 256), true), (digC (bt s 0), false), (decide ((0 : Int) ≤ 0 ∧ (0 : Int) < (s.size : Int)), true), (bt s 0 == 45, true), (decide ((1 : Int) < (s.size : Int)), true), (decide ((0 : Int) ≤ 1 ∧ (1 : Int) < (s.size : Int)), true), (true, true), (decide (0 ≤ bt s 1 ∧ bt s 1 < 256), true), (digC (bt s 1), false)]) (by kernel_rfl) ?_ (fun st hs => next st (by rw [hs]; simp [symBad, dig45, h0, h1, h2, h3, h4, h5]))
              simp only [okO, List.forall_mem_cons, List.not_mem_nil, false_imp_iff, implies_true, and_true]; simp [dig45, h0, h1, h2, h3, h4, h5]; try omega
          · refine SWP.runQ (SY [(6, false), (10, false), (14, true), (15, false), (19, true), (20, true), (24, false)]) 60 43 hnt [0, 31] (e := .normal) (z := ⟨[(0, .str s), (31, .bool false)], ⟨[], []⟩⟩) (o := [(decide ((s.size : Int) < 1), false), (decide ((40 : Int) < (s.size : Int)), false), (decide ((0 : Int) ≤ 0 ∧ (0 : Int) < (s.size : Int)), true), (true, true), (decide (0 ≤ bt s 0 ∧ bt s 0 < 256), true), (digC (bt s 0), false), (decide ((0 : Int) ≤ 0 ∧ (0 : Int) < (s.size : Int)), true), (bt s 0 == 45, true), (decide ((1 : Int) < (s.size : Int)), false)]) (by kernel_rfl) ?_ (fun st hs => next st (by rw [hs]; simp [symBad, dig45, h0, h1, h2, h3, h4]))
            simp only [okO, List.forall_mem_cons, List.not_mem_nil, false_imp_iff, implies_true, and_true]; simp [dig45, h0, h1, h2, h3, h4]; try omega
        · refine SWP.runQ (SY [(6, false), (10, false), (14, true), (15, false), (19, true), (20, false)]) 60 43 hnt [0, 31] (e := .normal) (z := ⟨[(0, .str s), (31, .bool false)], ⟨[], []⟩⟩) (o := [(decide ((s.size : Int) < 1), false), (decide ((40 : Int) < (s.size : Int)), false), (decide ((0 : Int) ≤ 0 ∧ (0 : Int) < (s.size : Int)), true), (true, true), (decide (0 ≤ bt s 0 ∧ bt s 0 < 256), true), (digC (bt s 0), false), (decide ((0 : Int) ≤ 0 ∧ (0 : Int) < (s.size : Int)), true), (bt s 0 == 45, false)]) (by kernel_rfl) ?_ (fun st hs => next st (by rw [hs]; simp [symBad, dig45, h0, h1, h2, h3]))
          simp only [okO, List.forall_mem_cons, List.not_mem_nil, false_imp_iff, implies_true, and_true]; simp [dig45, h0, h1, h2, h3]; try omega
end Seat
end Go.Proofs.YteimebpgmfhgjaaDoor
