/- Data: right. -/
import Derived.Test.YteimebpgmfhgjaaDoorBytes
import Derived.Test.YteimebpgmfhgjaaDoorDatB
/- Symbols: datum.IsSymbol, pagodaref01.Symbol. Printed by dev/sym1.py (this session's). -/
namespace Go.Proofs.YteimebpgmfhgjaaDoor
open Go.AS
set_option linter.unusedVariables false
set_option linter.unusedSimpArgs false
set_option maxRecDepth 100000
namespace Seat
noncomputable def symS (f : Nat) (args : List PV) : Option (PV × Ob) := match f, args with
  | 71, [.int .u8 c] => some (.bool (digC c), [(decide (0 ≤ c ∧ c < 256), true)])
  | 72, [.int .u8 c] => some (.bool (letC c), [(decide (0 ≤ c ∧ c < 256), true)])
  | 69, [.int .u8 c] => some (.bool (digC c), [(decide (0 ≤ c ∧ c < 256), true)])
  | 70, [.int .u8 c] => some (.bool (letC c), [(decide (0 ≤ c ∧ c < 256), true)])
  | _, _ => none
theorem symS_ok (f : Nat) (args : List PV) (r : PV) (o : Ob) (h : symS f args = some (r, o)) (ho : ∀ p ∈ o, p.1 = p.2) (_ : pureL args = true) : Pure G0 f args (fun x => x = r) := by
  unfold symS at h
  split at h
  · cases h; exact isDigit_ok _ (of_decide_eq_true (ho _ (List.mem_singleton.2 rfl)))
  · cases h; exact isAtom_ok _ (of_decide_eq_true (ho _ (List.mem_singleton.2 rfl)))
  · cases h; exact digit_ok _ (of_decide_eq_true (ho _ (List.mem_singleton.2 rfl)))
  · cases h; exact letter_ok _ (of_decide_eq_true (ho _ (List.mem_singleton.2 rfl)))
  · cases h
noncomputable def SY (l : List (Nat × Bool)) : Cfg G0 := { F := F, hF := hF, S := symS, hS := symS_ok, orc := orcL 43 l }
/-- What is no symbol at once. -/
def symBad (s : ByteArray) : Bool := decide (s.size = 0) || decide (40 < s.size) || digC (bt s 0) || (bt s 0 == 45 && decide (1 < s.size) && digC (bt s 1))
def symOk (s : ByteArray) : Bool := !symBad s && (List.range s.size).all fun i => letC (bt s i)
theorem symOk_bad {s : ByteArray} (h : symBad s = true) : symOk s = false := by simp [symOk, h]
theorem symOk_let {s : ByteArray} {i : Nat} (hi : i < s.size) (h : letC (bt s i) = false) : symOk s = false := by
  unfold symOk
  have : ((List.range s.size).all fun i => letC (bt s i)) = false := by
    rw [List.all_eq_false]
    exact ⟨i, List.mem_range.2 hi, by simp [h]⟩
  rw [this, Bool.and_false]
theorem symOk_all {s : ByteArray} (h : symBad s = false) (hl : ∀ i, i < s.size → letC (bt s i) = true) : symOk s = true := by
  unfold symOk
  rw [h, Bool.not_false, Bool.true_and, List.all_eq_true]
  exact fun i hi => hl i (List.mem_range.1 hi)
theorem symBad_size {s : ByteArray} (h : symBad s = false) : s.size ≤ 40 := by
  simp [symBad] at h
  omega
theorem dig45 : digC 45 = false := by decide
theorem isSymbol_ok (s : ByteArray) : Pure G0 61 [.str s] (fun r => r = .bool (symOk s)) := by
  refine Fn.enterN Tryd.func61 Tryd.ntmps61 rfl (Nat.le_of_ble_eq_true rfl) fun C fr fp hnt hp hfr hfp => ?_
  refine Q.runSeq S0 50 43 hnt [0] (z := ⟨[(0, .str s)], ⟨[], []⟩⟩) (o := []) (by kernel_rfl) okO_nil ?_
  refine Q.seq fun K hK => ?_
  refine Q.seq fun K1 hK1 => ?_
  have next : ∀ st, nrm [0, 31] st = ⟨[(0, .str s), (31, .bool (symBad s))], ⟨[], []⟩⟩ → K1 st := fun st hst => by
    refine hK1 st (.norm [0, 31] ?_)
    rw [hst]
    refine Q.cond rfl (fun hb => ?_) (fun hb => ?_)
    · refine SWP.runQ S0 50 43 hnt [2] (e := .ret) (z := ⟨[(2, .bool false)], ⟨[], []⟩⟩) (o := []) (by kernel_rfl) okO_nil (fun st hs => hfr st [2] ?_)
      rw [hs]
      exact FinR.pure (r := .bool false) (by kernel_rfl) rfl (by rw [symOk_bad hb])
    · refine Q.skip (hK _ (.norm [0] ?_))
      have hsz := symBad_size hb
      refine Q.seq fun K3 hK3 => ?_
      refine Q.runSeq S0 50 43 hnt [0, 33, 34] (z := ⟨[(0, .str s), (33, .int .i64 s.size), (34, .int .i64 0)], ⟨[], []⟩⟩) (o := []) (by kernel_rfl) okO_nil ?_
      refine Q.block ?_
      refine Q.loopI (σ := { j : Nat // j ≤ s.size ∧ ∀ i, i < j → letC (bt s i) = true }) [0, 33, 34] (fun j => ⟨[(0, .str s), (33, .int .i64 s.size), (34, .int .i64 j.1)], ⟨[], []⟩⟩) (fun j => s.size - j.1) ⟨0, Nat.zero_le _, fun i h => absurd h (Nat.not_lt_zero _)⟩ rfl fun ⟨j, hj, hl⟩ => ?_
      have bj := bt_in s j
      rcases Nat.lt_or_ge j s.size with hlt | hge
      · by_cases hc : letC (bt s j) = true
        · refine SWP.runQ (SY [(35, true), (39, true), (40, true)]) 60 43 hnt [0, 33, 34] (e := .normal) (z := ⟨[(0, .str s), (33, .int .i64 s.size), (34, .int .i64 (IntKind.i64.wrap ((j : Int) + 1)))], ⟨[], []⟩⟩) (o := [(decide ((j : Int) < (s.size : Int)), true), (true, true), (decide (0 ≤ (j : Int) ∧ (j : Int) < (s.size : Int)), true), (true, true), (decide (0 ≤ bt s j ∧ bt s j < 256), true), (letC (bt s j), true)]) (by kernel_rfl) (by simp only [okO, List.forall_mem_cons, List.not_mem_nil, false_imp_iff, implies_true, and_true]; simp [hc, bj]; omega) (fun st hs => ⟨⟨j + 1, hlt, fun i hi => ?_⟩, Nat.sub_lt_sub_left hlt (Nat.lt_succ_self j), ?_⟩)
          · rcases Nat.lt_succ_iff_lt_or_eq.1 hi with h | h
            · exact hl i h
            · rw [h]; exact hc
          · rw [hs, wrap1 j (by omega)]
        · simp only [Bool.not_eq_true] at hc
          refine SWP.runQ (SY [(35, true), (39, true), (40, false)]) 60 43 hnt [2] (e := .ret) (z := ⟨[(2, .bool false)], ⟨[], []⟩⟩) (o := [(decide ((j : Int) < (s.size : Int)), true), (true, true), (decide (0 ≤ (j : Int) ∧ (j : Int) < (s.size : Int)), true), (true, true), (decide (0 ≤ bt s j ∧ bt s j < 256), true), (letC (bt s j), false)]) (by kernel_rfl) (by simp only [okO, List.forall_mem_cons, List.not_mem_nil, false_imp_iff, implies_true, and_true]; simp [hc, bj]; omega) (fun st hs => hfr st [2] ?_)
          rw [hs]
          exact FinR.pure (r := .bool false) (by kernel_rfl) rfl (by rw [symOk_let hlt hc])
      · refine SWP.runQ (SY [(35, false)]) 60 43 hnt [0] (e := .exit 0) (z := ⟨[(0, .str s)], ⟨[], []⟩⟩) (o := [(decide ((j : Int) < (s.size : Int)), false), (false, false)]) (by kernel_rfl) (by simp only [okO, List.forall_mem_cons, List.not_mem_nil, false_imp_iff, implies_true, and_true]; simp; omega) (fun st hs => hK3 st (.norm [0] ?_))
        rw [hs]
        refine SWP.runQ S0 50 43 hnt [2] (e := .ret) (z := ⟨[(2, .bool true)], ⟨[], []⟩⟩) (o := []) (by kernel_rfl) okO_nil (fun st hs => hfr st [2] ?_)
        rw [hs]
        exact FinR.pure (r := .bool true) (by kernel_rfl) rfl (by rw [symOk_all hb fun i hi => hl i (by omega)])
  have b0 := bt_in s 0; have b1 := bt_in s 1
  by_cases h0 : s.size = 0
  · refine SWP.runQ (SY [(6, true)]) 60 43 hnt [0, 31] (e := .normal) (z := ⟨[(0, .str s), (31, .bool true)], ⟨[], []⟩⟩) (o := [((s.size : Int) == 0, true)]) (by kernel_rfl) ?_ (fun st hs => next st (by rw [hs]; simp [symBad, dig45, h0]))
    simp only [okO, List.forall_mem_cons, List.not_mem_nil, false_imp_iff, implies_true, and_true]; simp [dig45, h0]; try omega
  · by_cases h1 : 40 < s.size
    · refine SWP.runQ (SY [(6, false), (10, true)]) 60 43 hnt [0, 31] (e := .normal) (z := ⟨[(0, .str s), (31, .bool true)], ⟨[], []⟩⟩) (o := [((s.size : Int) == 0, false), (decide ((40 : Int) < (s.size : Int)), true)]) (by kernel_rfl) ?_ (fun st hs => next st (by rw [hs]; simp [symBad, dig45, h0, h1]))
      simp only [okO, List.forall_mem_cons, List.not_mem_nil, false_imp_iff, implies_true, and_true]; simp [dig45, h0, h1]; try omega
    · by_cases h2 : digC (bt s 0) = true
      · refine SWP.runQ (SY [(6, false), (10, false), (14, true), (15, true)]) 60 43 hnt [0, 31] (e := .normal) (z := ⟨[(0, .str s), (31, .bool true)], ⟨[], []⟩⟩) (o := [((s.size : Int) == 0, false), (decide ((40 : Int) < (s.size : Int)), false), (decide ((0 : Int) ≤ 0 ∧ (0 : Int) < (s.size : Int)), true), (true, true), (decide (0 ≤ bt s 0 ∧ bt s 0 < 256), true), (digC (bt s 0), true)]) (by kernel_rfl) ?_ (fun st hs => next st (by rw [hs]; simp [symBad, dig45, h0, h1, h2]))
        simp only [okO, List.forall_mem_cons, List.not_mem_nil, false_imp_iff, implies_true, and_true]; simp [dig45, h0, h1, h2]; try omega
      · simp only [Bool.not_eq_true] at h2
        by_cases h3 : bt s 0 = 45
        · by_cases h4 : 1 < s.size
          · by_cases h5 : digC (bt s 1) = true
            · refine SWP.runQ (SY [(6, false), (10, false), (14, true), (15, false), (19, true), (20, true), (24, true), (28, true), (29, true)]) 60 43 hnt [0, 31] (e := .normal) (z := ⟨[(0, .str s), (31, .bool true)], ⟨[], []⟩⟩) (o := [((s.size : Int) == 0, false), (decide ((40 : Int) < (s.size : Int)), false), (decide ((0 : Int) ≤ 0 ∧ (0 : Int) < (s.size : Int)), true), (true, true), (decide (0 ≤ bt s 0 ∧ bt s 0 < 256), true), (digC (bt s 0), false), (decide ((0 : Int) ≤ 0 ∧ (0 : Int) < (s.size : Int)), true), (bt s 0 == 45, true), (decide ((1 : Int) < (s.size : Int)), true), (decide ((0 : Int) ≤ 1 ∧ (1 : Int) < (s.size : Int)), true), (true, true), (decide (0 ≤ bt s 1 ∧ bt s 1 < 256), true), (digC (bt s 1), true)]) (by kernel_rfl) ?_ (fun st hs => next st (by rw [hs]; simp [symBad, dig45, h0, h1, h2, h3, h4, h5]))
              simp only [okO, List.forall_mem_cons, List.not_mem_nil, false_imp_iff, implies_true, and_true]; simp [dig45, h0, h1, h2, h3, h4, h5]; try omega
            · simp only [Bool.not_eq_true] at h5
              refine SWP.runQ (SY [(6, false), (10, false), (14, true), (15, false), (19, true), (20, true), (24, true), (28, true), (29, false)]) 60 43 hnt [0, 31] (e := .normal) (z := ⟨[(0, .str s), (31, .bool false)], ⟨[], []⟩⟩) (o := [((s.size : Int) == 0, false), (decide ((40 : Int) < (s.size : Int)), false), (decide ((0 : Int) ≤ 0 ∧ (0 : Int) < (s.size : Int)), true), (true, true), (decide (0 ≤ bt s 0 ∧ bt s 0 < 256), true), (digC (bt s 0), false), (decide ((0 : Int) ≤ 0 ∧ (0 : Int) < (s.size : Int)), true), (bt s 0 == 45, true), (decide ((1 : Int) < (s.size : Int)), true), (decide ((0 : Int) ≤ 1 ∧ (1 : Int) < (s.size : Int)), true), (true, true), (decide (0 ≤ bt s 1 ∧ bt s 1 < 256), true), (digC (bt s 1), false)]) (by kernel_rfl) ?_ (fun st hs => next st (by rw [hs]; simp [symBad, dig45, h0, h1, h2, h3, h4, h5]))
              simp only [okO, List.forall_mem_cons, List.not_mem_nil, false_imp_iff, implies_true, and_true]; simp [dig45, h0, h1, h2, h3, h4, h5]; try omega
          · refine SWP.runQ (SY [(6, false), (10, false), (14, true), (15, false), (19, true), (20, true), (24, false)]) 60 43 hnt [0, 31] (e := .normal) (z := ⟨[(0, .str s), (31, .bool false)], ⟨[], []⟩⟩) (o := [((s.size : Int) == 0, false), (decide ((40 : Int) < (s.size : Int)), false), (decide ((0 : Int) ≤ 0 ∧ (0 : Int) < (s.size : Int)), true), (true, true), (decide (0 ≤ bt s 0 ∧ bt s 0 < 256), true), (digC (bt s 0), false), (decide ((0 : Int) ≤ 0 ∧ (0 : Int) < (s.size : Int)), true), (bt s 0 == 45, true), (decide ((1 : Int) < (s.size : Int)), false)]) (by kernel_rfl) ?_ (fun st hs => next st (by rw [hs]; simp [symBad, dig45, h0, h1, h2, h3, h4]))
            simp only [okO, List.forall_mem_cons, List.not_mem_nil, false_imp_iff, implies_true, and_true]; simp [dig45, h0, h1, h2, h3, h4]; try omega
        · refine SWP.runQ (SY [(6, false), (10, false), (14, true), (15, false), (19, true), (20, false)]) 60 43 hnt [0, 31] (e := .normal) (z := ⟨[(0, .str s), (31, .bool false)], ⟨[], []⟩⟩) (o := [((s.size : Int) == 0, false), (decide ((40 : Int) < (s.size : Int)), false), (decide ((0 : Int) ≤ 0 ∧ (0 : Int) < (s.size : Int)), true), (true, true), (decide (0 ≤ bt s 0 ∧ bt s 0 < 256), true), (digC (bt s 0), false), (decide ((0 : Int) ≤ 0 ∧ (0 : Int) < (s.size : Int)), true), (bt s 0 == 45, false)]) (by kernel_rfl) ?_ (fun st hs => next st (by rw [hs]; simp [symBad, dig45, h0, h1, h2, h3]))
          simp only [okO, List.forall_mem_cons, List.not_mem_nil, false_imp_iff, implies_true, and_true]; simp [dig45, h0, h1, h2, h3]; try omega
theorem symbol_ok (s : ByteArray) : Pure G0 60 [.str s] (fun r => r = .bool (symOk s)) := by
  refine Fn.enterN Tryd.func60 Tryd.ntmps60 rfl (Nat.le_of_ble_eq_true rfl) fun C fr fp hnt hp hfr hfp => ?_
  refine Q.runSeq S0 50 43 hnt [0] (z := ⟨[(0, .str s)], ⟨[], []⟩⟩) (o := []) (by kernel_rfl) okO_nil ?_
  refine Q.seq fun K hK => ?_
  refine Q.seq fun K1 hK1 => ?_
  have next : ∀ st, nrm [0, 31] st = ⟨[(0, .str s), (31, .bool (symBad s))], ⟨[], []⟩⟩ → K1 st := fun st hst => by
    refine hK1 st (.norm [0, 31] ?_)
    rw [hst]
    refine Q.cond rfl (fun hb => ?_) (fun hb => ?_)
    · refine SWP.runQ S0 50 43 hnt [2] (e := .ret) (z := ⟨[(2, .bool false)], ⟨[], []⟩⟩) (o := []) (by kernel_rfl) okO_nil (fun st hs => hfr st [2] ?_)
      rw [hs]
      exact FinR.pure (r := .bool false) (by kernel_rfl) rfl (by rw [symOk_bad hb])
    · refine Q.skip (hK _ (.norm [0] ?_))
      have hsz := symBad_size hb
      refine Q.seq fun K3 hK3 => ?_
      refine Q.runSeq S0 50 43 hnt [0, 3] (z := ⟨[(0, .str s), (3, .int .i64 0)], ⟨[], []⟩⟩) (o := []) (by kernel_rfl) okO_nil ?_
      refine Q.block ?_
      refine Q.loopI (σ := { j : Nat // j ≤ s.size ∧ ∀ i, i < j → letC (bt s i) = true }) [0, 3] (fun j => ⟨[(0, .str s), (3, .int .i64 j.1)], ⟨[], []⟩⟩) (fun j => s.size - j.1) ⟨0, Nat.zero_le _, fun i h => absurd h (Nat.not_lt_zero _)⟩ rfl fun ⟨j, hj, hl⟩ => ?_
      have bj := bt_in s j
      rcases Nat.lt_or_ge j s.size with hlt | hge
      · by_cases hc : letC (bt s j) = true
        · refine SWP.runQ (SY [(35, true), (40, true), (41, true)]) 60 43 hnt [0, 3] (e := .normal) (z := ⟨[(0, .str s), (3, .int .i64 (IntKind.i64.wrap ((j : Int) + 1)))], ⟨[], []⟩⟩) (o := [(decide ((j : Int) < (s.size : Int)), true), (true, true), (decide (0 ≤ (j : Int) ∧ (j : Int) < (s.size : Int)), true), (true, true), (decide (0 ≤ bt s j ∧ bt s j < 256), true), (letC (bt s j), true)]) (by kernel_rfl) (by simp only [okO, List.forall_mem_cons, List.not_mem_nil, false_imp_iff, implies_true, and_true]; simp [hc, bj]; omega) (fun st hs => ⟨⟨j + 1, hlt, fun i hi => ?_⟩, Nat.sub_lt_sub_left hlt (Nat.lt_succ_self j), ?_⟩)
          · rcases Nat.lt_succ_iff_lt_or_eq.1 hi with h | h
            · exact hl i h
            · rw [h]; exact hc
          · rw [hs, wrap1 j (by omega)]
        · simp only [Bool.not_eq_true] at hc
          refine SWP.runQ (SY [(35, true), (40, true), (41, false)]) 60 43 hnt [2] (e := .ret) (z := ⟨[(2, .bool false)], ⟨[], []⟩⟩) (o := [(decide ((j : Int) < (s.size : Int)), true), (true, true), (decide (0 ≤ (j : Int) ∧ (j : Int) < (s.size : Int)), true), (true, true), (decide (0 ≤ bt s j ∧ bt s j < 256), true), (letC (bt s j), false)]) (by kernel_rfl) (by simp only [okO, List.forall_mem_cons, List.not_mem_nil, false_imp_iff, implies_true, and_true]; simp [hc, bj]; omega) (fun st hs => hfr st [2] ?_)
          rw [hs]
          exact FinR.pure (r := .bool false) (by kernel_rfl) rfl (by rw [symOk_let hlt hc])
      · refine SWP.runQ (SY [(35, false)]) 60 43 hnt [0] (e := .exit 0) (z := ⟨[(0, .str s)], ⟨[], []⟩⟩) (o := [(decide ((j : Int) < (s.size : Int)), false), (false, false)]) (by kernel_rfl) (by simp only [okO, List.forall_mem_cons, List.not_mem_nil, false_imp_iff, implies_true, and_true]; simp; omega) (fun st hs => hK3 st (.norm [0] ?_))
        rw [hs]
        refine SWP.runQ S0 50 43 hnt [2] (e := .ret) (z := ⟨[(2, .bool true)], ⟨[], []⟩⟩) (o := []) (by kernel_rfl) okO_nil (fun st hs => hfr st [2] ?_)
        rw [hs]
        exact FinR.pure (r := .bool true) (by kernel_rfl) rfl (by rw [symOk_all hb fun i hi => hl i (by omega)])
  have b0 := bt_in s 0; have b1 := bt_in s 1
  by_cases h0 : s.size = 0
  · refine SWP.runQ (SY [(6, true)]) 60 43 hnt [0, 31] (e := .normal) (z := ⟨[(0, .str s), (31, .bool true)], ⟨[], []⟩⟩) (o := [(decide ((s.size : Int) < 1), true)]) (by kernel_rfl) ?_ (fun st hs => next st (by rw [hs]; simp [symBad, dig45, h0]))
    simp only [okO, List.forall_mem_cons, List.not_mem_nil, false_imp_iff, implies_true, and_true]; simp [dig45, h0]; try omega
  · by_cases h1 : 40 < s.size
    · refine SWP.runQ (SY [(6, false), (10, true)]) 60 43 hnt [0, 31] (e := .normal) (z := ⟨[(0, .str s), (31, .bool true)], ⟨[], []⟩⟩) (o := [(decide ((s.size : Int) < 1), false), (decide ((40 : Int) < (s.size : Int)), true)]) (by kernel_rfl) ?_ (fun st hs => next st (by rw [hs]; simp [symBad, dig45, h0, h1]))
      simp only [okO, List.forall_mem_cons, List.not_mem_nil, false_imp_iff, implies_true, and_true]; simp [dig45, h0, h1]; try omega
    · by_cases h2 : digC (bt s 0) = true
      · refine SWP.runQ (SY [(6, false), (10, false), (14, true), (15, true)]) 60 43 hnt [0, 31] (e := .normal) (z := ⟨[(0, .str s), (31, .bool true)], ⟨[], []⟩⟩) (o := [(decide ((s.size : Int) < 1), false), (decide ((40 : Int) < (s.size : Int)), false), (decide ((0 : Int) ≤ 0 ∧ (0 : Int) < (s.size : Int)), true), (true, true), (decide (0 ≤ bt s 0 ∧ bt s 0 < 256), true), (digC (bt s 0), true)]) (by kernel_rfl) ?_ (fun st hs => next st (by rw [hs]; simp [symBad, dig45, h0, h1, h2]))
        simp only [okO, List.forall_mem_cons, List.not_mem_nil, false_imp_iff, implies_true, and_true]; simp [dig45, h0, h1, h2]; try omega
      · simp only [Bool.not_eq_true] at h2
        by_cases h3 : bt s 0 = 45
        · by_cases h4 : 1 < s.size
          · by_cases h5 : digC (bt s 1) = true
            · refine SWP.runQ (SY [(6, false), (10, false), (14, true), (15, false), (19, true), (20, true), (24, true), (28, true), (29, true)]) 60 43 hnt [0, 31] (e := .normal) (z := ⟨[(0, .str s), (31, .bool true)], ⟨[], []⟩⟩) (o := [(decide ((s.size : Int) < 1), false), (decide ((40 : Int) < (s.size : Int)), false), (decide ((0 : Int) ≤ 0 ∧ (0 : Int) < (s.size : Int)), true), (true, true), (decide (0 ≤ bt s 0 ∧ bt s 0 < 256), true), (digC (bt s 0), false), (decide ((0 : Int) ≤ 0 ∧ (0 : Int) < (s.size : Int)), true), (bt s 0 == 45, true), (decide ((1 : Int) < (s.size : Int)), true), (decide ((0 : Int) ≤ 1 ∧ (1 : Int) < (s.size : Int)), true), (true, true), (decide (0 ≤ bt s 1 ∧ bt s 1 < 256), true), (digC (bt s 1), true)]) (by kernel_rfl) ?_ (fun st hs => next st (by rw [hs]; simp [symBad, dig45, h0, h1, h2, h3, h4, h5]))
              simp only [okO, List.forall_mem_cons, List.not_mem_nil, false_imp_iff, implies_true, and_true]; simp [dig45, h0, h1, h2, h3, h4, h5]; try omega
            · simp only [Bool.not_eq_true] at h5
              refine SWP.runQ (SY [(6, false), (10, false), (14, true), (15, false), (19, true), (20, true), (24, true), (28, true), (29, false)]) 60 43 hnt [0, 31] (e := .normal) (z := ⟨[(0, .str s), (31, .bool false)], ⟨[], []⟩⟩) (o := [(decide ((s.size : Int) < 1), false), (decide ((40 : Int) < (s.size : Int)), false), (decide ((0 : Int) ≤ 0 ∧ (0 : Int) < (s.size : Int)), true), (true, true), (decide (0 ≤ bt s 0 ∧ bt s 0 < 256), true), (digC (bt s 0), false), (decide ((0 : Int) ≤ 0 ∧ (0 : Int) < (s.size : Int)), true), (bt s 0 == 45, true), (decide ((1 : Int) < (s.size : Int)), true), (decide ((0 : Int) ≤ 1 ∧ (1 : Int) < (s.size : Int)), true), (true, true), (decide (0 ≤ bt s 1 ∧ bt s 1 < 256), true), (digC (bt s 1), false)]) (by kernel_rfl) ?_ (fun st hs => next st (by rw [hs]; simp [symBad, dig45, h0, h1, h2, h3, h4, h5]))
              simp only [okO, List.forall_mem_cons, List.not_mem_nil, false_imp_iff, implies_true, and_true]; simp [dig45, h0, h1, h2, h3, h4, h5]; try omega
          · refine SWP.runQ (SY [(6, false), (10, false), (14, true), (15, false), (19, true), (20, true), (24, false)]) 60 43 hnt [0, 31] (e := .normal) (z := ⟨[(0, .str s), (31, .bool false)], ⟨[], []⟩⟩) (o := [(decide ((s.size : Int) < 1), false), (decide ((40 : Int) < (s.size : Int)), false), (decide ((0 : Int) ≤ 0 ∧ (0 : Int) < (s.size : Int)), true), (true, true), (decide (0 ≤ bt s 0 ∧ bt s 0 < 256), true), (digC (bt s 0), false), (decide ((0 : Int) ≤ 0 ∧ (0 : Int) < (s.size : Int)), true), (bt s 0 == 45, true), (decide ((1 : Int) < (s.size : Int)), false)]) (by kernel_rfl) ?_ (fun st hs => next st (by rw [hs]; simp [symBad, dig45, h0, h1, h2, h3, h4]))
            simp only [okO, List.forall_mem_cons, List.not_mem_nil, false_imp_iff, implies_true, and_true]; simp [dig45, h0, h1, h2, h3, h4]; try omega
        · refine SWP.runQ (SY [(6, false), (10, false), (14, true), (15, false), (19, true), (20, false)]) 60 43 hnt [0, 31] (e := .normal) (z := ⟨[(0, .str s), (31, .bool false)], ⟨[], []⟩⟩) (o := [(decide ((s.size : Int) < 1), false), (decide ((40 : Int) < (s.size : Int)), false), (decide ((0 : Int) ≤ 0 ∧ (0 : Int) < (s.size : Int)), true), (true, true), (decide (0 ≤ bt s 0 ∧ bt s 0 < 256), true), (digC (bt s 0), false), (decide ((0 : Int) ≤ 0 ∧ (0 : Int) < (s.size : Int)), true), (bt s 0 == 45, false)]) (by kernel_rfl) ?_ (fun st hs => next st (by rw [hs]; simp [symBad, dig45, h0, h1, h2, h3]))
          simp only [okO, List.forall_mem_cons, List.not_mem_nil, false_imp_iff, implies_true, and_true]; simp [dig45, h0, h1, h2, h3]; try omega
end Seat
end Go.Proofs.YteimebpgmfhgjaaDoor
/- Which data are right: what it says; laws that the interpreter takes. -/
namespace Go.Proofs.YteimebpgmfhgjaaDoor
open Go.AS
set_option linter.unusedVariables false
set_option linter.unusedSimpArgs false
set_option maxRecDepth 100000
namespace Seat
mutual
def formedD : Dat → Bool
  | .mk k n s ks => (decide (k = 1) && decide (s.size = 0) && decide (ks.len = 0)) || (decide (k = 2) && decide (n = 0) && symOk s && decide (ks.len = 0)) || (decide (k = 3) && decide (n = 0) && decide (s.size = 0) && formedL ks)
def formedL : Dats → Bool
  | .nil => true
  | .cons d ds => formedD d && formedL ds
end
theorem formedL_iff : ∀ ks : Dats, formedL ks = true ↔ ∀ j, j < ks.len → formedD (ks.get j) = true
  | .nil => by simp [formedL, Dats.len]
  | .cons d ds => by
    simp only [formedL, Bool.and_eq_true, formedL_iff ds, Dats.len]
    constructor
    · rintro ⟨h1, h2⟩ j hj
      cases j with
      | zero => exact h1
      | succ j => exact h2 j (by omega)
    · intro h
      exact ⟨h 0 (by omega), fun j hj => h (j + 1) (by omega)⟩
theorem formedL_not {ks : Dats} {j : Nat} (hj : j < ks.len) (h : formedD (ks.get j) = false) : formedL ks = false := by
  cases hf : formedL ks with
  | false => rfl
  | true => rw [(formedL_iff ks).1 hf j hj] at h; cases h
/-- The first that isn't right, or -1. -/
def badIdx (ks : Dats) : Int := match (List.range ks.len).find? fun j => !formedD (ks.get j) with
  | some j => j
  | none => -1
theorem badIdx_at {ks : Dats} {j : Nat} (hj : j < ks.len) (h : formedD (ks.get j) = false) (hl : ∀ i, i < j → formedD (ks.get i) = true) : badIdx ks = j := by
  unfold badIdx
  have : (List.range ks.len).find? (fun j => !formedD (ks.get j)) = some j := by
    rw [List.find?_range_eq_some]
    exact ⟨by simp [h], List.mem_range.2 hj, fun i hi => by simp [hl i hi]⟩
  rw [this]
theorem badIdx_none {ks : Dats} (hl : ∀ i, i < ks.len → formedD (ks.get i) = true) : badIdx ks = -1 := by
  unfold badIdx
  have : (List.range ks.len).find? (fun j => !formedD (ks.get j)) = none := by
    rw [List.find?_eq_none]
    intro i hi
    simp [hl i (List.mem_range.1 hi)]
  rw [this]
theorem badIdx_formed (ks : Dats) : decide (0 ≤ badIdx ks) = !formedL ks := by
  cases h : formedL ks with
  | true => rw [badIdx_none fun i hi => (formedL_iff ks).1 h i hi]; rfl
  | false =>
    unfold badIdx
    split
    · rename_i j hj
      simp
    · rename_i hn
      rw [List.find?_eq_none] at hn
      have : formedL ks = true := (formedL_iff ks).2 fun j hj => by simpa using hn j (List.mem_range.2 hj)
      rw [this] at h
      cases h
/-- Law of formed, of data of less than N. -/
def FormAt (N : Nat) : Prop := ∀ d : Dat, d.size < N → d.ok → Pure G0 45 [.agg d.cells] (fun r => r = .bool (formedD d))
def IdxAt (N : Nat) : Prop := ∀ ks : Dats, ks.size < N → ks.len ≤ 9223372036854775807 → ks.ok → Pure G0 73 [.slice ks.len ks.cells, .func (.func 63) []] (fun r => r = .int .i64 (badIdx ks))
noncomputable def formS (N : Nat) (f : Nat) (args : List PV) : Option (PV × Ob) := match f, args with
  | 45, [.agg cs] => some (.bool (ofCells formedD false cs), [(isDat N cs, true)])
  | _, _ => none
theorem formS_ok {N : Nat} (ih : FormAt N) (f : Nat) (args : List PV) (r : PV) (o : Ob) (h : formS N f args = some (r, o)) (ho : ∀ p ∈ o, p.1 = p.2) (_ : pureL args = true) : Pure G0 f args (fun x => x = r) := by
  unfold formS at h
  split at h
  · cases h
    obtain ⟨d, rfl, h1, h2⟩ := isDat_of (ho _ (List.mem_singleton.2 rfl))
    rw [ofCells_at]
    exact ih d h1 h2
  · cases h
noncomputable def idxS (N : Nat) (f : Nat) (args : List PV) : Option (PV × Ob) := match f, args with
  | 73, [.slice n cs, .func (.func 63) []] => some (.int .i64 (ofCellsL badIdx 0 cs), [(isDats N n cs, true)])
  | 61, [.str s] => some (.bool (symOk s), [])
  | _, _ => none
theorem idxS_ok {N : Nat} (ih : IdxAt N) (f : Nat) (args : List PV) (r : PV) (o : Ob) (h : idxS N f args = some (r, o)) (ho : ∀ p ∈ o, p.1 = p.2) (_ : pureL args = true) : Pure G0 f args (fun x => x = r) := by
  unfold idxS at h
  split at h
  · cases h
    obtain ⟨ks, rfl, rfl, h1, hl, h2⟩ := isDats_of (ho _ (List.mem_singleton.2 rfl))
    rw [ofCellsL_at]
    exact ih ks h1 hl h2
  · cases h; exact isSymbol_ok _
  · cases h
end Seat
end Go.Proofs.YteimebpgmfhgjaaDoor
/- datum.formed: which data are right. -/
namespace Go.Proofs.YteimebpgmfhgjaaDoor
open Go.AS
set_option linter.unusedVariables false
set_option linter.unusedSimpArgs false
set_option maxRecDepth 100000
namespace Seat
noncomputable def SF {N : Nat} (ih : FormAt N) (l : List (Nat × List (Nat × Bool))) (v : List (Nat × List (Nat × PV))) : Cfg G0 := { F := F, hF := hF, S := formS N, hS := formS_ok ih, orc := orcM l, val := valM v }
noncomputable def SI {N : Nat} (ih : IdxAt N) (l : List (Nat × List (Nat × Bool))) : Cfg G0 := { F := F, hF := hF, S := idxS N, hS := idxS_ok ih, orc := orcM l }
theorem idxAt {N : Nat} (ih : FormAt N) : IdxAt (N + 1) := fun ks hN hlen hok => by
  refine Fn.enterN Tryd.func73 Tryd.ntmps73 rfl (Nat.le_of_ble_eq_true rfl) fun C fr fp hnt hp hfr hfp => ?_
  refine Q.runSeq S0 50 19 hnt [0, 1] (z := ⟨[(0, .slice ks.len ks.cells), (1, .func (.func 63) [])], ⟨[], []⟩⟩) (o := []) (by kernel_rfl) okO_nil ?_
  refine Q.seq fun K hK => ?_
  refine Q.runSeq S0 50 19 hnt [0, 1, 7, 8] (z := ⟨[(0, .slice ks.len ks.cells), (1, .func (.func 63) []), (7, .int .i64 ks.len), (8, .int .i64 0)], ⟨[], []⟩⟩) (o := []) (by kernel_rfl) okO_nil ?_
  refine Q.block ?_
  refine Q.loopI (σ := { j : Nat // j ≤ ks.len ∧ ∀ i, i < j → formedD (ks.get i) = true }) [0, 1, 7, 8] (fun j => ⟨[(0, .slice ks.len ks.cells), (1, .func (.func 63) []), (7, .int .i64 ks.len), (8, .int .i64 j.1)], ⟨[], []⟩⟩) (fun j => ks.len - j.1) ⟨0, Nat.zero_le _, fun i h => absurd h (Nat.not_lt_zero _)⟩ rfl fun ⟨j, hj, hl⟩ => ?_
  rcases Nat.lt_or_ge j ks.len with hlt | hge
  · obtain ⟨k', n', s', ks', hget⟩ := Dats.get_mk ks j
    have hcl : (Dat.mk k' n' s' ks').cells = [.int .i64 k', .int .i64 n', .str s', .slice ks'.len ks'.cells] := rfl
    have hsz := Dats.get_size ks j hlt
    have hokj := Dats.get_ok ks j hlt hok
    rw [hget] at hsz hokj
    have oks : ∀ b, formedD (ks.get j) = b → okO [(decide ((j : Int) < (ks.len : Int)), true), (true, true), (decide (0 ≤ (j : Int) ∧ (j : Int) < (ks.len : Int)), true), (decide (4 ≤ (ks.cells.drop ((j : Int).toNat * 4)).length), true), (same (.agg ((ks.cells.drop ((j : Int).toNat * 4)).take 4)) (.agg [.int .i64 k', .int .i64 n', .str s', .slice ks'.len ks'.cells]), true), (true, true), (isDat N [.int .i64 k', .int .i64 n', .str s', .slice ks'.len ks'.cells], true), (!ofCells formedD false [.int .i64 k', .int .i64 n', .str s', .slice ks'.len ks'.cells], !b), (!b, !b)] := fun b hb => by
      simp only [okO, List.forall_mem_cons, List.not_mem_nil, false_imp_iff, implies_true, and_true, true_and, Int.toNat_natCast, Dats.get_cells ks j hlt]
      refine ⟨by simpa using hlt, by simpa using hlt, ?_, same_of (by rw [hget]; rfl), isDat_at (d := .mk k' n' s' ks') (by omega) hokj, ?_⟩
      · simp only [List.length_drop, Dats.cells_len, decide_eq_true_eq]; omega
      · rw [← hcl, ofCells_at, ← hget, hb]
    cases hf : formedD (ks.get j) with
    | true =>
      refine SWP.runQ (SF ih [(19, [(9, true), (14, true), (15, true), (16, false)])] [(19, [(15, .agg [.int .i64 k', .int .i64 n', .str s', .slice ks'.len ks'.cells])])]) 60 19 hnt [0, 1, 7, 8] (e := .normal) (z := ⟨[(0, .slice ks.len ks.cells), (1, .func (.func 63) []), (7, .int .i64 ks.len), (8, .int .i64 (IntKind.i64.wrap ((j : Int) + 1)))], ⟨[], []⟩⟩)
        (by kernel_rfl) (oks true hf) (fun st hs => ⟨⟨j + 1, hlt, fun i hi => ?_⟩, Nat.sub_lt_sub_left hlt (Nat.lt_succ_self j), ?_⟩)
      · rcases Nat.lt_succ_iff_lt_or_eq.1 hi with h | h
        · exact hl i h
        · rw [h]; exact hf
      · rw [hs, wrap1 j (by omega)]
    | false =>
      refine SWP.runQ (SF ih [(19, [(9, true), (14, true), (15, true), (16, true)])] [(19, [(15, .agg [.int .i64 k', .int .i64 n', .str s', .slice ks'.len ks'.cells])])]) 60 19 hnt [4] (e := .ret) (z := ⟨[(4, .int .i64 j)], ⟨[], []⟩⟩)
        (by kernel_rfl) (oks false hf) (fun st hs => hfr st [4] ?_)
      rw [hs]
      exact FinR.pure (r := .int .i64 j) (by kernel_rfl) rfl (by rw [badIdx_at hlt hf hl])
  · refine SWP.runQ (SF ih [(19, [(9, false)])] []) 60 19 hnt [0] (e := .exit 0) (z := ⟨[(0, .slice ks.len ks.cells)], ⟨[], []⟩⟩) (o := [(decide ((j : Int) < (ks.len : Int)), false), (false, false)]) (by kernel_rfl) (by simp only [okO, List.forall_mem_cons, List.not_mem_nil, false_imp_iff, implies_true, and_true]; simp; omega) (fun st hs => hK st (.norm [0] ?_))
    rw [hs]
    refine SWP.runQ S0 50 19 hnt [4] (e := .ret) (z := ⟨[(4, .int .i64 (-1))], ⟨[], []⟩⟩) (o := []) (by kernel_rfl) okO_nil (fun st hs => hfr st [4] ?_)
    rw [hs]
    exact FinR.pure (r := .int .i64 (-1)) (by kernel_rfl) rfl (by rw [badIdx_none fun i hi => hl i (by omega)])
end Seat
end Go.Proofs.YteimebpgmfhgjaaDoor
/- datum.formed: the law. -/
namespace Go.Proofs.YteimebpgmfhgjaaDoor
open Go.AS
set_option linter.unusedVariables false
set_option linter.unusedSimpArgs false
set_option maxRecDepth 100000
namespace Seat
theorem formAt (N : Nat) : FormAt N := by
  induction N with
  | zero => intro d h; omega
  | succ N ih =>
    intro d hN hok
    have hI := idxAt ih
    obtain ⟨k, n, s, ks⟩ := d
    have hks : ks.size < N + 1 := by simp only [Dat.size] at hN; omega
    have run : ∀ (l : List (Nat × Bool)) (r : Bool) (o : Ob), call (SI hI [(48, l)]) 60 45 [.agg [.int .i64 k, .int .i64 n, .str s, .slice ks.len ks.cells]] = some (.bool r, o) → okO o → r = formedD (.mk k n s ks) → Pure G0 45 [.agg (Dat.mk k n s ks).cells] (fun r => r = .bool (formedD (.mk k n s ks))) := fun l r o h ho hr => by
      rw [← hr]
      exact Pure.runO 60 h ho
    have d3 := isDats_at (N := N + 1) hks hok.1 hok.2
    have b3 : decide (0 ≤ ofCellsL badIdx 0 ks.cells) = !formedL ks := by rw [ofCellsL_at, badIdx_formed]
    by_cases h1 : k = 1
    · by_cases h2 : s.size = 0
      · exact run [(6, true), (9, true)] ((ks.len : Int) == 0) [(k == 1, true), (s.toList == [], true)] (by kernel_rfl) (by simp [okO, beq0, h1, str_nil, h2]) (by simp [formedD, h1, h2, beq0])
      · exact run [(6, true), (9, false)] false [(k == 1, true), (s.toList == [], false)] (by kernel_rfl) (by simp [okO, beq0, h1, str_nil, h2]) (by simp [formedD, h1, h2])
    · by_cases h2 : k = 2
      · by_cases h3 : n = 0
        · by_cases h4 : ks.len = 0
          · exact run [(6, false), (17, true), (20, true), (25, true)] (symOk s) [(k == 1, false), (k == 2, true), (n == 0, true), ((ks.len : Int) == 0, true), (true, true)] (by kernel_rfl) (by simp [okO, beq0, h2, h3, h4]) (by simp [formedD, h2, h3, h4])
          · exact run [(6, false), (17, true), (20, true), (25, false)] false [(k == 1, false), (k == 2, true), (n == 0, true), ((ks.len : Int) == 0, false)] (by kernel_rfl) (by simp [okO, beq0, h2, h3, h4]) (by simp [formedD, h2, h3, h4])
        · exact run [(6, false), (17, true), (20, false)] false [(k == 1, false), (k == 2, true), (n == 0, false)] (by kernel_rfl) (by simp [okO, beq0, h2, h3]) (by simp [formedD, h2, h3])
      · by_cases h3 : k = 3
        · by_cases h4 : n = 0
          · by_cases h5 : s.size = 0
            · exact run [(6, false), (17, false), (33, true), (36, true), (40, true)] (!decide (0 ≤ ofCellsL badIdx 0 ks.cells)) [(k == 1, false), (k == 2, false), (k == 3, true), (n == 0, true), (s.toList == [], true), (true, true), (isDats (N + 1) ks.len ks.cells, true)] (by kernel_rfl) (by simp [okO, beq0, h3, h4, h5, str_nil, d3]) (by rw [b3]; simp [formedD, h3, h4, h5])
            · exact run [(6, false), (17, false), (33, true), (36, true), (40, false)] false [(k == 1, false), (k == 2, false), (k == 3, true), (n == 0, true), (s.toList == [], false)] (by kernel_rfl) (by simp [okO, beq0, h3, h4, h5, str_nil]) (by simp [formedD, h3, h4, h5])
          · exact run [(6, false), (17, false), (33, true), (36, false)] false [(k == 1, false), (k == 2, false), (k == 3, true), (n == 0, false)] (by kernel_rfl) (by simp [okO, beq0, h3, h4]) (by simp [formedD, h3, h4])
        · exact run [(6, false), (17, false), (33, false)] false [(k == 1, false), (k == 2, false), (k == 3, false)] (by kernel_rfl) (by simp [okO, beq0, h1, h2, h3]) (by simp [formedD, h1, h2, h3])
theorem dformed_ok (d : Dat) (hok : d.ok) : Pure G0 45 [.agg d.cells] (fun r => r = .bool (formedD d)) := formAt (d.size + 1) d (Nat.lt_succ_self _) hok
end Seat
end Go.Proofs.YteimebpgmfhgjaaDoor
/- datum.Check; pagodaref01.Cut: the laws. -/
namespace Go.Proofs.YteimebpgmfhgjaaDoor
open Go.AS
set_option linter.unusedVariables false
set_option linter.unusedSimpArgs false
set_option maxRecDepth 100000
namespace Seat
/-- What Check tells. -/
def chkD (d : Dat) : Int := if formedD d = false then 4 else if 100000 < w64 (parts d) then 3 else if 1000 < (deepN d : Int) then 3 else 0
noncomputable def chkS (f : Nat) (args : List PV) : Option (PV × Ob) := match f, args with
  | 45, [.agg cs] => some (.bool (ofCells formedD false cs), [(isGood cs, true)])
  | 46, [.agg cs] => some (.int .i64 (ofCells (fun d => w64 (parts d)) 0 cs), [(isGood cs, true)])
  | 47, [.agg cs] => some (.int .i64 (ofCells (fun d => (deepN d : Int)) 0 cs), [(isGood cs, true)])
  | _, _ => none
theorem chkS_ok (f : Nat) (args : List PV) (r : PV) (o : Ob) (h : chkS f args = some (r, o)) (ho : ∀ p ∈ o, p.1 = p.2) (_ : pureL args = true) : Pure G0 f args (fun x => x = r) := by
  unfold chkS at h
  split at h
  · cases h
    obtain ⟨d, rfl, h1⟩ := isGood_of (ho _ (List.mem_singleton.2 rfl))
    rw [ofCells_at]; exact dformed_ok d h1.1
  · cases h
    obtain ⟨d, rfl, h1⟩ := isGood_of (ho _ (List.mem_singleton.2 rfl))
    rw [ofCells_at]; exact dparts_ok d h1
  · cases h
    obtain ⟨d, rfl, h1⟩ := isGood_of (ho _ (List.mem_singleton.2 rfl))
    rw [ofCells_at]; exact ddeep_ok d h1
  · cases h
noncomputable def SK (l : List (Nat × List (Nat × Bool))) : Cfg G0 := { F := F, hF := hF, S := chkS, hS := chkS_ok, orc := orcM l }
theorem dcheck_ok (d : Dat) (hd : Good d) : Pure G0 24 [.agg d.cells] (fun r => r = .int .i64 (chkD d)) := by
  obtain ⟨k, n, s, ks⟩ := d
  have hg : isGood [.int .i64 k, .int .i64 n, .str s, .slice ks.len ks.cells] = true := isGood_at hd
  have e1 : ∀ {α : Type} (f : Dat → α) (z : α), ofCells f z [.int .i64 k, .int .i64 n, .str s, .slice ks.len ks.cells] = f (.mk k n s ks) := fun f z => ofCells_at f z (.mk k n s ks)
  by_cases h1 : formedD (.mk k n s ks) = false
  · have : chkD (.mk k n s ks) = 4 := by simp [chkD, h1]
    rw [this]
    exact Pure.runO (S := SK [(16, [(5, false)])]) 60 (o := [(true, true), (isGood [.int .i64 k, .int .i64 n, .str s, .slice ks.len ks.cells], true), (ofCells formedD false [.int .i64 k, .int .i64 n, .str s, .slice ks.len ks.cells], false)]) (by kernel_rfl) (by simp [okO, hg, e1, h1])
  · simp only [Bool.not_eq_false] at h1
    by_cases h2 : 100000 < w64 (parts (.mk k n s ks))
    · have : chkD (.mk k n s ks) = 3 := by simp [chkD, h1, h2]
      rw [this]
      exact Pure.runO (S := SK [(16, [(5, true), (10, true)])]) 60 (o := [(true, true), (isGood [.int .i64 k, .int .i64 n, .str s, .slice ks.len ks.cells], true), (ofCells formedD false [.int .i64 k, .int .i64 n, .str s, .slice ks.len ks.cells], true), (true, true), (isGood [.int .i64 k, .int .i64 n, .str s, .slice ks.len ks.cells], true), (decide ((100000 : Int) < ofCells (fun d => w64 (parts d)) 0 [.int .i64 k, .int .i64 n, .str s, .slice ks.len ks.cells]), true)]) (by kernel_rfl) (by simp [okO, hg, e1, h1, h2])
    · have h2' : w64 (parts (.mk k n s ks)) ≤ 100000 := by omega
      by_cases h3 : 1000 < (deepN (.mk k n s ks) : Int)
      · have : chkD (.mk k n s ks) = 3 := by simp only [chkD, h1, h2, h3, if_true, if_false]; rfl
        rw [this]
        exact Pure.runO (S := SK [(16, [(5, true), (10, false), (14, true)])]) 60 (o := [(true, true), (isGood [.int .i64 k, .int .i64 n, .str s, .slice ks.len ks.cells], true), (ofCells formedD false [.int .i64 k, .int .i64 n, .str s, .slice ks.len ks.cells], true), (true, true), (isGood [.int .i64 k, .int .i64 n, .str s, .slice ks.len ks.cells], true), (decide ((100000 : Int) < ofCells (fun d => w64 (parts d)) 0 [.int .i64 k, .int .i64 n, .str s, .slice ks.len ks.cells]), false), (true, true), (isGood [.int .i64 k, .int .i64 n, .str s, .slice ks.len ks.cells], true), (decide ((1000 : Int) < ofCells (fun d => (deepN d : Int)) 0 [.int .i64 k, .int .i64 n, .str s, .slice ks.len ks.cells]), true)]) (by kernel_rfl) (by simp only [okO, List.forall_mem_cons, List.not_mem_nil, false_imp_iff, implies_true, and_true, hg, e1, h1, true_and, decide_eq_true_eq, decide_eq_false_iff_not]; exact ⟨h2, h3⟩)
      · have : chkD (.mk k n s ks) = 0 := by simp only [chkD, h1, h2, h3, if_true, if_false]; rfl
        rw [this]
        exact Pure.runO (S := SK [(16, [(5, true), (10, false), (14, false)])]) 60 (o := [(true, true), (isGood [.int .i64 k, .int .i64 n, .str s, .slice ks.len ks.cells], true), (ofCells formedD false [.int .i64 k, .int .i64 n, .str s, .slice ks.len ks.cells], true), (true, true), (isGood [.int .i64 k, .int .i64 n, .str s, .slice ks.len ks.cells], true), (decide ((100000 : Int) < ofCells (fun d => w64 (parts d)) 0 [.int .i64 k, .int .i64 n, .str s, .slice ks.len ks.cells]), false), (true, true), (isGood [.int .i64 k, .int .i64 n, .str s, .slice ks.len ks.cells], true), (decide ((1000 : Int) < ofCells (fun d => (deepN d : Int)) 0 [.int .i64 k, .int .i64 n, .str s, .slice ks.len ks.cells]), false)]) (by kernel_rfl) (by simp only [okO, List.forall_mem_cons, List.not_mem_nil, false_imp_iff, implies_true, and_true, hg, e1, h1, true_and, decide_eq_true_eq, decide_eq_false_iff_not]; exact ⟨h2, h3⟩)
theorem cut_ok (d : Dat) (hd : d.ok) (p dp : Int) (h : 1 ≤ dp ∧ dp ≤ 4611686018427387904 ∧ 1 ≤ p ∧ p ≤ 1000000) : Pure G0 23 [.agg d.cells, .int .i64 p, .int .i64 dp] (fun r => r = .agg (cutD d dp p).1.cells) := by
  obtain ⟨k, n, s, ks⟩ := d
  obtain ⟨k2, n2, s2, ks2, e⟩ := Dat.is_mk (cutD (.mk k n s ks) dp p).1
  have e1 : ofCells (fun d => (cutD d dp p).1.cells) [] [.int .i64 k, .int .i64 n, .str s, .slice ks.len ks.cells] = (cutD (.mk k n s ks) dp p).1.cells := ofCells_at _ _ (.mk k n s ks)
  rw [e]
  exact Pure.runO (S := { SC (cutAt ((Dat.mk k n s ks).size + 1)) [] [(15, [(14, .agg [.int .i64 k2, .int .i64 n2, .str s2, .slice ks2.len ks2.cells])])] with D := fun _ => false }) 60
    (o := [(isDat ((Dat.mk k n s ks).size + 1) [.int .i64 k, .int .i64 n, .str s, .slice ks.len ks.cells], true), (decide (1 ≤ dp ∧ dp ≤ 4611686018427387904 ∧ 1 ≤ p ∧ p ≤ 1000000), true), (same (.agg (ofCells (fun d => (cutD d dp p).1.cells) [] [.int .i64 k, .int .i64 n, .str s, .slice ks.len ks.cells])) (.agg [.int .i64 k2, .int .i64 n2, .str s2, .slice ks2.len ks2.cells]), true)]) (by kernel_rfl) (fun q hq => by
      simp only [List.mem_cons, List.not_mem_nil, or_false] at hq
      rcases hq with rfl | rfl | rfl
      · exact isDat_at (d := .mk k n s ks) (Nat.lt_succ_self _) hd
      · exact decide_eq_true h
      · exact same_of (by rw [e1, e]; rfl))
mutual
theorem cutD_ok : ∀ (d : Dat) (dp p : Int), d.ok → (cutD d dp p).1.ok
  | .mk k n s ks, dp, p, h => by
    have h1 := cutL_ok ks dp (p - 1) h.2
    have h2 := cutL_len ks dp (p - 1)
    simp only [cutD, Dat.ok]
    exact ⟨by have := h.1; omega, h1⟩
theorem cutL_ok : ∀ (ks : Dats) (dp p : Int), ks.ok → (cutL ks dp p).1.ok
  | .nil, dp, p, h => by simp only [cutL, Dats.ok]
  | .cons d ds, dp, p, h => by
    simp only [cutL]
    split
    · exact ⟨cutD_ok d (dp - 1) p h.1, cutL_ok ds dp _ h.2⟩
    · trivial
theorem cutL_len : ∀ (ks : Dats) (dp p : Int), (cutL ks dp p).1.len ≤ ks.len
  | .nil, dp, p => by simp only [cutL, Dats.len]; omega
  | .cons d ds, dp, p => by
    have := cutL_len ds dp (cutD d (dp - 1) p).2
    simp only [cutL]
    split
    · simp only [Dats.len]; omega
    · simp only [Dats.len]; omega
end
theorem cut_good (d : Dat) (hd : d.ok) (p dp : Int) (h : 1 ≤ dp ∧ dp ≤ 17592186044415) : Good (cutD d dp p).1 := ⟨cutD_ok d dp p hd, by have := cutD_deep d dp p h.1; omega⟩
end Seat
end Go.Proofs.YteimebpgmfhgjaaDoor
