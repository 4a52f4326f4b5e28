/- Texts of this session, packed: DatC, Base1, Ord0, List0, List1, Shelf, Small0, TextP, ChkA, ChkB, CopyD, KindsP, Do0, Do1, Eng4, DoC. -/
import Derived.Test.YteimebpgmfhgjaaDoorPd4
/- Symbols: datum.IsSymbol, pagodaref01.Symbol. Printed by dev/sym1.py (this session's). -/
namespace Go.Proofs.YteimebpgmfhgjaaDoor
open Go.AS
set_option linter.unusedVariables false
set_option linter.unusedSimpArgs false
set_option maxRecDepth 100000
namespace Seat
noncomputable def symS (f : Nat) (args : List PV) : Option (PV × Ob) := match f, args with
  | 71, [.int .u8 c] => some (.bool (digC c), [(decide (0 ≤ c ∧ c < 256), true)])
  | 72, [.int .u8 c] => some (.bool (letC c), [(decide (0 ≤ c ∧ c < 256), true)])
  | 69, [.int .u8 c] => some (.bool (digC c), [(decide (0 ≤ c ∧ c < 256), true)])
  | 70, [.int .u8 c] => some (.bool (letC c), [(decide (0 ≤ c ∧ c < 256), true)])
  | _, _ => none
theorem symS_ok (f : Nat) (args : List PV) (r : PV) (o : Ob) (h : symS f args = some (r, o)) (ho : ∀ p ∈ o, p.1 = p.2) (_ : pureL args = true) : Pure G0 f args (fun x => x = r) := by
  unfold symS at h
  split at h
  · cases h; exact isDigit_ok _ (of_decide_eq_true (ho _ (List.mem_singleton.2 rfl)))
  · cases h; exact isAtom_ok _ (of_decide_eq_true (ho _ (List.mem_singleton.2 rfl)))
  · cases h; exact digit_ok _ (of_decide_eq_true (ho _ (List.mem_singleton.2 rfl)))
  · cases h; exact letter_ok _ (of_decide_eq_true (ho _ (List.mem_singleton.2 rfl)))
  · cases h
noncomputable def SY (l : List (Nat × Bool)) : Cfg G0 := { F := F, hF := hF, S := symS, hS := symS_ok, orc := orcL 43 l }
def symBad (s : ByteArray) : Bool := decide (s.size = 0) || decide (40 < s.size) || digC (bt s 0) || (bt s 0 == 45 && decide (1 < s.size) && digC (bt s 1))
def symOk (s : ByteArray) : Bool := !symBad s && (List.range s.size).all fun i => letC (bt s i)
theorem symOk_bad {s : ByteArray} (h : symBad s = true) : symOk s = false := by simp [symOk, h]
theorem symOk_let {s : ByteArray} {i : Nat} (hi : i < s.size) (h : letC (bt s i) = false) : symOk s = false := by
  unfold symOk
  have : ((List.range s.size).all fun i => letC (bt s i)) = false := by
    rw [List.all_eq_false]
    exact ⟨i, List.mem_range.2 hi, by simp [h]⟩
  rw [this, Bool.and_false]
theorem symOk_all {s : ByteArray} (h : symBad s = false) (hl : ∀ i, i < s.size → letC (bt s i) = true) : symOk s = true := by
  unfold symOk
  rw [h, Bool.not_false, Bool.true_and, List.all_eq_true]
  exact fun i hi => hl i (List.mem_range.1 hi)
theorem symBad_size {s : ByteArray} (h : symBad s = false) : s.size ≤ 40 := by
  simp [symBad] at h
  omega
theorem dig45 : digC 45 = false := by decide
theorem isSymbol_ok (s : ByteArray) : Pure G0 61 [.str s] (fun r => r = .bool (symOk s)) := by
  refine Fn.enterN Tryd.func61 Tryd.ntmps61 rfl (Nat.le_of_ble_eq_true rfl) fun C fr fp hnt hp hfr hfp => ?_
  refine Q.runSeq S0 50 43 hnt [0] (z := ⟨[(0, .str s)], ⟨[], []⟩⟩) (o := []) (by kernel_rfl) okO_nil ?_
  refine Q.seq fun K hK => ?_
  refine Q.seq fun K1 hK1 => ?_
  have next : ∀ st, nrm [0, 31] st = ⟨[(0, .str s), (31, .bool (symBad s))], ⟨[], []⟩⟩ → K1 st := fun st hst => by
    refine hK1 st (.norm [0, 31] ?_)
    rw [hst]
    refine Q.cond rfl (fun hb => ?_) (fun hb => ?_)
    · refine SWP.runQ S0 50 43 hnt [2] (e := .ret) (z := ⟨[(2, .bool false)], ⟨[], []⟩⟩) (o := []) (by kernel_rfl) okO_nil (fun st hs => hfr st [2] ?_)
      rw [hs]
      exact FinR.pure (r := .bool false) (by kernel_rfl) rfl (by rw [symOk_bad hb])
    · refine Q.skip (hK _ (.norm [0] ?_))
      have hsz := symBad_size hb
      refine Q.seq fun K3 hK3 => ?_
      refine Q.runSeq S0 50 43 hnt [0, 33, 34] (z := ⟨[(0, .str s), (33, .int .i64 s.size), (34, .int .i64 0)], ⟨[], []⟩⟩) (o := []) (by kernel_rfl) okO_nil ?_
      refine Q.block ?_
      refine Q.loopI (σ := { j : Nat // j ≤ s.size ∧ ∀ i, i < j → letC (bt s i) = true }) [0, 33, 34] (fun j => ⟨[(0, .str s), (33, .int .i64 s.size), (34, .int .i64 j.1)], ⟨[], []⟩⟩) (fun j => s.size - j.1) ⟨0, Nat.zero_le _, fun i h => absurd h (Nat.not_lt_zero _)⟩ rfl fun ⟨j, hj, hl⟩ => ?_
      have bj := bt_in s j
      rcases Nat.lt_or_ge j s.size with hlt | hge
      · by_cases hc : letC (bt s j) = true
        · refine SWP.runQ (SY [(35, true), (39, true), (40, true)]) 60 43 hnt [0, 33, 34] (e := .normal) (z := ⟨[(0, .str s), (33, .int .i64 s.size), (34, .int .i64 (IntKind.i64.wrap ((j : Int) + 1)))], ⟨[], []⟩⟩) (o := [(decide ((j : Int) < (s.size : Int)), true), (true, true), (decide (0 ≤ (j : Int) ∧ (j : Int) < (s.size : Int)), true), (true, true), (decide (0 ≤ bt s j ∧ bt s j < 256), true), (letC (bt s j), true)]) (by kernel_rfl) (by simp only [okO, List.forall_mem_cons, List.not_mem_nil, false_imp_iff, implies_true, and_true]; simp [hc, bj]; omega) (fun st hs => ⟨⟨j + 1, hlt, fun i hi => ?_⟩, Nat.sub_lt_sub_left hlt (Nat.lt_succ_self j), ?_⟩)
          · rcases Nat.lt_succ_iff_lt_or_eq.1 hi with h | h
            · exact hl i h
            · rw [h]; exact hc
          · rw [hs, wrap1 j (by omega)]
        · simp only [Bool.not_eq_true] at hc
          refine SWP.runQ (SY [(35, true), (39, true), (40, false)]) 60 43 hnt [2] (e := .ret) (z := ⟨[(2, .bool false)], ⟨[], []⟩⟩) (o := [(decide ((j : Int) < (s.size : Int)), true), (true, true), (decide (0 ≤ (j : Int) ∧ (j : Int) < (s.size : Int)), true), (true, true), (decide (0 ≤ bt s j ∧ bt s j < 256), true), (letC (bt s j), false)]) (by kernel_rfl) (by simp only [okO, List.forall_mem_cons, List.not_mem_nil, false_imp_iff, implies_true, and_true]; simp [hc, bj]; omega) (fun st hs => hfr st [2] ?_)
          rw [hs]
          exact FinR.pure (r := .bool false) (by kernel_rfl) rfl (by rw [symOk_let hlt hc])
      · refine SWP.runQ (SY [(35, false)]) 60 43 hnt [0] (e := .exit 0) (z := ⟨[(0, .str s)], ⟨[], []⟩⟩) (o := [(decide ((j : Int) < (s.size : Int)), false), (false, false)]) (by kernel_rfl) (by simp only [okO, List.forall_mem_cons, List.not_mem_nil, false_imp_iff, implies_true, and_true]; simp; omega) (fun st hs => hK3 st (.norm [0] ?_))
        rw [hs]
        refine SWP.runQ S0 50 43 hnt [2] (e := .ret) (z := ⟨[(2, .bool true)], ⟨[], []⟩⟩) (o := []) (by kernel_rfl) okO_nil (fun st hs => hfr st [2] ?_)
        rw [hs]
        exact FinR.pure (r := .bool true) (by kernel_rfl) rfl (by rw [symOk_all hb fun i hi => hl i (by omega)])
  have b0 := bt_in s 0; have b1 := bt_in s 1
  by_cases h0 : s.size = 0
  · refine SWP.runQ (SY [(6, true)]) 60 43 hnt [0, 31] (e := .normal) (z := ⟨[(0, .str s), (31, .bool true)], ⟨[], []⟩⟩) (o := [((s.size : Int) == 0, true)]) (by kernel_rfl) ?_ (fun st hs => next st (by rw [hs]; simp [symBad, dig45, h0]))
    simp only [okO, List.forall_mem_cons, List.not_mem_nil, false_imp_iff, implies_true, and_true]; simp [dig45, h0]; try omega
  · by_cases h1 : 40 < s.size
    · refine SWP.runQ (SY [(6, false), (10, true)]) 60 43 hnt [0, 31] (e := .normal) (z := ⟨[(0, .str s), (31, .bool true)], ⟨[], []⟩⟩) (o := [((s.size : Int) == 0, false), (decide ((40 : Int) < (s.size : Int)), true)]) (by kernel_rfl) ?_ (fun st hs => next st (by rw [hs]; simp [symBad, dig45, h0, h1]))
      simp only [okO, List.forall_mem_cons, List.not_mem_nil, false_imp_iff, implies_true, and_true]; simp [dig45, h0, h1]; try omega
    · by_cases h2 : digC (bt s 0) = true
      · refine SWP.runQ (SY [(6, false), (10, false), (14, true), (15, true)]) 60 43 hnt [0, 31] (e := .normal) (z := ⟨[(0, .str s), (31, .bool true)], ⟨[], []⟩⟩) (o := [((s.size : Int) == 0, false), (decide ((40 : Int) < (s.size : Int)), false), (decide ((0 : Int) ≤ 0 ∧ (0 : Int) < (s.size : Int)), true), (true, true), (decide (0 ≤ bt s 0 ∧ bt s 0 < 256), true), (digC (bt s 0), true)]) (by kernel_rfl) ?_ (fun st hs => next st (by rw [hs]; simp [symBad, dig45, h0, h1, h2]))
        simp only [okO, List.forall_mem_cons, List.not_mem_nil, false_imp_iff, implies_true, and_true]; simp [dig45, h0, h1, h2]; try omega
      · simp only [Bool.not_eq_true] at h2
        by_cases h3 : bt s 0 = 45
        · by_cases h4 : 1 < s.size
          · by_cases h5 : digC (bt s 1) = true
            · refine SWP.runQ (SY [(6, false), (10, false), (14, true), (15, false), (19, true), (20, true), (24, true), (28, true), (29, true)]) 60 43 hnt [0, 31] (e := .normal) (z := ⟨[(0, .str s), (31, .bool true)], ⟨[], []⟩⟩) (o := [((s.size : Int) == 0, false), (decide ((40 : Int) < (s.size : Int)), false), (decide ((0 : Int) ≤ 0 ∧ (0 : Int) < (s.size : Int)), true), (true, true), (decide (0 ≤ bt s 0 ∧ bt s 0 < 256), true), (digC (bt s 0), false), (decide ((0 : Int) ≤ 0 ∧ (0 : Int) < (s.size : Int)), true), (bt s 0 == 45, true), (decide ((1 : Int) < (s.size : Int)), true), (decide ((0 : Int) ≤ 1 ∧ (1 : Int) < (s.size : Int)), true), (true, true), (decide (0 ≤ bt s 1 ∧ bt s 1 < 256), true), (digC (bt s 1), true)]) (by kernel_rfl) ?_ (fun st hs => next st (by rw [hs]; simp [symBad, dig45, h0, h1, h2, h3, h4, h5]))
              simp only [okO, List.forall_mem_cons, List.not_mem_nil, false_imp_iff, implies_true, and_true]; simp [dig45, h0, h1, h2, h3, h4, h5]; try omega
            · simp only [Bool.not_eq_true] at h5
              refine SWP.runQ (SY [(6, false), (10, false), (14, true), (15, false), (19, true), (20, true), (24, true), (28, true), (29, false)]) 60 43 hnt [0, 31] (e := .normal) (z := ⟨[(0, .str s), (31, .bool false)], ⟨[], []⟩⟩) (o := [((s.size : Int) == 0, false), (decide ((40 : Int) < (s.size : Int)), false), (decide ((0 : Int) ≤ 0 ∧ (0 : Int) < (s.size : Int)), true), (true, true), (decide (0 ≤ bt s 0 ∧ bt s 0 < 256), true), (digC (bt s 0), false), (decide ((0 : Int) ≤ 0 ∧ (0 : Int) < (s.size : Int)), true), (bt s 0 == 45, true), (decide ((1 : Int) < (s.size : Int)), true), (decide ((0 : Int) ≤ 1 ∧ (1 : Int) < (s.size : Int)), true), (true, true), (decide (0 ≤ bt s 1 ∧ bt s 1 < 256), true), (digC (bt s 1), false)]) (by kernel_rfl) ?_ (fun st hs => next st (by rw [hs]; simp [symBad, dig45, h0, h1, h2, h3, h4, h5]))
              simp only [okO, List.forall_mem_cons, List.not_mem_nil, false_imp_iff, implies_true, and_true]; simp [dig45, h0, h1, h2, h3, h4, h5]; try omega
          · refine SWP.runQ (SY [(6, false), (10, false), (14, true), (15, false), (19, true), (20, true), (24, false)]) 60 43 hnt [0, 31] (e := .normal) (z := ⟨[(0, .str s), (31, .bool false)], ⟨[], []⟩⟩) (o := [((s.size : Int) == 0, false), (decide ((40 : Int) < (s.size : Int)), false), (decide ((0 : Int) ≤ 0 ∧ (0 : Int) < (s.size : Int)), true), (true, true), (decide (0 ≤ bt s 0 ∧ bt s 0 < 256), true), (digC (bt s 0), false), (decide ((0 : Int) ≤ 0 ∧ (0 : Int) < (s.size : Int)), true), (bt s 0 == 45, true), (decide ((1 : Int) < (s.size : Int)), false)]) (by kernel_rfl) ?_ (fun st hs => next st (by rw [hs]; simp [symBad, dig45, h0, h1, h2, h3, h4]))
            simp only [okO, List.forall_mem_cons, List.not_mem_nil, false_imp_iff, implies_true, and_true]; simp [dig45, h0, h1, h2, h3, h4]; try omega
        · refine SWP.runQ (SY [(6, false), (10, false), (14, true), (15, false), (19, true), (20, false)]) 60 43 hnt [0, 31] (e := .normal) (z := ⟨[(0, .str s), (31, .bool false)], ⟨[], []⟩⟩) (o := [((s.size : Int) == 0, false), (decide ((40 : Int) < (s.size : Int)), false), (decide ((0 : Int) ≤ 0 ∧ (0 : Int) < (s.size : Int)), true), (true, true), (decide (0 ≤ bt s 0 ∧ bt s 0 < 256), true), (digC (bt s 0), false), (decide ((0 : Int) ≤ 0 ∧ (0 : Int) < (s.size : Int)), true), (bt s 0 == 45, false)]) (by kernel_rfl) ?_ (fun st hs => next st (by rw [hs]; simp [symBad, dig45, h0, h1, h2, h3]))
          simp only [okO, List.forall_mem_cons, List.not_mem_nil, false_imp_iff, implies_true, and_true]; simp [dig45, h0, h1, h2, h3]; try omega
theorem symbol_ok (s : ByteArray) : Pure G0 60 [.str s] (fun r => r = .bool (symOk s)) := by
  refine Fn.enterN Tryd.func60 Tryd.ntmps60 rfl (Nat.le_of_ble_eq_true rfl) fun C fr fp hnt hp hfr hfp => ?_
  refine Q.runSeq S0 50 43 hnt [0] (z := ⟨[(0, .str s)], ⟨[], []⟩⟩) (o := []) (by kernel_rfl) okO_nil ?_
  refine Q.seq fun K hK => ?_
  refine Q.seq fun K1 hK1 => ?_
  have next : ∀ st, nrm [0, 31] st = ⟨[(0, .str s), (31, .bool (symBad s))], ⟨[], []⟩⟩ → K1 st := fun st hst => by
    refine hK1 st (.norm [0, 31] ?_)
    rw [hst]
    refine Q.cond rfl (fun hb => ?_) (fun hb => ?_)
    · refine SWP.runQ S0 50 43 hnt [2] (e := .ret) (z := ⟨[(2, .bool false)], ⟨[], []⟩⟩) (o := []) (by kernel_rfl) okO_nil (fun st hs => hfr st [2] ?_)
      rw [hs]
      exact FinR.pure (r := .bool false) (by kernel_rfl) rfl (by rw [symOk_bad hb])
    · refine Q.skip (hK _ (.norm [0] ?_))
      have hsz := symBad_size hb
      refine Q.seq fun K3 hK3 => ?_
      refine Q.runSeq S0 50 43 hnt [0, 3] (z := ⟨[(0, .str s), (3, .int .i64 0)], ⟨[], []⟩⟩) (o := []) (by kernel_rfl) okO_nil ?_
      refine Q.block ?_
      refine Q.loopI (σ := { j : Nat // j ≤ s.size ∧ ∀ i, i < j → letC (bt s i) = true }) [0, 3] (fun j => ⟨[(0, .str s), (3, .int .i64 j.1)], ⟨[], []⟩⟩) (fun j => s.size - j.1) ⟨0, Nat.zero_le _, fun i h => absurd h (Nat.not_lt_zero _)⟩ rfl fun ⟨j, hj, hl⟩ => ?_
      have bj := bt_in s j
      rcases Nat.lt_or_ge j s.size with hlt | hge
      · by_cases hc : letC (bt s j) = true
        · refine SWP.runQ (SY [(35, true), (40, true), (41, true)]) 60 43 hnt [0, 3] (e := .normal) (z := ⟨[(0, .str s), (3, .int .i64 (IntKind.i64.wrap ((j : Int) + 1)))], ⟨[], []⟩⟩) (o := [(decide ((j : Int) < (s.size : Int)), true), (true, true), (decide (0 ≤ (j : Int) ∧ (j : Int) < (s.size : Int)), true), (true, true), (decide (0 ≤ bt s j ∧ bt s j < 256), true), (letC (bt s j), true)]) (by kernel_rfl) (by simp only [okO, List.forall_mem_cons, List.not_mem_nil, false_imp_iff, implies_true, and_true]; simp [hc, bj]; omega) (fun st hs => ⟨⟨j + 1, hlt, fun i hi => ?_⟩, Nat.sub_lt_sub_left hlt (Nat.lt_succ_self j), ?_⟩)
          · rcases Nat.lt_succ_iff_lt_or_eq.1 hi with h | h
            · exact hl i h
            · rw [h]; exact hc
          · rw [hs, wrap1 j (by omega)]
        · simp only [Bool.not_eq_true] at hc
          refine SWP.runQ (SY [(35, true), (40, true), (41, false)]) 60 43 hnt [2] (e := .ret) (z := ⟨[(2, .bool false)], ⟨[], []⟩⟩) (o := [(decide ((j : Int) < (s.size : Int)), true), (true, true), (decide (0 ≤ (j : Int) ∧ (j : Int) < (s.size : Int)), true), (true, true), (decide (0 ≤ bt s j ∧ bt s j < 256), true), (letC (bt s j), false)]) (by kernel_rfl) (by simp only [okO, List.forall_mem_cons, List.not_mem_nil, false_imp_iff, implies_true, and_true]; simp [hc, bj]; omega) (fun st hs => hfr st [2] ?_)
          rw [hs]
          exact FinR.pure (r := .bool false) (by kernel_rfl) rfl (by rw [symOk_let hlt hc])
      · refine SWP.runQ (SY [(35, false)]) 60 43 hnt [0] (e := .exit 0) (z := ⟨[(0, .str s)], ⟨[], []⟩⟩) (o := [(decide ((j : Int) < (s.size : Int)), false), (false, false)]) (by kernel_rfl) (by simp only [okO, List.forall_mem_cons, List.not_mem_nil, false_imp_iff, implies_true, and_true]; simp; omega) (fun st hs => hK3 st (.norm [0] ?_))
        rw [hs]
        refine SWP.runQ S0 50 43 hnt [2] (e := .ret) (z := ⟨[(2, .bool true)], ⟨[], []⟩⟩) (o := []) (by kernel_rfl) okO_nil (fun st hs => hfr st [2] ?_)
        rw [hs]
        exact FinR.pure (r := .bool true) (by kernel_rfl) rfl (by rw [symOk_all hb fun i hi => hl i (by omega)])
  have b0 := bt_in s 0; have b1 := bt_in s 1
  by_cases h0 : s.size = 0
  · refine SWP.runQ (SY [(6, true)]) 60 43 hnt [0, 31] (e := .normal) (z := ⟨[(0, .str s), (31, .bool true)], ⟨[], []⟩⟩) (o := [(decide ((s.size : Int) < 1), true)]) (by kernel_rfl) ?_ (fun st hs => next st (by rw [hs]; simp [symBad, dig45, h0]))
    simp only [okO, List.forall_mem_cons, List.not_mem_nil, false_imp_iff, implies_true, and_true]; simp [dig45, h0]; try omega
  · by_cases h1 : 40 < s.size
    · refine SWP.runQ (SY [(6, false), (10, true)]) 60 43 hnt [0, 31] (e := .normal) (z := ⟨[(0, .str s), (31, .bool true)], ⟨[], []⟩⟩) (o := [(decide ((s.size : Int) < 1), false), (decide ((40 : Int) < (s.size : Int)), true)]) (by kernel_rfl) ?_ (fun st hs => next st (by rw [hs]; simp [symBad, dig45, h0, h1]))
      simp only [okO, List.forall_mem_cons, List.not_mem_nil, false_imp_iff, implies_true, and_true]; simp [dig45, h0, h1]; try omega
    · by_cases h2 : digC (bt s 0) = true
      · refine SWP.runQ (SY [(6, false), (10, false), (14, true), (15, true)]) 60 43 hnt [0, 31] (e := .normal) (z := ⟨[(0, .str s), (31, .bool true)], ⟨[], []⟩⟩) (o := [(decide ((s.size : Int) < 1), false), (decide ((40 : Int) < (s.size : Int)), false), (decide ((0 : Int) ≤ 0 ∧ (0 : Int) < (s.size : Int)), true), (true, true), (decide (0 ≤ bt s 0 ∧ bt s 0 < 256), true), (digC (bt s 0), true)]) (by kernel_rfl) ?_ (fun st hs => next st (by rw [hs]; simp [symBad, dig45, h0, h1, h2]))
        simp only [okO, List.forall_mem_cons, List.not_mem_nil, false_imp_iff, implies_true, and_true]; simp [dig45, h0, h1, h2]; try omega
      · simp only [Bool.not_eq_true] at h2
        by_cases h3 : bt s 0 = 45
        · by_cases h4 : 1 < s.size
          · by_cases h5 : digC (bt s 1) = true
            · refine SWP.runQ (SY [(6, false), (10, false), (14, true), (15, false), (19, true), (20, true), (24, true), (28, true), (29, true)]) 60 43 hnt [0, 31] (e := .normal) (z := ⟨[(0, .str s), (31, .bool true)], ⟨[], []⟩⟩) (o := [(decide ((s.size : Int) < 1), false), (decide ((40 : Int) < (s.size : Int)), false), (decide ((0 : Int) ≤ 0 ∧ (0 : Int) < (s.size : Int)), true), (true, true), (decide (0 ≤ bt s 0 ∧ bt s 0 < 256), true), (digC (bt s 0), false), (decide ((0 : Int) ≤ 0 ∧ (0 : Int) < (s.size : Int)), true), (bt s 0 == 45, true), (decide ((1 : Int) < (s.size : Int)), true), (decide ((0 : Int) ≤ 1 ∧ (1 : Int) < (s.size : Int)), true), (true, true), (decide (0 ≤ bt s 1 ∧ bt s 1 < 256), true), (digC (bt s 1), true)]) (by kernel_rfl) ?_ (fun st hs => next st (by rw [hs]; simp [symBad, dig45, h0, h1, h2, h3, h4, h5]))
              simp only [okO, List.forall_mem_cons, List.not_mem_nil, false_imp_iff, implies_true, and_true]; simp [dig45, h0, h1, h2, h3, h4, h5]; try omega
            · simp only [Bool.not_eq_true] at h5
              refine SWP.runQ (SY [(6, false), (10, false), (14, true), (15, false), (19, true), (20, true), (24, true), (28, true), (29, false)]) 60 43 hnt [0, 31] (e := .normal) (z := ⟨[(0, .str s), (31, .bool false)], ⟨[], []⟩⟩) (o := [(decide ((s.size : Int) < 1), false), (decide ((40 : Int) < (s.size : Int)), false), (decide ((0 : Int) ≤ 0 ∧ (0 : Int) < (s.size : Int)), true), (true, true), (decide (0 ≤ bt s 0 ∧ bt s 0 < 256), true), (digC (bt s 0), false), (decide ((0 : Int) ≤ 0 ∧ (0 : Int) < (s.size : Int)), true), (bt s 0 == 45, true), (decide ((1 : Int) < (s.size : Int)), true), (decide ((0 : Int) ≤ 1 ∧ (1 : Int) < (s.size : Int)), true), (true, true), (decide (0 ≤ bt s 1 ∧ bt s 1 < 256), true), (digC (bt s 1), false)]) (by kernel_rfl) ?_ (fun st hs => next st (by rw [hs]; simp [symBad, dig45, h0, h1, h2, h3, h4, h5]))
              simp only [okO, List.forall_mem_cons, List.not_mem_nil, false_imp_iff, implies_true, and_true]; simp [dig45, h0, h1, h2, h3, h4, h5]; try omega
          · refine SWP.runQ (SY [(6, false), (10, false), (14, true), (15, false), (19, true), (20, true), (24, false)]) 60 43 hnt [0, 31] (e := .normal) (z := ⟨[(0, .str s), (31, .bool false)], ⟨[], []⟩⟩) (o := [(decide ((s.size : Int) < 1), false), (decide ((40 : Int) < (s.size : Int)), false), (decide ((0 : Int) ≤ 0 ∧ (0 : Int) < (s.size : Int)), true), (true, true), (decide (0 ≤ bt s 0 ∧ bt s 0 < 256), true), (digC (bt s 0), false), (decide ((0 : Int) ≤ 0 ∧ (0 : Int) < (s.size : Int)), true), (bt s 0 == 45, true), (decide ((1 : Int) < (s.size : Int)), false)]) (by kernel_rfl) ?_ (fun st hs => next st (by rw [hs]; simp [symBad, dig45, h0, h1, h2, h3, h4]))
            simp only [okO, List.forall_mem_cons, List.not_mem_nil, false_imp_iff, implies_true, and_true]; simp [dig45, h0, h1, h2, h3, h4]; try omega
        · refine SWP.runQ (SY [(6, false), (10, false), (14, true), (15, false), (19, true), (20, false)]) 60 43 hnt [0, 31] (e := .normal) (z := ⟨[(0, .str s), (31, .bool false)], ⟨[], []⟩⟩) (o := [(decide ((s.size : Int) < 1), false), (decide ((40 : Int) < (s.size : Int)), false), (decide ((0 : Int) ≤ 0 ∧ (0 : Int) < (s.size : Int)), true), (true, true), (decide (0 ≤ bt s 0 ∧ bt s 0 < 256), true), (digC (bt s 0), false), (decide ((0 : Int) ≤ 0 ∧ (0 : Int) < (s.size : Int)), true), (bt s 0 == 45, false)]) (by kernel_rfl) ?_ (fun st hs => next st (by rw [hs]; simp [symBad, dig45, h0, h1, h2, h3]))
          simp only [okO, List.forall_mem_cons, List.not_mem_nil, false_imp_iff, implies_true, and_true]; simp [dig45, h0, h1, h2, h3]; try omega
end Seat
end Go.Proofs.YteimebpgmfhgjaaDoor
/- Which data are right: what it says; laws that the interpreter takes. -/
namespace Go.Proofs.YteimebpgmfhgjaaDoor
open Go.AS
set_option linter.unusedVariables false
set_option linter.unusedSimpArgs false
set_option maxRecDepth 100000
namespace Seat
mutual
def formedD : Dat → Bool
  | .mk k n s ks => (decide (k = 1) && decide (s.size = 0) && decide (ks.len = 0)) || (decide (k = 2) && decide (n = 0) && symOk s && decide (ks.len = 0)) || (decide (k = 3) && decide (n = 0) && decide (s.size = 0) && formedL ks)
def formedL : Dats → Bool
  | .nil => true
  | .cons d ds => formedD d && formedL ds
end
theorem formedL_iff : ∀ ks : Dats, formedL ks = true ↔ ∀ j, j < ks.len → formedD (ks.get j) = true
  | .nil => by simp [formedL, Dats.len]
  | .cons d ds => by
    simp only [formedL, Bool.and_eq_true, formedL_iff ds, Dats.len]
    constructor
    · rintro ⟨h1, h2⟩ j hj
      cases j with
      | zero => exact h1
      | succ j => exact h2 j (by omega)
    · intro h
      exact ⟨h 0 (by omega), fun j hj => h (j + 1) (by omega)⟩
theorem formedL_not {ks : Dats} {j : Nat} (hj : j < ks.len) (h : formedD (ks.get j) = false) : formedL ks = false := by
  cases hf : formedL ks with
  | false => rfl
  | true => rw [(formedL_iff ks).1 hf j hj] at h; cases h
def badIdx (ks : Dats) : Int := match (List.range ks.len).find? fun j => !formedD (ks.get j) with
  | some j => j
  | none => -1
theorem badIdx_at {ks : Dats} {j : Nat} (hj : j < ks.len) (h : formedD (ks.get j) = false) (hl : ∀ i, i < j → formedD (ks.get i) = true) : badIdx ks = j := by
  unfold badIdx
  have : (List.range ks.len).find? (fun j => !formedD (ks.get j)) = some j := by
    rw [List.find?_range_eq_some]
    exact ⟨by simp [h], List.mem_range.2 hj, fun i hi => by simp [hl i hi]⟩
  rw [this]
theorem badIdx_none {ks : Dats} (hl : ∀ i, i < ks.len → formedD (ks.get i) = true) : badIdx ks = -1 := by
  unfold badIdx
  have : (List.range ks.len).find? (fun j => !formedD (ks.get j)) = none := by
    rw [List.find?_eq_none]
    intro i hi
    simp [hl i (List.mem_range.1 hi)]
  rw [this]
theorem badIdx_formed (ks : Dats) : decide (0 ≤ badIdx ks) = !formedL ks := by
  cases h : formedL ks with
  | true => rw [badIdx_none fun i hi => (formedL_iff ks).1 h i hi]; rfl
  | false =>
    unfold badIdx
    split
    · rename_i j hj
      simp
    · rename_i hn
      rw [List.find?_eq_none] at hn
      have : formedL ks = true := (formedL_iff ks).2 fun j hj => by simpa using hn j (List.mem_range.2 hj)
      rw [this] at h
      cases h
def FormAt (N : Nat) : Prop := ∀ d : Dat, d.size < N → d.ok → Pure G0 45 [.agg d.cells] (fun r => r = .bool (formedD d))
def IdxAt (N : Nat) : Prop := ∀ ks : Dats, ks.size < N → ks.len ≤ 9223372036854775807 → ks.ok → Pure G0 73 [.slice ks.len ks.cells, .func (.func 63) []] (fun r => r = .int .i64 (badIdx ks))
noncomputable def formS (N : Nat) (f : Nat) (args : List PV) : Option (PV × Ob) := match f, args with
  | 45, [.agg cs] => some (.bool (ofCells formedD false cs), [(isDat N cs, true)])
  | _, _ => none
theorem formS_ok {N : Nat} (ih : FormAt N) (f : Nat) (args : List PV) (r : PV) (o : Ob) (h : formS N f args = some (r, o)) (ho : ∀ p ∈ o, p.1 = p.2) (_ : pureL args = true) : Pure G0 f args (fun x => x = r) := by
  unfold formS at h
  split at h
  · cases h
    obtain ⟨d, rfl, h1, h2⟩ := isDat_of (ho _ (List.mem_singleton.2 rfl))
    rw [ofCells_at]
    exact ih d h1 h2
  · cases h
noncomputable def idxS (N : Nat) (f : Nat) (args : List PV) : Option (PV × Ob) := match f, args with
  | 73, [.slice n cs, .func (.func 63) []] => some (.int .i64 (ofCellsL badIdx 0 cs), [(isDats N n cs, true)])
  | 61, [.str s] => some (.bool (symOk s), [])
  | _, _ => none
theorem idxS_ok {N : Nat} (ih : IdxAt N) (f : Nat) (args : List PV) (r : PV) (o : Ob) (h : idxS N f args = some (r, o)) (ho : ∀ p ∈ o, p.1 = p.2) (_ : pureL args = true) : Pure G0 f args (fun x => x = r) := by
  unfold idxS at h
  split at h
  · cases h
    obtain ⟨ks, rfl, rfl, h1, hl, h2⟩ := isDats_of (ho _ (List.mem_singleton.2 rfl))
    rw [ofCellsL_at]
    exact ih ks h1 hl h2
  · cases h; exact isSymbol_ok _
  · cases h
end Seat
end Go.Proofs.YteimebpgmfhgjaaDoor
/- datum.formed: which data are right. -/
namespace Go.Proofs.YteimebpgmfhgjaaDoor
open Go.AS
set_option linter.unusedVariables false
set_option linter.unusedSimpArgs false
set_option maxRecDepth 100000
namespace Seat
noncomputable def SF {N : Nat} (ih : FormAt N) (l : List (Nat × List (Nat × Bool))) (v : List (Nat × List (Nat × PV))) : Cfg G0 := { F := F, hF := hF, S := formS N, hS := formS_ok ih, orc := orcM l, val := valM v }
noncomputable def SI {N : Nat} (ih : IdxAt N) (l : List (Nat × List (Nat × Bool))) : Cfg G0 := { F := F, hF := hF, S := idxS N, hS := idxS_ok ih, orc := orcM l }
theorem idxAt {N : Nat} (ih : FormAt N) : IdxAt (N + 1) := fun ks hN hlen hok => by
  refine Fn.enterN Tryd.func73 Tryd.ntmps73 rfl (Nat.le_of_ble_eq_true rfl) fun C fr fp hnt hp hfr hfp => ?_
  refine Q.runSeq S0 50 19 hnt [0, 1] (z := ⟨[(0, .slice ks.len ks.cells), (1, .func (.func 63) [])], ⟨[], []⟩⟩) (o := []) (by kernel_rfl) okO_nil ?_
  refine Q.seq fun K hK => ?_
  refine Q.runSeq S0 50 19 hnt [0, 1, 7, 8] (z := ⟨[(0, .slice ks.len ks.cells), (1, .func (.func 63) []), (7, .int .i64 ks.len), (8, .int .i64 0)], ⟨[], []⟩⟩) (o := []) (by kernel_rfl) okO_nil ?_
  refine Q.block ?_
  refine Q.loopI (σ := { j : Nat // j ≤ ks.len ∧ ∀ i, i < j → formedD (ks.get i) = true }) [0, 1, 7, 8] (fun j => ⟨[(0, .slice ks.len ks.cells), (1, .func (.func 63) []), (7, .int .i64 ks.len), (8, .int .i64 j.1)], ⟨[], []⟩⟩) (fun j => ks.len - j.1) ⟨0, Nat.zero_le _, fun i h => absurd h (Nat.not_lt_zero _)⟩ rfl fun ⟨j, hj, hl⟩ => ?_
  rcases Nat.lt_or_ge j ks.len with hlt | hge
  · obtain ⟨k', n', s', ks', hget⟩ := Dats.get_mk ks j
    have hcl : (Dat.mk k' n' s' ks').cells = [.int .i64 k', .int .i64 n', .str s', .slice ks'.len ks'.cells] := rfl
    have hsz := Dats.get_size ks j hlt
    have hokj := Dats.get_ok ks j hlt hok
    rw [hget] at hsz hokj
    have oks : ∀ b, formedD (ks.get j) = b → okO [(decide ((j : Int) < (ks.len : Int)), true), (true, true), (decide (0 ≤ (j : Int) ∧ (j : Int) < (ks.len : Int)), true), (decide (4 ≤ (ks.cells.drop ((j : Int).toNat * 4)).length), true), (same (.agg ((ks.cells.drop ((j : Int).toNat * 4)).take 4)) (.agg [.int .i64 k', .int .i64 n', .str s', .slice ks'.len ks'.cells]), true), (true, true), (isDat N [.int .i64 k', .int .i64 n', .str s', .slice ks'.len ks'.cells], true), (!ofCells formedD false [.int .i64 k', .int .i64 n', .str s', .slice ks'.len ks'.cells], !b), (!b, !b)] := fun b hb => by
      simp only [okO, List.forall_mem_cons, List.not_mem_nil, false_imp_iff, implies_true, and_true, true_and, Int.toNat_natCast, Dats.get_cells ks j hlt]
      refine ⟨by simpa using hlt, by simpa using hlt, ?_, same_of (by rw [hget]; rfl), isDat_at (d := .mk k' n' s' ks') (by omega) hokj, ?_⟩
      · simp only [List.length_drop, Dats.cells_len, decide_eq_true_eq]; omega
      · rw [← hcl, ofCells_at, ← hget, hb]
    cases hf : formedD (ks.get j) with
    | true =>
      refine SWP.runQ (SF ih [(19, [(9, true), (14, true), (15, true), (16, false)])] [(19, [(15, .agg [.int .i64 k', .int .i64 n', .str s', .slice ks'.len ks'.cells])])]) 60 19 hnt [0, 1, 7, 8] (e := .normal) (z := ⟨[(0, .slice ks.len ks.cells), (1, .func (.func 63) []), (7, .int .i64 ks.len), (8, .int .i64 (IntKind.i64.wrap ((j : Int) + 1)))], ⟨[], []⟩⟩)
        (by kernel_rfl) (oks true hf) (fun st hs => ⟨⟨j + 1, hlt, fun i hi => ?_⟩, Nat.sub_lt_sub_left hlt (Nat.lt_succ_self j), ?_⟩)
      · rcases Nat.lt_succ_iff_lt_or_eq.1 hi with h | h
        · exact hl i h
        · rw [h]; exact hf
      · rw [hs, wrap1 j (by omega)]
    | false =>
      refine SWP.runQ (SF ih [(19, [(9, true), (14, true), (15, true), (16, true)])] [(19, [(15, .agg [.int .i64 k', .int .i64 n', .str s', .slice ks'.len ks'.cells])])]) 60 19 hnt [4] (e := .ret) (z := ⟨[(4, .int .i64 j)], ⟨[], []⟩⟩)
        (by kernel_rfl) (oks false hf) (fun st hs => hfr st [4] ?_)
      rw [hs]
      exact FinR.pure (r := .int .i64 j) (by kernel_rfl) rfl (by rw [badIdx_at hlt hf hl])
  · refine SWP.runQ (SF ih [(19, [(9, false)])] []) 60 19 hnt [0] (e := .exit 0) (z := ⟨[(0, .slice ks.len ks.cells)], ⟨[], []⟩⟩) (o := [(decide ((j : Int) < (ks.len : Int)), false), (false, false)]) (by kernel_rfl) (by simp only [okO, List.forall_mem_cons, List.not_mem_nil, false_imp_iff, implies_true, and_true]; simp; omega) (fun st hs => hK st (.norm [0] ?_))
    rw [hs]
    refine SWP.runQ S0 50 19 hnt [4] (e := .ret) (z := ⟨[(4, .int .i64 (-1))], ⟨[], []⟩⟩) (o := []) (by kernel_rfl) okO_nil (fun st hs => hfr st [4] ?_)
    rw [hs]
    exact FinR.pure (r := .int .i64 (-1)) (by kernel_rfl) rfl (by rw [badIdx_none fun i hi => hl i (by omega)])
end Seat
end Go.Proofs.YteimebpgmfhgjaaDoor
/- datum.formed: the law. -/
namespace Go.Proofs.YteimebpgmfhgjaaDoor
open Go.AS
set_option linter.unusedVariables false
set_option linter.unusedSimpArgs false
set_option maxRecDepth 100000
namespace Seat
theorem formAt (N : Nat) : FormAt N := by
  induction N with
  | zero => intro d h; omega
  | succ N ih =>
    intro d hN hok
    have hI := idxAt ih
    obtain ⟨k, n, s, ks⟩ := d
    have hks : ks.size < N + 1 := by simp only [Dat.size] at hN; omega
    have run : ∀ (l : List (Nat × Bool)) (r : Bool) (o : Ob), call (SI hI [(48, l)]) 60 45 [.agg [.int .i64 k, .int .i64 n, .str s, .slice ks.len ks.cells]] = some (.bool r, o) → okO o → r = formedD (.mk k n s ks) → Pure G0 45 [.agg (Dat.mk k n s ks).cells] (fun r => r = .bool (formedD (.mk k n s ks))) := fun l r o h ho hr => by
      rw [← hr]
      exact Pure.runO 60 h ho
    have d3 := isDats_at (N := N + 1) hks hok.1 hok.2
    have b3 : decide (0 ≤ ofCellsL badIdx 0 ks.cells) = !formedL ks := by rw [ofCellsL_at, badIdx_formed]
    by_cases h1 : k = 1
    · by_cases h2 : s.size = 0
      · exact run [(6, true), (9, true)] ((ks.len : Int) == 0) [(k == 1, true), (s.toList == [], true)] (by kernel_rfl) (by simp [okO, beq0, h1, str_nil, h2]) (by simp [formedD, h1, h2, beq0])
      · exact run [(6, true), (9, false)] false [(k == 1, true), (s.toList == [], false)] (by kernel_rfl) (by simp [okO, beq0, h1, str_nil, h2]) (by simp [formedD, h1, h2])
    · by_cases h2 : k = 2
      · by_cases h3 : n = 0
        · by_cases h4 : ks.len = 0
          · exact run [(6, false), (17, true), (20, true), (25, true)] (symOk s) [(k == 1, false), (k == 2, true), (n == 0, true), ((ks.len : Int) == 0, true), (true, true)] (by kernel_rfl) (by simp [okO, beq0, h2, h3, h4]) (by simp [formedD, h2, h3, h4])
          · exact run [(6, false), (17, true), (20, true), (25, false)] false [(k == 1, false), (k == 2, true), (n == 0, true), ((ks.len : Int) == 0, false)] (by kernel_rfl) (by simp [okO, beq0, h2, h3, h4]) (by simp [formedD, h2, h3, h4])
        · exact run [(6, false), (17, true), (20, false)] false [(k == 1, false), (k == 2, true), (n == 0, false)] (by kernel_rfl) (by simp [okO, beq0, h2, h3]) (by simp [formedD, h2, h3])
      · by_cases h3 : k = 3
        · by_cases h4 : n = 0
          · by_cases h5 : s.size = 0
            · exact run [(6, false), (17, false), (33, true), (36, true), (40, true)] (!decide (0 ≤ ofCellsL badIdx 0 ks.cells)) [(k == 1, false), (k == 2, false), (k == 3, true), (n == 0, true), (s.toList == [], true), (true, true), (isDats (N + 1) ks.len ks.cells, true)] (by kernel_rfl) (by simp [okO, beq0, h3, h4, h5, str_nil, d3]) (by rw [b3]; simp [formedD, h3, h4, h5])
            · exact run [(6, false), (17, false), (33, true), (36, true), (40, false)] false [(k == 1, false), (k == 2, false), (k == 3, true), (n == 0, true), (s.toList == [], false)] (by kernel_rfl) (by simp [okO, beq0, h3, h4, h5, str_nil]) (by simp [formedD, h3, h4, h5])
          · exact run [(6, false), (17, false), (33, true), (36, false)] false [(k == 1, false), (k == 2, false), (k == 3, true), (n == 0, false)] (by kernel_rfl) (by simp [okO, beq0, h3, h4]) (by simp [formedD, h3, h4])
        · exact run [(6, false), (17, false), (33, false)] false [(k == 1, false), (k == 2, false), (k == 3, false)] (by kernel_rfl) (by simp [okO, beq0, h1, h2, h3]) (by simp [formedD, h1, h2, h3])
theorem dformed_ok (d : Dat) (hok : d.ok) : Pure G0 45 [.agg d.cells] (fun r => r = .bool (formedD d)) := formAt (d.size + 1) d (Nat.lt_succ_self _) hok
end Seat
end Go.Proofs.YteimebpgmfhgjaaDoor
/- datum.Check; pagodaref01.Cut: the laws. -/
namespace Go.Proofs.YteimebpgmfhgjaaDoor
open Go.AS
set_option linter.unusedVariables false
set_option linter.unusedSimpArgs false
set_option maxRecDepth 100000
namespace Seat
def chkD (d : Dat) : Int := if formedD d = false then 4 else if 100000 < w64 (parts d) then 3 else if 1000 < (deepN d : Int) then 3 else 0
noncomputable def chkS (f : Nat) (args : List PV) : Option (PV × Ob) := match f, args with
  | 45, [.agg cs] => some (.bool (ofCells formedD false cs), [(isGood cs, true)])
  | 46, [.agg cs] => some (.int .i64 (ofCells (fun d => w64 (parts d)) 0 cs), [(isGood cs, true)])
  | 47, [.agg cs] => some (.int .i64 (ofCells (fun d => (deepN d : Int)) 0 cs), [(isGood cs, true)])
  | _, _ => none
theorem chkS_ok (f : Nat) (args : List PV) (r : PV) (o : Ob) (h : chkS f args = some (r, o)) (ho : ∀ p ∈ o, p.1 = p.2) (_ : pureL args = true) : Pure G0 f args (fun x => x = r) := by
  unfold chkS at h
  split at h
  · cases h
    obtain ⟨d, rfl, h1⟩ := isGood_of (ho _ (List.mem_singleton.2 rfl))
    rw [ofCells_at]; exact dformed_ok d h1.1
  · cases h
    obtain ⟨d, rfl, h1⟩ := isGood_of (ho _ (List.mem_singleton.2 rfl))
    rw [ofCells_at]; exact dparts_ok d h1
  · cases h
    obtain ⟨d, rfl, h1⟩ := isGood_of (ho _ (List.mem_singleton.2 rfl))
    rw [ofCells_at]; exact ddeep_ok d h1
  · cases h
noncomputable def SK (l : List (Nat × List (Nat × Bool))) : Cfg G0 := { F := F, hF := hF, S := chkS, hS := chkS_ok, orc := orcM l }
theorem dcheck_ok (d : Dat) (hd : Good d) : Pure G0 24 [.agg d.cells] (fun r => r = .int .i64 (chkD d)) := by
  obtain ⟨k, n, s, ks⟩ := d
  have hg : isGood [.int .i64 k, .int .i64 n, .str s, .slice ks.len ks.cells] = true := isGood_at hd
  have e1 : ∀ {α : Type} (f : Dat → α) (z : α), ofCells f z [.int .i64 k, .int .i64 n, .str s, .slice ks.len ks.cells] = f (.mk k n s ks) := fun f z => ofCells_at f z (.mk k n s ks)
  by_cases h1 : formedD (.mk k n s ks) = false
  · have : chkD (.mk k n s ks) = 4 := by simp [chkD, h1]
    rw [this]
    exact Pure.runO (S := SK [(16, [(5, false)])]) 60 (o := [(true, true), (isGood [.int .i64 k, .int .i64 n, .str s, .slice ks.len ks.cells], true), (ofCells formedD false [.int .i64 k, .int .i64 n, .str s, .slice ks.len ks.cells], false)]) (by kernel_rfl) (by simp [okO, hg, e1, h1])
  · simp only [Bool.not_eq_false] at h1
    by_cases h2 : 100000 < w64 (parts (.mk k n s ks))
    · have : chkD (.mk k n s ks) = 3 := by simp [chkD, h1, h2]
      rw [this]
      exact Pure.runO (S := SK [(16, [(5, true), (10, true)])]) 60 (o := [(true, true), (isGood [.int .i64 k, .int .i64 n, .str s, .slice ks.len ks.cells], true), (ofCells formedD false [.int .i64 k, .int .i64 n, .str s, .slice ks.len ks.cells], true), (true, true), (isGood [.int .i64 k, .int .i64 n, .str s, .slice ks.len ks.cells], true), (decide ((100000 : Int) < ofCells (fun d => w64 (parts d)) 0 [.int .i64 k, .int .i64 n, .str s, .slice ks.len ks.cells]), true)]) (by kernel_rfl) (by simp [okO, hg, e1, h1, h2])
    · have h2' : w64 (parts (.mk k n s ks)) ≤ 100000 := by omega
      by_cases h3 : 1000 < (deepN (.mk k n s ks) : Int)
      · have : chkD (.mk k n s ks) = 3 := by simp only [chkD, h1, h2, h3, if_true, if_false]; rfl
        rw [this]
        exact Pure.runO (S := SK [(16, [(5, true), (10, false), (14, true)])]) 60 (o := [(true, true), (isGood [.int .i64 k, .int .i64 n, .str s, .slice ks.len ks.cells], true), (ofCells formedD false [.int .i64 k, .int .i64 n, .str s, .slice ks.len ks.cells], true), (true, true), (isGood [.int .i64 k, .int .i64 n, .str s, .slice ks.len ks.cells], true), (decide ((100000 : Int) < ofCells (fun d => w64 (parts d)) 0 [.int .i64 k, .int .i64 n, .str s, .slice ks.len ks.cells]), false), (true, true), (isGood [.int .i64 k, .int .i64 n, .str s, .slice ks.len ks.cells], true), (decide ((1000 : Int) < ofCells (fun d => (deepN d : Int)) 0 [.int .i64 k, .int .i64 n, .str s, .slice ks.len ks.cells]), true)]) (by kernel_rfl) (by simp only [okO, List.forall_mem_cons, List.not_mem_nil, false_imp_iff, implies_true, and_true, hg, e1, h1, true_and, decide_eq_true_eq, decide_eq_false_iff_not]; exact ⟨h2, h3⟩)
      · have : chkD (.mk k n s ks) = 0 := by simp only [chkD, h1, h2, h3, if_true, if_false]; rfl
        rw [this]
        exact Pure.runO (S := SK [(16, [(5, true), (10, false), (14, false)])]) 60 (o := [(true, true), (isGood [.int .i64 k, .int .i64 n, .str s, .slice ks.len ks.cells], true), (ofCells formedD false [.int .i64 k, .int .i64 n, .str s, .slice ks.len ks.cells], true), (true, true), (isGood [.int .i64 k, .int .i64 n, .str s, .slice ks.len ks.cells], true), (decide ((100000 : Int) < ofCells (fun d => w64 (parts d)) 0 [.int .i64 k, .int .i64 n, .str s, .slice ks.len ks.cells]), false), (true, true), (isGood [.int .i64 k, .int .i64 n, .str s, .slice ks.len ks.cells], true), (decide ((1000 : Int) < ofCells (fun d => (deepN d : Int)) 0 [.int .i64 k, .int .i64 n, .str s, .slice ks.len ks.cells]), false)]) (by kernel_rfl) (by simp only [okO, List.forall_mem_cons, List.not_mem_nil, false_imp_iff, implies_true, and_true, hg, e1, h1, true_and, decide_eq_true_eq, decide_eq_false_iff_not]; exact ⟨h2, h3⟩)
theorem cut_ok (d : Dat) (hd : d.ok) (p dp : Int) (h : 1 ≤ dp ∧ dp ≤ 4611686018427387904 ∧ 1 ≤ p ∧ p ≤ 1000000) : Pure G0 23 [.agg d.cells, .int .i64 p, .int .i64 dp] (fun r => r = .agg (cutD d dp p).1.cells) := by
  obtain ⟨k, n, s, ks⟩ := d
  obtain ⟨k2, n2, s2, ks2, e⟩ := Dat.is_mk (cutD (.mk k n s ks) dp p).1
  have e1 : ofCells (fun d => (cutD d dp p).1.cells) [] [.int .i64 k, .int .i64 n, .str s, .slice ks.len ks.cells] = (cutD (.mk k n s ks) dp p).1.cells := ofCells_at _ _ (.mk k n s ks)
  rw [e]
  exact Pure.runO (S := { SC (cutAt ((Dat.mk k n s ks).size + 1)) [] [(15, [(14, .agg [.int .i64 k2, .int .i64 n2, .str s2, .slice ks2.len ks2.cells])])] with D := fun _ => false }) 60
    (o := [(isDat ((Dat.mk k n s ks).size + 1) [.int .i64 k, .int .i64 n, .str s, .slice ks.len ks.cells], true), (decide (1 ≤ dp ∧ dp ≤ 4611686018427387904 ∧ 1 ≤ p ∧ p ≤ 1000000), true), (same (.agg (ofCells (fun d => (cutD d dp p).1.cells) [] [.int .i64 k, .int .i64 n, .str s, .slice ks.len ks.cells])) (.agg [.int .i64 k2, .int .i64 n2, .str s2, .slice ks2.len ks2.cells]), true)]) (by kernel_rfl) (fun q hq => by
      simp only [List.mem_cons, List.not_mem_nil, or_false] at hq
      rcases hq with rfl | rfl | rfl
      · exact isDat_at (d := .mk k n s ks) (Nat.lt_succ_self _) hd
      · exact decide_eq_true h
      · exact same_of (by rw [e1, e]; rfl))
mutual
theorem cutD_ok : ∀ (d : Dat) (dp p : Int), d.ok → (cutD d dp p).1.ok
  | .mk k n s ks, dp, p, h => by
    have h1 := cutL_ok ks dp (p - 1) h.2
    have h2 := cutL_len ks dp (p - 1)
    simp only [cutD, Dat.ok]
    exact ⟨by have := h.1; omega, h1⟩
theorem cutL_ok : ∀ (ks : Dats) (dp p : Int), ks.ok → (cutL ks dp p).1.ok
  | .nil, dp, p, h => by simp only [cutL, Dats.ok]
  | .cons d ds, dp, p, h => by
    simp only [cutL]
    split
    · exact ⟨cutD_ok d (dp - 1) p h.1, cutL_ok ds dp _ h.2⟩
    · trivial
theorem cutL_len : ∀ (ks : Dats) (dp p : Int), (cutL ks dp p).1.len ≤ ks.len
  | .nil, dp, p => by simp only [cutL, Dats.len]; omega
  | .cons d ds, dp, p => by
    have := cutL_len ds dp (cutD d (dp - 1) p).2
    simp only [cutL]
    split
    · simp only [Dats.len]; omega
    · simp only [Dats.len]; omega
end
end Seat
end Go.Proofs.YteimebpgmfhgjaaDoor
namespace Go.Proofs.YteimebpgmfhgjaaDoor
open Go.AS
set_option linter.unusedVariables false
set_option linter.unusedSimpArgs false
set_option maxRecDepth 100000
namespace Seat
theorem alive : Pure G0 15 [] (fun r => r = .bool true) := Pure.run (S := S0) 400 (by kernel_rfl)
noncomputable def lawS (f : Nat) (args : List PV) : Option (PV × Ob) := match f, args with
  | 23, [.agg cs, .int .i64 p, .int .i64 dp] => some (.agg (ofCells (fun d => (cutD d dp p).1.cells) [] cs), [(isOk cs, true), (decide (1 ≤ dp ∧ dp ≤ 4611686018427387904 ∧ 1 ≤ p ∧ p ≤ 1000000), true)])
  | 24, [.agg cs] => some (.int .i64 (ofCells chkD 0 cs), [(isGood cs, true)])
  | 15, [] => some (.bool true, [])
  | _, _ => none
theorem lawS_ok (f : Nat) (args : List PV) (r : PV) (o : Ob) (h : lawS f args = some (r, o)) (ho : ∀ p ∈ o, p.1 = p.2) (_ : pureL args = true) : Pure G0 f args (fun x => x = r) := by
  unfold lawS at h
  split at h
  · cases h
    obtain ⟨d, rfl, h1⟩ := isOk_of (ho _ (List.mem_cons_self ..))
    rw [ofCells_at]
    exact cut_ok d h1 _ _ (of_decide_eq_true (ho (decide _, true) (List.mem_cons_of_mem _ (List.mem_cons_self ..))))
  · cases h
    obtain ⟨d, rfl, h1⟩ := isGood_of (ho _ (List.mem_singleton.2 rfl))
    rw [ofCells_at]; exact dcheck_ok d h1
  · cases h; exact alive
  · cases h
end Seat
end Go.Proofs.YteimebpgmfhgjaaDoor
namespace Go.Proofs.YteimebpgmfhgjaaDoor
open Go.AS
set_option linter.unusedVariables false
set_option linter.unusedSimpArgs false
set_option maxRecDepth 100000
namespace Seat
theorem num_lt (a b : Int) : Pure G0 21 [.str ⟨#[60]⟩, .slice 2 [.int .i64 a, .int .i64 b]] (fun r => r = .tup [.int .i64 (bif decide (a < b) then 1 else 0), .bool true]) := by
  cases h : decide (a < b) with
  | true => exact Pure.runO (S := { S0 with orc := orcM [(4, [(3, true)])] }) 400 (o := [(decide (a < b), true), (true, true)]) (by kernel_rfl) (okO_cons h (okO_cons rfl okO_nil))
  | false => exact Pure.runO (S := { S0 with orc := orcM [(4, [(3, false)])] }) 400 (o := [(decide (a < b), false), (false, false)]) (by kernel_rfl) (okO_cons h (okO_cons rfl okO_nil))
noncomputable def ordS (f : Nat) (args : List PV) : Option (PV × Ob) := match lawS f args with
  | some r => some r
  | none => match f, args with
    | 21, [.str ⟨⟨[60]⟩⟩, .slice 2 [.int .i64 a, .int .i64 b]] => some (.tup [.int .i64 (bif decide (a < b) then 1 else 0), .bool true], [])
    | 26, [.agg a, .agg b] => some (.bool (ofCells2 eqD false a b), [(isOk a, true), (isOk b, true)])
    | _, _ => none
theorem ordS_ok (f : Nat) (args : List PV) (r : PV) (o : Ob) (h : ordS f args = some (r, o)) (ho : ∀ p ∈ o, p.1 = p.2) (hpu : pureL args = true) : Pure G0 f args (fun x => x = r) := by
  unfold ordS at h
  split at h
  · rename_i r' hl
    cases h
    exact lawS_ok f args r o hl ho hpu
  · clear hpu
    split at h
    · cases h; exact num_lt _ _
    · rename_i a b _
      cases h
      obtain ⟨d, rfl, h1⟩ := isOk_of (ho (isOk a, true) (List.mem_cons_self ..))
      obtain ⟨e, rfl, h2⟩ := isOk_of (ho (isOk b, true) (List.mem_cons_of_mem _ (List.mem_cons_self ..)))
      rw [ofCells2_at]
      exact equal_ok d e h1 h2
    · cases h
end Seat
end Go.Proofs.YteimebpgmfhgjaaDoor
namespace Go.Proofs.YteimebpgmfhgjaaDoor
open Go.AS
set_option linter.unusedVariables false
set_option linter.unusedSimpArgs false
set_option maxRecDepth 100000
namespace Seat
open Classical in
noncomputable def isSm (cs : List PV) : Bool := decide (∃ d : Dat, d.cells = cs ∧ smallD d)
theorem isSm_at {d : Dat} {cs : List PV} (e : d.cells = cs) (ho : smallD d) : isSm cs = true := by
  unfold isSm
  classical exact decide_eq_true ⟨d, e, ho⟩
theorem isSm_of {cs : List PV} (h : isSm cs = true) : ∃ d : Dat, d.cells = cs ∧ smallD d := by
  unfold isSm at h
  classical exact of_decide_eq_true h
noncomputable def listS (f : Nat) (args : List PV) : Option (PV × Ob) := match ordS f args with
  | some r => some r
  | none => match f, args with
    | 56, [.agg cs] => some (.agg cs, [(isSm cs, true)])
    | _, _ => none
theorem listS_ok (f : Nat) (args : List PV) (r : PV) (o : Ob) (h : listS f args = some (r, o)) (ho : ∀ p ∈ o, p.1 = p.2) (hpu : pureL args = true) : Pure G0 f args (fun x => x = r) := by
  unfold listS at h
  split at h
  · rename_i r' hl
    cases h
    exact ordS_ok f args r o hl ho hpu
  · clear hpu
    split at h
    · cases h
      obtain ⟨d, rfl, h1⟩ := isSm_of (ho _ (List.mem_singleton.2 rfl))
      exact clone_ok d h1
    · cases h
noncomputable def SLi (l : List (Nat × List (Nat × Bool))) (v : List (Nat × List (Nat × PV))) : Cfg G0 := { F := F, hF := hF, S := listS, hS := listS_ok, orc := orcM l, val := valM v }
end Seat
end Go.Proofs.YteimebpgmfhgjaaDoor
namespace Go.Proofs.YteimebpgmfhgjaaDoor
open Go.AS
set_option linter.unusedVariables false
set_option linter.unusedSimpArgs false
set_option maxRecDepth 100000
namespace Seat
mutual
theorem eqD_refl : ∀ d : Dat, eqD d d = true
  | .mk k n s ks => by simp [eqD, eqL_refl ks]
theorem eqL_refl : ∀ ks : Dats, eqL ks ks = true
  | .nil => rfl
  | .cons d ds => by simp [eqL, eqD_refl d, eqL_refl ds]
end
end Seat
end Go.Proofs.YteimebpgmfhgjaaDoor
namespace Go.Proofs
open Go.Shelf
def Tryd.laysM173_ren : Go.Shelf.Ren := ⟨fun | 173 => 67 | 246 => 74 | 283 => 76 | 284 => 77 | 285 => 78 | 286 => 79 | 129 => 82 | 317 => 81 | 318 => 83 | 319 => 84 | 320 => 85 | 337 => 87 | 338 => 88 | n => n, fun | 2 => 2 | 3 => 3 | 9 => 9 | 4 => 4 | 171 => 97 | 0 => 0 | 53 => 44 | 37 => 92 | 5 => 5 | 173 => 100 | 212 => 104 | 51 => 105 | 20 => 20 | 213 => 106 | 46 => 108 | 232 => 111 | 233 => 112 | n => n, fun | 17 => 1 | 18 => 3 | 19 => 4 | n => n⟩
theorem Tryd.laysM173 : Go.Proofs.LaysM.n173 Tryd.prog Tryd.laysM173_ren := {
  mixed := by kernel_rfl
  f129 := Tryd.func82.trans (congrArg some (by kernel_rfl))
  f173 := Tryd.func67.trans (congrArg some (by kernel_rfl))
  f246 := Tryd.func74.trans (congrArg some (by kernel_rfl))
  f283 := Tryd.func76.trans (congrArg some (by kernel_rfl))
  f284 := Tryd.func77.trans (congrArg some (by kernel_rfl))
  f285 := Tryd.func78.trans (congrArg some (by kernel_rfl))
  f286 := Tryd.func79.trans (congrArg some (by kernel_rfl))
  f317 := Tryd.func81.trans (congrArg some (by kernel_rfl))
  f318 := Tryd.func83.trans (congrArg some (by kernel_rfl))
  f319 := Tryd.func84.trans (congrArg some (by kernel_rfl))
  f320 := Tryd.func85.trans (congrArg some (by kernel_rfl))
  f337 := Tryd.func87.trans (congrArg some (by kernel_rfl))
  f338 := Tryd.func88.trans (congrArg some (by kernel_rfl))
  t0 := Tryd.underlying0
  a0 := Tryd.isAgg0
  z0 := Tryd.sizeOf0
  v0 := Tryd.zeroValue0
  t2 := Tryd.underlying2
  a2 := Tryd.isAgg2
  z2 := Tryd.sizeOf2
  v2 := Tryd.zeroValue2
  t3 := Tryd.underlying3
  a3 := Tryd.isAgg3
  z3 := Tryd.sizeOf3
  v3 := Tryd.zeroValue3
  t4 := Tryd.underlying4
  a4 := Tryd.isAgg4
  z4 := Tryd.sizeOf4
  v4 := Tryd.zeroValue4
  t5 := Tryd.underlying5
  a5 := Tryd.isAgg5
  z5 := Tryd.sizeOf5
  v5 := Tryd.zeroValue5
  t9 := Tryd.underlying9
  a9 := Tryd.isAgg9
  z9 := Tryd.sizeOf9
  v9 := Tryd.zeroValue9
  t20 := Tryd.underlying20
  a20 := Tryd.isAgg20
  z20 := Tryd.sizeOf20
  v20 := Tryd.zeroValue20
  t37 := Tryd.underlying92
  a37 := Tryd.isAgg92
  z37 := Tryd.sizeOf92
  v37 := Tryd.zeroValue92
  t46 := Tryd.underlying108
  a46 := Tryd.isAgg108
  z46 := Tryd.sizeOf108
  v46 := Tryd.zeroValue108
  t51 := Tryd.underlying105
  a51 := Tryd.isAgg105
  z51 := Tryd.sizeOf105
  v51 := Tryd.zeroValue105
  t53 := Tryd.underlying44
  a53 := Tryd.isAgg44
  z53 := Tryd.sizeOf44
  v53 := Tryd.zeroValue44
  t171 := Tryd.underlying97
  a171 := Tryd.isAgg97
  z171 := Tryd.sizeOf97
  v171 := Tryd.zeroValue97
  t173 := Tryd.underlying100
  a173 := Tryd.isAgg100
  z173 := Tryd.sizeOf100
  v173 := Tryd.zeroValue100
  t212 := Tryd.underlying104
  a212 := Tryd.isAgg104
  z212 := Tryd.sizeOf104
  v212 := Tryd.zeroValue104
  t213 := Tryd.underlying106
  a213 := Tryd.isAgg106
  z213 := Tryd.sizeOf106
  t232 := Tryd.underlying111
  a232 := Tryd.isAgg111
  z232 := Tryd.sizeOf111
  v232 := Tryd.zeroValue111
  t233 := Tryd.underlying112
  a233 := Tryd.isAgg112
  z233 := Tryd.sizeOf112
  v233 := Tryd.zeroValue112
  g17 := by kernel_rfl
  g18 := by kernel_rfl
  g19 := by kernel_rfl
  i0 := by kernel_rfl
  i2 := by kernel_rfl
  i3 := by kernel_rfl
  i4 := by kernel_rfl
  i5 := by kernel_rfl
  i9 := by kernel_rfl
  i20 := by kernel_rfl
  i37 := by kernel_rfl
  i46 := by kernel_rfl
  i51 := by kernel_rfl
  i53 := by kernel_rfl
  i171 := by kernel_rfl
  i173 := by kernel_rfl
  i212 := by kernel_rfl
  i232 := by kernel_rfl
  i233 := by kernel_rfl
  m17 := by kernel_rfl
  m18 := by kernel_rfl
  m19 := by kernel_rfl }
open Go.RowKit Go.Sort Go.Lib in
theorem Tryd.strconv_FormatInt_10 (n : Int) (h0 : -9223372036854775808 ≤ n) (h1 : n ≤ 9223372036854775807) (w : World) (htab : Lib.TabIs Tryd.prog w "internal/strconv.uint64pow10" .u64 Lib.pow10Tab) :
    Calls Tryd.prog 67 #[.int .i64 n, .int .i64 10] w fun e w' => e = .returned (.string ⟨(Lib.itoa n).toArray⟩) ∧ ∃ k os, w' = grow (w.drewN k) os := Any.strconv_FormatInt_10 Tryd.laysM173 n h0 h1 w htab
end Go.Proofs
namespace Go.Proofs.YteimebpgmfhgjaaDoor
open Go.AS Go.RowKit
set_option linter.unusedVariables false
set_option linter.unusedSimpArgs false
set_option maxRecDepth 100000
namespace Seat
abbrev mkS (l : List UInt8) : ByteArray := ⟨⟨l⟩⟩
theorem mkS_append (a b : List UInt8) : mkS a ++ mkS b = mkS (a ++ b) := by
  apply ByteArray.ext
  simp
theorem mkS_size (a : List UInt8) : (mkS a).size = a.length := rfl
theorem below_grown {w : World} (k : Nat) (os : Array Obj) : Below w.heap.size w (Go.Sort.grow (w.drewN k) os) :=
  (Below.refl _ w |> fun h => below_drewN h k).trans ⟨rfl, rfl, rfl, by simp [Go.Sort.grow], fun k' hk => by
    simp only [Go.Sort.grow]
    rw [Array.getElem?_append_left (by simpa using hk)]⟩
theorem formatInt (n : Int) (h0 : -9223372036854775808 ≤ n) (h1 : n ≤ 9223372036854775807) : Pure G0 67 [.int .i64 n, .int .i64 10] (fun r => r = .str (mkS (Go.Lib.itoa n))) := Pure.of_str fun E w vs hh hv => by
  obtain ⟨v, us, rfl, hv1, hus⟩ := hv.cons_inv
  obtain ⟨u, us2, rfl, hv2, hus2⟩ := hus.cons_inv
  obtain rfl := hus2.nil_inv
  obtain rfl := hv1.int_inv
  obtain rfl := hv2.int_inv
  have hg := hh.gl.2 1 g1 rfl
  have ht : g1 = Go.Lib.pow10Tab.map (PV.int .u64) := by kernel_rfl
  rw [ht] at hg
  refine (Tryd.strconv_FormatInt_10 n h0 h1 w (GRep.tab (by kernel_rfl) hg)).mono ?_
  rintro e w' ⟨rfl, k, os, rfl⟩
  exact ⟨rfl, below_grown k os⟩
def Small (d : Dat) : Prop := d.ok ∧ d.rng ∧ parts d ≤ 400000
theorem deepN_parts : ∀ d : Dat, deepN d ≤ parts d := by
  have key : (∀ N, (∀ d : Dat, d.size < N → deepN d ≤ parts d) ∧ (∀ ks : Dats, ks.size < N → deepNL ks ≤ partsL ks)) := by
    intro N
    induction N with
    | zero => exact ⟨fun d h => by omega, fun d h => by omega⟩
    | succ N ih =>
      refine ⟨fun d hd => ?_, fun ks hk => ?_⟩
      · obtain ⟨k, n, s, ks⟩ := d
        simp only [Dat.size] at hd
        have := ih.2 ks (by omega)
        simp only [deepN, parts]
        omega
      · cases ks with
        | nil => exact Nat.le_refl _
        | cons d ds =>
          simp only [Dats.size] at hk
          have h1 := ih.1 d (by omega)
          have h2 := ih.2 ds (by omega)
          simp only [deepNL, partsL]
          omega
  exact fun d => (key (d.size + 1)).1 d (by omega)
mutual
theorem cutD_rng : ∀ (d : Dat) (dp p : Int), d.rng → (cutD d dp p).1.rng
  | .mk k n s ks, dp, p, h => ⟨h.1, cutL_rng ks dp (p - 1) h.2⟩
theorem cutL_rng : ∀ (ks : Dats) (dp p : Int), ks.rng → (cutL ks dp p).1.rng
  | .nil, dp, p, h => by simp only [cutL, Dats.rng]
  | .cons d ds, dp, p, h => by
    simp only [cutL]
    split
    · exact ⟨cutD_rng d (dp - 1) p h.1, cutL_rng ds dp _ h.2⟩
    · trivial
end
theorem cut_small (d : Dat) (ho : d.ok) (hr : d.rng) (p dp : Int) (h1 : 1 ≤ p) (h2 : p ≤ 400000) : Small (cutD d dp p).1 := ⟨cutD_ok d dp p ho, cutD_rng d dp p hr, by have := cutD_parts d dp p h1; omega⟩
theorem Small.good {d : Dat} (h : Small d) : Good d := ⟨h.1, by have := deepN_parts d; have := h.2.2; omega⟩
theorem wrapC (a : Nat) (h : a ≤ 9223372036854775807) : IntKind.wrap IntKind.i64 ((a : Nat) : Int) = (a : Int) := by rw [IntKind.wrap_i64]; omega
end Seat
end Go.Proofs.YteimebpgmfhgjaaDoor
namespace Go.Proofs.YteimebpgmfhgjaaDoor
open Go.AS
set_option linter.unusedVariables false
set_option maxRecDepth 100000
namespace Seat
def DecAt (N : Nat) : Prop := ∀ n : Nat, n < N → n < 18446744073709551616 → Pure G0 59 [.int .u64 n] (fun r => r = .str (mkS (Go.Lib.decDigits n)))
def decS (N : Nat) (f : Nat) (args : List PV) : Option (PV × Ob) := match f, args with
  | 59, [.int .u64 z] => some (.str (mkS (Go.Lib.decDigits z.toNat)), [(decide (0 ≤ z ∧ z < (N : Int) ∧ z < 18446744073709551616), true)])
  | _, _ => none
theorem decS_ok {N : Nat} (ih : DecAt N) (f : Nat) (args : List PV) (r : PV) (o : Ob) (h : decS N f args = some (r, o)) (ho : ∀ p ∈ o, p.1 = p.2) (_ : pureL args = true) : Pure G0 f args (fun x => x = r) := by
  unfold decS at h
  split at h
  · rename_i z _
    cases h
    have hz := of_decide_eq_true (ho _ (List.mem_singleton.2 rfl))
    have := ih z.toNat (by omega) (by omega)
    rw [Int.toNat_of_nonneg hz.1] at this
    exact this
  · cases h
noncomputable def SD {N : Nat} (ih : DecAt N) (l : List (Nat × List (Nat × Bool))) : Cfg G0 := { F := F, hF := hF, S := decS N, hS := decS_ok ih, orc := orcM l }
theorem nd_le : ∀ (k u : Nat), u < 10 ^ (k + 1) → Go.Lib.nDigits u ≤ k + 1
  | 0, u, h => by rw [Go.Lib.nDigits_small (by simpa using h)]; exact Nat.le_refl _
  | k + 1, u, h => by
    by_cases hu : u < 10
    · rw [Go.Lib.nDigits_small hu]; omega
    · rw [Go.Lib.nDigits_big hu]
      have := nd_le k (u / 10) (by rw [Nat.pow_succ] at h; omega)
      omega
theorem dec_len (n : Nat) : (Go.Lib.decDigits n).length ≤ n + 1 := by
  induction n using Nat.strongRecOn with
  | _ n ih =>
    rw [Go.Lib.decDigits]
    split
    · simp
    · have := ih (n / 10) (by omega)
      simp only [List.length_append, List.length_cons, List.length_nil]
      omega
theorem byte_mod (m : Nat) (h : m < 10) : UInt8.ofNat (Int.ofNat ((48 + m) % 18446744073709551616 % 256)).toNat = UInt8.ofNat (48 + m) := by
  have h1 : (48 + m) % 18446744073709551616 % 256 = 48 + m := by omega
  rw [h1]; rfl
theorem strOf_byte (m : Nat) (h : m < 10) : strOf [PV.int IntKind.u8 (Int.ofNat ((48 + m) % 18446744073709551616 % 256))] = mkS [UInt8.ofNat (48 + m)] := by
  show mkS [UInt8.ofNat (Int.ofNat ((48 + m) % 18446744073709551616 % 256)).toNat] = _
  rw [byte_mod m h]
theorem decAt (N : Nat) : DecAt N := by
  induction N with
  | zero => intro n h; omega
  | succ N ih =>
    intro n hN hb
    refine Fn.enterB Tryd.func59 Tryd.ntmps59 rfl (Nat.le_of_ble_eq_true rfl) fun C fr fp hnt hnb hp hfr hfp => ?_
    by_cases h10 : n < 10
    · have c : decide ((n : Int) < 10) = true := decide_eq_true (by omega)
      refine SWP.runQ (SD ih [(20, [(4, true)])]) 60 20 hnt [2] (e := .ret) (z := ⟨[(2, .str (strOf [PV.int IntKind.u8 (Int.ofNat ((48 + n) % 18446744073709551616 % 256))]))], ⟨[], []⟩⟩) (o := [(decide ((↑n : Int) < 10), true), (true, true)]) (by kernel_rfl) (by repeat' first | exact okO_nil | refine okN ?_ ?_ | assumption | rfl) (fun st hs => hfr st [2] ?_)
      rw [hs]
      refine FinR.pure (r := .str (strOf [PV.int IntKind.u8 (Int.ofNat ((48 + n) % 18446744073709551616 % 256))])) rfl rfl ?_
      rw [Go.Lib.decDigits, dif_pos h10, strOf_byte n h10]
    · have c : decide ((n : Int) < 10) = false := decide_eq_false (by omega)
      have e1 : IntKind.wrap IntKind.u64 (Int.tdiv (n : Int) 10) = ((n / 10 : Nat) : Int) := by
        rw [show Int.tdiv (n : Int) 10 = ((n / 10 : Nat) : Int) from rfl, IntKind.wrap_u64]
        omega
      have e2 : n / 10 % 18446744073709551616 = n / 10 := by omega
      have d1 : decide (0 ≤ IntKind.wrap IntKind.u64 (Int.tdiv (n : Int) 10) ∧ IntKind.wrap IntKind.u64 (Int.tdiv (n : Int) 10) < (N : Int) ∧ IntKind.wrap IntKind.u64 (Int.tdiv (n : Int) 10) < 18446744073709551616) = true := decide_eq_true (by rw [e1]; omega)
      have d2 : Nat.ble (ByteArray.size (mkS (Lib.decDigits (Int.toNat (Int.ofNat (n / 10 % 18446744073709551616))))) + 1) 9223372036854775807 = true := by
        rw [e2, Nat.ble_eq, mkS_size]
        have := dec_len (n / 10)
        rw [show (Int.ofNat (n / 10)).toNat = n / 10 from rfl]
        omega
      refine SWP.runQ (SD ih [(20, [(4, false), (19, true)])]) 60 20 hnt [2] (e := .ret) (z := ⟨[(2, .str (mkS (Lib.decDigits (Int.toNat (Int.ofNat (n / 10 % 18446744073709551616)))) ++ strOf [PV.int IntKind.u8 (Int.ofNat ((48 + n % 10) % 18446744073709551616 % 256))]))], ⟨[], []⟩⟩) (o := [(decide ((↑n : Int) < 10), false), (false, false), (true, true), (decide (0 ≤ IntKind.wrap IntKind.u64 (Int.tdiv (↑n : Int) 10) ∧ IntKind.wrap IntKind.u64 (Int.tdiv (↑n : Int) 10) < (↑N : Int) ∧ IntKind.wrap IntKind.u64 (Int.tdiv (↑n : Int) 10) < 18446744073709551616), true), (Nat.ble (ByteArray.size (mkS (Lib.decDigits (Int.toNat (Int.ofNat (n / 10 % 18446744073709551616))))) + 1) 9223372036854775807, true), (true, true), (decide (0 ≤ IntKind.wrap IntKind.u64 (Int.tdiv (↑n : Int) 10) ∧ IntKind.wrap IntKind.u64 (Int.tdiv (↑n : Int) 10) < (↑N : Int) ∧ IntKind.wrap IntKind.u64 (Int.tdiv (↑n : Int) 10) < 18446744073709551616), true), (Nat.ble (ByteArray.size (mkS (Lib.decDigits (Int.toNat (Int.ofNat (n / 10 % 18446744073709551616))))) + 1) 9223372036854775807, true), (sameS { t := [(10, PV.int IntKind.u64 (Int.ofNat n)), (11, PV.int IntKind.u64 (Int.ofNat (n / 10 % 18446744073709551616))), (12, PV.str (mkS (Lib.decDigits (Int.toNat (Int.ofNat (n / 10 % 18446744073709551616)))))), (13, PV.int IntKind.u64 (Int.ofNat n)), (14, PV.int IntKind.u64 (Int.ofNat (n % 10))), (15, PV.int IntKind.u64 (Int.ofNat ((48 + n % 10) % 18446744073709551616))), (16, PV.int IntKind.u8 (Int.ofNat ((48 + n % 10) % 18446744073709551616 % 256))), (17, PV.slice 1 [PV.int IntKind.u8 (Int.ofNat ((48 + n % 10) % 18446744073709551616 % 256))]), (18, PV.str (strOf [PV.int IntKind.u8 (Int.ofNat ((48 + n % 10) % 18446744073709551616 % 256))])), (19, PV.str (mkS (Lib.decDigits (Int.toNat (Int.ofNat (n / 10 % 18446744073709551616)))) ++ strOf [PV.int IntKind.u8 (Int.ofNat ((48 + n % 10) % 18446744073709551616 % 256))])), (2, PV.str (mkS (Lib.decDigits (Int.toNat (Int.ofNat (n / 10 % 18446744073709551616)))) ++ strOf [PV.int IntKind.u8 (Int.ofNat ((48 + n % 10) % 18446744073709551616 % 256))])), (4, PV.bool false), (4, PV.bool false), (3, PV.int IntKind.u64 (Int.ofNat n)), (2, PV.str (mkS (Lib.decDigits (Int.toNat (Int.ofNat (n / 10 % 18446744073709551616)))) ++ strOf [PV.int IntKind.u8 (Int.ofNat ((48 + n % 10) % 18446744073709551616 % 256))])), (0, PV.int IntKind.u64 (Int.ofNat n))], h := { bx := [], rw := [] } } { t := [(10, PV.int IntKind.u64 (Int.ofNat n)), (11, PV.int IntKind.u64 (Int.ofNat (n / 10 % 18446744073709551616))), (12, PV.str (mkS (Lib.decDigits (Int.toNat (Int.ofNat (n / 10 % 18446744073709551616)))))), (13, PV.int IntKind.u64 (Int.ofNat n)), (14, PV.int IntKind.u64 (Int.ofNat (n % 10))), (15, PV.int IntKind.u64 (Int.ofNat ((48 + n % 10) % 18446744073709551616))), (16, PV.int IntKind.u8 (Int.ofNat ((48 + n % 10) % 18446744073709551616 % 256))), (17, PV.slice 1 [PV.int IntKind.u8 (Int.ofNat ((48 + n % 10) % 18446744073709551616 % 256))]), (18, PV.str (strOf [PV.int IntKind.u8 (Int.ofNat ((48 + n % 10) % 18446744073709551616 % 256))])), (19, PV.str (mkS (Lib.decDigits (Int.toNat (Int.ofNat (n / 10 % 18446744073709551616)))) ++ strOf [PV.int IntKind.u8 (Int.ofNat ((48 + n % 10) % 18446744073709551616 % 256))])), (2, PV.str (mkS (Lib.decDigits (Int.toNat (Int.ofNat (n / 10 % 18446744073709551616)))) ++ strOf [PV.int IntKind.u8 (Int.ofNat ((48 + n % 10) % 18446744073709551616 % 256))])), (4, PV.bool false), (4, PV.bool false), (3, PV.int IntKind.u64 (Int.ofNat n)), (2, PV.str (mkS (Lib.decDigits (Int.toNat (Int.ofNat (n / 10 % 18446744073709551616)))) ++ strOf [PV.int IntKind.u8 (Int.ofNat ((48 + n % 10) % 18446744073709551616 % 256))])), (0, PV.int IntKind.u64 (Int.ofNat n))], h := { bx := [], rw := [] } }, true)]) (by kernel_rfl) (by ((repeat' (first | exact okO_nil | refine okN ?_ ?_)); all_goals first | assumption | rfl | exact same_of rfl | exact sameS_self _ | (simp only [decide_eq_true_eq, decide_eq_false_iff_not, Nat.ble_eq, Nat.beq_eq, beq_eq_false_iff_ne, beq_iff_eq, ne_eq] <;> omega))) (fun st hs => hfr st [2] ?_)
      rw [hs]
      have key : mkS (Lib.decDigits (Int.toNat (Int.ofNat (n / 10 % 18446744073709551616)))) ++ strOf [PV.int IntKind.u8 (Int.ofNat ((48 + n % 10) % 18446744073709551616 % 256))] = mkS (Lib.decDigits n) := by
        rw [strOf_byte (n % 10) (by omega), mkS_append, e2]
        conv => rhs; rw [Go.Lib.decDigits, dif_neg h10]
        rfl
      exact FinR.pure rfl rfl (congrArg PV.str key)
theorem dec_ref (n : Int) (h0 : -9223372036854775808 ≤ n) (h1 : n ≤ 9223372036854775807) : Pure G0 38 [.int .i64 n] (fun r => r = .str (mkS (Go.Lib.itoa n))) := by
  have ih := decAt 18446744073709551616
  refine Fn.enterB Tryd.func38 Tryd.ntmps38 rfl (Nat.le_of_ble_eq_true rfl) fun C fr fp hnt hnb hp hfr hfp => ?_
  by_cases hn : n < 0
  · have c : decide (n < 0) = true := decide_eq_true hn
    have e1 : IntKind.wrap IntKind.u64 (0 - IntKind.wrap IntKind.u64 n) = -n := by
      rw [IntKind.wrap_u64, IntKind.wrap_u64]
      omega
    have d1 : decide (0 ≤ IntKind.wrap IntKind.u64 (0 - IntKind.wrap IntKind.u64 n) ∧ IntKind.wrap IntKind.u64 (0 - IntKind.wrap IntKind.u64 n) < ((18446744073709551616 : Nat) : Int) ∧ IntKind.wrap IntKind.u64 (0 - IntKind.wrap IntKind.u64 n) < 18446744073709551616) = true := decide_eq_true (by rw [e1]; omega)
    have d2 : Nat.ble (1 + ByteArray.size (mkS (Lib.decDigits (Int.toNat (IntKind.wrap IntKind.u64 ((0 : Int) - IntKind.wrap IntKind.u64 n)))))) 9223372036854775807 = true := by
      rw [e1, Nat.ble_eq, mkS_size, Go.Lib.decDigits_length]
      have := nd_le 19 (-n).toNat (by omega)
      omega
    refine SWP.runQ (SD ih [(13, [(4, true), (9, true)])]) 60 13 hnt [2] (e := .ret) (z := ⟨[(2, .str (⟨#[45]⟩ ++ mkS (Lib.decDigits (Int.toNat (IntKind.wrap IntKind.u64 ((0 : Int) - IntKind.wrap IntKind.u64 n))))))], ⟨[], []⟩⟩) (o := [(decide (n < 0), true), (true, true), (true, true), (decide (0 ≤ IntKind.wrap IntKind.u64 (0 - IntKind.wrap IntKind.u64 n) ∧ IntKind.wrap IntKind.u64 (0 - IntKind.wrap IntKind.u64 n) < ((18446744073709551616 : Nat) : Int) ∧ IntKind.wrap IntKind.u64 (0 - IntKind.wrap IntKind.u64 n) < 18446744073709551616), true), (Nat.ble (1 + ByteArray.size (mkS (Lib.decDigits (Int.toNat (IntKind.wrap IntKind.u64 ((0 : Int) - IntKind.wrap IntKind.u64 n)))))) 9223372036854775807, true)]) (by kernel_rfl) (by repeat' first | exact okO_nil | refine okN ?_ ?_ | assumption | rfl) (fun st hs => hfr st [2] ?_)
    rw [hs]
    refine FinR.pure rfl rfl ?_
    rw [e1, Go.Lib.itoa, if_pos hn]
    have : (-n).toNat = n.natAbs := by omega
    rw [this]
    exact congrArg PV.str (mkS_append [45] _)
  · have c : decide (n < 0) = false := decide_eq_false hn
    have e1 : IntKind.wrap IntKind.u64 n = n := by rw [IntKind.wrap_u64]; omega
    have d1 : decide (0 ≤ IntKind.wrap IntKind.u64 n ∧ IntKind.wrap IntKind.u64 n < ((18446744073709551616 : Nat) : Int) ∧ IntKind.wrap IntKind.u64 n < 18446744073709551616) = true := decide_eq_true (by rw [e1]; omega)
    refine SWP.runQ (SD ih [(13, [(4, false), (9, true)])]) 60 13 hnt [2] (e := .ret) (z := ⟨[(2, .str (mkS (Lib.decDigits (Int.toNat (IntKind.wrap IntKind.u64 n)))))], ⟨[], []⟩⟩) (o := [(decide (n < 0), false), (false, false), (true, true), (decide (0 ≤ IntKind.wrap IntKind.u64 n ∧ IntKind.wrap IntKind.u64 n < ((18446744073709551616 : Nat) : Int) ∧ IntKind.wrap IntKind.u64 n < 18446744073709551616), true)]) (by kernel_rfl) (by repeat' first | exact okO_nil | refine okN ?_ ?_ | assumption | rfl) (fun st hs => hfr st [2] ?_)
    rw [hs]
    refine FinR.pure rfl rfl ?_
    rw [e1, Go.Lib.itoa, if_neg hn]
    rfl
theorem itoa_len (n : Int) (h0 : -9223372036854775808 ≤ n) (h1 : n ≤ 9223372036854775807) : (Go.Lib.itoa n).length ≤ 21 := by
  have h10 : ∀ u : Nat, u ≤ 9223372036854775808 → Go.Lib.nDigits u ≤ 20 := fun u hu => nd_le 19 u (by rw [show (10 : Nat) ^ (19 + 1) = 100000000000000000000 from rfl]; omega)
  rw [Go.Lib.itoa]
  split
  · simp only [List.length_cons, Go.Lib.decDigits_length]
    have := h10 n.natAbs (by omega)
    omega
  · rw [Go.Lib.decDigits_length]
    have := h10 n.toNat (by omega)
    omega
end Seat
end Go.Proofs.YteimebpgmfhgjaaDoor
namespace Go.Proofs.YteimebpgmfhgjaaDoor
open Go.AS Go.RowKit
set_option linter.unusedVariables false
set_option linter.unusedSimpArgs false
set_option maxRecDepth 100000
set_option maxHeartbeats 4000000
namespace Seat
def RFormAt (N : Nat) : Prop := ∀ d : Dat, d.size < N → d.ok → Pure G0 41 [.agg d.cells] (fun r => r = .bool (formedD d))
noncomputable def rfS (N : Nat) (f : Nat) (args : List PV) : Option (PV × Ob) := match f, args with
  | 41, [.agg cs] => some (.bool (ofCells formedD false cs), [(isDat N cs, true)])
  | 60, [.str s] => some (.bool (symOk s), [])
  | _, _ => none
theorem rfS_ok {N : Nat} (ih : RFormAt N) (f : Nat) (args : List PV) (r : PV) (o : Ob) (h : rfS N f args = some (r, o)) (ho : ∀ p ∈ o, p.1 = p.2) (_ : pureL args = true) : Pure G0 f args (fun x => x = r) := by
  unfold rfS at h
  split at h
  · cases h
    obtain ⟨d, rfl, h1, h2⟩ := isDat_of (ho _ (List.mem_singleton.2 rfl))
    rw [ofCells_at]
    exact ih d h1 h2
  · cases h
    exact symbol_ok _
  · cases h
noncomputable def SRF {N : Nat} (ih : RFormAt N) (l : List (Nat × List (Nat × Bool))) (v : List (Nat × List (Nat × PV))) : Cfg G0 := { F := F, hF := hF, S := rfS N, hS := rfS_ok ih, orc := orcM l, val := valM v }
theorem rformAt (N : Nat) : RFormAt N := by
  induction N with
  | zero => intro d h; omega
  | succ N ih =>
    intro d hN hok
    obtain ⟨k, n, s, ks⟩ := d
    have hlen := hok.1
    have hks : ks.size < N + 1 := by simp only [Dat.size] at hN; omega
    refine Fn.enterB Tryd.func41 Tryd.ntmps41 rfl (Nat.le_of_ble_eq_true rfl) fun C fr fp hnt hnb hp hfr hfp => ?_
    have fin : ∀ st b H, b = formedD (.mk k n s ks) → nrm [2] st = ⟨[(2, .bool b)], H⟩ → fr st := fun st b H hr hst => hfr st [2] (by
      rw [hst]
      exact ⟨0, .bool b, Nat.le_refl _, Nat.zero_le _, rfl, rfl, rfl, rfl, _, rfl, congrArg PV.bool hr⟩)
    have hl0 : ∀ b, (decide (ks.len = 0)) = b → (Int.ofNat (Dats.len ks) == (0 : Int)) = b := fun b h => by
      rw [← h]
      rcases Nat.eq_zero_or_pos ks.len with h | h
      · rw [h]; rfl
      · rw [decide_eq_false (by omega), beq_eq_false_iff_ne]; show (ks.len : Int) ≠ 0; omega
    have hs0 : ∀ b, (decide (s.size = 0)) = b → (ByteArray.toList s == []) = b := fun b h => by
      rw [← h]
      by_cases h : s.size = 0 <;> simp [str_nil, h]
    by_cases h1 : k = 1
    · have c1 : (k == (1 : Int)) = true := by simpa using h1
      by_cases h2 : s.size = 0
      · have c2 := hs0 true (by simpa using h2)
        by_cases h3 : ks.len = 0
        · have c3 := hl0 true (by simpa using h3)
          exact SWP.runQ (SRF ih [(57, [(7, true), (10, true), (15, true)])] []) 100 57 hnt [2] (e := .ret) (z := ⟨[(2, .bool true)], ⟨[⟨[.int .i64 k, .int .i64 n, .str s, .slice (Dats.len ks) (Dats.cells ks)], 24⟩], []⟩⟩) (o := [(k == (1 : Int), true), (ByteArray.toList s == [], true), (Int.ofNat (Dats.len ks) == (0 : Int), true)]) (by kernel_rfl) (by repeat' first | exact okO_nil | refine okN ?_ ?_ | assumption | rfl) (fun st hs => fin st _ _ (by simp [formedD, h1, h2, h3]) hs)
        · have c3 := hl0 false (by simpa using h3)
          exact SWP.runQ (SRF ih [(57, [(7, true), (10, true), (15, false)])] []) 100 57 hnt [2] (e := .ret) (z := ⟨[(2, .bool false)], ⟨[⟨[.int .i64 k, .int .i64 n, .str s, .slice (Dats.len ks) (Dats.cells ks)], 24⟩], []⟩⟩) (o := [(k == (1 : Int), true), (ByteArray.toList s == [], true), (Int.ofNat (Dats.len ks) == (0 : Int), false)]) (by kernel_rfl) (by repeat' first | exact okO_nil | refine okN ?_ ?_ | assumption | rfl) (fun st hs => fin st _ _ (by simp [formedD, h1, h2, h3]) hs)
      · have c2 := hs0 false (by simpa using h2)
        exact SWP.runQ (SRF ih [(57, [(7, true), (10, false)])] []) 100 57 hnt [2] (e := .ret) (z := ⟨[(2, .bool false)], ⟨[⟨[.int .i64 k, .int .i64 n, .str s, .slice (Dats.len ks) (Dats.cells ks)], 24⟩], []⟩⟩) (o := [(k == (1 : Int), true), (ByteArray.toList s == [], false)]) (by kernel_rfl) (by repeat' first | exact okO_nil | refine okN ?_ ?_ | assumption | rfl) (fun st hs => fin st _ _ (by simp [formedD, h1, h2]) hs)
    have c1 : (k == (1 : Int)) = false := by simpa using h1
    by_cases h2 : k = 2
    · have c2 : (k == (2 : Int)) = true := by simpa using h2
      by_cases h3 : n = 0
      · have c3 : (n == (0 : Int)) = true := by simpa using h3
        cases h4 : symOk s with
        | false => exact SWP.runQ (SRF ih [(57, [(7, false), (18, true), (21, true), (25, false)])] []) 100 57 hnt [2] (e := .ret) (z := ⟨[(2, .bool false)], ⟨[⟨[.int .i64 k, .int .i64 n, .str s, .slice (Dats.len ks) (Dats.cells ks)], 24⟩], []⟩⟩) (o := [(k == (1 : Int), false), (k == (2 : Int), true), (n == (0 : Int), true), (true, true), (symOk s, false)]) (by kernel_rfl) (by repeat' first | exact okO_nil | refine okN ?_ ?_ | assumption | rfl) (fun st hs => fin st _ _ (by simp [formedD, h2, h3, h4]) hs)
        | true =>
          by_cases h5 : ks.len = 0
          · have c5 := hl0 true (by simpa using h5)
            exact SWP.runQ (SRF ih [(57, [(7, false), (18, true), (21, true), (25, true), (31, true)])] []) 100 57 hnt [2] (e := .ret) (z := ⟨[(2, .bool true)], ⟨[⟨[.int .i64 k, .int .i64 n, .str s, .slice (Dats.len ks) (Dats.cells ks)], 24⟩], []⟩⟩) (o := [(k == (1 : Int), false), (k == (2 : Int), true), (n == (0 : Int), true), (true, true), (symOk s, true), (Int.ofNat (Dats.len ks) == (0 : Int), true)]) (by kernel_rfl) (by repeat' first | exact okO_nil | refine okN ?_ ?_ | assumption | rfl) (fun st hs => fin st _ _ (by simp [formedD, h2, h3, h4, h5]) hs)
          · have c5 := hl0 false (by simpa using h5)
            exact SWP.runQ (SRF ih [(57, [(7, false), (18, true), (21, true), (25, true), (31, false)])] []) 100 57 hnt [2] (e := .ret) (z := ⟨[(2, .bool false)], ⟨[⟨[.int .i64 k, .int .i64 n, .str s, .slice (Dats.len ks) (Dats.cells ks)], 24⟩], []⟩⟩) (o := [(k == (1 : Int), false), (k == (2 : Int), true), (n == (0 : Int), true), (true, true), (symOk s, true), (Int.ofNat (Dats.len ks) == (0 : Int), false)]) (by kernel_rfl) (by repeat' first | exact okO_nil | refine okN ?_ ?_ | assumption | rfl) (fun st hs => fin st _ _ (by simp [formedD, h2, h3, h4, h5]) hs)
      · have c3 : (n == (0 : Int)) = false := by simpa using h3
        exact SWP.runQ (SRF ih [(57, [(7, false), (18, true), (21, false)])] []) 100 57 hnt [2] (e := .ret) (z := ⟨[(2, .bool false)], ⟨[⟨[.int .i64 k, .int .i64 n, .str s, .slice (Dats.len ks) (Dats.cells ks)], 24⟩], []⟩⟩) (o := [(k == (1 : Int), false), (k == (2 : Int), true), (n == (0 : Int), false)]) (by kernel_rfl) (by repeat' first | exact okO_nil | refine okN ?_ ?_ | assumption | rfl) (fun st hs => fin st _ _ (by simp [formedD, h2, h3]) hs)
    have c2 : (k == (2 : Int)) = false := by simpa using h2
    by_cases h3 : k = 3
    case neg =>
      have c3 : (k == (3 : Int)) = false := by simpa using h3
      exact SWP.runQ (SRF ih [(57, [(7, false), (18, false), (34, false)])] []) 100 57 hnt [2] (e := .ret) (z := ⟨[(2, .bool false)], ⟨[⟨[.int .i64 k, .int .i64 n, .str s, .slice (Dats.len ks) (Dats.cells ks)], 24⟩], []⟩⟩) (o := [(k == (1 : Int), false), (k == (2 : Int), false), (k == (3 : Int), false)]) (by kernel_rfl) (by repeat' first | exact okO_nil | refine okN ?_ ?_ | assumption | rfl) (fun st hs => fin st _ _ (by simp [formedD, h1, h2, h3]) hs)
    have c3 : (k == (3 : Int)) = true := by simpa using h3
    refine Q.runSeq (SRF ih [(57, [])] []) 100 57 hnt [1] (z := ⟨[(1, .ptr 0 0)], ⟨[⟨[.int .i64 k, .int .i64 n, .str s, .slice (Dats.len ks) (Dats.cells ks)], 24⟩], []⟩⟩) (o := []) (by kernel_rfl) (by repeat' first | exact okO_nil | refine okN ?_ ?_ | assumption | rfl) ?_
    refine Q.seq fun K hK => ?_
    refine Q.runSeq (SRF ih [(57, [])] []) 100 57 hnt [1, 5] (z := ⟨[(1, .ptr 0 0), (5, .int .i64 k)], ⟨[⟨[.int .i64 k, .int .i64 n, .str s, .slice (Dats.len ks) (Dats.cells ks)], 24⟩], []⟩⟩) (o := []) (by kernel_rfl) (by repeat' first | exact okO_nil | refine okN ?_ ?_ | assumption | rfl) ?_
    refine Q.block ?_
    refine Q.runSeq (SRF ih [(57, [(7, false)])] []) 100 57 hnt [1, 5, 6] (z := ⟨[(1, .ptr 0 0), (5, .int .i64 k), (6, .bool false)], ⟨[⟨[.int .i64 k, .int .i64 n, .str s, .slice (Dats.len ks) (Dats.cells ks)], 24⟩], []⟩⟩) (o := [(k == (1 : Int), false)]) (by kernel_rfl) (by repeat' first | exact okO_nil | refine okN ?_ ?_ | assumption | rfl) ?_
    refine Q.cond (b := false) rfl (fun h => by cases h) (fun _ => ?_)
    refine Q.runSeq (SRF ih [(57, [(18, false)])] []) 100 57 hnt [1, 5, 17] (z := ⟨[(1, .ptr 0 0), (5, .int .i64 k), (17, .bool false)], ⟨[⟨[.int .i64 k, .int .i64 n, .str s, .slice (Dats.len ks) (Dats.cells ks)], 24⟩], []⟩⟩) (o := [(k == (2 : Int), false)]) (by kernel_rfl) (by repeat' first | exact okO_nil | refine okN ?_ ?_ | assumption | rfl) ?_
    refine Q.cond (b := false) rfl (fun h => by cases h) (fun _ => ?_)
    refine Q.runSeq (SRF ih [(57, [(34, true)])] []) 100 57 hnt [1, 33] (z := ⟨[(1, .ptr 0 0), (33, .bool true)], ⟨[⟨[.int .i64 k, .int .i64 n, .str s, .slice (Dats.len ks) (Dats.cells ks)], 24⟩], []⟩⟩) (o := [(k == (3 : Int), true)]) (by kernel_rfl) (by repeat' first | exact okO_nil | refine okN ?_ ?_ | assumption | rfl) ?_
    refine Q.cond (b := true) rfl (fun _ => ?_) (fun h => by cases h)
    refine Q.seq fun K2 hK2 => ?_
    refine Q.runSeq (SRF ih [(57, [])] []) 100 57 hnt [1, 3] (z := ⟨[(1, .ptr 0 0), (3, .int .i64 (0 : Int))], ⟨[⟨[.int .i64 k, .int .i64 n, .str s, .slice (Dats.len ks) (Dats.cells ks)], 24⟩], []⟩⟩) (o := []) (by kernel_rfl) (by repeat' first | exact okO_nil | refine okN ?_ ?_ | assumption | rfl) ?_
    refine Q.block ?_
    refine Q.loopI (σ := { j : Nat // j ≤ ks.len ∧ ∀ i, i < j → formedD (ks.get i) = true }) [1, 3] (fun j => ⟨[(1, .ptr 0 0), (3, .int .i64 j.1)], ⟨[⟨[.int .i64 k, .int .i64 n, .str s, .slice ks.len ks.cells], 24⟩], []⟩⟩) (fun j => ks.len - j.1) ⟨0, Nat.zero_le _, fun i h => absurd h (Nat.not_lt_zero _)⟩ rfl fun ⟨j, hj, hl⟩ => ?_
    rcases Nat.lt_or_ge j ks.len with hlt | hge
    · obtain ⟨k', n', s', ks', hget⟩ := Dats.get_mk ks j
      have hsz := Dats.get_size ks j hlt
      have hokj := Dats.get_ok ks j hlt hok.2
      have hck : ofCells formedD false [PV.int IntKind.i64 k', PV.int IntKind.i64 n', PV.str s', PV.slice (Dats.len ks') (Dats.cells ks')] = formedD (ks.get j) := by rw [hget]; exact ofCells_at _ _ (.mk k' n' s' ks')
      rw [hget] at hsz hokj
      have d1 : isDat N [PV.int IntKind.i64 k', PV.int IntKind.i64 n', PV.str s', PV.slice (Dats.len ks') (Dats.cells ks')] = true := isDat_at (d := .mk k' n' s' ks') (by omega) hokj
      have d2 := lt_at hlt
      have d3 := in_at hlt
      have d4 : decide (TD.size d24 ≤ List.length (List.drop (Int.toNat (j : Int) * TD.size d24) (Dats.cells ks))) = true := kid_len hlt
      have d5 := kid_same' hlt hget
      have wj' : IntKind.wrap IntKind.i64 (Int.ofNat (j + 1)) = ((j + 1 : Nat) : Int) := wrapC (j + 1) (by omega)
      cases hf : formedD (ks.get j) with
      | true =>
        rw [hf] at hck
        refine SWP.runQ (SRF ih [(57, [(39, true), (45, true), (46, true), (47, true)])] [(57, [(46, .agg [.int .i64 k', .int .i64 n', .str s', .slice ks'.len ks'.cells])])]) 100 57 hnt [1, 3] (e := .normal) (z := ⟨[(1, .ptr 0 0), (3, .int .i64 (IntKind.wrap IntKind.i64 (Int.ofNat (j + 1))))], ⟨[⟨[.int .i64 k, .int .i64 n, .str s, .slice (Dats.len ks) (Dats.cells ks)], 24⟩], []⟩⟩) (o := [(decide ((↑j : Int) < (↑(Dats.len ks) : Int)), true), (true, true), (decide (0 ≤ (↑j : Int) ∧ (↑j : Int) < (↑(Dats.len ks) : Int)), true), (decide (TD.size d24 ≤ List.length (List.drop (Int.toNat (↑j : Int) * TD.size d24) (Dats.cells ks))), true), (same (PV.agg (List.take 4 (List.drop (Int.toNat (Int.ofNat j) * 4) (Dats.cells ks)))) (PV.agg [PV.int IntKind.i64 k', PV.int IntKind.i64 n', PV.str s', PV.slice (Dats.len ks') (Dats.cells ks')]), true), (true, true), (isDat N [PV.int IntKind.i64 k', PV.int IntKind.i64 n', PV.str s', PV.slice (Dats.len ks') (Dats.cells ks')], true), (ofCells formedD false [PV.int IntKind.i64 k', PV.int IntKind.i64 n', PV.str s', PV.slice (Dats.len ks') (Dats.cells ks')], true)]) (by kernel_rfl) (by repeat' first | exact okO_nil | refine okN ?_ ?_ | assumption | rfl) (fun st hs => ⟨⟨j + 1, hlt, fun i hi => by rcases Nat.lt_or_ge i j with h | h; exact hl i h; rw [show i = j by omega]; exact hf⟩, Nat.sub_lt_sub_left hlt (Nat.lt_succ_self j), ?_⟩)
        rw [hs, wj']
      | false =>
        rw [hf] at hck
        have hnf := formedL_not hlt hf
        exact SWP.runQ (SRF ih [(57, [(39, true), (45, true), (46, true), (47, false)])] [(57, [(46, .agg [.int .i64 k', .int .i64 n', .str s', .slice ks'.len ks'.cells])])]) 100 57 hnt [2] (e := .ret) (z := ⟨[(2, .bool false)], ⟨[⟨[.int .i64 k, .int .i64 n, .str s, .slice (Dats.len ks) (Dats.cells ks)], 24⟩], []⟩⟩) (o := [(decide ((↑j : Int) < (↑(Dats.len ks) : Int)), true), (true, true), (decide (0 ≤ (↑j : Int) ∧ (↑j : Int) < (↑(Dats.len ks) : Int)), true), (decide (TD.size d24 ≤ List.length (List.drop (Int.toNat (↑j : Int) * TD.size d24) (Dats.cells ks))), true), (same (PV.agg (List.take 4 (List.drop (Int.toNat (Int.ofNat j) * 4) (Dats.cells ks)))) (PV.agg [PV.int IntKind.i64 k', PV.int IntKind.i64 n', PV.str s', PV.slice (Dats.len ks') (Dats.cells ks')]), true), (true, true), (isDat N [PV.int IntKind.i64 k', PV.int IntKind.i64 n', PV.str s', PV.slice (Dats.len ks') (Dats.cells ks')], true), (ofCells formedD false [PV.int IntKind.i64 k', PV.int IntKind.i64 n', PV.str s', PV.slice (Dats.len ks') (Dats.cells ks')], false)]) (by kernel_rfl) (by repeat' first | exact okO_nil | refine okN ?_ ?_ | assumption | rfl) (fun st hs => fin st _ _ (by simp [formedD, h1, h2, hnf]) hs)
    · obtain rfl : j = ks.len := by omega
      have d2 := ge_at hge
      have hfl := (formedL_iff ks).2 hl
      refine SWP.runQ (SRF ih [(57, [(39, false)])] []) 100 57 hnt [1] (e := .exit 1) (z := ⟨[(1, .ptr 0 0)], ⟨[⟨[.int .i64 k, .int .i64 n, .str s, .slice (Dats.len ks) (Dats.cells ks)], 24⟩], []⟩⟩) (o := [(decide ((ks.len : Int) < (ks.len : Int)), false), (false, false)]) (by kernel_rfl) (by repeat' first | exact okO_nil | refine okN ?_ ?_ | assumption | rfl) (fun st hs => hK2 st (.norm [1] ?_))
      rw [hs]
      by_cases h4 : n = 0
      · have c4 : (n == (0 : Int)) = true := by simpa using h4
        by_cases h5 : s.size = 0
        · have c5 := hs0 true (by simpa using h5)
          exact SWP.runQ (SRF ih [(57, [(51, true), (55, true)])] []) 100 57 hnt [2] (e := .ret) (z := ⟨[(2, .bool true)], ⟨[⟨[.int .i64 k, .int .i64 n, .str s, .slice (Dats.len ks) (Dats.cells ks)], 24⟩], []⟩⟩) (o := [(n == (0 : Int), true), (ByteArray.toList s == [], true)]) (by kernel_rfl) (by repeat' first | exact okO_nil | refine okN ?_ ?_ | assumption | rfl) (fun st hs => fin st _ _ (by simp [formedD, h3, h4, h5, hfl]) hs)
        · have c5 := hs0 false (by simpa using h5)
          exact SWP.runQ (SRF ih [(57, [(51, true), (55, false)])] []) 100 57 hnt [2] (e := .ret) (z := ⟨[(2, .bool false)], ⟨[⟨[.int .i64 k, .int .i64 n, .str s, .slice (Dats.len ks) (Dats.cells ks)], 24⟩], []⟩⟩) (o := [(n == (0 : Int), true), (ByteArray.toList s == [], false)]) (by kernel_rfl) (by repeat' first | exact okO_nil | refine okN ?_ ?_ | assumption | rfl) (fun st hs => fin st _ _ (by simp [formedD, h3, h4, h5, hfl]) hs)
      · have c4 : (n == (0 : Int)) = false := by simpa using h4
        exact SWP.runQ (SRF ih [(57, [(51, false)])] []) 100 57 hnt [2] (e := .ret) (z := ⟨[(2, .bool false)], ⟨[⟨[.int .i64 k, .int .i64 n, .str s, .slice (Dats.len ks) (Dats.cells ks)], 24⟩], []⟩⟩) (o := [(n == (0 : Int), false)]) (by kernel_rfl) (by repeat' first | exact okO_nil | refine okN ?_ ?_ | assumption | rfl) (fun st hs => fin st _ _ (by simp [formedD, h3, h4, hfl]) hs)
end Seat
end Go.Proofs.YteimebpgmfhgjaaDoor
namespace Go.Proofs.YteimebpgmfhgjaaDoor
open Go.AS Go.RowKit
set_option linter.unusedVariables false
set_option linter.unusedSimpArgs false
set_option maxRecDepth 100000
set_option maxHeartbeats 4000000
namespace Seat
theorem deepL_max : ∀ (ks : Dats) (acc : Int), partsL ks ≤ 1000000 → 0 ≤ acc → (∀ d : Dat, d.size < ks.size + 1 → parts d ≤ 1000000 → deep d = deepN d) → deepL ks acc = max acc (deepNL ks : Int)
  | .nil, acc, _, h, _ => by simp only [deepL, deepNL]; omega
  | .cons d ds, acc, hp, h, ih => by
    simp only [partsL] at hp
    have h1 := ih d (by simp only [Dats.size]; omega) (by omega)
    rw [deepL, h1]
    have h2 : mx acc (deepN d : Int) = max acc (deepN d : Int) := by unfold mx; split <;> omega
    rw [h2, deepL_max ds _ (by omega) (by omega) (fun e he hpe => ih e (by simp only [Dats.size]; omega) hpe)]
    simp only [deepNL]
    omega
theorem deep_eq : ∀ d : Dat, parts d ≤ 1000000 → deep d = (deepN d : Int) := by
  have key : ∀ N, ∀ d : Dat, d.size < N → parts d ≤ 1000000 → deep d = (deepN d : Int) := by
    intro N
    induction N with
    | zero => intro d h; omega
    | succ N ih =>
      intro d hd hp
      obtain ⟨k, n, s, ks⟩ := d
      simp only [Dat.size] at hd
      simp only [parts] at hp
      have h1 := deepL_max ks 0 (by omega) (by omega) fun e he hpe => ih e (by omega) hpe
      have h2 := deepN_parts (.mk k n s ks)
      simp only [deepN, parts] at h2
      simp only [deep, deepN]
      rw [h1, wrap_in' _ (by omega)]
      omega
  exact fun d => key (d.size + 1) d (by omega)
noncomputable def rcS (f : Nat) (args : List PV) : Option (PV × Ob) := match f, args with
  | 41, [.agg cs] => some (.bool (ofCells formedD false cs), [(isOk cs, true)])
  | 42, [.agg cs] => some (.int .i64 (ofCells (fun d => w64 (parts d)) 0 cs), [(isOk cs, true)])
  | 43, [.agg cs] => some (.int .i64 (ofCells deep 0 cs), [(isOk cs, true)])
  | _, _ => none
theorem rcS_ok (f : Nat) (args : List PV) (r : PV) (o : Ob) (h : rcS f args = some (r, o)) (ho : ∀ p ∈ o, p.1 = p.2) (_ : pureL args = true) : Pure G0 f args (fun x => x = r) := by
  unfold rcS at h
  split at h
  · cases h
    obtain ⟨d, rfl, h1⟩ := isOk_of (ho _ (List.mem_singleton.2 rfl))
    rw [ofCells_at]; exact rformAt (d.size + 1) d (by omega) h1
  · cases h
    obtain ⟨d, rfl, h1⟩ := isOk_of (ho _ (List.mem_singleton.2 rfl))
    rw [ofCells_at]; exact parts_ok (d.size + 1) d (by omega) h1
  · cases h
    obtain ⟨d, rfl, h1⟩ := isOk_of (ho _ (List.mem_singleton.2 rfl))
    rw [ofCells_at]; exact deep_ok (d.size + 1) d (by omega) h1
  · cases h
noncomputable def SRC (l : List (Nat × List (Nat × Bool))) : Cfg G0 := { F := F, hF := hF, S := rcS, hS := rcS_ok, orc := orcM l }
theorem rcheck_ok (d : Dat) (hd : Small d) : Pure G0 16 [.agg d.cells] (fun r => r = .int .i64 (chkD d)) := by
  have hdp := deep_eq d (by have := hd.2.2; omega)
  have hg := isOk_at hd.1
  obtain ⟨k, n, s, ks⟩ := d
  have hg : isOk [.int .i64 k, .int .i64 n, .str s, .slice ks.len ks.cells] = true := hg
  have e1 : ∀ {α : Type} (f : Dat → α) (z : α), ofCells f z [.int .i64 k, .int .i64 n, .str s, .slice ks.len ks.cells] = f (.mk k n s ks) := fun f z => ofCells_at f z (.mk k n s ks)
  cases h1 : formedD (.mk k n s ks) with
  | false =>
    have : chkD (.mk k n s ks) = 4 := by simp [chkD, h1]
    rw [this]
    exact Pure.runO (S := SRC [(14, [(4, false)])]) 60 (o := [(true, true), (isOk [.int .i64 k, .int .i64 n, .str s, .slice ks.len ks.cells], true), (ofCells formedD false [.int .i64 k, .int .i64 n, .str s, .slice ks.len ks.cells], false)]) (by kernel_rfl) (by simp [okO, hg, e1, h1])
  | true =>
    by_cases h2 : 100000 < w64 (parts (.mk k n s ks))
    · have : chkD (.mk k n s ks) = 3 := by simp [chkD, h1, h2]
      rw [this]
      exact Pure.runO (S := SRC [(14, [(4, true), (8, true)])]) 60 (o := [(true, true), (isOk [.int .i64 k, .int .i64 n, .str s, .slice ks.len ks.cells], true), (ofCells formedD false [.int .i64 k, .int .i64 n, .str s, .slice ks.len ks.cells], true), (true, true), (isOk [.int .i64 k, .int .i64 n, .str s, .slice ks.len ks.cells], true), (decide (ofCells (fun d => w64 (parts d)) 0 [.int .i64 k, .int .i64 n, .str s, .slice ks.len ks.cells] > 100000), true)]) (by kernel_rfl) (by simp [okO, hg, e1, h1, h2])
    · by_cases h3 : 1000 < (deepN (.mk k n s ks) : Int)
      · have : chkD (.mk k n s ks) = 3 := by simp only [chkD, h1, h2, h3, if_true, if_false]; rfl
        rw [this]
        exact Pure.runO (S := SRC [(14, [(4, true), (8, false), (12, true)])]) 60 (o := [(true, true), (isOk [.int .i64 k, .int .i64 n, .str s, .slice ks.len ks.cells], true), (ofCells formedD false [.int .i64 k, .int .i64 n, .str s, .slice ks.len ks.cells], true), (true, true), (isOk [.int .i64 k, .int .i64 n, .str s, .slice ks.len ks.cells], true), (decide (ofCells (fun d => w64 (parts d)) 0 [.int .i64 k, .int .i64 n, .str s, .slice ks.len ks.cells] > 100000), false), (true, true), (isOk [.int .i64 k, .int .i64 n, .str s, .slice ks.len ks.cells], true), (decide (ofCells deep 0 [.int .i64 k, .int .i64 n, .str s, .slice ks.len ks.cells] > 1000), true)]) (by kernel_rfl) (by simp [okO, hg, e1, h1, h2, hdp]; omega)
      · have : chkD (.mk k n s ks) = 0 := by simp only [chkD, h1, h2, h3, if_true, if_false]; rfl
        rw [this]
        exact Pure.runO (S := SRC [(14, [(4, true), (8, false), (12, false)])]) 60 (o := [(true, true), (isOk [.int .i64 k, .int .i64 n, .str s, .slice ks.len ks.cells], true), (ofCells formedD false [.int .i64 k, .int .i64 n, .str s, .slice ks.len ks.cells], true), (true, true), (isOk [.int .i64 k, .int .i64 n, .str s, .slice ks.len ks.cells], true), (decide (ofCells (fun d => w64 (parts d)) 0 [.int .i64 k, .int .i64 n, .str s, .slice ks.len ks.cells] > 100000), false), (true, true), (isOk [.int .i64 k, .int .i64 n, .str s, .slice ks.len ks.cells], true), (decide (ofCells deep 0 [.int .i64 k, .int .i64 n, .str s, .slice ks.len ks.cells] > 1000), false)]) (by kernel_rfl) (by simp [okO, hg, e1, h1, h2, hdp]; omega)
end Seat
end Go.Proofs.YteimebpgmfhgjaaDoor
namespace Go.Proofs.YteimebpgmfhgjaaDoor
open Go.AS
set_option linter.unusedVariables false
set_option linter.unusedSimpArgs false
set_option maxRecDepth 100000
namespace Seat
theorem takeC : ∀ (ks : Dats) (j : Nat), j < ks.len → (ks.take (j + 1)).cells = (ks.take j).cells ++ (ks.get j).cells
  | .nil, _, h => by simp [Dats.len] at h
  | .cons d ds, 0, _ => by simp [Dats.take, Dats.cells, Dats.get]
  | .cons d ds, j + 1, h => by
    have := takeC ds j (by simp only [Dats.len] at h; omega)
    simp only [Dats.take, Dats.cells, Dats.get, List.append_assoc] at this ⊢
    rw [this]
theorem take_all : ∀ ks : Dats, ks.take ks.len = ks
  | .nil => by simp [Dats.len, Dats.take]
  | .cons d ds => by simp only [Dats.len, Dats.take, take_all ds]
def DX (k n : Int) (s : ByteArray) (x : PV) : Box := ⟨[.int .i64 k, .int .i64 n, .str s, x], 24⟩
def CopyA (N : Nat) : Prop := ∀ d : Dat, d.size < N → smallD d → Pure G0 37 [.agg d.cells] (fun r => r = .agg d.cells)
noncomputable def copS (N : Nat) (f : Nat) (args : List PV) : Option (PV × Ob) := match f, args with
  | 37, [.agg cs] => some (.agg cs, [(isSmall N cs, true)])
  | _, _ => none
theorem copS_ok {N : Nat} (ih : CopyA N) (f : Nat) (args : List PV) (r : PV) (o : Ob) (h : copS N f args = some (r, o)) (ho : ∀ p ∈ o, p.1 = p.2) (hpu : pureL args = true) : Pure G0 f args (fun x => x = r) := by
  clear hpu
  unfold copS at h
  split at h
  · cases h
    obtain ⟨d, rfl, h1, h2⟩ := isSmall_of (ho _ (List.mem_singleton.2 rfl))
    exact ih d h1 h2
  · cases h
noncomputable def SX {N : Nat} (ih : CopyA N) (l : List (Nat × List (Nat × Bool))) (v : List (Nat × List (Nat × PV))) : Cfg G0 := { F := F, hF := hF, S := copS N, hS := copS_ok ih, orc := orcM l, val := valM v }
theorem copyA (N : Nat) : CopyA N := by
  induction N with
  | zero => intro d h; omega
  | succ N ih =>
    intro d hN hsm
    obtain ⟨k, n, s, ks⟩ := d
    have hks : ks.size < N + 1 := by simp only [Dat.size] at hN; omega
    have hlen := hsm.1
    refine Fn.enterN Tryd.func37 Tryd.ntmps37 rfl (Nat.le_of_ble_eq_true rfl) fun C fr fp hnt hp hfr hfp => ?_
    refine Q.runSeq (SX ih [] []) 60 31 hnt [1, 2] (z := ⟨[(1, .ptr 0 0), (2, .ptr 1 0)], ⟨[DX k n s (.slice ks.len ks.cells), DX 0 0 ⟨#[]⟩ .nil], []⟩⟩) (o := []) (by kernel_rfl) okO_nil ?_
    refine Q.runSeq (SX ih [] []) 60 31 hnt [1, 2, 3] (z := ⟨[(1, .ptr 0 0), (2, .ptr 1 0), (3, .ptr 2 0)], ⟨[DX k n s (.slice ks.len ks.cells), DX 0 0 ⟨#[]⟩ .nil, DX k n s .nil], []⟩⟩) (o := []) (by kernel_rfl) okO_nil ?_
    refine SWP.adoptB 2 3 (x := DX k n s .nil) 24 4 rfl rfl ?_
    refine Q.seq fun K hK => ?_
    let H (cs : List PV) (j : Nat) : Hp := ⟨[DX k n s (.slice ks.len ks.cells), DX 0 0 ⟨#[]⟩ .nil, DX k n s (.own 0 j)], [some ⟨cs, j, 24, 4⟩]⟩
    let T (cs : List PV) (j : Nat) : AS := ⟨[(1, .ptr 0 0), (2, .ptr 1 0), (3, .ptr 2 0), (4, .int .i64 j)], H cs j⟩
    refine Q.runSeq (SX ih [] []) 60 31 hnt [1, 2, 3, 4] (z := T [] 0) (o := []) (by kernel_rfl) okO_nil ?_
    refine Q.block ?_
    refine Q.loopI (σ := { j : Nat // j ≤ ks.len }) [1, 2, 3, 4] (fun j => T (ks.take j.1).cells j.1) (fun j => ks.len - j.1) ⟨0, Nat.zero_le _⟩ (by cases ks <;> rfl) fun ⟨j, hj⟩ => ?_
    rcases Nat.lt_or_ge j ks.len with hlt | hge
    · obtain ⟨k', n', s', ks', hget⟩ := Dats.get_mk ks j
      have hsz := Dats.get_size ks j hlt
      have hsj := smallL_get ks j hlt hsm.2
      have htk := takeC ks j hlt
      rw [hget] at hsz hsj htk
      have c1 : isSmall N [.int .i64 k', .int .i64 n', .str s', .slice ks'.len ks'.cells] = true := isSmall_at (d := .mk k' n' s' ks') (by omega) hsj
      refine SWP.runQ (SX ih [(31, [(16, true), (24, true), (25, true), (28, true)])] [(31, [(25, .agg [.int .i64 k', .int .i64 n', .str s', .slice ks'.len ks'.cells])])]) 100 31 hnt [1, 2, 3, 4] (e := .normal) (z := ⟨[(1, .ptr 0 0), (2, .ptr 1 0), (3, .ptr 2 0), (4, .int .i64 (IntKind.i64.wrap ((j : Int) + 1)))], H ((ks.take j).cells ++ [.int .i64 k', .int .i64 n', .str s', .slice ks'.len ks'.cells]) (j + 1)⟩) (o := [(decide ((j : Int) < (ks.len : Int)), true), (true, true), (decide (0 ≤ (j : Int) ∧ (j : Int) < (ks.len : Int)), true), (decide (4 ≤ (ks.cells.drop ((j : Int).toNat * 4)).length), true), (same (.agg ((ks.cells.drop ((j : Int).toNat * 4)).take 4)) (.agg [.int .i64 k', .int .i64 n', .str s', .slice ks'.len ks'.cells]), true), (true, true), (isSmall N [.int .i64 k', .int .i64 n', .str s', .slice ks'.len ks'.cells], true), (true, true), (Nat.ble ((j + 1) * 56) 140737488355328, true), (Nat.ble (j + 1) 9223372036854775807, true)]) (by kernel_rfl) (okO_cons (lt_at hlt) (okO_cons (rfl) (okO_cons (in_at hlt) (okO_cons (kid_len hlt) (okO_cons (kid_same' hlt hget) (okO_cons (rfl) (okO_cons (c1) (okO_cons (rfl) (okO_cons (by rw [Nat.ble_eq]; omega) (okO_cons (by rw [Nat.ble_eq]; omega) okO_nil)))))))))) (fun st hs => ⟨⟨j + 1, hlt⟩, Nat.sub_lt_sub_left hlt (Nat.lt_succ_self j), ?_⟩)
      rw [hs, wrap1 j (by omega)]
      simp only []
      rw [htk]
      rfl
    · obtain rfl : j = ks.len := Nat.le_antisymm hj hge
      simp only [take_all]
      refine SWP.runQ (SX ih [(31, [(16, false)])] []) 100 31 hnt [1, 2, 3] (e := .exit 0) (z := ⟨[(1, .ptr 0 0), (2, .ptr 1 0), (3, .ptr 2 0)], H ks.cells ks.len⟩) (o := [(decide ((ks.len : Int) < (ks.len : Int)), false), (false, false)]) (by kernel_rfl) (okO_cons (ge_at hge) (okO_cons (rfl) okO_nil)) (fun st hs => hK st (.norm [1, 2, 3] ?_))
      rw [hs]
      refine SWP.frz [0] ?_
      refine SWP.runQ (SX ih [] []) 100 31 hnt [2] (e := .ret) (z := ⟨[(2, .ptr 1 0)], ⟨[DX k n s (.slice ks.len ks.cells), DX k n s (.slice ks.len ks.cells), DX k n s (.slice ks.len ks.cells)], [none]⟩⟩) (o := []) (by kernel_rfl) okO_nil (fun st hs => hfr st [2] ?_)
      rw [hs]
      exact ⟨0, .agg [.int .i64 k, .int .i64 n, .str s, .slice ks.len ks.cells], Nat.le_refl _, Nat.zero_le _, rfl, rfl, rfl, rfl, _, rfl, rfl⟩
theorem copy_ok (d : Dat) (h : smallD d) : Pure G0 37 [.agg d.cells] (fun r => r = .agg d.cells) := copyA (d.size + 1) d (Nat.lt_succ_self _) h
end Seat
end Go.Proofs.YteimebpgmfhgjaaDoor
namespace Go.Proofs.YteimebpgmfhgjaaDoor
open Go.AS
set_option linter.unusedVariables false
set_option linter.unusedSimpArgs false
set_option maxRecDepth 100000
namespace Seat
def kindD : Dat → Int
  | .mk k _ _ _ => k
def kB (ks : Dats) : Nat → List Int → Bool
  | _, [] => true
  | i, w :: ws => (w == 0 || kindD (ks.get i) == w) && kB ks (i + 1) ws
def ints (wi : List Int) : List PV := wi.map (PV.int .i64)
noncomputable def SKi (l : List (Nat × List (Nat × Bool))) (v : List (Nat × List (Nat × PV))) : Cfg G0 := { S0 with orc := orcM l, val := valM v }
theorem ints_len (wi : List Int) (i : Nat) (h : i < wi.length) : decide (1 ≤ ((ints wi).drop ((i : Int).toNat * 1)).length) = true := by
  rw [decide_eq_true_eq, Int.toNat_natCast, List.length_drop, ints, List.length_map]; omega
theorem ints_at (wi : List Int) (i : Nat) (w : Int) (h : wi[i]? = some w) : same (((ints wi).drop ((i : Int).toNat * 1)).headD .junk) (.int .i64 w) = true := same_of (by
  rw [Int.toNat_natCast, Nat.mul_one, List.headD_eq_head?_getD, List.head?_drop, ints, List.getElem?_map, h]; rfl)
theorem kid_kind (ks : Dats) (i : Nat) (h : i < ks.len) : same (((ks.cells.drop ((i : Int).toNat * 4)).drop 0).headD .junk) (.int .i64 (kindD (ks.get i))) = true := same_of (by
  have e := congrArg (fun l : List PV => l[0]?) (Dats.get_cells ks i h)
  simp only [List.getElem?_take, List.getElem?_drop] at e
  rw [if_pos (by omega)] at e
  rw [Int.toNat_natCast, List.drop_zero, List.headD_eq_head?_getD, List.head?_drop, ← Nat.add_zero (i * 4), e]
  cases ks.get i; rfl)
theorem kid_one (ks : Dats) (i : Nat) (h : i < ks.len) : decide (1 ≤ ((ks.cells.drop ((i : Int).toNat * 4)).drop 0).length) = true := by
  rw [decide_eq_true_eq, Int.toNat_natCast, List.drop_zero, List.length_drop, Dats.cells_len]; omega
theorem kinds_ok (ks : Dats) (wi : List Int) (hl : wi.length ≤ ks.len) (hm : ks.len ≤ 1000000) : Pure G0 49 [.slice ks.len ks.cells, .slice wi.length (ints wi)] (fun r => r = .bool (kB ks 0 wi)) := by
  refine Fn.enterN Tryd.func49 Tryd.ntmps49 rfl (Nat.le_of_ble_eq_true rfl) fun C fr fp hnt hp hfr hfp => ?_
  refine Q.runSeq S0 60 26 hnt [0, 1] (z := ⟨[(0, .slice ks.len ks.cells), (1, .slice wi.length (ints wi))], ⟨[], []⟩⟩) (o := []) (by kernel_rfl) okO_nil ?_
  refine Q.seq fun K hK => ?_
  let T (i : Nat) : AS := ⟨[(0, .slice ks.len ks.cells), (7, .slice wi.length (ints wi)), (8, .int .i64 wi.length), (9, .int .i64 i)], ⟨[], []⟩⟩
  refine Q.runSeq S0 60 26 hnt [0, 7, 8, 9] (z := T 0) (o := []) (by kernel_rfl) okO_nil ?_
  refine Q.block ?_
  refine Q.loopI (σ := { i : Nat // i ≤ wi.length ∧ kB ks 0 wi = kB ks i (wi.drop i) }) [0, 7, 8, 9] (fun i => T i.1) (fun i => wi.length - i.1) ⟨0, Nat.zero_le _, rfl⟩ rfl fun ⟨i, hi, he⟩ => ?_
  rcases Nat.lt_or_ge i wi.length with hlt | hge
  · obtain ⟨w, hw⟩ : ∃ w, wi[i]? = some w := ⟨_, List.getElem?_eq_getElem hlt⟩
    have hd : wi.drop i = w :: wi.drop (i + 1) := by
      rw [List.drop_eq_getElem_cons hlt]
      rw [List.getElem?_eq_getElem hlt] at hw
      cases hw; rfl
    rw [hd] at he
    simp only [kB] at he
    by_cases h0 : w = 0
    · subst h0
      refine SWP.runQ (SKi [(26, [(10, true), (12, true), (13, true)])] [(26, [(13, .int .i64 0)])]) 60 26 hnt [0, 7, 8, 9] (e := .normal) (z := ⟨[(0, .slice ks.len ks.cells), (7, .slice wi.length (ints wi)), (8, .int .i64 wi.length), (9, .int .i64 (IntKind.i64.wrap ((i : Int) + 1)))], ⟨[], []⟩⟩) (o := [(decide ((i : Int) < (wi.length : Int)), true), (true, true), (decide (0 ≤ (i : Int) ∧ (i : Int) < (wi.length : Int)), true), (decide (1 ≤ ((ints wi).drop ((i : Int).toNat * 1)).length), true), (same (((ints wi).drop ((i : Int).toNat * 1)).headD .junk) (.int .i64 0), true)]) (by kernel_rfl) (okO_cons (lt_at hlt) (okO_cons (rfl) (okO_cons (in_at hlt) (okO_cons (ints_len wi i hlt) (okO_cons (ints_at wi i 0 hw) okO_nil))))) (fun st hs => ⟨⟨i + 1, hlt, by rw [he]; rfl⟩, Nat.sub_lt_sub_left hlt (Nat.lt_succ_self i), ?_⟩)
      rw [hs, wrap1 i (by omega)]
    · by_cases hk : kindD (ks.get i) = w
      · refine SWP.runQ (SKi [(26, [(10, true), (12, true), (13, true), (15, true), (19, true), (21, true), (23, false)])] [(26, [(13, .int .i64 w), (21, .int .i64 (kindD (ks.get i)))])]) 60 26 hnt [0, 7, 8, 9] (e := .normal) (z := ⟨[(0, .slice ks.len ks.cells), (7, .slice wi.length (ints wi)), (8, .int .i64 wi.length), (9, .int .i64 (IntKind.i64.wrap ((i : Int) + 1)))], ⟨[], []⟩⟩) (o := [(decide ((i : Int) < (wi.length : Int)), true), (true, true), (decide (0 ≤ (i : Int) ∧ (i : Int) < (wi.length : Int)), true), (decide (1 ≤ ((ints wi).drop ((i : Int).toNat * 1)).length), true), (same (((ints wi).drop ((i : Int).toNat * 1)).headD .junk) (.int .i64 w), true), (!w == (0 : Int), true), (decide (0 ≤ (i : Int) ∧ (i : Int) < (ks.len : Int)), true), (decide (1 ≤ ((ks.cells.drop ((i : Int).toNat * 4)).drop 0).length), true), (same (((ks.cells.drop ((i : Int).toNat * 4)).drop 0).headD .junk) (.int .i64 (kindD (ks.get i))), true), (!kindD (ks.get i) == w, false)]) (by kernel_rfl) (okO_cons (lt_at hlt) (okO_cons (rfl) (okO_cons (in_at hlt) (okO_cons (ints_len wi i hlt) (okO_cons (ints_at wi i w hw) (okO_cons (by simpa using h0) (okO_cons (in_at (by omega)) (okO_cons (kid_one ks i (by omega)) (okO_cons (kid_kind ks i (by omega)) (okO_cons (by simpa using hk) okO_nil)))))))))) (fun st hs => ⟨⟨i + 1, hlt, by rw [he]; simp [hk]⟩, Nat.sub_lt_sub_left hlt (Nat.lt_succ_self i), ?_⟩)
        rw [hs, wrap1 i (by omega)]
      · refine SWP.runQ (SKi [(26, [(10, true), (12, true), (13, true), (15, true), (19, true), (21, true), (23, true)])] [(26, [(13, .int .i64 w), (21, .int .i64 (kindD (ks.get i)))])]) 60 26 hnt [4] (e := .ret) (z := ⟨[(4, .bool false)], ⟨[], []⟩⟩) (o := [(decide ((i : Int) < (wi.length : Int)), true), (true, true), (decide (0 ≤ (i : Int) ∧ (i : Int) < (wi.length : Int)), true), (decide (1 ≤ ((ints wi).drop ((i : Int).toNat * 1)).length), true), (same (((ints wi).drop ((i : Int).toNat * 1)).headD .junk) (.int .i64 w), true), (!w == (0 : Int), true), (decide (0 ≤ (i : Int) ∧ (i : Int) < (ks.len : Int)), true), (decide (1 ≤ ((ks.cells.drop ((i : Int).toNat * 4)).drop 0).length), true), (same (((ks.cells.drop ((i : Int).toNat * 4)).drop 0).headD .junk) (.int .i64 (kindD (ks.get i))), true), (!kindD (ks.get i) == w, true)]) (by kernel_rfl) (okO_cons (lt_at hlt) (okO_cons (rfl) (okO_cons (in_at hlt) (okO_cons (ints_len wi i hlt) (okO_cons (ints_at wi i w hw) (okO_cons (by simpa using h0) (okO_cons (in_at (by omega)) (okO_cons (kid_one ks i (by omega)) (okO_cons (kid_kind ks i (by omega)) (okO_cons (by simpa using hk) okO_nil)))))))))) (fun st hs => hfr st [4] ?_)
        rw [hs]
        exact ⟨0, .bool false, Nat.le_refl _, Nat.zero_le _, rfl, rfl, rfl, rfl, _, rfl, by rw [he]; simp [h0, hk]⟩
  · have : wi.drop i = [] := List.drop_eq_nil_of_le hge
    rw [this] at he
    refine SWP.runQ (SKi [(26, [(10, false)])] []) 60 26 hnt [] (e := .exit 0) (z := ⟨[], ⟨[], []⟩⟩) (o := [(decide ((i : Int) < (wi.length : Int)), false), (false, false)]) (by kernel_rfl) (okO_cons (ge_at hge) (okO_cons (rfl) okO_nil)) (fun st hs => hK st (.norm [] ?_))
    rw [hs]
    refine SWP.runQ S0 60 26 hnt [4] (e := .ret) (z := ⟨[(4, .bool true)], ⟨[], []⟩⟩) (o := []) (by kernel_rfl) okO_nil (fun st hs => hfr st [4] ?_)
    rw [hs]
    exact ⟨0, .bool true, Nat.le_refl _, Nat.zero_le _, rfl, rfl, rfl, rfl, _, rfl, by rw [he]; rfl⟩
end Seat
end Go.Proofs.YteimebpgmfhgjaaDoor
namespace Go.Proofs.YteimebpgmfhgjaaDoor
open Go.AS
set_option linter.unusedVariables false
set_option linter.unusedSimpArgs false
set_option maxRecDepth 100000
namespace Seat
open Classical in
noncomputable def isSmc (cs : List PV) : Bool := decide (∃ d : Dat, d.cells = cs ∧ Small d)
theorem isSmc_at {d : Dat} {cs : List PV} (e : d.cells = cs) (h : Small d) : isSmc cs = true := by
  unfold isSmc
  classical exact decide_eq_true ⟨d, e, h⟩
theorem isSmc_of {cs : List PV} (h : isSmc cs = true) : ∃ d : Dat, d.cells = cs ∧ Small d := by
  unfold isSmc at h
  classical exact of_decide_eq_true h
noncomputable def szC (cs : List PV) : Nat := ofCells Dat.size 0 cs + 1
def intsOf : List PV → List Int
  | .int _ n :: r => n :: intsOf r
  | _ => []
theorem intsOf_ints : ∀ wi : List Int, intsOf (ints wi) = wi
  | [] => rfl
  | w :: wi => by
    have := intsOf_ints wi
    simp only [ints, List.map_cons, intsOf] at this ⊢
    rw [this]
open Classical in
noncomputable def isKinds (n : Nat) (cs : List PV) (m : Nat) (ws : List PV) : Bool := decide (∃ (ks : Dats) (wi : List Int), ks.cells = cs ∧ ks.len = n ∧ ints wi = ws ∧ wi.length = m ∧ m ≤ n ∧ n ≤ 1000000)
theorem isKinds_of {n m : Nat} {cs ws : List PV} (h : isKinds n cs m ws = true) : ∃ (ks : Dats) (wi : List Int), ks.cells = cs ∧ ks.len = n ∧ ints wi = ws ∧ wi.length = m ∧ m ≤ n ∧ n ≤ 1000000 := by
  unfold isKinds at h
  classical exact of_decide_eq_true h
theorem isKinds_at {n m : Nat} {cs ws : List PV} (h : ∃ (ks : Dats) (wi : List Int), ks.cells = cs ∧ ks.len = n ∧ ints wi = ws ∧ wi.length = m ∧ m ≤ n ∧ n ≤ 1000000) : isKinds n cs m ws = true := by
  unfold isKinds
  classical exact decide_eq_true h
noncomputable def kC (cs ws : List PV) : Bool := ofCellsL (fun ks => kB ks 0 (intsOf ws)) false cs
def inR (n : Int) : Bool := decide (-9223372036854775808 ≤ n ∧ n ≤ 9223372036854775807)
noncomputable def apS (lo : Nat) (f : Nat) (args : List PV) : Option (PV × Ob) := match f, args with
  | 56, [.agg [.int .i64 k, .int .i64 n, .str s, .slice m cs]] => some (.agg [.int .i64 k, .int .i64 n, .str s, .sl (OwnN (szC [.int .i64 k, .int .i64 n, .str s, .slice m cs]) (newS lo)) m cs], [(isSm [.int .i64 k, .int .i64 n, .str s, .slice m cs], true)])
  | 49, [.slice n cs, .slice m ws] => some (.bool (kC cs ws), [(isKinds n cs m ws, true)])
  | 67, [.int .i64 n, .int .i64 10] => some (.str (mkS (Go.Lib.itoa n)), [(inR n, true)])
  | f, args => ordS f (stripL args)
theorem apS_ok (lo : Nat) (f : Nat) (args : List PV) (r : PV) (o : Ob) (h : apS lo f args = some (r, o)) (ho : ∀ p ∈ o, p.1 = p.2) (hpu : pureL args = true) : Pure (G0.at lo) f args (fun x => x = r) := by
  unfold apS at h
  split at h
  · cases h
    obtain ⟨⟨k', n', s', ks'⟩, hc, h1⟩ := isSm_of (ho _ (List.mem_singleton.2 rfl))
    have hsz : szC [.int .i64 k', .int .i64 n', .str s', .slice ks'.len ks'.cells] = (Dat.mk k' n' s' ks').size + 1 := by
      unfold szC
      rw [show [PV.int .i64 k', .int .i64 n', .str s', .slice ks'.len ks'.cells] = (Dat.mk k' n' s' ks').cells from rfl, ofCells_at]
    simp only [Dat.cells, List.cons.injEq, PV.int.injEq, PV.str.injEq, PV.slice.injEq, true_and, and_true] at hc
    obtain ⟨rfl, rfl, rfl, rfl, rfl⟩ := hc
    rw [hsz]
    exact cloneT _ (.mk k' n' s' ks') (Nat.lt_succ_self _) h1 lo
  · cases h
    obtain ⟨ks, wi, rfl, rfl, rfl, rfl, h1, h2⟩ := isKinds_of (ho _ (List.mem_singleton.2 rfl))
    have := kinds_ok ks wi h1 h2
    unfold kC
    rw [ofCellsL_at, intsOf_ints]
    exact this.at rfl lo
  · cases h
    have := of_decide_eq_true (ho (inR _, true) (List.mem_singleton.2 rfl))
    exact (formatInt _ this.1 this.2).at rfl lo
  · exact Pure.strip ((ordS_ok _ _ r o h ho (pureL_strip _ hpu)).at rfl lo)
noncomputable def SAp (lo : Nat) (l : List (Nat × List (Nat × Bool))) (v : List (Nat × List (Nat × PV))) : Cfg (G0.at lo) := { F := F, hF := hF, S := apS lo, hS := apS_ok lo, orc := orcM l, val := valM v }
noncomputable def rfDS (f : Nat) (args : List PV) : Option (PV × Ob) := match f, args with
  | 14, [.agg a, .agg b] => some (.bool (ofCells2 eqD false a b), [(isOk a, true), (isOk b, true)])
  | 37, [.agg cs] => some (.agg cs, [(isSm cs, true)])
  | 16, [.agg cs] => some (.int .i64 (ofCells chkD 0 cs), [(isSmc cs, true)])
  | 38, [.int .i64 n] => some (.str (mkS (Go.Lib.itoa n)), [(inR n, true)])
  | _, _ => none
theorem rfDS_ok (f : Nat) (args : List PV) (r : PV) (o : Ob) (h : rfDS f args = some (r, o)) (ho : ∀ p ∈ o, p.1 = p.2) (hpu : pureL args = true) : Pure G0 f args (fun x => x = r) := by
  clear hpu
  unfold rfDS at h
  split at h
  · cases h
    obtain ⟨d, rfl, h1⟩ := isOk_of (ho _ (List.mem_cons_self ..))
    obtain ⟨e, rfl, h2⟩ := isOk_of (ho (isOk _, true) (List.mem_cons_of_mem _ (List.mem_cons_self ..)))
    rw [ofCells2_at]
    exact same_ok d e h1 h2
  · cases h
    obtain ⟨d, rfl, h1⟩ := isSm_of (ho _ (List.mem_singleton.2 rfl))
    exact copy_ok d h1
  · cases h
    obtain ⟨d, rfl, h1⟩ := isSmc_of (ho _ (List.mem_singleton.2 rfl))
    rw [ofCells_at]
    exact rcheck_ok d h1
  · cases h
    have := of_decide_eq_true (ho (inR _, true) (List.mem_singleton.2 rfl))
    exact dec_ref _ this.1 this.2
  · cases h
noncomputable def SRf (l : List (Nat × List (Nat × Bool))) (v : List (Nat × List (Nat × PV))) : Cfg G0 := { F := F, hF := hF, S := rfDS, hS := rfDS_ok, orc := orcM l, val := valM v }
end Seat
end Go.Proofs.YteimebpgmfhgjaaDoor
namespace Go.Proofs.YteimebpgmfhgjaaDoor
open Go.AS
set_option linter.unusedVariables false
set_option linter.unusedSimpArgs false
set_option maxRecDepth 100000
set_option maxHeartbeats 1000000
namespace Seat
theorem isK2 (d e : Dat) (wi : List Int) {cs : List PV} (hc : (Dats.cons d (.cons e .nil)).cells = cs) (h : wi.length ≤ 2) : isKinds 2 cs wi.length (ints wi) = true := isKinds_at ⟨_, wi, hc, rfl, rfl, rfl, h, by omega⟩
theorem isK1 (d : Dat) (wi : List Int) {cs : List PV} (hc : (Dats.cons d .nil).cells = cs) (h : wi.length ≤ 1) : isKinds 1 cs wi.length (ints wi) = true := isKinds_at ⟨_, wi, hc, rfl, rfl, rfl, h, by omega⟩
theorem kc2 (d e : Dat) (cs : List PV) (a b : Int) (hc : (Dats.cons d (.cons e .nil)).cells = cs) : kC cs [.int .i64 a, .int .i64 b] = ((a == 0 || kindD d == a) && ((b == 0 || kindD e == b) && true)) := by
  rw [kC, ← hc, ofCellsL_at]; rfl
theorem kc1 (d : Dat) (cs : List PV) (a : Int) (hc : (Dats.cons d .nil).cells = cs) : kC cs [.int .i64 a] = ((a == 0 || kindD d == a) && true) := by
  rw [kC, ← hc, ofCellsL_at]; rfl
theorem big1 (k0 n0 k n : Int) (s0 s : ByteArray) (ks rs : Dats) : (Dats.cons (.mk k0 n0 s0 (.cons (.mk k n s ks) rs)) .nil).cells = [.int .i64 k0, .int .i64 n0, .str s0, .slice (1 + rs.len) (.int .i64 k :: .int .i64 n :: .str s :: .slice ks.len ks.cells :: rs.cells)] := by
  simp only [Dats.cells, Dat.cells, Dats.len, List.cons_append, List.nil_append, List.append_nil]
  rw [Nat.add_comm]
theorem big0 (k0 n0 k n : Int) (s0 s : ByteArray) (ks rs : Dats) : (Dat.mk k0 n0 s0 (.cons (.mk k n s ks) rs)).cells = [.int .i64 k0, .int .i64 n0, .str s0, .slice (1 + rs.len) (.int .i64 k :: .int .i64 n :: .str s :: .slice ks.len ks.cells :: rs.cells)] := by
  simp only [Dats.cells, Dat.cells, Dats.len, List.cons_append, List.nil_append, List.append_nil]
  rw [Nat.add_comm]
theorem a_add (lo : Nat) (k0 n0 k1 n1 : Int) (s0 s1 : ByteArray) (ks0 ks1 : Dats) (h0 : k0 = 1) (h1 : k1 = 1) : Pure (G0.at lo) 34 [.str ⟨#[43]⟩, .slice 2 [.int .i64 k0, .int .i64 n0, .str s0, .slice ks0.len ks0.cells, .int .i64 k1, .int .i64 n1, .str s1, .slice ks1.len ks1.cells]] (fun r => r = .tup [.agg [.int .i64 1, .int .i64 (IntKind.i64.wrap (n0 + n1)), .str ⟨#[]⟩, .nil], .int .i64 0]) := by
  have hk : isKinds 2 [.int .i64 k0, .int .i64 n0, .str s0, .slice ks0.len ks0.cells, .int .i64 k1, .int .i64 n1, .str s1, .slice ks1.len ks1.cells] 2 [.int .i64 1, .int .i64 1] = true := isK2 (.mk k0 n0 s0 ks0) (.mk k1 n1 s1 ks1) [1, 1] rfl (by decide)
  have hc : kC [.int .i64 k0, .int .i64 n0, .str s0, .slice ks0.len ks0.cells, .int .i64 k1, .int .i64 n1, .str s1, .slice ks1.len ks1.cells] [.int .i64 1, .int .i64 1] = true := by
    refine (kc2 (.mk k0 n0 s0 ks0) (.mk k1 n1 s1 ks1) _ 1 1 rfl).trans ?_
    simp [kindD, h0, h1]
  refine Pure.runO (S := SAp lo [(168, [(16, false)])] []) 200 (o := [(true, true), (isKinds 2 [.int .i64 k0, .int .i64 n0, .str s0, .slice (Dats.len ks0) (Dats.cells ks0), .int .i64 k1, .int .i64 n1, .str s1, .slice (Dats.len ks1) (Dats.cells ks1)] 2 [.int .i64 1, .int .i64 1], true), (!kC [.int .i64 k0, .int .i64 n0, .str s0, .slice (Dats.len ks0) (Dats.cells ks0), .int .i64 k1, .int .i64 n1, .str s1, .slice (Dats.len ks1) (Dats.cells ks1)] [.int .i64 1, .int .i64 1], false), (false, false)]) (by kernel_rfl) ?_
  (repeat' (first | exact okO_nil | refine okN ?_ ?_))
  all_goals first | rfl | assumption | exact sameS_self _ | (rw [hc]; rfl) | (simp [h0, h1]; done) | (simp only [Nat.ble_eq, Nat.beq_eq, ByteArray.size_append]; omega)
theorem a_addT (lo : Nat) (k0 n0 k1 n1 : Int) (s0 s1 : ByteArray) (ks0 ks1 : Dats) (ht : k0 = 1 → ¬ k1 = 1) : Pure (G0.at lo) 34 [.str ⟨#[43]⟩, .slice 2 [.int .i64 k0, .int .i64 n0, .str s0, .slice ks0.len ks0.cells, .int .i64 k1, .int .i64 n1, .str s1, .slice ks1.len ks1.cells]] (fun r => r = .tup [.agg [.int .i64 0, .int .i64 0, .str ⟨#[]⟩, .nil], .int .i64 (-4)]) := by
  have hk : isKinds 2 [.int .i64 k0, .int .i64 n0, .str s0, .slice ks0.len ks0.cells, .int .i64 k1, .int .i64 n1, .str s1, .slice ks1.len ks1.cells] 2 [.int .i64 1, .int .i64 1] = true := isK2 (.mk k0 n0 s0 ks0) (.mk k1 n1 s1 ks1) [1, 1] rfl (by decide)
  have hc : kC [.int .i64 k0, .int .i64 n0, .str s0, .slice ks0.len ks0.cells, .int .i64 k1, .int .i64 n1, .str s1, .slice ks1.len ks1.cells] [.int .i64 1, .int .i64 1] = false := by
    refine (kc2 (.mk k0 n0 s0 ks0) (.mk k1 n1 s1 ks1) _ 1 1 rfl).trans ?_
    simpa [kindD] using ht
  refine Pure.runO (S := SAp lo [(168, [(16, true)])] []) 200 (o := [(true, true), (isKinds 2 [.int .i64 k0, .int .i64 n0, .str s0, .slice (Dats.len ks0) (Dats.cells ks0), .int .i64 k1, .int .i64 n1, .str s1, .slice (Dats.len ks1) (Dats.cells ks1)] 2 [.int .i64 1, .int .i64 1], true), (!kC [.int .i64 k0, .int .i64 n0, .str s0, .slice (Dats.len ks0) (Dats.cells ks0), .int .i64 k1, .int .i64 n1, .str s1, .slice (Dats.len ks1) (Dats.cells ks1)] [.int .i64 1, .int .i64 1], true), (true, true)]) (by kernel_rfl) ?_
  (repeat' (first | exact okO_nil | refine okN ?_ ?_))
  all_goals first | rfl | assumption | exact sameS_self _ | (rw [hc]; rfl) | (simp [ht]; done) | (simp only [Nat.ble_eq, Nat.beq_eq, ByteArray.size_append]; omega)
theorem r_add (k0 n0 k1 n1 : Int) (s0 s1 : ByteArray) (ks0 ks1 : Dats) (h0 : k0 = 1) (h1 : k1 = 1) : Pure G0 13 [.str ⟨#[43]⟩, .slice 2 [.int .i64 k0, .int .i64 n0, .str s0, .slice ks0.len ks0.cells, .int .i64 k1, .int .i64 n1, .str s1, .slice ks1.len ks1.cells]] (fun r => r = .tup [.agg [.int .i64 1, .int .i64 (IntKind.i64.wrap (n0 + n1)), .str ⟨#[]⟩, .nil], .int .i64 0, .bool true]) := by
  refine Pure.runO (S := SRf [(209, [(190, false), (194, false)])] []) 200 (o := [(!k0 == 1, false), (!k1 == 1, false)]) (by kernel_rfl) ?_
  (repeat' (first | exact okO_nil | refine okN ?_ ?_))
  all_goals first | rfl | assumption | exact sameS_self _ | (simp [h0, h1]; done) | (simp only [Nat.ble_eq, Nat.beq_eq, ByteArray.size_append]; omega)
theorem r_addT0 (k0 n0 k1 n1 : Int) (s0 s1 : ByteArray) (ks0 ks1 : Dats) (h0 : ¬ k0 = 1) : Pure G0 13 [.str ⟨#[43]⟩, .slice 2 [.int .i64 k0, .int .i64 n0, .str s0, .slice ks0.len ks0.cells, .int .i64 k1, .int .i64 n1, .str s1, .slice ks1.len ks1.cells]] (fun r => r = .tup [.agg [.int .i64 0, .int .i64 0, .str ⟨#[]⟩, .nil], .int .i64 (-4), .bool true]) := by
  refine Pure.runO (S := SRf [(209, [(190, true)])] []) 200 (o := [(!k0 == 1, true)]) (by kernel_rfl) ?_
  (repeat' (first | exact okO_nil | refine okN ?_ ?_))
  all_goals first | rfl | assumption | exact sameS_self _ | (simp [h0]; done) | (simp only [Nat.ble_eq, Nat.beq_eq, ByteArray.size_append]; omega)
theorem r_addT1 (k0 n0 k1 n1 : Int) (s0 s1 : ByteArray) (ks0 ks1 : Dats) (h0 : k0 = 1) (h1 : ¬ k1 = 1) : Pure G0 13 [.str ⟨#[43]⟩, .slice 2 [.int .i64 k0, .int .i64 n0, .str s0, .slice ks0.len ks0.cells, .int .i64 k1, .int .i64 n1, .str s1, .slice ks1.len ks1.cells]] (fun r => r = .tup [.agg [.int .i64 0, .int .i64 0, .str ⟨#[]⟩, .nil], .int .i64 (-4), .bool true]) := by
  refine Pure.runO (S := SRf [(209, [(190, false), (194, true)])] []) 200 (o := [(!k0 == 1, false), (!k1 == 1, true)]) (by kernel_rfl) ?_
  (repeat' (first | exact okO_nil | refine okN ?_ ?_))
  all_goals first | rfl | assumption | exact sameS_self _ | (simp [h0, h1]; done) | (simp only [Nat.ble_eq, Nat.beq_eq, ByteArray.size_append]; omega)
theorem a_sub (lo : Nat) (k0 n0 k1 n1 : Int) (s0 s1 : ByteArray) (ks0 ks1 : Dats) (h0 : k0 = 1) (h1 : k1 = 1) : Pure (G0.at lo) 34 [.str ⟨#[45]⟩, .slice 2 [.int .i64 k0, .int .i64 n0, .str s0, .slice ks0.len ks0.cells, .int .i64 k1, .int .i64 n1, .str s1, .slice ks1.len ks1.cells]] (fun r => r = .tup [.agg [.int .i64 1, .int .i64 (IntKind.i64.wrap (n0 - n1)), .str ⟨#[]⟩, .nil], .int .i64 0]) := by
  have hk : isKinds 2 [.int .i64 k0, .int .i64 n0, .str s0, .slice ks0.len ks0.cells, .int .i64 k1, .int .i64 n1, .str s1, .slice ks1.len ks1.cells] 2 [.int .i64 1, .int .i64 1] = true := isK2 (.mk k0 n0 s0 ks0) (.mk k1 n1 s1 ks1) [1, 1] rfl (by decide)
  have hc : kC [.int .i64 k0, .int .i64 n0, .str s0, .slice ks0.len ks0.cells, .int .i64 k1, .int .i64 n1, .str s1, .slice ks1.len ks1.cells] [.int .i64 1, .int .i64 1] = true := by
    refine (kc2 (.mk k0 n0 s0 ks0) (.mk k1 n1 s1 ks1) _ 1 1 rfl).trans ?_
    simp [kindD, h0, h1]
  refine Pure.runO (S := SAp lo [(168, [(16, false)])] []) 200 (o := [(true, true), (isKinds 2 [.int .i64 k0, .int .i64 n0, .str s0, .slice (Dats.len ks0) (Dats.cells ks0), .int .i64 k1, .int .i64 n1, .str s1, .slice (Dats.len ks1) (Dats.cells ks1)] 2 [.int .i64 1, .int .i64 1], true), (!kC [.int .i64 k0, .int .i64 n0, .str s0, .slice (Dats.len ks0) (Dats.cells ks0), .int .i64 k1, .int .i64 n1, .str s1, .slice (Dats.len ks1) (Dats.cells ks1)] [.int .i64 1, .int .i64 1], false), (false, false)]) (by kernel_rfl) ?_
  (repeat' (first | exact okO_nil | refine okN ?_ ?_))
  all_goals first | rfl | assumption | exact sameS_self _ | (rw [hc]; rfl) | (simp [h0, h1]; done) | (simp only [Nat.ble_eq, Nat.beq_eq, ByteArray.size_append]; omega)
theorem a_subT (lo : Nat) (k0 n0 k1 n1 : Int) (s0 s1 : ByteArray) (ks0 ks1 : Dats) (ht : k0 = 1 → ¬ k1 = 1) : Pure (G0.at lo) 34 [.str ⟨#[45]⟩, .slice 2 [.int .i64 k0, .int .i64 n0, .str s0, .slice ks0.len ks0.cells, .int .i64 k1, .int .i64 n1, .str s1, .slice ks1.len ks1.cells]] (fun r => r = .tup [.agg [.int .i64 0, .int .i64 0, .str ⟨#[]⟩, .nil], .int .i64 (-4)]) := by
  have hk : isKinds 2 [.int .i64 k0, .int .i64 n0, .str s0, .slice ks0.len ks0.cells, .int .i64 k1, .int .i64 n1, .str s1, .slice ks1.len ks1.cells] 2 [.int .i64 1, .int .i64 1] = true := isK2 (.mk k0 n0 s0 ks0) (.mk k1 n1 s1 ks1) [1, 1] rfl (by decide)
  have hc : kC [.int .i64 k0, .int .i64 n0, .str s0, .slice ks0.len ks0.cells, .int .i64 k1, .int .i64 n1, .str s1, .slice ks1.len ks1.cells] [.int .i64 1, .int .i64 1] = false := by
    refine (kc2 (.mk k0 n0 s0 ks0) (.mk k1 n1 s1 ks1) _ 1 1 rfl).trans ?_
    simpa [kindD] using ht
  refine Pure.runO (S := SAp lo [(168, [(16, true)])] []) 200 (o := [(true, true), (isKinds 2 [.int .i64 k0, .int .i64 n0, .str s0, .slice (Dats.len ks0) (Dats.cells ks0), .int .i64 k1, .int .i64 n1, .str s1, .slice (Dats.len ks1) (Dats.cells ks1)] 2 [.int .i64 1, .int .i64 1], true), (!kC [.int .i64 k0, .int .i64 n0, .str s0, .slice (Dats.len ks0) (Dats.cells ks0), .int .i64 k1, .int .i64 n1, .str s1, .slice (Dats.len ks1) (Dats.cells ks1)] [.int .i64 1, .int .i64 1], true), (true, true)]) (by kernel_rfl) ?_
  (repeat' (first | exact okO_nil | refine okN ?_ ?_))
  all_goals first | rfl | assumption | exact sameS_self _ | (rw [hc]; rfl) | (simp [ht]; done) | (simp only [Nat.ble_eq, Nat.beq_eq, ByteArray.size_append]; omega)
theorem r_sub (k0 n0 k1 n1 : Int) (s0 s1 : ByteArray) (ks0 ks1 : Dats) (h0 : k0 = 1) (h1 : k1 = 1) : Pure G0 13 [.str ⟨#[45]⟩, .slice 2 [.int .i64 k0, .int .i64 n0, .str s0, .slice ks0.len ks0.cells, .int .i64 k1, .int .i64 n1, .str s1, .slice ks1.len ks1.cells]] (fun r => r = .tup [.agg [.int .i64 1, .int .i64 (IntKind.i64.wrap (n0 - n1)), .str ⟨#[]⟩, .nil], .int .i64 0, .bool true]) := by
  refine Pure.runO (S := SRf [(209, [(190, false), (194, false)])] []) 200 (o := [(!k0 == 1, false), (!k1 == 1, false)]) (by kernel_rfl) ?_
  (repeat' (first | exact okO_nil | refine okN ?_ ?_))
  all_goals first | rfl | assumption | exact sameS_self _ | (simp [h0, h1]; done) | (simp only [Nat.ble_eq, Nat.beq_eq, ByteArray.size_append]; omega)
theorem r_subT0 (k0 n0 k1 n1 : Int) (s0 s1 : ByteArray) (ks0 ks1 : Dats) (h0 : ¬ k0 = 1) : Pure G0 13 [.str ⟨#[45]⟩, .slice 2 [.int .i64 k0, .int .i64 n0, .str s0, .slice ks0.len ks0.cells, .int .i64 k1, .int .i64 n1, .str s1, .slice ks1.len ks1.cells]] (fun r => r = .tup [.agg [.int .i64 0, .int .i64 0, .str ⟨#[]⟩, .nil], .int .i64 (-4), .bool true]) := by
  refine Pure.runO (S := SRf [(209, [(190, true)])] []) 200 (o := [(!k0 == 1, true)]) (by kernel_rfl) ?_
  (repeat' (first | exact okO_nil | refine okN ?_ ?_))
  all_goals first | rfl | assumption | exact sameS_self _ | (simp [h0]; done) | (simp only [Nat.ble_eq, Nat.beq_eq, ByteArray.size_append]; omega)
theorem r_subT1 (k0 n0 k1 n1 : Int) (s0 s1 : ByteArray) (ks0 ks1 : Dats) (h0 : k0 = 1) (h1 : ¬ k1 = 1) : Pure G0 13 [.str ⟨#[45]⟩, .slice 2 [.int .i64 k0, .int .i64 n0, .str s0, .slice ks0.len ks0.cells, .int .i64 k1, .int .i64 n1, .str s1, .slice ks1.len ks1.cells]] (fun r => r = .tup [.agg [.int .i64 0, .int .i64 0, .str ⟨#[]⟩, .nil], .int .i64 (-4), .bool true]) := by
  refine Pure.runO (S := SRf [(209, [(190, false), (194, true)])] []) 200 (o := [(!k0 == 1, false), (!k1 == 1, true)]) (by kernel_rfl) ?_
  (repeat' (first | exact okO_nil | refine okN ?_ ?_))
  all_goals first | rfl | assumption | exact sameS_self _ | (simp [h0, h1]; done) | (simp only [Nat.ble_eq, Nat.beq_eq, ByteArray.size_append]; omega)
theorem a_mul (lo : Nat) (k0 n0 k1 n1 : Int) (s0 s1 : ByteArray) (ks0 ks1 : Dats) (h0 : k0 = 1) (h1 : k1 = 1) : Pure (G0.at lo) 34 [.str ⟨#[42]⟩, .slice 2 [.int .i64 k0, .int .i64 n0, .str s0, .slice ks0.len ks0.cells, .int .i64 k1, .int .i64 n1, .str s1, .slice ks1.len ks1.cells]] (fun r => r = .tup [.agg [.int .i64 1, .int .i64 (IntKind.i64.wrap (n0 * n1)), .str ⟨#[]⟩, .nil], .int .i64 0]) := by
  have hk : isKinds 2 [.int .i64 k0, .int .i64 n0, .str s0, .slice ks0.len ks0.cells, .int .i64 k1, .int .i64 n1, .str s1, .slice ks1.len ks1.cells] 2 [.int .i64 1, .int .i64 1] = true := isK2 (.mk k0 n0 s0 ks0) (.mk k1 n1 s1 ks1) [1, 1] rfl (by decide)
  have hc : kC [.int .i64 k0, .int .i64 n0, .str s0, .slice ks0.len ks0.cells, .int .i64 k1, .int .i64 n1, .str s1, .slice ks1.len ks1.cells] [.int .i64 1, .int .i64 1] = true := by
    refine (kc2 (.mk k0 n0 s0 ks0) (.mk k1 n1 s1 ks1) _ 1 1 rfl).trans ?_
    simp [kindD, h0, h1]
  refine Pure.runO (S := SAp lo [(168, [(16, false)])] []) 200 (o := [(true, true), (isKinds 2 [.int .i64 k0, .int .i64 n0, .str s0, .slice (Dats.len ks0) (Dats.cells ks0), .int .i64 k1, .int .i64 n1, .str s1, .slice (Dats.len ks1) (Dats.cells ks1)] 2 [.int .i64 1, .int .i64 1], true), (!kC [.int .i64 k0, .int .i64 n0, .str s0, .slice (Dats.len ks0) (Dats.cells ks0), .int .i64 k1, .int .i64 n1, .str s1, .slice (Dats.len ks1) (Dats.cells ks1)] [.int .i64 1, .int .i64 1], false), (false, false)]) (by kernel_rfl) ?_
  (repeat' (first | exact okO_nil | refine okN ?_ ?_))
  all_goals first | rfl | assumption | exact sameS_self _ | (rw [hc]; rfl) | (simp [h0, h1]; done) | (simp only [Nat.ble_eq, Nat.beq_eq, ByteArray.size_append]; omega)
theorem a_mulT (lo : Nat) (k0 n0 k1 n1 : Int) (s0 s1 : ByteArray) (ks0 ks1 : Dats) (ht : k0 = 1 → ¬ k1 = 1) : Pure (G0.at lo) 34 [.str ⟨#[42]⟩, .slice 2 [.int .i64 k0, .int .i64 n0, .str s0, .slice ks0.len ks0.cells, .int .i64 k1, .int .i64 n1, .str s1, .slice ks1.len ks1.cells]] (fun r => r = .tup [.agg [.int .i64 0, .int .i64 0, .str ⟨#[]⟩, .nil], .int .i64 (-4)]) := by
  have hk : isKinds 2 [.int .i64 k0, .int .i64 n0, .str s0, .slice ks0.len ks0.cells, .int .i64 k1, .int .i64 n1, .str s1, .slice ks1.len ks1.cells] 2 [.int .i64 1, .int .i64 1] = true := isK2 (.mk k0 n0 s0 ks0) (.mk k1 n1 s1 ks1) [1, 1] rfl (by decide)
  have hc : kC [.int .i64 k0, .int .i64 n0, .str s0, .slice ks0.len ks0.cells, .int .i64 k1, .int .i64 n1, .str s1, .slice ks1.len ks1.cells] [.int .i64 1, .int .i64 1] = false := by
    refine (kc2 (.mk k0 n0 s0 ks0) (.mk k1 n1 s1 ks1) _ 1 1 rfl).trans ?_
    simpa [kindD] using ht
  refine Pure.runO (S := SAp lo [(168, [(16, true)])] []) 200 (o := [(true, true), (isKinds 2 [.int .i64 k0, .int .i64 n0, .str s0, .slice (Dats.len ks0) (Dats.cells ks0), .int .i64 k1, .int .i64 n1, .str s1, .slice (Dats.len ks1) (Dats.cells ks1)] 2 [.int .i64 1, .int .i64 1], true), (!kC [.int .i64 k0, .int .i64 n0, .str s0, .slice (Dats.len ks0) (Dats.cells ks0), .int .i64 k1, .int .i64 n1, .str s1, .slice (Dats.len ks1) (Dats.cells ks1)] [.int .i64 1, .int .i64 1], true), (true, true)]) (by kernel_rfl) ?_
  (repeat' (first | exact okO_nil | refine okN ?_ ?_))
  all_goals first | rfl | assumption | exact sameS_self _ | (rw [hc]; rfl) | (simp [ht]; done) | (simp only [Nat.ble_eq, Nat.beq_eq, ByteArray.size_append]; omega)
theorem r_mul (k0 n0 k1 n1 : Int) (s0 s1 : ByteArray) (ks0 ks1 : Dats) (h0 : k0 = 1) (h1 : k1 = 1) : Pure G0 13 [.str ⟨#[42]⟩, .slice 2 [.int .i64 k0, .int .i64 n0, .str s0, .slice ks0.len ks0.cells, .int .i64 k1, .int .i64 n1, .str s1, .slice ks1.len ks1.cells]] (fun r => r = .tup [.agg [.int .i64 1, .int .i64 (IntKind.i64.wrap (n0 * n1)), .str ⟨#[]⟩, .nil], .int .i64 0, .bool true]) := by
  refine Pure.runO (S := SRf [(209, [(190, false), (194, false)])] []) 200 (o := [(!k0 == 1, false), (!k1 == 1, false)]) (by kernel_rfl) ?_
  (repeat' (first | exact okO_nil | refine okN ?_ ?_))
  all_goals first | rfl | assumption | exact sameS_self _ | (simp [h0, h1]; done) | (simp only [Nat.ble_eq, Nat.beq_eq, ByteArray.size_append]; omega)
theorem r_mulT0 (k0 n0 k1 n1 : Int) (s0 s1 : ByteArray) (ks0 ks1 : Dats) (h0 : ¬ k0 = 1) : Pure G0 13 [.str ⟨#[42]⟩, .slice 2 [.int .i64 k0, .int .i64 n0, .str s0, .slice ks0.len ks0.cells, .int .i64 k1, .int .i64 n1, .str s1, .slice ks1.len ks1.cells]] (fun r => r = .tup [.agg [.int .i64 0, .int .i64 0, .str ⟨#[]⟩, .nil], .int .i64 (-4), .bool true]) := by
  refine Pure.runO (S := SRf [(209, [(190, true)])] []) 200 (o := [(!k0 == 1, true)]) (by kernel_rfl) ?_
  (repeat' (first | exact okO_nil | refine okN ?_ ?_))
  all_goals first | rfl | assumption | exact sameS_self _ | (simp [h0]; done) | (simp only [Nat.ble_eq, Nat.beq_eq, ByteArray.size_append]; omega)
theorem r_mulT1 (k0 n0 k1 n1 : Int) (s0 s1 : ByteArray) (ks0 ks1 : Dats) (h0 : k0 = 1) (h1 : ¬ k1 = 1) : Pure G0 13 [.str ⟨#[42]⟩, .slice 2 [.int .i64 k0, .int .i64 n0, .str s0, .slice ks0.len ks0.cells, .int .i64 k1, .int .i64 n1, .str s1, .slice ks1.len ks1.cells]] (fun r => r = .tup [.agg [.int .i64 0, .int .i64 0, .str ⟨#[]⟩, .nil], .int .i64 (-4), .bool true]) := by
  refine Pure.runO (S := SRf [(209, [(190, false), (194, true)])] []) 200 (o := [(!k0 == 1, false), (!k1 == 1, true)]) (by kernel_rfl) ?_
  (repeat' (first | exact okO_nil | refine okN ?_ ?_))
  all_goals first | rfl | assumption | exact sameS_self _ | (simp [h0, h1]; done) | (simp only [Nat.ble_eq, Nat.beq_eq, ByteArray.size_append]; omega)
theorem a_lssY (lo : Nat) (k0 n0 k1 n1 : Int) (s0 s1 : ByteArray) (ks0 ks1 : Dats) (h0 : k0 = 1) (h1 : k1 = 1) (hl : n0 < n1) : Pure (G0.at lo) 34 [.str ⟨#[60]⟩, .slice 2 [.int .i64 k0, .int .i64 n0, .str s0, .slice ks0.len ks0.cells, .int .i64 k1, .int .i64 n1, .str s1, .slice ks1.len ks1.cells]] (fun r => r = .tup [.agg [.int .i64 1, .int .i64 (1), .str ⟨#[]⟩, .nil], .int .i64 0]) := by
  have hk : isKinds 2 [.int .i64 k0, .int .i64 n0, .str s0, .slice ks0.len ks0.cells, .int .i64 k1, .int .i64 n1, .str s1, .slice ks1.len ks1.cells] 2 [.int .i64 1, .int .i64 1] = true := isK2 (.mk k0 n0 s0 ks0) (.mk k1 n1 s1 ks1) [1, 1] rfl (by decide)
  have hc : kC [.int .i64 k0, .int .i64 n0, .str s0, .slice ks0.len ks0.cells, .int .i64 k1, .int .i64 n1, .str s1, .slice ks1.len ks1.cells] [.int .i64 1, .int .i64 1] = true := by
    refine (kc2 (.mk k0 n0 s0 ks0) (.mk k1 n1 s1 ks1) _ 1 1 rfl).trans ?_
    simp [kindD, h0, h1]
  refine Pure.runO (S := SAp lo [(168, [(16, false)]), (4, [(3, true)])] []) 200 (o := [(true, true), (isKinds 2 [.int .i64 k0, .int .i64 n0, .str s0, .slice (Dats.len ks0) (Dats.cells ks0), .int .i64 k1, .int .i64 n1, .str s1, .slice (Dats.len ks1) (Dats.cells ks1)] 2 [.int .i64 1, .int .i64 1], true), (!kC [.int .i64 k0, .int .i64 n0, .str s0, .slice (Dats.len ks0) (Dats.cells ks0), .int .i64 k1, .int .i64 n1, .str s1, .slice (Dats.len ks1) (Dats.cells ks1)] [.int .i64 1, .int .i64 1], false), (false, false), (decide (n0 < n1), true), (true, true)]) (by kernel_rfl) ?_
  (repeat' (first | exact okO_nil | refine okN ?_ ?_))
  all_goals first | rfl | assumption | exact sameS_self _ | (rw [hc]; rfl) | (simp [h0, h1, hl]; done) | (simp only [Nat.ble_eq, Nat.beq_eq, ByteArray.size_append]; omega)
theorem r_lssY (k0 n0 k1 n1 : Int) (s0 s1 : ByteArray) (ks0 ks1 : Dats) (h0 : k0 = 1) (h1 : k1 = 1) (hl : n0 < n1) : Pure G0 13 [.str ⟨#[60]⟩, .slice 2 [.int .i64 k0, .int .i64 n0, .str s0, .slice ks0.len ks0.cells, .int .i64 k1, .int .i64 n1, .str s1, .slice ks1.len ks1.cells]] (fun r => r = .tup [.agg [.int .i64 1, .int .i64 (1), .str ⟨#[]⟩, .nil], .int .i64 0, .bool true]) := by
  refine Pure.runO (S := SRf [(209, [(190, false), (194, false)]), (8, [(5, true)])] []) 200 (o := [(!k0 == 1, false), (!k1 == 1, false), (decide (n0 < n1), true), (true, true)]) (by kernel_rfl) ?_
  (repeat' (first | exact okO_nil | refine okN ?_ ?_))
  all_goals first | rfl | assumption | exact sameS_self _ | (simp [h0, h1, hl]; done) | (simp only [Nat.ble_eq, Nat.beq_eq, ByteArray.size_append]; omega)
theorem a_lssN (lo : Nat) (k0 n0 k1 n1 : Int) (s0 s1 : ByteArray) (ks0 ks1 : Dats) (h0 : k0 = 1) (h1 : k1 = 1) (hl : ¬ n0 < n1) : Pure (G0.at lo) 34 [.str ⟨#[60]⟩, .slice 2 [.int .i64 k0, .int .i64 n0, .str s0, .slice ks0.len ks0.cells, .int .i64 k1, .int .i64 n1, .str s1, .slice ks1.len ks1.cells]] (fun r => r = .tup [.agg [.int .i64 1, .int .i64 (0), .str ⟨#[]⟩, .nil], .int .i64 0]) := by
  have hk : isKinds 2 [.int .i64 k0, .int .i64 n0, .str s0, .slice ks0.len ks0.cells, .int .i64 k1, .int .i64 n1, .str s1, .slice ks1.len ks1.cells] 2 [.int .i64 1, .int .i64 1] = true := isK2 (.mk k0 n0 s0 ks0) (.mk k1 n1 s1 ks1) [1, 1] rfl (by decide)
  have hc : kC [.int .i64 k0, .int .i64 n0, .str s0, .slice ks0.len ks0.cells, .int .i64 k1, .int .i64 n1, .str s1, .slice ks1.len ks1.cells] [.int .i64 1, .int .i64 1] = true := by
    refine (kc2 (.mk k0 n0 s0 ks0) (.mk k1 n1 s1 ks1) _ 1 1 rfl).trans ?_
    simp [kindD, h0, h1]
  refine Pure.runO (S := SAp lo [(168, [(16, false)]), (4, [(3, false)])] []) 200 (o := [(true, true), (isKinds 2 [.int .i64 k0, .int .i64 n0, .str s0, .slice (Dats.len ks0) (Dats.cells ks0), .int .i64 k1, .int .i64 n1, .str s1, .slice (Dats.len ks1) (Dats.cells ks1)] 2 [.int .i64 1, .int .i64 1], true), (!kC [.int .i64 k0, .int .i64 n0, .str s0, .slice (Dats.len ks0) (Dats.cells ks0), .int .i64 k1, .int .i64 n1, .str s1, .slice (Dats.len ks1) (Dats.cells ks1)] [.int .i64 1, .int .i64 1], false), (false, false), (decide (n0 < n1), false), (false, false)]) (by kernel_rfl) ?_
  (repeat' (first | exact okO_nil | refine okN ?_ ?_))
  all_goals first | rfl | assumption | exact sameS_self _ | (rw [hc]; rfl) | (simp [h0, h1, hl]; done) | (simp only [Nat.ble_eq, Nat.beq_eq, ByteArray.size_append]; omega)
theorem r_lssN (k0 n0 k1 n1 : Int) (s0 s1 : ByteArray) (ks0 ks1 : Dats) (h0 : k0 = 1) (h1 : k1 = 1) (hl : ¬ n0 < n1) : Pure G0 13 [.str ⟨#[60]⟩, .slice 2 [.int .i64 k0, .int .i64 n0, .str s0, .slice ks0.len ks0.cells, .int .i64 k1, .int .i64 n1, .str s1, .slice ks1.len ks1.cells]] (fun r => r = .tup [.agg [.int .i64 1, .int .i64 (0), .str ⟨#[]⟩, .nil], .int .i64 0, .bool true]) := by
  refine Pure.runO (S := SRf [(209, [(190, false), (194, false)]), (8, [(5, false)])] []) 200 (o := [(!k0 == 1, false), (!k1 == 1, false), (decide (n0 < n1), false), (false, false)]) (by kernel_rfl) ?_
  (repeat' (first | exact okO_nil | refine okN ?_ ?_))
  all_goals first | rfl | assumption | exact sameS_self _ | (simp [h0, h1, hl]; done) | (simp only [Nat.ble_eq, Nat.beq_eq, ByteArray.size_append]; omega)
theorem a_lssT (lo : Nat) (k0 n0 k1 n1 : Int) (s0 s1 : ByteArray) (ks0 ks1 : Dats) (ht : k0 = 1 → ¬ k1 = 1) : Pure (G0.at lo) 34 [.str ⟨#[60]⟩, .slice 2 [.int .i64 k0, .int .i64 n0, .str s0, .slice ks0.len ks0.cells, .int .i64 k1, .int .i64 n1, .str s1, .slice ks1.len ks1.cells]] (fun r => r = .tup [.agg [.int .i64 0, .int .i64 0, .str ⟨#[]⟩, .nil], .int .i64 (-4)]) := by
  have hk : isKinds 2 [.int .i64 k0, .int .i64 n0, .str s0, .slice ks0.len ks0.cells, .int .i64 k1, .int .i64 n1, .str s1, .slice ks1.len ks1.cells] 2 [.int .i64 1, .int .i64 1] = true := isK2 (.mk k0 n0 s0 ks0) (.mk k1 n1 s1 ks1) [1, 1] rfl (by decide)
  have hc : kC [.int .i64 k0, .int .i64 n0, .str s0, .slice ks0.len ks0.cells, .int .i64 k1, .int .i64 n1, .str s1, .slice ks1.len ks1.cells] [.int .i64 1, .int .i64 1] = false := by
    refine (kc2 (.mk k0 n0 s0 ks0) (.mk k1 n1 s1 ks1) _ 1 1 rfl).trans ?_
    simpa [kindD] using ht
  refine Pure.runO (S := SAp lo [(168, [(16, true)])] []) 200 (o := [(true, true), (isKinds 2 [.int .i64 k0, .int .i64 n0, .str s0, .slice (Dats.len ks0) (Dats.cells ks0), .int .i64 k1, .int .i64 n1, .str s1, .slice (Dats.len ks1) (Dats.cells ks1)] 2 [.int .i64 1, .int .i64 1], true), (!kC [.int .i64 k0, .int .i64 n0, .str s0, .slice (Dats.len ks0) (Dats.cells ks0), .int .i64 k1, .int .i64 n1, .str s1, .slice (Dats.len ks1) (Dats.cells ks1)] [.int .i64 1, .int .i64 1], true), (true, true)]) (by kernel_rfl) ?_
  (repeat' (first | exact okO_nil | refine okN ?_ ?_))
  all_goals first | rfl | assumption | exact sameS_self _ | (rw [hc]; rfl) | (simp [ht]; done) | (simp only [Nat.ble_eq, Nat.beq_eq, ByteArray.size_append]; omega)
theorem r_lssT0 (k0 n0 k1 n1 : Int) (s0 s1 : ByteArray) (ks0 ks1 : Dats) (h0 : ¬ k0 = 1) : Pure G0 13 [.str ⟨#[60]⟩, .slice 2 [.int .i64 k0, .int .i64 n0, .str s0, .slice ks0.len ks0.cells, .int .i64 k1, .int .i64 n1, .str s1, .slice ks1.len ks1.cells]] (fun r => r = .tup [.agg [.int .i64 0, .int .i64 0, .str ⟨#[]⟩, .nil], .int .i64 (-4), .bool true]) := by
  refine Pure.runO (S := SRf [(209, [(190, true)])] []) 200 (o := [(!k0 == 1, true)]) (by kernel_rfl) ?_
  (repeat' (first | exact okO_nil | refine okN ?_ ?_))
  all_goals first | rfl | assumption | exact sameS_self _ | (simp [h0]; done) | (simp only [Nat.ble_eq, Nat.beq_eq, ByteArray.size_append]; omega)
theorem r_lssT1 (k0 n0 k1 n1 : Int) (s0 s1 : ByteArray) (ks0 ks1 : Dats) (h0 : k0 = 1) (h1 : ¬ k1 = 1) : Pure G0 13 [.str ⟨#[60]⟩, .slice 2 [.int .i64 k0, .int .i64 n0, .str s0, .slice ks0.len ks0.cells, .int .i64 k1, .int .i64 n1, .str s1, .slice ks1.len ks1.cells]] (fun r => r = .tup [.agg [.int .i64 0, .int .i64 0, .str ⟨#[]⟩, .nil], .int .i64 (-4), .bool true]) := by
  refine Pure.runO (S := SRf [(209, [(190, false), (194, true)])] []) 200 (o := [(!k0 == 1, false), (!k1 == 1, true)]) (by kernel_rfl) ?_
  (repeat' (first | exact okO_nil | refine okN ?_ ?_))
  all_goals first | rfl | assumption | exact sameS_self _ | (simp [h0, h1]; done) | (simp only [Nat.ble_eq, Nat.beq_eq, ByteArray.size_append]; omega)
theorem a_quotT (lo : Nat) (k0 n0 k1 n1 : Int) (s0 s1 : ByteArray) (ks0 ks1 : Dats) (ht : k0 = 1 → ¬ k1 = 1) : Pure (G0.at lo) 34 [.str ⟨#[113, 117, 111, 116]⟩, .slice 2 [.int .i64 k0, .int .i64 n0, .str s0, .slice ks0.len ks0.cells, .int .i64 k1, .int .i64 n1, .str s1, .slice ks1.len ks1.cells]] (fun r => r = .tup [.agg [.int .i64 0, .int .i64 0, .str ⟨#[]⟩, .nil], .int .i64 (-4)]) := by
  have hk : isKinds 2 [.int .i64 k0, .int .i64 n0, .str s0, .slice ks0.len ks0.cells, .int .i64 k1, .int .i64 n1, .str s1, .slice ks1.len ks1.cells] 2 [.int .i64 1, .int .i64 1] = true := isK2 (.mk k0 n0 s0 ks0) (.mk k1 n1 s1 ks1) [1, 1] rfl (by decide)
  have hc : kC [.int .i64 k0, .int .i64 n0, .str s0, .slice ks0.len ks0.cells, .int .i64 k1, .int .i64 n1, .str s1, .slice ks1.len ks1.cells] [.int .i64 1, .int .i64 1] = false := by
    refine (kc2 (.mk k0 n0 s0 ks0) (.mk k1 n1 s1 ks1) _ 1 1 rfl).trans ?_
    simpa [kindD] using ht
  refine Pure.runO (S := SAp lo [(168, [(16, true)])] []) 200 (o := [(true, true), (isKinds 2 [.int .i64 k0, .int .i64 n0, .str s0, .slice (Dats.len ks0) (Dats.cells ks0), .int .i64 k1, .int .i64 n1, .str s1, .slice (Dats.len ks1) (Dats.cells ks1)] 2 [.int .i64 1, .int .i64 1], true), (!kC [.int .i64 k0, .int .i64 n0, .str s0, .slice (Dats.len ks0) (Dats.cells ks0), .int .i64 k1, .int .i64 n1, .str s1, .slice (Dats.len ks1) (Dats.cells ks1)] [.int .i64 1, .int .i64 1], true), (true, true)]) (by kernel_rfl) ?_
  (repeat' (first | exact okO_nil | refine okN ?_ ?_))
  all_goals first | rfl | assumption | exact sameS_self _ | (rw [hc]; rfl) | (simp [ht]; done) | (simp only [Nat.ble_eq, Nat.beq_eq, ByteArray.size_append]; omega)
theorem r_quotT0 (k0 n0 k1 n1 : Int) (s0 s1 : ByteArray) (ks0 ks1 : Dats) (h0 : ¬ k0 = 1) : Pure G0 13 [.str ⟨#[113, 117, 111, 116]⟩, .slice 2 [.int .i64 k0, .int .i64 n0, .str s0, .slice ks0.len ks0.cells, .int .i64 k1, .int .i64 n1, .str s1, .slice ks1.len ks1.cells]] (fun r => r = .tup [.agg [.int .i64 0, .int .i64 0, .str ⟨#[]⟩, .nil], .int .i64 (-4), .bool true]) := by
  refine Pure.runO (S := SRf [(209, [(190, true)])] []) 200 (o := [(!k0 == 1, true)]) (by kernel_rfl) ?_
  (repeat' (first | exact okO_nil | refine okN ?_ ?_))
  all_goals first | rfl | assumption | exact sameS_self _ | (simp [h0]; done) | (simp only [Nat.ble_eq, Nat.beq_eq, ByteArray.size_append]; omega)
theorem r_quotT1 (k0 n0 k1 n1 : Int) (s0 s1 : ByteArray) (ks0 ks1 : Dats) (h0 : k0 = 1) (h1 : ¬ k1 = 1) : Pure G0 13 [.str ⟨#[113, 117, 111, 116]⟩, .slice 2 [.int .i64 k0, .int .i64 n0, .str s0, .slice ks0.len ks0.cells, .int .i64 k1, .int .i64 n1, .str s1, .slice ks1.len ks1.cells]] (fun r => r = .tup [.agg [.int .i64 0, .int .i64 0, .str ⟨#[]⟩, .nil], .int .i64 (-4), .bool true]) := by
  refine Pure.runO (S := SRf [(209, [(190, false), (194, true)])] []) 200 (o := [(!k0 == 1, false), (!k1 == 1, true)]) (by kernel_rfl) ?_
  (repeat' (first | exact okO_nil | refine okN ?_ ?_))
  all_goals first | rfl | assumption | exact sameS_self _ | (simp [h0, h1]; done) | (simp only [Nat.ble_eq, Nat.beq_eq, ByteArray.size_append]; omega)
theorem a_quotZ (lo : Nat) (k0 n0 k1 n1 : Int) (s0 s1 : ByteArray) (ks0 ks1 : Dats) (h0 : k0 = 1) (h1 : k1 = 1) (hz : n1 = 0) : Pure (G0.at lo) 34 [.str ⟨#[113, 117, 111, 116]⟩, .slice 2 [.int .i64 k0, .int .i64 n0, .str s0, .slice ks0.len ks0.cells, .int .i64 k1, .int .i64 n1, .str s1, .slice ks1.len ks1.cells]] (fun r => r = .tup [.agg [.int .i64 0, .int .i64 0, .str ⟨#[]⟩, .nil], .int .i64 (-5)]) := by
  have hk : isKinds 2 [.int .i64 k0, .int .i64 n0, .str s0, .slice ks0.len ks0.cells, .int .i64 k1, .int .i64 n1, .str s1, .slice ks1.len ks1.cells] 2 [.int .i64 1, .int .i64 1] = true := isK2 (.mk k0 n0 s0 ks0) (.mk k1 n1 s1 ks1) [1, 1] rfl (by decide)
  have hc : kC [.int .i64 k0, .int .i64 n0, .str s0, .slice ks0.len ks0.cells, .int .i64 k1, .int .i64 n1, .str s1, .slice ks1.len ks1.cells] [.int .i64 1, .int .i64 1] = true := by
    refine (kc2 (.mk k0 n0 s0 ks0) (.mk k1 n1 s1 ks1) _ 1 1 rfl).trans ?_
    simp [kindD, h0, h1]
  refine Pure.runO (S := SAp lo [(168, [(16, false), (163, true)]), (54, [(30, true)])] []) 200 (o := [(true, true), (isKinds 2 [.int .i64 k0, .int .i64 n0, .str s0, .slice (Dats.len ks0) (Dats.cells ks0), .int .i64 k1, .int .i64 n1, .str s1, .slice (Dats.len ks1) (Dats.cells ks1)] 2 [.int .i64 1, .int .i64 1], true), (!kC [.int .i64 k0, .int .i64 n0, .str s0, .slice (Dats.len ks0) (Dats.cells ks0), .int .i64 k1, .int .i64 n1, .str s1, .slice (Dats.len ks1) (Dats.cells ks1)] [.int .i64 1, .int .i64 1], false), (false, false), (n1 == 0, true), (true, true), (true, true), (true, true)]) (by kernel_rfl) ?_
  (repeat' (first | exact okO_nil | refine okN ?_ ?_))
  all_goals first | rfl | assumption | exact sameS_self _ | (rw [hc]; rfl) | (simp [h0, h1, hz]; done) | (simp only [Nat.ble_eq, Nat.beq_eq, ByteArray.size_append]; omega)
theorem r_quotZ (k0 n0 k1 n1 : Int) (s0 s1 : ByteArray) (ks0 ks1 : Dats) (h0 : k0 = 1) (h1 : k1 = 1) (hz : n1 = 0) : Pure G0 13 [.str ⟨#[113, 117, 111, 116]⟩, .slice 2 [.int .i64 k0, .int .i64 n0, .str s0, .slice ks0.len ks0.cells, .int .i64 k1, .int .i64 n1, .str s1, .slice ks1.len ks1.cells]] (fun r => r = .tup [.agg [.int .i64 0, .int .i64 0, .str ⟨#[]⟩, .nil], .int .i64 (-5), .bool true]) := by
  refine Pure.runO (S := SRf [(209, [(190, false), (194, false)]), (84, [(42, true)])] []) 200 (o := [(!k0 == 1, false), (!k1 == 1, false), (n1 == 0, true), (true, true)]) (by kernel_rfl) ?_
  (repeat' (first | exact okO_nil | refine okN ?_ ?_))
  all_goals first | rfl | assumption | exact sameS_self _ | (simp [h0, h1, hz]; done) | (simp only [Nat.ble_eq, Nat.beq_eq, ByteArray.size_append]; omega)
theorem a_quotM (lo : Nat) (k0 n0 k1 n1 : Int) (s0 s1 : ByteArray) (ks0 ks1 : Dats) (h0 : k0 = 1) (h1 : k1 = 1) (hz : n1 = -1) : Pure (G0.at lo) 34 [.str ⟨#[113, 117, 111, 116]⟩, .slice 2 [.int .i64 k0, .int .i64 n0, .str s0, .slice ks0.len ks0.cells, .int .i64 k1, .int .i64 n1, .str s1, .slice ks1.len ks1.cells]] (fun r => r = .tup [.agg [.int .i64 1, .int .i64 (IntKind.i64.wrap (0 - n0)), .str ⟨#[]⟩, .nil], .int .i64 0]) := by
  have hk : isKinds 2 [.int .i64 k0, .int .i64 n0, .str s0, .slice ks0.len ks0.cells, .int .i64 k1, .int .i64 n1, .str s1, .slice ks1.len ks1.cells] 2 [.int .i64 1, .int .i64 1] = true := isK2 (.mk k0 n0 s0 ks0) (.mk k1 n1 s1 ks1) [1, 1] rfl (by decide)
  have hc : kC [.int .i64 k0, .int .i64 n0, .str s0, .slice ks0.len ks0.cells, .int .i64 k1, .int .i64 n1, .str s1, .slice ks1.len ks1.cells] [.int .i64 1, .int .i64 1] = true := by
    refine (kc2 (.mk k0 n0 s0 ks0) (.mk k1 n1 s1 ks1) _ 1 1 rfl).trans ?_
    simp [kindD, h0, h1]
  refine Pure.runO (S := SAp lo [(168, [(16, false)]), (54, [(30, false), (35, true), (42, true)])] []) 200 (o := [(true, true), (isKinds 2 [.int .i64 k0, .int .i64 n0, .str s0, .slice (Dats.len ks0) (Dats.cells ks0), .int .i64 k1, .int .i64 n1, .str s1, .slice (Dats.len ks1) (Dats.cells ks1)] 2 [.int .i64 1, .int .i64 1], true), (!kC [.int .i64 k0, .int .i64 n0, .str s0, .slice (Dats.len ks0) (Dats.cells ks0), .int .i64 k1, .int .i64 n1, .str s1, .slice (Dats.len ks1) (Dats.cells ks1)] [.int .i64 1, .int .i64 1], false), (false, false), (n1 == 0, false), (false, false), (n1 == Int.negSucc 0, true)]) (by kernel_rfl) ?_
  (repeat' (first | exact okO_nil | refine okN ?_ ?_))
  all_goals first | rfl | assumption | exact sameS_self _ | (rw [hc]; rfl) | (simp [h0, h1, hz]; done) | (simp only [Nat.ble_eq, Nat.beq_eq, ByteArray.size_append]; omega)
theorem a_quotG (lo : Nat) (k0 n0 k1 n1 : Int) (s0 s1 : ByteArray) (ks0 ks1 : Dats) (h0 : k0 = 1) (h1 : k1 = 1) (hz : ¬ n1 = 0) (hm : ¬ n1 = -1) : Pure (G0.at lo) 34 [.str ⟨#[113, 117, 111, 116]⟩, .slice 2 [.int .i64 k0, .int .i64 n0, .str s0, .slice ks0.len ks0.cells, .int .i64 k1, .int .i64 n1, .str s1, .slice ks1.len ks1.cells]] (fun r => r = .tup [.agg [.int .i64 1, .int .i64 (IntKind.i64.wrap (n0.tdiv n1)), .str ⟨#[]⟩, .nil], .int .i64 0]) := by
  have hk : isKinds 2 [.int .i64 k0, .int .i64 n0, .str s0, .slice ks0.len ks0.cells, .int .i64 k1, .int .i64 n1, .str s1, .slice ks1.len ks1.cells] 2 [.int .i64 1, .int .i64 1] = true := isK2 (.mk k0 n0 s0 ks0) (.mk k1 n1 s1 ks1) [1, 1] rfl (by decide)
  have hc : kC [.int .i64 k0, .int .i64 n0, .str s0, .slice ks0.len ks0.cells, .int .i64 k1, .int .i64 n1, .str s1, .slice ks1.len ks1.cells] [.int .i64 1, .int .i64 1] = true := by
    refine (kc2 (.mk k0 n0 s0 ks0) (.mk k1 n1 s1 ks1) _ 1 1 rfl).trans ?_
    simp [kindD, h0, h1]
  refine Pure.runO (S := SAp lo [(168, [(16, false)]), (54, [(30, false), (35, false), (42, false), (50, true), (53, true)])] []) 200 (o := [(true, true), (isKinds 2 [.int .i64 k0, .int .i64 n0, .str s0, .slice (Dats.len ks0) (Dats.cells ks0), .int .i64 k1, .int .i64 n1, .str s1, .slice (Dats.len ks1) (Dats.cells ks1)] 2 [.int .i64 1, .int .i64 1], true), (!kC [.int .i64 k0, .int .i64 n0, .str s0, .slice (Dats.len ks0) (Dats.cells ks0), .int .i64 k1, .int .i64 n1, .str s1, .slice (Dats.len ks1) (Dats.cells ks1)] [.int .i64 1, .int .i64 1], false), (false, false), (n1 == 0, false), (false, false), (n1 == Int.negSucc 0, false), (n1 == Int.negSucc 0, false), (false, false), (decide (n1 = 0), false)]) (by kernel_rfl) ?_
  (repeat' (first | exact okO_nil | refine okN ?_ ?_))
  all_goals first | rfl | assumption | exact sameS_self _ | (rw [hc]; rfl) | (simp [h0, h1, hz, hm]; done) | (simp only [Nat.ble_eq, Nat.beq_eq, ByteArray.size_append]; omega)
theorem r_quotyy (k0 n0 k1 n1 : Int) (s0 s1 : ByteArray) (ks0 ks1 : Dats) (h0 : k0 = 1) (h1 : k1 = 1) (hz : ¬ n1 = 0) (ha : n0 < 0) (hb : n1 < 0) (hr : -9223372036854775808 ≤ n1 ∧ n1 ≤ 9223372036854775807) : Pure G0 13 [.str ⟨#[113, 117, 111, 116]⟩, .slice 2 [.int .i64 k0, .int .i64 n0, .str s0, .slice ks0.len ks0.cells, .int .i64 k1, .int .i64 n1, .str s1, .slice ks1.len ks1.cells]] (fun r => r = .tup [.agg [.int .i64 1, .int .i64 (IntKind.i64.wrap (IntKind.u64.wrap ((IntKind.u64.wrap (0 - IntKind.u64.wrap n0)).tdiv (IntKind.u64.wrap (0 - IntKind.u64.wrap n1))))), .str ⟨#[]⟩, .nil], .int .i64 0, .bool true]) := by
  have j0 : decide (IntKind.u64.wrap (0 - IntKind.u64.wrap n1) = 0) = false := by
    rw [decide_eq_false_iff_not]
    simp only [IntKind.wrap_u64]
    omega
  refine Pure.runO (S := SRf [(209, [(190, false), (194, false)]), (84, [(42, false), (52, true), (56, true), (61, true), (64, true), (66, true), (68, true), (73, true)])] []) 200 (o := [(!k0 == 1, false), (!k1 == 1, false), (n1 == 0, false), (false, false), (decide (n0 < 0), true), (true, true), (decide (n1 < 0), true), (true, true), (decide (IntKind.wrap IntKind.u64 (0 - IntKind.wrap IntKind.u64 n1) = 0), false), (decide (IntKind.wrap IntKind.u64 (0 - IntKind.wrap IntKind.u64 n1) = 0), false), (decide (n0 < 0), true), (decide (n1 < 0), true), (decide (n0 < 0), true), (true, true)]) (by kernel_rfl) ?_
  (repeat' (first | exact okO_nil | refine okN ?_ ?_))
  all_goals first | rfl | assumption | exact sameS_self _ | (simp [h0, h1, hz, ha, hb]; done) | (simp only [Nat.ble_eq, Nat.beq_eq, ByteArray.size_append]; omega)
theorem r_quotyn (k0 n0 k1 n1 : Int) (s0 s1 : ByteArray) (ks0 ks1 : Dats) (h0 : k0 = 1) (h1 : k1 = 1) (hz : ¬ n1 = 0) (ha : n0 < 0) (hb : ¬ n1 < 0) (hr : -9223372036854775808 ≤ n1 ∧ n1 ≤ 9223372036854775807) : Pure G0 13 [.str ⟨#[113, 117, 111, 116]⟩, .slice 2 [.int .i64 k0, .int .i64 n0, .str s0, .slice ks0.len ks0.cells, .int .i64 k1, .int .i64 n1, .str s1, .slice ks1.len ks1.cells]] (fun r => r = .tup [.agg [.int .i64 1, .int .i64 (IntKind.i64.wrap (IntKind.u64.wrap (0 - IntKind.u64.wrap ((IntKind.u64.wrap (0 - IntKind.u64.wrap n0)).tdiv (IntKind.u64.wrap n1))))), .str ⟨#[]⟩, .nil], .int .i64 0, .bool true]) := by
  have j0 : decide (IntKind.u64.wrap n1 = 0) = false := by
    rw [decide_eq_false_iff_not]
    simp only [IntKind.wrap_u64]
    omega
  refine Pure.runO (S := SRf [(209, [(190, false), (194, false)]), (84, [(42, false), (52, true), (56, false), (61, true), (64, true), (66, true), (68, false), (73, true)])] []) 200 (o := [(!k0 == 1, false), (!k1 == 1, false), (n1 == 0, false), (false, false), (decide (n0 < 0), true), (true, true), (decide (n1 < 0), false), (false, false), (decide (IntKind.wrap IntKind.u64 n1 = 0), false), (decide (IntKind.wrap IntKind.u64 n1 = 0), false), (decide (n0 < 0), true), (decide (n1 < 0), false), (decide (n0 < 0), true), (true, true)]) (by kernel_rfl) ?_
  (repeat' (first | exact okO_nil | refine okN ?_ ?_))
  all_goals first | rfl | assumption | exact sameS_self _ | (simp [h0, h1, hz, ha, hb]; done) | (simp only [Nat.ble_eq, Nat.beq_eq, ByteArray.size_append]; omega)
theorem r_quotny (k0 n0 k1 n1 : Int) (s0 s1 : ByteArray) (ks0 ks1 : Dats) (h0 : k0 = 1) (h1 : k1 = 1) (hz : ¬ n1 = 0) (ha : ¬ n0 < 0) (hb : n1 < 0) (hr : -9223372036854775808 ≤ n1 ∧ n1 ≤ 9223372036854775807) : Pure G0 13 [.str ⟨#[113, 117, 111, 116]⟩, .slice 2 [.int .i64 k0, .int .i64 n0, .str s0, .slice ks0.len ks0.cells, .int .i64 k1, .int .i64 n1, .str s1, .slice ks1.len ks1.cells]] (fun r => r = .tup [.agg [.int .i64 1, .int .i64 (IntKind.i64.wrap (IntKind.u64.wrap (0 - IntKind.u64.wrap ((IntKind.u64.wrap n0).tdiv (IntKind.u64.wrap (0 - IntKind.u64.wrap n1)))))), .str ⟨#[]⟩, .nil], .int .i64 0, .bool true]) := by
  have j0 : decide (IntKind.u64.wrap (0 - IntKind.u64.wrap n1) = 0) = false := by
    rw [decide_eq_false_iff_not]
    simp only [IntKind.wrap_u64]
    omega
  refine Pure.runO (S := SRf [(209, [(190, false), (194, false)]), (84, [(42, false), (52, false), (56, true), (61, true), (64, true), (66, false), (68, true), (73, false)])] []) 200 (o := [(!k0 == 1, false), (!k1 == 1, false), (n1 == 0, false), (false, false), (decide (n0 < 0), false), (false, false), (decide (n1 < 0), true), (true, true), (decide (IntKind.wrap IntKind.u64 (0 - IntKind.wrap IntKind.u64 n1) = 0), false), (decide (IntKind.wrap IntKind.u64 (0 - IntKind.wrap IntKind.u64 n1) = 0), false), (decide (n0 < 0), false), (decide (n1 < 0), true), (decide (n0 < 0), false), (false, false)]) (by kernel_rfl) ?_
  (repeat' (first | exact okO_nil | refine okN ?_ ?_))
  all_goals first | rfl | assumption | exact sameS_self _ | (simp [h0, h1, hz, ha, hb]; done) | (simp only [Nat.ble_eq, Nat.beq_eq, ByteArray.size_append]; omega)
theorem r_quotnn (k0 n0 k1 n1 : Int) (s0 s1 : ByteArray) (ks0 ks1 : Dats) (h0 : k0 = 1) (h1 : k1 = 1) (hz : ¬ n1 = 0) (ha : ¬ n0 < 0) (hb : ¬ n1 < 0) (hr : -9223372036854775808 ≤ n1 ∧ n1 ≤ 9223372036854775807) : Pure G0 13 [.str ⟨#[113, 117, 111, 116]⟩, .slice 2 [.int .i64 k0, .int .i64 n0, .str s0, .slice ks0.len ks0.cells, .int .i64 k1, .int .i64 n1, .str s1, .slice ks1.len ks1.cells]] (fun r => r = .tup [.agg [.int .i64 1, .int .i64 (IntKind.i64.wrap (IntKind.u64.wrap ((IntKind.u64.wrap n0).tdiv (IntKind.u64.wrap n1)))), .str ⟨#[]⟩, .nil], .int .i64 0, .bool true]) := by
  have j0 : decide (IntKind.u64.wrap n1 = 0) = false := by
    rw [decide_eq_false_iff_not]
    simp only [IntKind.wrap_u64]
    omega
  refine Pure.runO (S := SRf [(209, [(190, false), (194, false)]), (84, [(42, false), (52, false), (56, false), (61, true), (64, true), (66, false), (68, false), (73, false)])] []) 200 (o := [(!k0 == 1, false), (!k1 == 1, false), (n1 == 0, false), (false, false), (decide (n0 < 0), false), (false, false), (decide (n1 < 0), false), (false, false), (decide (IntKind.wrap IntKind.u64 n1 = 0), false), (decide (IntKind.wrap IntKind.u64 n1 = 0), false), (decide (n0 < 0), false), (decide (n1 < 0), false), (decide (n0 < 0), false), (false, false)]) (by kernel_rfl) ?_
  (repeat' (first | exact okO_nil | refine okN ?_ ?_))
  all_goals first | rfl | assumption | exact sameS_self _ | (simp [h0, h1, hz, ha, hb]; done) | (simp only [Nat.ble_eq, Nat.beq_eq, ByteArray.size_append]; omega)
theorem a_remT (lo : Nat) (k0 n0 k1 n1 : Int) (s0 s1 : ByteArray) (ks0 ks1 : Dats) (ht : k0 = 1 → ¬ k1 = 1) : Pure (G0.at lo) 34 [.str ⟨#[114, 101, 109]⟩, .slice 2 [.int .i64 k0, .int .i64 n0, .str s0, .slice ks0.len ks0.cells, .int .i64 k1, .int .i64 n1, .str s1, .slice ks1.len ks1.cells]] (fun r => r = .tup [.agg [.int .i64 0, .int .i64 0, .str ⟨#[]⟩, .nil], .int .i64 (-4)]) := by
  have hk : isKinds 2 [.int .i64 k0, .int .i64 n0, .str s0, .slice ks0.len ks0.cells, .int .i64 k1, .int .i64 n1, .str s1, .slice ks1.len ks1.cells] 2 [.int .i64 1, .int .i64 1] = true := isK2 (.mk k0 n0 s0 ks0) (.mk k1 n1 s1 ks1) [1, 1] rfl (by decide)
  have hc : kC [.int .i64 k0, .int .i64 n0, .str s0, .slice ks0.len ks0.cells, .int .i64 k1, .int .i64 n1, .str s1, .slice ks1.len ks1.cells] [.int .i64 1, .int .i64 1] = false := by
    refine (kc2 (.mk k0 n0 s0 ks0) (.mk k1 n1 s1 ks1) _ 1 1 rfl).trans ?_
    simpa [kindD] using ht
  refine Pure.runO (S := SAp lo [(168, [(16, true)])] []) 200 (o := [(true, true), (isKinds 2 [.int .i64 k0, .int .i64 n0, .str s0, .slice (Dats.len ks0) (Dats.cells ks0), .int .i64 k1, .int .i64 n1, .str s1, .slice (Dats.len ks1) (Dats.cells ks1)] 2 [.int .i64 1, .int .i64 1], true), (!kC [.int .i64 k0, .int .i64 n0, .str s0, .slice (Dats.len ks0) (Dats.cells ks0), .int .i64 k1, .int .i64 n1, .str s1, .slice (Dats.len ks1) (Dats.cells ks1)] [.int .i64 1, .int .i64 1], true), (true, true)]) (by kernel_rfl) ?_
  (repeat' (first | exact okO_nil | refine okN ?_ ?_))
  all_goals first | rfl | assumption | exact sameS_self _ | (rw [hc]; rfl) | (simp [ht]; done) | (simp only [Nat.ble_eq, Nat.beq_eq, ByteArray.size_append]; omega)
theorem r_remT0 (k0 n0 k1 n1 : Int) (s0 s1 : ByteArray) (ks0 ks1 : Dats) (h0 : ¬ k0 = 1) : Pure G0 13 [.str ⟨#[114, 101, 109]⟩, .slice 2 [.int .i64 k0, .int .i64 n0, .str s0, .slice ks0.len ks0.cells, .int .i64 k1, .int .i64 n1, .str s1, .slice ks1.len ks1.cells]] (fun r => r = .tup [.agg [.int .i64 0, .int .i64 0, .str ⟨#[]⟩, .nil], .int .i64 (-4), .bool true]) := by
  refine Pure.runO (S := SRf [(209, [(190, true)])] []) 200 (o := [(!k0 == 1, true)]) (by kernel_rfl) ?_
  (repeat' (first | exact okO_nil | refine okN ?_ ?_))
  all_goals first | rfl | assumption | exact sameS_self _ | (simp [h0]; done) | (simp only [Nat.ble_eq, Nat.beq_eq, ByteArray.size_append]; omega)
theorem r_remT1 (k0 n0 k1 n1 : Int) (s0 s1 : ByteArray) (ks0 ks1 : Dats) (h0 : k0 = 1) (h1 : ¬ k1 = 1) : Pure G0 13 [.str ⟨#[114, 101, 109]⟩, .slice 2 [.int .i64 k0, .int .i64 n0, .str s0, .slice ks0.len ks0.cells, .int .i64 k1, .int .i64 n1, .str s1, .slice ks1.len ks1.cells]] (fun r => r = .tup [.agg [.int .i64 0, .int .i64 0, .str ⟨#[]⟩, .nil], .int .i64 (-4), .bool true]) := by
  refine Pure.runO (S := SRf [(209, [(190, false), (194, true)])] []) 200 (o := [(!k0 == 1, false), (!k1 == 1, true)]) (by kernel_rfl) ?_
  (repeat' (first | exact okO_nil | refine okN ?_ ?_))
  all_goals first | rfl | assumption | exact sameS_self _ | (simp [h0, h1]; done) | (simp only [Nat.ble_eq, Nat.beq_eq, ByteArray.size_append]; omega)
theorem a_remZ (lo : Nat) (k0 n0 k1 n1 : Int) (s0 s1 : ByteArray) (ks0 ks1 : Dats) (h0 : k0 = 1) (h1 : k1 = 1) (hz : n1 = 0) : Pure (G0.at lo) 34 [.str ⟨#[114, 101, 109]⟩, .slice 2 [.int .i64 k0, .int .i64 n0, .str s0, .slice ks0.len ks0.cells, .int .i64 k1, .int .i64 n1, .str s1, .slice ks1.len ks1.cells]] (fun r => r = .tup [.agg [.int .i64 0, .int .i64 0, .str ⟨#[]⟩, .nil], .int .i64 (-5)]) := by
  have hk : isKinds 2 [.int .i64 k0, .int .i64 n0, .str s0, .slice ks0.len ks0.cells, .int .i64 k1, .int .i64 n1, .str s1, .slice ks1.len ks1.cells] 2 [.int .i64 1, .int .i64 1] = true := isK2 (.mk k0 n0 s0 ks0) (.mk k1 n1 s1 ks1) [1, 1] rfl (by decide)
  have hc : kC [.int .i64 k0, .int .i64 n0, .str s0, .slice ks0.len ks0.cells, .int .i64 k1, .int .i64 n1, .str s1, .slice ks1.len ks1.cells] [.int .i64 1, .int .i64 1] = true := by
    refine (kc2 (.mk k0 n0 s0 ks0) (.mk k1 n1 s1 ks1) _ 1 1 rfl).trans ?_
    simp [kindD, h0, h1]
  refine Pure.runO (S := SAp lo [(168, [(16, false), (163, true)]), (54, [(30, true)])] []) 200 (o := [(true, true), (isKinds 2 [.int .i64 k0, .int .i64 n0, .str s0, .slice (Dats.len ks0) (Dats.cells ks0), .int .i64 k1, .int .i64 n1, .str s1, .slice (Dats.len ks1) (Dats.cells ks1)] 2 [.int .i64 1, .int .i64 1], true), (!kC [.int .i64 k0, .int .i64 n0, .str s0, .slice (Dats.len ks0) (Dats.cells ks0), .int .i64 k1, .int .i64 n1, .str s1, .slice (Dats.len ks1) (Dats.cells ks1)] [.int .i64 1, .int .i64 1], false), (false, false), (n1 == 0, true), (true, true), (true, true), (true, true)]) (by kernel_rfl) ?_
  (repeat' (first | exact okO_nil | refine okN ?_ ?_))
  all_goals first | rfl | assumption | exact sameS_self _ | (rw [hc]; rfl) | (simp [h0, h1, hz]; done) | (simp only [Nat.ble_eq, Nat.beq_eq, ByteArray.size_append]; omega)
theorem r_remZ (k0 n0 k1 n1 : Int) (s0 s1 : ByteArray) (ks0 ks1 : Dats) (h0 : k0 = 1) (h1 : k1 = 1) (hz : n1 = 0) : Pure G0 13 [.str ⟨#[114, 101, 109]⟩, .slice 2 [.int .i64 k0, .int .i64 n0, .str s0, .slice ks0.len ks0.cells, .int .i64 k1, .int .i64 n1, .str s1, .slice ks1.len ks1.cells]] (fun r => r = .tup [.agg [.int .i64 0, .int .i64 0, .str ⟨#[]⟩, .nil], .int .i64 (-5), .bool true]) := by
  refine Pure.runO (S := SRf [(209, [(190, false), (194, false)]), (84, [(42, true)])] []) 200 (o := [(!k0 == 1, false), (!k1 == 1, false), (n1 == 0, true), (true, true)]) (by kernel_rfl) ?_
  (repeat' (first | exact okO_nil | refine okN ?_ ?_))
  all_goals first | rfl | assumption | exact sameS_self _ | (simp [h0, h1, hz]; done) | (simp only [Nat.ble_eq, Nat.beq_eq, ByteArray.size_append]; omega)
theorem a_remM (lo : Nat) (k0 n0 k1 n1 : Int) (s0 s1 : ByteArray) (ks0 ks1 : Dats) (h0 : k0 = 1) (h1 : k1 = 1) (hz : n1 = -1) : Pure (G0.at lo) 34 [.str ⟨#[114, 101, 109]⟩, .slice 2 [.int .i64 k0, .int .i64 n0, .str s0, .slice ks0.len ks0.cells, .int .i64 k1, .int .i64 n1, .str s1, .slice ks1.len ks1.cells]] (fun r => r = .tup [.agg [.int .i64 1, .int .i64 (0), .str ⟨#[]⟩, .nil], .int .i64 0]) := by
  have hk : isKinds 2 [.int .i64 k0, .int .i64 n0, .str s0, .slice ks0.len ks0.cells, .int .i64 k1, .int .i64 n1, .str s1, .slice ks1.len ks1.cells] 2 [.int .i64 1, .int .i64 1] = true := isK2 (.mk k0 n0 s0 ks0) (.mk k1 n1 s1 ks1) [1, 1] rfl (by decide)
  have hc : kC [.int .i64 k0, .int .i64 n0, .str s0, .slice ks0.len ks0.cells, .int .i64 k1, .int .i64 n1, .str s1, .slice ks1.len ks1.cells] [.int .i64 1, .int .i64 1] = true := by
    refine (kc2 (.mk k0 n0 s0 ks0) (.mk k1 n1 s1 ks1) _ 1 1 rfl).trans ?_
    simp [kindD, h0, h1]
  refine Pure.runO (S := SAp lo [(168, [(16, false)]), (54, [(30, false), (35, true), (42, true)])] []) 200 (o := [(true, true), (isKinds 2 [.int .i64 k0, .int .i64 n0, .str s0, .slice (Dats.len ks0) (Dats.cells ks0), .int .i64 k1, .int .i64 n1, .str s1, .slice (Dats.len ks1) (Dats.cells ks1)] 2 [.int .i64 1, .int .i64 1], true), (!kC [.int .i64 k0, .int .i64 n0, .str s0, .slice (Dats.len ks0) (Dats.cells ks0), .int .i64 k1, .int .i64 n1, .str s1, .slice (Dats.len ks1) (Dats.cells ks1)] [.int .i64 1, .int .i64 1], false), (false, false), (n1 == 0, false), (false, false), (n1 == Int.negSucc 0, true), (n1 == Int.negSucc 0, true), (true, true)]) (by kernel_rfl) ?_
  (repeat' (first | exact okO_nil | refine okN ?_ ?_))
  all_goals first | rfl | assumption | exact sameS_self _ | (rw [hc]; rfl) | (simp [h0, h1, hz]; done) | (simp only [Nat.ble_eq, Nat.beq_eq, ByteArray.size_append]; omega)
theorem a_remG (lo : Nat) (k0 n0 k1 n1 : Int) (s0 s1 : ByteArray) (ks0 ks1 : Dats) (h0 : k0 = 1) (h1 : k1 = 1) (hz : ¬ n1 = 0) (hm : ¬ n1 = -1) : Pure (G0.at lo) 34 [.str ⟨#[114, 101, 109]⟩, .slice 2 [.int .i64 k0, .int .i64 n0, .str s0, .slice ks0.len ks0.cells, .int .i64 k1, .int .i64 n1, .str s1, .slice ks1.len ks1.cells]] (fun r => r = .tup [.agg [.int .i64 1, .int .i64 (n0.tmod n1), .str ⟨#[]⟩, .nil], .int .i64 0]) := by
  have hk : isKinds 2 [.int .i64 k0, .int .i64 n0, .str s0, .slice ks0.len ks0.cells, .int .i64 k1, .int .i64 n1, .str s1, .slice ks1.len ks1.cells] 2 [.int .i64 1, .int .i64 1] = true := isK2 (.mk k0 n0 s0 ks0) (.mk k1 n1 s1 ks1) [1, 1] rfl (by decide)
  have hc : kC [.int .i64 k0, .int .i64 n0, .str s0, .slice ks0.len ks0.cells, .int .i64 k1, .int .i64 n1, .str s1, .slice ks1.len ks1.cells] [.int .i64 1, .int .i64 1] = true := by
    refine (kc2 (.mk k0 n0 s0 ks0) (.mk k1 n1 s1 ks1) _ 1 1 rfl).trans ?_
    simp [kindD, h0, h1]
  refine Pure.runO (S := SAp lo [(168, [(16, false)]), (54, [(30, false), (35, false), (42, false), (50, true), (53, true)])] []) 200 (o := [(true, true), (isKinds 2 [.int .i64 k0, .int .i64 n0, .str s0, .slice (Dats.len ks0) (Dats.cells ks0), .int .i64 k1, .int .i64 n1, .str s1, .slice (Dats.len ks1) (Dats.cells ks1)] 2 [.int .i64 1, .int .i64 1], true), (!kC [.int .i64 k0, .int .i64 n0, .str s0, .slice (Dats.len ks0) (Dats.cells ks0), .int .i64 k1, .int .i64 n1, .str s1, .slice (Dats.len ks1) (Dats.cells ks1)] [.int .i64 1, .int .i64 1], false), (false, false), (n1 == 0, false), (false, false), (n1 == Int.negSucc 0, false), (n1 == Int.negSucc 0, false), (false, false), (decide (n1 = 0), false)]) (by kernel_rfl) ?_
  (repeat' (first | exact okO_nil | refine okN ?_ ?_))
  all_goals first | rfl | assumption | exact sameS_self _ | (rw [hc]; rfl) | (simp [h0, h1, hz, hm]; done) | (simp only [Nat.ble_eq, Nat.beq_eq, ByteArray.size_append]; omega)
theorem r_remyy (k0 n0 k1 n1 : Int) (s0 s1 : ByteArray) (ks0 ks1 : Dats) (h0 : k0 = 1) (h1 : k1 = 1) (hz : ¬ n1 = 0) (ha : n0 < 0) (hb : n1 < 0) (hr : -9223372036854775808 ≤ n1 ∧ n1 ≤ 9223372036854775807) : Pure G0 13 [.str ⟨#[114, 101, 109]⟩, .slice 2 [.int .i64 k0, .int .i64 n0, .str s0, .slice ks0.len ks0.cells, .int .i64 k1, .int .i64 n1, .str s1, .slice ks1.len ks1.cells]] (fun r => r = .tup [.agg [.int .i64 1, .int .i64 (IntKind.i64.wrap (IntKind.u64.wrap (0 - (IntKind.u64.wrap (0 - IntKind.u64.wrap n0)).tmod (IntKind.u64.wrap (0 - IntKind.u64.wrap n1))))), .str ⟨#[]⟩, .nil], .int .i64 0, .bool true]) := by
  have j0 : decide (IntKind.u64.wrap (0 - IntKind.u64.wrap n1) = 0) = false := by
    rw [decide_eq_false_iff_not]
    simp only [IntKind.wrap_u64]
    omega
  refine Pure.runO (S := SRf [(209, [(190, false), (194, false)]), (84, [(42, false), (52, true), (56, true), (61, true), (64, true), (66, true), (68, true), (73, true)])] []) 200 (o := [(!k0 == 1, false), (!k1 == 1, false), (n1 == 0, false), (false, false), (decide (n0 < 0), true), (true, true), (decide (n1 < 0), true), (true, true), (decide (IntKind.wrap IntKind.u64 (0 - IntKind.wrap IntKind.u64 n1) = 0), false), (decide (IntKind.wrap IntKind.u64 (0 - IntKind.wrap IntKind.u64 n1) = 0), false), (decide (n0 < 0), true), (decide (n1 < 0), true), (decide (n0 < 0), true), (true, true)]) (by kernel_rfl) ?_
  (repeat' (first | exact okO_nil | refine okN ?_ ?_))
  all_goals first | rfl | assumption | exact sameS_self _ | (simp [h0, h1, hz, ha, hb]; done) | (simp only [Nat.ble_eq, Nat.beq_eq, ByteArray.size_append]; omega)
theorem r_remyn (k0 n0 k1 n1 : Int) (s0 s1 : ByteArray) (ks0 ks1 : Dats) (h0 : k0 = 1) (h1 : k1 = 1) (hz : ¬ n1 = 0) (ha : n0 < 0) (hb : ¬ n1 < 0) (hr : -9223372036854775808 ≤ n1 ∧ n1 ≤ 9223372036854775807) : Pure G0 13 [.str ⟨#[114, 101, 109]⟩, .slice 2 [.int .i64 k0, .int .i64 n0, .str s0, .slice ks0.len ks0.cells, .int .i64 k1, .int .i64 n1, .str s1, .slice ks1.len ks1.cells]] (fun r => r = .tup [.agg [.int .i64 1, .int .i64 (IntKind.i64.wrap (IntKind.u64.wrap (0 - (IntKind.u64.wrap (0 - IntKind.u64.wrap n0)).tmod (IntKind.u64.wrap n1)))), .str ⟨#[]⟩, .nil], .int .i64 0, .bool true]) := by
  have j0 : decide (IntKind.u64.wrap n1 = 0) = false := by
    rw [decide_eq_false_iff_not]
    simp only [IntKind.wrap_u64]
    omega
  refine Pure.runO (S := SRf [(209, [(190, false), (194, false)]), (84, [(42, false), (52, true), (56, false), (61, true), (64, true), (66, true), (68, false), (73, true)])] []) 200 (o := [(!k0 == 1, false), (!k1 == 1, false), (n1 == 0, false), (false, false), (decide (n0 < 0), true), (true, true), (decide (n1 < 0), false), (false, false), (decide (IntKind.wrap IntKind.u64 n1 = 0), false), (decide (IntKind.wrap IntKind.u64 n1 = 0), false), (decide (n0 < 0), true), (decide (n1 < 0), false), (decide (n0 < 0), true), (true, true)]) (by kernel_rfl) ?_
  (repeat' (first | exact okO_nil | refine okN ?_ ?_))
  all_goals first | rfl | assumption | exact sameS_self _ | (simp [h0, h1, hz, ha, hb]; done) | (simp only [Nat.ble_eq, Nat.beq_eq, ByteArray.size_append]; omega)
theorem r_remny (k0 n0 k1 n1 : Int) (s0 s1 : ByteArray) (ks0 ks1 : Dats) (h0 : k0 = 1) (h1 : k1 = 1) (hz : ¬ n1 = 0) (ha : ¬ n0 < 0) (hb : n1 < 0) (hr : -9223372036854775808 ≤ n1 ∧ n1 ≤ 9223372036854775807) : Pure G0 13 [.str ⟨#[114, 101, 109]⟩, .slice 2 [.int .i64 k0, .int .i64 n0, .str s0, .slice ks0.len ks0.cells, .int .i64 k1, .int .i64 n1, .str s1, .slice ks1.len ks1.cells]] (fun r => r = .tup [.agg [.int .i64 1, .int .i64 (IntKind.i64.wrap ((IntKind.u64.wrap n0).tmod (IntKind.u64.wrap (0 - IntKind.u64.wrap n1)))), .str ⟨#[]⟩, .nil], .int .i64 0, .bool true]) := by
  have j0 : decide (IntKind.u64.wrap (0 - IntKind.u64.wrap n1) = 0) = false := by
    rw [decide_eq_false_iff_not]
    simp only [IntKind.wrap_u64]
    omega
  refine Pure.runO (S := SRf [(209, [(190, false), (194, false)]), (84, [(42, false), (52, false), (56, true), (61, true), (64, true), (66, false), (68, true), (73, false)])] []) 200 (o := [(!k0 == 1, false), (!k1 == 1, false), (n1 == 0, false), (false, false), (decide (n0 < 0), false), (false, false), (decide (n1 < 0), true), (true, true), (decide (IntKind.wrap IntKind.u64 (0 - IntKind.wrap IntKind.u64 n1) = 0), false), (decide (IntKind.wrap IntKind.u64 (0 - IntKind.wrap IntKind.u64 n1) = 0), false), (decide (n0 < 0), false), (decide (n1 < 0), true), (decide (n0 < 0), false), (false, false)]) (by kernel_rfl) ?_
  (repeat' (first | exact okO_nil | refine okN ?_ ?_))
  all_goals first | rfl | assumption | exact sameS_self _ | (simp [h0, h1, hz, ha, hb]; done) | (simp only [Nat.ble_eq, Nat.beq_eq, ByteArray.size_append]; omega)
theorem r_remnn (k0 n0 k1 n1 : Int) (s0 s1 : ByteArray) (ks0 ks1 : Dats) (h0 : k0 = 1) (h1 : k1 = 1) (hz : ¬ n1 = 0) (ha : ¬ n0 < 0) (hb : ¬ n1 < 0) (hr : -9223372036854775808 ≤ n1 ∧ n1 ≤ 9223372036854775807) : Pure G0 13 [.str ⟨#[114, 101, 109]⟩, .slice 2 [.int .i64 k0, .int .i64 n0, .str s0, .slice ks0.len ks0.cells, .int .i64 k1, .int .i64 n1, .str s1, .slice ks1.len ks1.cells]] (fun r => r = .tup [.agg [.int .i64 1, .int .i64 (IntKind.i64.wrap ((IntKind.u64.wrap n0).tmod (IntKind.u64.wrap n1))), .str ⟨#[]⟩, .nil], .int .i64 0, .bool true]) := by
  have j0 : decide (IntKind.u64.wrap n1 = 0) = false := by
    rw [decide_eq_false_iff_not]
    simp only [IntKind.wrap_u64]
    omega
  refine Pure.runO (S := SRf [(209, [(190, false), (194, false)]), (84, [(42, false), (52, false), (56, false), (61, true), (64, true), (66, false), (68, false), (73, false)])] []) 200 (o := [(!k0 == 1, false), (!k1 == 1, false), (n1 == 0, false), (false, false), (decide (n0 < 0), false), (false, false), (decide (n1 < 0), false), (false, false), (decide (IntKind.wrap IntKind.u64 n1 = 0), false), (decide (IntKind.wrap IntKind.u64 n1 = 0), false), (decide (n0 < 0), false), (decide (n1 < 0), false), (decide (n0 < 0), false), (false, false)]) (by kernel_rfl) ?_
  (repeat' (first | exact okO_nil | refine okN ?_ ?_))
  all_goals first | rfl | assumption | exact sameS_self _ | (simp [h0, h1, hz, ha, hb]; done) | (simp only [Nat.ble_eq, Nat.beq_eq, ByteArray.size_append]; omega)
theorem a_eqY (lo : Nat) (k0 n0 k1 n1 : Int) (s0 s1 : ByteArray) (ks0 ks1 : Dats) (o0 : Dat.ok (.mk k0 n0 s0 ks0)) (o1 : Dat.ok (.mk k1 n1 s1 ks1)) (he : eqD (.mk k0 n0 s0 ks0) (.mk k1 n1 s1 ks1) = true) : Pure (G0.at lo) 34 [.str ⟨#[61]⟩, .slice 2 [.int .i64 k0, .int .i64 n0, .str s0, .slice ks0.len ks0.cells, .int .i64 k1, .int .i64 n1, .str s1, .slice ks1.len ks1.cells]] (fun r => r = .tup [.agg [.int .i64 1, .int .i64 (1), .str ⟨#[]⟩, .nil], .int .i64 0]) := by
  have i0 := isOk_at o0
  have i1 := isOk_at o1
  have ic := (ofCells2_at eqD false (.mk k0 n0 s0 ks0) (.mk k1 n1 s1 ks1)).trans he
  simp only [Dat.cells] at i0 i1 ic
  refine Pure.runO (S := SAp lo [(4, [(3, true)])] []) 200 (o := [(true, true), (isOk [.int .i64 k0, .int .i64 n0, .str s0, .slice (Dats.len ks0) (Dats.cells ks0)], true), (isOk [.int .i64 k1, .int .i64 n1, .str s1, .slice (Dats.len ks1) (Dats.cells ks1)], true), (ofCells2 eqD false [.int .i64 k0, .int .i64 n0, .str s0, .slice (Dats.len ks0) (Dats.cells ks0)] [.int .i64 k1, .int .i64 n1, .str s1, .slice (Dats.len ks1) (Dats.cells ks1)], true), (true, true)]) (by kernel_rfl) ?_
  (repeat' (first | exact okO_nil | refine okN ?_ ?_))
  all_goals first | rfl | assumption | exact sameS_self _ | (simp [he]; done) | (simp only [Nat.ble_eq, Nat.beq_eq, ByteArray.size_append]; omega)
theorem r_eqY (k0 n0 k1 n1 : Int) (s0 s1 : ByteArray) (ks0 ks1 : Dats) (o0 : Dat.ok (.mk k0 n0 s0 ks0)) (o1 : Dat.ok (.mk k1 n1 s1 ks1)) (he : eqD (.mk k0 n0 s0 ks0) (.mk k1 n1 s1 ks1) = true) : Pure G0 13 [.str ⟨#[61]⟩, .slice 2 [.int .i64 k0, .int .i64 n0, .str s0, .slice ks0.len ks0.cells, .int .i64 k1, .int .i64 n1, .str s1, .slice ks1.len ks1.cells]] (fun r => r = .tup [.agg [.int .i64 1, .int .i64 (1), .str ⟨#[]⟩, .nil], .int .i64 0, .bool true]) := by
  have i0 := isOk_at o0
  have i1 := isOk_at o1
  have ic := (ofCells2_at eqD false (.mk k0 n0 s0 ks0) (.mk k1 n1 s1 ks1)).trans he
  simp only [Dat.cells] at i0 i1 ic
  refine Pure.runO (S := SRf [(8, [(5, true)])] []) 200 (o := [(true, true), (isOk [.int .i64 k0, .int .i64 n0, .str s0, .slice (Dats.len ks0) (Dats.cells ks0)], true), (isOk [.int .i64 k1, .int .i64 n1, .str s1, .slice (Dats.len ks1) (Dats.cells ks1)], true), (ofCells2 eqD false [.int .i64 k0, .int .i64 n0, .str s0, .slice (Dats.len ks0) (Dats.cells ks0)] [.int .i64 k1, .int .i64 n1, .str s1, .slice (Dats.len ks1) (Dats.cells ks1)], true), (true, true)]) (by kernel_rfl) ?_
  (repeat' (first | exact okO_nil | refine okN ?_ ?_))
  all_goals first | rfl | assumption | exact sameS_self _ | (simp [he]; done) | (simp only [Nat.ble_eq, Nat.beq_eq, ByteArray.size_append]; omega)
theorem a_listY (lo : Nat) (k0 n0 : Int) (s0 : ByteArray) (ks0 : Dats) (h0 : k0 = 3) : Pure (G0.at lo) 34 [.str ⟨#[108, 105, 115, 116, 63]⟩, .slice 1 [.int .i64 k0, .int .i64 n0, .str s0, .slice ks0.len ks0.cells]] (fun r => r = .tup [.agg [.int .i64 1, .int .i64 (1), .str ⟨#[]⟩, .nil], .int .i64 0]) := by
  refine Pure.runO (S := SAp lo [(4, [(3, true)])] []) 200 (o := [(k0 == 3, true), (true, true)]) (by kernel_rfl) ?_
  (repeat' (first | exact okO_nil | refine okN ?_ ?_))
  all_goals first | rfl | assumption | exact sameS_self _ | (simp [h0]; done) | (simp only [Nat.ble_eq, Nat.beq_eq, ByteArray.size_append]; omega)
theorem r_listY (k0 n0 : Int) (s0 : ByteArray) (ks0 : Dats) (h0 : k0 = 3) : Pure G0 13 [.str ⟨#[108, 105, 115, 116, 63]⟩, .slice 1 [.int .i64 k0, .int .i64 n0, .str s0, .slice ks0.len ks0.cells]] (fun r => r = .tup [.agg [.int .i64 1, .int .i64 (1), .str ⟨#[]⟩, .nil], .int .i64 0, .bool true]) := by
  refine Pure.runO (S := SRf [(8, [(5, true)])] []) 200 (o := [(k0 == 3, true), (true, true)]) (by kernel_rfl) ?_
  (repeat' (first | exact okO_nil | refine okN ?_ ?_))
  all_goals first | rfl | assumption | exact sameS_self _ | (simp [h0]; done) | (simp only [Nat.ble_eq, Nat.beq_eq, ByteArray.size_append]; omega)
theorem a_numY (lo : Nat) (k0 n0 : Int) (s0 : ByteArray) (ks0 : Dats) (h0 : k0 = 1) : Pure (G0.at lo) 34 [.str ⟨#[110, 117, 109, 63]⟩, .slice 1 [.int .i64 k0, .int .i64 n0, .str s0, .slice ks0.len ks0.cells]] (fun r => r = .tup [.agg [.int .i64 1, .int .i64 (1), .str ⟨#[]⟩, .nil], .int .i64 0]) := by
  refine Pure.runO (S := SAp lo [(4, [(3, true)])] []) 200 (o := [(k0 == 1, true), (true, true)]) (by kernel_rfl) ?_
  (repeat' (first | exact okO_nil | refine okN ?_ ?_))
  all_goals first | rfl | assumption | exact sameS_self _ | (simp [h0]; done) | (simp only [Nat.ble_eq, Nat.beq_eq, ByteArray.size_append]; omega)
theorem r_numY (k0 n0 : Int) (s0 : ByteArray) (ks0 : Dats) (h0 : k0 = 1) : Pure G0 13 [.str ⟨#[110, 117, 109, 63]⟩, .slice 1 [.int .i64 k0, .int .i64 n0, .str s0, .slice ks0.len ks0.cells]] (fun r => r = .tup [.agg [.int .i64 1, .int .i64 (1), .str ⟨#[]⟩, .nil], .int .i64 0, .bool true]) := by
  refine Pure.runO (S := SRf [(8, [(5, true)])] []) 200 (o := [(k0 == 1, true), (true, true)]) (by kernel_rfl) ?_
  (repeat' (first | exact okO_nil | refine okN ?_ ?_))
  all_goals first | rfl | assumption | exact sameS_self _ | (simp [h0]; done) | (simp only [Nat.ble_eq, Nat.beq_eq, ByteArray.size_append]; omega)
theorem a_symY (lo : Nat) (k0 n0 : Int) (s0 : ByteArray) (ks0 : Dats) (h0 : k0 = 2) : Pure (G0.at lo) 34 [.str ⟨#[115, 121, 109, 63]⟩, .slice 1 [.int .i64 k0, .int .i64 n0, .str s0, .slice ks0.len ks0.cells]] (fun r => r = .tup [.agg [.int .i64 1, .int .i64 (1), .str ⟨#[]⟩, .nil], .int .i64 0]) := by
  refine Pure.runO (S := SAp lo [(4, [(3, true)])] []) 200 (o := [(k0 == (2 : Int), true), (true, true)]) (by kernel_rfl) ?_
  (repeat' (first | exact okO_nil | refine okN ?_ ?_))
  all_goals first | rfl | assumption | exact sameS_self _ | (simp [h0]; done) | (simp only [Nat.ble_eq, Nat.beq_eq, ByteArray.size_append]; omega)
theorem r_symY (k0 n0 : Int) (s0 : ByteArray) (ks0 : Dats) (h0 : k0 = 2) : Pure G0 13 [.str ⟨#[115, 121, 109, 63]⟩, .slice 1 [.int .i64 k0, .int .i64 n0, .str s0, .slice ks0.len ks0.cells]] (fun r => r = .tup [.agg [.int .i64 1, .int .i64 (1), .str ⟨#[]⟩, .nil], .int .i64 0, .bool true]) := by
  refine Pure.runO (S := SRf [(8, [(5, true)])] []) 200 (o := [(k0 == (2 : Int), true), (true, true)]) (by kernel_rfl) ?_
  (repeat' (first | exact okO_nil | refine okN ?_ ?_))
  all_goals first | rfl | assumption | exact sameS_self _ | (simp [h0]; done) | (simp only [Nat.ble_eq, Nat.beq_eq, ByteArray.size_append]; omega)
theorem a_eqN (lo : Nat) (k0 n0 k1 n1 : Int) (s0 s1 : ByteArray) (ks0 ks1 : Dats) (o0 : Dat.ok (.mk k0 n0 s0 ks0)) (o1 : Dat.ok (.mk k1 n1 s1 ks1)) (he : eqD (.mk k0 n0 s0 ks0) (.mk k1 n1 s1 ks1) = false) : Pure (G0.at lo) 34 [.str ⟨#[61]⟩, .slice 2 [.int .i64 k0, .int .i64 n0, .str s0, .slice ks0.len ks0.cells, .int .i64 k1, .int .i64 n1, .str s1, .slice ks1.len ks1.cells]] (fun r => r = .tup [.agg [.int .i64 1, .int .i64 (0), .str ⟨#[]⟩, .nil], .int .i64 0]) := by
  have i0 := isOk_at o0
  have i1 := isOk_at o1
  have ic := (ofCells2_at eqD false (.mk k0 n0 s0 ks0) (.mk k1 n1 s1 ks1)).trans he
  simp only [Dat.cells] at i0 i1 ic
  refine Pure.runO (S := SAp lo [(4, [(3, false)])] []) 200 (o := [(true, true), (isOk [.int .i64 k0, .int .i64 n0, .str s0, .slice (Dats.len ks0) (Dats.cells ks0)], true), (isOk [.int .i64 k1, .int .i64 n1, .str s1, .slice (Dats.len ks1) (Dats.cells ks1)], true), (ofCells2 eqD false [.int .i64 k0, .int .i64 n0, .str s0, .slice (Dats.len ks0) (Dats.cells ks0)] [.int .i64 k1, .int .i64 n1, .str s1, .slice (Dats.len ks1) (Dats.cells ks1)], false), (false, false)]) (by kernel_rfl) ?_
  (repeat' (first | exact okO_nil | refine okN ?_ ?_))
  all_goals first | rfl | assumption | exact sameS_self _ | (simp [he]; done) | (simp only [Nat.ble_eq, Nat.beq_eq, ByteArray.size_append]; omega)
theorem r_eqN (k0 n0 k1 n1 : Int) (s0 s1 : ByteArray) (ks0 ks1 : Dats) (o0 : Dat.ok (.mk k0 n0 s0 ks0)) (o1 : Dat.ok (.mk k1 n1 s1 ks1)) (he : eqD (.mk k0 n0 s0 ks0) (.mk k1 n1 s1 ks1) = false) : Pure G0 13 [.str ⟨#[61]⟩, .slice 2 [.int .i64 k0, .int .i64 n0, .str s0, .slice ks0.len ks0.cells, .int .i64 k1, .int .i64 n1, .str s1, .slice ks1.len ks1.cells]] (fun r => r = .tup [.agg [.int .i64 1, .int .i64 (0), .str ⟨#[]⟩, .nil], .int .i64 0, .bool true]) := by
  have i0 := isOk_at o0
  have i1 := isOk_at o1
  have ic := (ofCells2_at eqD false (.mk k0 n0 s0 ks0) (.mk k1 n1 s1 ks1)).trans he
  simp only [Dat.cells] at i0 i1 ic
  refine Pure.runO (S := SRf [(8, [(5, false)])] []) 200 (o := [(true, true), (isOk [.int .i64 k0, .int .i64 n0, .str s0, .slice (Dats.len ks0) (Dats.cells ks0)], true), (isOk [.int .i64 k1, .int .i64 n1, .str s1, .slice (Dats.len ks1) (Dats.cells ks1)], true), (ofCells2 eqD false [.int .i64 k0, .int .i64 n0, .str s0, .slice (Dats.len ks0) (Dats.cells ks0)] [.int .i64 k1, .int .i64 n1, .str s1, .slice (Dats.len ks1) (Dats.cells ks1)], false), (false, false)]) (by kernel_rfl) ?_
  (repeat' (first | exact okO_nil | refine okN ?_ ?_))
  all_goals first | rfl | assumption | exact sameS_self _ | (simp [he]; done) | (simp only [Nat.ble_eq, Nat.beq_eq, ByteArray.size_append]; omega)
theorem a_listN (lo : Nat) (k0 n0 : Int) (s0 : ByteArray) (ks0 : Dats) (h0 : ¬ k0 = 3) : Pure (G0.at lo) 34 [.str ⟨#[108, 105, 115, 116, 63]⟩, .slice 1 [.int .i64 k0, .int .i64 n0, .str s0, .slice ks0.len ks0.cells]] (fun r => r = .tup [.agg [.int .i64 1, .int .i64 (0), .str ⟨#[]⟩, .nil], .int .i64 0]) := by
  refine Pure.runO (S := SAp lo [(4, [(3, false)])] []) 200 (o := [(k0 == 3, false), (false, false)]) (by kernel_rfl) ?_
  (repeat' (first | exact okO_nil | refine okN ?_ ?_))
  all_goals first | rfl | assumption | exact sameS_self _ | (simp [h0]; done) | (simp only [Nat.ble_eq, Nat.beq_eq, ByteArray.size_append]; omega)
theorem r_listN (k0 n0 : Int) (s0 : ByteArray) (ks0 : Dats) (h0 : ¬ k0 = 3) : Pure G0 13 [.str ⟨#[108, 105, 115, 116, 63]⟩, .slice 1 [.int .i64 k0, .int .i64 n0, .str s0, .slice ks0.len ks0.cells]] (fun r => r = .tup [.agg [.int .i64 1, .int .i64 (0), .str ⟨#[]⟩, .nil], .int .i64 0, .bool true]) := by
  refine Pure.runO (S := SRf [(8, [(5, false)])] []) 200 (o := [(k0 == 3, false), (false, false)]) (by kernel_rfl) ?_
  (repeat' (first | exact okO_nil | refine okN ?_ ?_))
  all_goals first | rfl | assumption | exact sameS_self _ | (simp [h0]; done) | (simp only [Nat.ble_eq, Nat.beq_eq, ByteArray.size_append]; omega)
theorem a_numN (lo : Nat) (k0 n0 : Int) (s0 : ByteArray) (ks0 : Dats) (h0 : ¬ k0 = 1) : Pure (G0.at lo) 34 [.str ⟨#[110, 117, 109, 63]⟩, .slice 1 [.int .i64 k0, .int .i64 n0, .str s0, .slice ks0.len ks0.cells]] (fun r => r = .tup [.agg [.int .i64 1, .int .i64 (0), .str ⟨#[]⟩, .nil], .int .i64 0]) := by
  refine Pure.runO (S := SAp lo [(4, [(3, false)])] []) 200 (o := [(k0 == 1, false), (false, false)]) (by kernel_rfl) ?_
  (repeat' (first | exact okO_nil | refine okN ?_ ?_))
  all_goals first | rfl | assumption | exact sameS_self _ | (simp [h0]; done) | (simp only [Nat.ble_eq, Nat.beq_eq, ByteArray.size_append]; omega)
theorem r_numN (k0 n0 : Int) (s0 : ByteArray) (ks0 : Dats) (h0 : ¬ k0 = 1) : Pure G0 13 [.str ⟨#[110, 117, 109, 63]⟩, .slice 1 [.int .i64 k0, .int .i64 n0, .str s0, .slice ks0.len ks0.cells]] (fun r => r = .tup [.agg [.int .i64 1, .int .i64 (0), .str ⟨#[]⟩, .nil], .int .i64 0, .bool true]) := by
  refine Pure.runO (S := SRf [(8, [(5, false)])] []) 200 (o := [(k0 == 1, false), (false, false)]) (by kernel_rfl) ?_
  (repeat' (first | exact okO_nil | refine okN ?_ ?_))
  all_goals first | rfl | assumption | exact sameS_self _ | (simp [h0]; done) | (simp only [Nat.ble_eq, Nat.beq_eq, ByteArray.size_append]; omega)
theorem a_symN (lo : Nat) (k0 n0 : Int) (s0 : ByteArray) (ks0 : Dats) (h0 : ¬ k0 = 2) : Pure (G0.at lo) 34 [.str ⟨#[115, 121, 109, 63]⟩, .slice 1 [.int .i64 k0, .int .i64 n0, .str s0, .slice ks0.len ks0.cells]] (fun r => r = .tup [.agg [.int .i64 1, .int .i64 (0), .str ⟨#[]⟩, .nil], .int .i64 0]) := by
  refine Pure.runO (S := SAp lo [(4, [(3, false)])] []) 200 (o := [(k0 == (2 : Int), false), (false, false)]) (by kernel_rfl) ?_
  (repeat' (first | exact okO_nil | refine okN ?_ ?_))
  all_goals first | rfl | assumption | exact sameS_self _ | (simp [h0]; done) | (simp only [Nat.ble_eq, Nat.beq_eq, ByteArray.size_append]; omega)
theorem r_symN (k0 n0 : Int) (s0 : ByteArray) (ks0 : Dats) (h0 : ¬ k0 = 2) : Pure G0 13 [.str ⟨#[115, 121, 109, 63]⟩, .slice 1 [.int .i64 k0, .int .i64 n0, .str s0, .slice ks0.len ks0.cells]] (fun r => r = .tup [.agg [.int .i64 1, .int .i64 (0), .str ⟨#[]⟩, .nil], .int .i64 0, .bool true]) := by
  refine Pure.runO (S := SRf [(8, [(5, false)])] []) 200 (o := [(k0 == (2 : Int), false), (false, false)]) (by kernel_rfl) ?_
  (repeat' (first | exact okO_nil | refine okN ?_ ?_))
  all_goals first | rfl | assumption | exact sameS_self _ | (simp [h0]; done) | (simp only [Nat.ble_eq, Nat.beq_eq, ByteArray.size_append]; omega)
theorem a_consT (lo : Nat) (k0 n0 k1 n1 : Int) (s0 s1 : ByteArray) (ks0 ks1 : Dats) (h1 : ¬ k1 = 3) : Pure (G0.at lo) 34 [.str ⟨#[99, 111, 110, 115]⟩, .slice 2 [.int .i64 k0, .int .i64 n0, .str s0, .slice ks0.len ks0.cells, .int .i64 k1, .int .i64 n1, .str s1, .slice ks1.len ks1.cells]] (fun r => r = .tup [.agg [.int .i64 0, .int .i64 0, .str ⟨#[]⟩, .nil], .int .i64 (-4)]) := by
  have hk : isKinds 2 [.int .i64 k0, .int .i64 n0, .str s0, .slice ks0.len ks0.cells, .int .i64 k1, .int .i64 n1, .str s1, .slice ks1.len ks1.cells] 2 [.int .i64 0, .int .i64 3] = true := isK2 (.mk k0 n0 s0 ks0) (.mk k1 n1 s1 ks1) [0, 3] rfl (by decide)
  have hc : kC [.int .i64 k0, .int .i64 n0, .str s0, .slice ks0.len ks0.cells, .int .i64 k1, .int .i64 n1, .str s1, .slice ks1.len ks1.cells] [.int .i64 0, .int .i64 3] = false := by
    refine (kc2 (.mk k0 n0 s0 ks0) (.mk k1 n1 s1 ks1) _ 0 3 rfl).trans ?_
    simp [kindD, h1]
  refine Pure.runO (S := SAp lo [(168, [(16, true)])] []) 200 (o := [(true, true), (isKinds 2 [.int .i64 k0, .int .i64 n0, .str s0, .slice (Dats.len ks0) (Dats.cells ks0), .int .i64 k1, .int .i64 n1, .str s1, .slice (Dats.len ks1) (Dats.cells ks1)] 2 [.int .i64 0, .int .i64 3], true), (!kC [.int .i64 k0, .int .i64 n0, .str s0, .slice (Dats.len ks0) (Dats.cells ks0), .int .i64 k1, .int .i64 n1, .str s1, .slice (Dats.len ks1) (Dats.cells ks1)] [.int .i64 0, .int .i64 3], true), (true, true)]) (by kernel_rfl) ?_
  (repeat' (first | exact okO_nil | refine okN ?_ ?_))
  all_goals first | rfl | assumption | exact sameS_self _ | (rw [hc]; rfl) | (simp [h1]; done) | (simp only [Nat.ble_eq, Nat.beq_eq, ByteArray.size_append]; omega)
theorem r_consT (k0 n0 k1 n1 : Int) (s0 s1 : ByteArray) (ks0 ks1 : Dats) (h1 : ¬ k1 = 3) : Pure G0 13 [.str ⟨#[99, 111, 110, 115]⟩, .slice 2 [.int .i64 k0, .int .i64 n0, .str s0, .slice ks0.len ks0.cells, .int .i64 k1, .int .i64 n1, .str s1, .slice ks1.len ks1.cells]] (fun r => r = .tup [.agg [.int .i64 0, .int .i64 0, .str ⟨#[]⟩, .nil], .int .i64 (-4), .bool true]) := by
  refine Pure.runO (S := SRf [(209, [(78, true)])] []) 200 (o := [(!k1 == 3, true), (true, true)]) (by kernel_rfl) ?_
  (repeat' (first | exact okO_nil | refine okN ?_ ?_))
  all_goals first | rfl | assumption | exact sameS_self _ | (simp [h1]; done) | (simp only [Nat.ble_eq, Nat.beq_eq, ByteArray.size_append]; omega)
theorem a_firstT (lo : Nat) (k0 n0 : Int) (s0 : ByteArray) (ks0 : Dats) (h0 : ¬ k0 = 3) : Pure (G0.at lo) 34 [.str ⟨#[102, 105, 114, 115, 116]⟩, .slice 1 [.int .i64 k0, .int .i64 n0, .str s0, .slice ks0.len ks0.cells]] (fun r => r = .tup [.agg [.int .i64 0, .int .i64 0, .str ⟨#[]⟩, .nil], .int .i64 (-4)]) := by
  have hk : isKinds 1 [.int .i64 k0, .int .i64 n0, .str s0, .slice ks0.len ks0.cells] 1 [.int .i64 3] = true := isK1 (.mk k0 n0 s0 ks0) [3] rfl (by decide)
  have hc : kC [.int .i64 k0, .int .i64 n0, .str s0, .slice ks0.len ks0.cells] [.int .i64 3] = false := by
    refine (kc1 (.mk k0 n0 s0 ks0) _ 3 rfl).trans ?_
    simp [kindD, h0]
  refine Pure.runO (S := SAp lo [(168, [(16, true)])] []) 200 (o := [(true, true), (isKinds 1 [.int .i64 k0, .int .i64 n0, .str s0, .slice (Dats.len ks0) (Dats.cells ks0)] 1 [.int .i64 3], true), (!kC [.int .i64 k0, .int .i64 n0, .str s0, .slice (Dats.len ks0) (Dats.cells ks0)] [.int .i64 3], true), (true, true)]) (by kernel_rfl) ?_
  (repeat' (first | exact okO_nil | refine okN ?_ ?_))
  all_goals first | rfl | assumption | exact sameS_self _ | (rw [hc]; rfl) | exact same_of rfl | (simp [h0]; done) | (simp only [Nat.ble_eq, Nat.beq_eq, ByteArray.size_append]; omega)
theorem r_firstT (k0 n0 : Int) (s0 : ByteArray) (ks0 : Dats) (h0 : ¬ k0 = 3) : Pure G0 13 [.str ⟨#[102, 105, 114, 115, 116]⟩, .slice 1 [.int .i64 k0, .int .i64 n0, .str s0, .slice ks0.len ks0.cells]] (fun r => r = .tup [.agg [.int .i64 0, .int .i64 0, .str ⟨#[]⟩, .nil], .int .i64 (-4), .bool true]) := by
  refine Pure.runO (S := SRf [(209, [(105, true)])] []) 200 (o := [(!k0 == 3, true)]) (by kernel_rfl) ?_
  (repeat' (first | exact okO_nil | refine okN ?_ ?_))
  all_goals first | rfl | assumption | exact sameS_self _ | exact same_of rfl | (simp [h0]; done) | (simp only [Nat.ble_eq, Nat.beq_eq, ByteArray.size_append]; omega)
theorem a_firstE (lo : Nat) (k0 n0 : Int) (s0 : ByteArray) (h0 : k0 = 3) : Pure (G0.at lo) 34 [.str ⟨#[102, 105, 114, 115, 116]⟩, .slice 1 [.int .i64 k0, .int .i64 n0, .str s0, .slice 0 []]] (fun r => r = .tup [.agg [.int .i64 0, .int .i64 0, .str ⟨#[]⟩, .nil], .int .i64 (-4)]) := by
  have hk : isKinds 1 [.int .i64 k0, .int .i64 n0, .str s0, .slice 0 []] 1 [.int .i64 3] = true := isK1 (.mk k0 n0 s0 .nil) [3] rfl (by decide)
  have hc : kC [.int .i64 k0, .int .i64 n0, .str s0, .slice 0 []] [.int .i64 3] = true := by
    refine (kc1 (.mk k0 n0 s0 .nil) _ 3 rfl).trans ?_
    simp [kindD, h0]
  refine Pure.runO (S := SAp lo [(168, [(16, false)])] []) 200 (o := [(true, true), (isKinds 1 [.int .i64 k0, .int .i64 n0, .str s0, .slice 0 []] 1 [.int .i64 3], true), (!kC [.int .i64 k0, .int .i64 n0, .str s0, .slice 0 []] [.int .i64 3], false), (false, false)]) (by kernel_rfl) ?_
  (repeat' (first | exact okO_nil | refine okN ?_ ?_))
  all_goals first | rfl | assumption | exact sameS_self _ | (rw [hc]; rfl) | exact same_of rfl | (simp [h0]; done) | (simp only [Nat.ble_eq, Nat.beq_eq, ByteArray.size_append]; omega)
theorem r_firstE (k0 n0 : Int) (s0 : ByteArray) (h0 : k0 = 3) : Pure G0 13 [.str ⟨#[102, 105, 114, 115, 116]⟩, .slice 1 [.int .i64 k0, .int .i64 n0, .str s0, .slice 0 []]] (fun r => r = .tup [.agg [.int .i64 0, .int .i64 0, .str ⟨#[]⟩, .nil], .int .i64 (-4), .bool true]) := by
  refine Pure.runO (S := SRf [(209, [(105, false)])] []) 200 (o := [(!k0 == 3, false)]) (by kernel_rfl) ?_
  (repeat' (first | exact okO_nil | refine okN ?_ ?_))
  all_goals first | rfl | assumption | exact sameS_self _ | exact same_of rfl | (simp [h0]; done) | (simp only [Nat.ble_eq, Nat.beq_eq, ByteArray.size_append]; omega)
theorem a_restT (lo : Nat) (k0 n0 : Int) (s0 : ByteArray) (ks0 : Dats) (h0 : ¬ k0 = 3) : Pure (G0.at lo) 34 [.str ⟨#[114, 101, 115, 116]⟩, .slice 1 [.int .i64 k0, .int .i64 n0, .str s0, .slice ks0.len ks0.cells]] (fun r => r = .tup [.agg [.int .i64 0, .int .i64 0, .str ⟨#[]⟩, .nil], .int .i64 (-4)]) := by
  have hk : isKinds 1 [.int .i64 k0, .int .i64 n0, .str s0, .slice ks0.len ks0.cells] 1 [.int .i64 3] = true := isK1 (.mk k0 n0 s0 ks0) [3] rfl (by decide)
  have hc : kC [.int .i64 k0, .int .i64 n0, .str s0, .slice ks0.len ks0.cells] [.int .i64 3] = false := by
    refine (kc1 (.mk k0 n0 s0 ks0) _ 3 rfl).trans ?_
    simp [kindD, h0]
  refine Pure.runO (S := SAp lo [(168, [(16, true)])] []) 200 (o := [(true, true), (isKinds 1 [.int .i64 k0, .int .i64 n0, .str s0, .slice (Dats.len ks0) (Dats.cells ks0)] 1 [.int .i64 3], true), (!kC [.int .i64 k0, .int .i64 n0, .str s0, .slice (Dats.len ks0) (Dats.cells ks0)] [.int .i64 3], true), (true, true)]) (by kernel_rfl) ?_
  (repeat' (first | exact okO_nil | refine okN ?_ ?_))
  all_goals first | rfl | assumption | exact sameS_self _ | (rw [hc]; rfl) | (simp [h0]; done) | (simp only [Nat.ble_eq, Nat.beq_eq, ByteArray.size_append]; omega)
theorem r_restT (k0 n0 : Int) (s0 : ByteArray) (ks0 : Dats) (h0 : ¬ k0 = 3) : Pure G0 13 [.str ⟨#[114, 101, 115, 116]⟩, .slice 1 [.int .i64 k0, .int .i64 n0, .str s0, .slice ks0.len ks0.cells]] (fun r => r = .tup [.agg [.int .i64 0, .int .i64 0, .str ⟨#[]⟩, .nil], .int .i64 (-4), .bool true]) := by
  refine Pure.runO (S := SRf [(209, [(105, true)])] []) 200 (o := [(!k0 == 3, true)]) (by kernel_rfl) ?_
  (repeat' (first | exact okO_nil | refine okN ?_ ?_))
  all_goals first | rfl | assumption | exact sameS_self _ | (simp [h0]; done) | (simp only [Nat.ble_eq, Nat.beq_eq, ByteArray.size_append]; omega)
theorem a_restE (lo : Nat) (k0 n0 : Int) (s0 : ByteArray) (h0 : k0 = 3) : Pure (G0.at lo) 34 [.str ⟨#[114, 101, 115, 116]⟩, .slice 1 [.int .i64 k0, .int .i64 n0, .str s0, .slice 0 []]] (fun r => r = .tup [.agg [.int .i64 0, .int .i64 0, .str ⟨#[]⟩, .nil], .int .i64 (-4)]) := by
  have hk : isKinds 1 [.int .i64 k0, .int .i64 n0, .str s0, .slice 0 []] 1 [.int .i64 3] = true := isK1 (.mk k0 n0 s0 .nil) [3] rfl (by decide)
  have hc : kC [.int .i64 k0, .int .i64 n0, .str s0, .slice 0 []] [.int .i64 3] = true := by
    refine (kc1 (.mk k0 n0 s0 .nil) _ 3 rfl).trans ?_
    simp [kindD, h0]
  refine Pure.runO (S := SAp lo [(168, [(16, false)])] []) 200 (o := [(true, true), (isKinds 1 [.int .i64 k0, .int .i64 n0, .str s0, .slice 0 []] 1 [.int .i64 3], true), (!kC [.int .i64 k0, .int .i64 n0, .str s0, .slice 0 []] [.int .i64 3], false), (false, false)]) (by kernel_rfl) ?_
  (repeat' (first | exact okO_nil | refine okN ?_ ?_))
  all_goals first | rfl | assumption | exact sameS_self _ | (rw [hc]; rfl) | (simp [h0]; done) | (simp only [Nat.ble_eq, Nat.beq_eq, ByteArray.size_append]; omega)
theorem r_restE (k0 n0 : Int) (s0 : ByteArray) (h0 : k0 = 3) : Pure G0 13 [.str ⟨#[114, 101, 115, 116]⟩, .slice 1 [.int .i64 k0, .int .i64 n0, .str s0, .slice 0 []]] (fun r => r = .tup [.agg [.int .i64 0, .int .i64 0, .str ⟨#[]⟩, .nil], .int .i64 (-4), .bool true]) := by
  refine Pure.runO (S := SRf [(209, [(105, false)])] []) 200 (o := [(!k0 == 3, false)]) (by kernel_rfl) ?_
  (repeat' (first | exact okO_nil | refine okN ?_ ?_))
  all_goals first | rfl | assumption | exact sameS_self _ | (simp [h0]; done) | (simp only [Nat.ble_eq, Nat.beq_eq, ByteArray.size_append]; omega)
theorem a_first (lo : Nat) (k0 n0 k n : Int) (s0 s : ByteArray) (ks rs : Dats) (h0 : k0 = 3) (sm : smallD (.mk k n s ks)) : Pure (G0.at lo) 34 [.str ⟨#[102, 105, 114, 115, 116]⟩, .slice 1 [.int .i64 k0, .int .i64 n0, .str s0, .slice (1 + rs.len) (.int .i64 k :: .int .i64 n :: .str s :: .slice ks.len ks.cells :: rs.cells)]] (fun r => r = .tup [.agg [.int .i64 k, .int .i64 n, .str s, .sl (OwnN (szC [.int .i64 k, .int .i64 n, .str s, .slice ks.len ks.cells]) (newS lo)) ks.len ks.cells], .int .i64 0]) := by
  have hk : isKinds 1 [.int .i64 k0, .int .i64 n0, .str s0, .slice (1 + rs.len) (.int .i64 k :: .int .i64 n :: .str s :: .slice ks.len ks.cells :: rs.cells)] 1 [.int .i64 3] = true := isK1 (.mk k0 n0 s0 (.cons (.mk k n s ks) rs)) [3] (big1 k0 n0 k n s0 s ks rs) (by decide)
  have hc : kC [.int .i64 k0, .int .i64 n0, .str s0, .slice (1 + rs.len) (.int .i64 k :: .int .i64 n :: .str s :: .slice ks.len ks.cells :: rs.cells)] [.int .i64 3] = true := by
    refine (kc1 (.mk k0 n0 s0 (.cons (.mk k n s ks) rs)) _ 3 (big1 k0 n0 k n s0 s ks rs)).trans ?_
    simp [kindD, h0]
  have j0 : (Int.ofNat (1 + rs.len) == (0 : Int)) = false := by simp; omega
  have j1 : isSm [.int .i64 k, .int .i64 n, .str s, .slice ks.len ks.cells] = true := isSm_at rfl sm
  have j2 : decide (0 ≤ (0 : Int) ∧ (0 : Int) < ((1 + rs.len : Nat) : Int)) = true := by simp; omega
  refine Pure.runO (S := SAp lo [(168, [(16, false), (131, false), (139, true), (140, true)])] []) 200 (o := [(true, true), (isKinds 1 [.int .i64 k0, .int .i64 n0, .str s0, .slice (1 + Dats.len rs) (.int .i64 k :: .int .i64 n :: .str s :: .slice (Dats.len ks) (Dats.cells ks) :: Dats.cells rs)] 1 [.int .i64 3], true), (!kC [.int .i64 k0, .int .i64 n0, .str s0, .slice (1 + Dats.len rs) (.int .i64 k :: .int .i64 n :: .str s :: .slice (Dats.len ks) (Dats.cells ks) :: Dats.cells rs)] [.int .i64 3], false), (false, false), (Int.ofNat (1 + Dats.len rs) == 0, false), (false, false), (decide ((0 : Int) ≤ 0 ∧ 0 < (↑(1 + Dats.len rs) : Int)), true), (true, true), (true, true), (isSm [.int .i64 k, .int .i64 n, .str s, .slice (Dats.len ks) (Dats.cells ks)], true)]) (by kernel_rfl) ?_
  (repeat' (first | exact okO_nil | refine okN ?_ ?_))
  all_goals first | rfl | assumption | exact sameS_self _ | (rw [hc]; rfl) | exact same_of rfl | (simp [h0]; done) | (simp only [Nat.ble_eq, Nat.beq_eq, ByteArray.size_append]; omega)
theorem r_first (k0 n0 k n : Int) (s0 s : ByteArray) (ks rs : Dats) (h0 : k0 = 3) (sm : smallD (.mk k n s ks)) : Pure G0 13 [.str ⟨#[102, 105, 114, 115, 116]⟩, .slice 1 [.int .i64 k0, .int .i64 n0, .str s0, .slice (1 + rs.len) (.int .i64 k :: .int .i64 n :: .str s :: .slice ks.len ks.cells :: rs.cells)]] (fun r => r = .tup [.agg [.int .i64 k, .int .i64 n, .str s, .slice ks.len ks.cells], .int .i64 0, .bool true]) := by
  have j0 : (Int.ofNat (1 + rs.len) == (0 : Int)) = false := by simp; omega
  have j1 : isSm [.int .i64 k, .int .i64 n, .str s, .slice ks.len ks.cells] = true := isSm_at rfl sm
  have j2 : decide (0 ≤ (0 : Int) ∧ (0 : Int) < ((1 + rs.len : Nat) : Int)) = true := by simp; omega
  refine Pure.runO (S := SRf [(209, [(105, false), (113, false), (130, true), (131, true)])] [(209, [(131, .agg [.int .i64 k, .int .i64 n, .str s, .slice ks.len ks.cells])])]) 200 (o := [(!k0 == 3, false), (Int.ofNat (1 + Dats.len rs) == 0, false), (decide ((0 : Int) ≤ 0 ∧ 0 < (↑(1 + Dats.len rs) : Int)), true), (true, true), (same (.agg [.int .i64 k, .int .i64 n, .str s, .slice (Dats.len ks) (Dats.cells ks)]) (.agg [.int .i64 k, .int .i64 n, .str s, .slice (Dats.len ks) (Dats.cells ks)]), true), (true, true), (isSm [.int .i64 k, .int .i64 n, .str s, .slice (Dats.len ks) (Dats.cells ks)], true)]) (by kernel_rfl) ?_
  (repeat' (first | exact okO_nil | refine okN ?_ ?_))
  all_goals first | rfl | assumption | exact sameS_self _ | exact same_of rfl | (simp [h0]; done) | (simp only [Nat.ble_eq, Nat.beq_eq, ByteArray.size_append]; omega)
theorem a_rest (lo : Nat) (k0 n0 k n : Int) (s0 s : ByteArray) (ks rs : Dats) (h0 : k0 = 3) (sm : smallD (.mk 3 0 ⟨#[]⟩ rs)) (sw : smallD (.mk k0 n0 s0 (.cons (.mk k n s ks) rs))) : Pure (G0.at lo) 34 [.str ⟨#[114, 101, 115, 116]⟩, .slice 1 [.int .i64 k0, .int .i64 n0, .str s0, .slice (1 + rs.len) (.int .i64 k :: .int .i64 n :: .str s :: .slice ks.len ks.cells :: rs.cells)]] (fun r => r = .tup [.agg [.int .i64 3, .int .i64 0, .str ⟨#[]⟩, .sl (OwnN (szC [.int .i64 3, .int .i64 0, .str ⟨#[]⟩, .slice rs.len rs.cells]) (newS lo)) rs.len rs.cells], .int .i64 0]) := by
  have hk : isKinds 1 [.int .i64 k0, .int .i64 n0, .str s0, .slice (1 + rs.len) (.int .i64 k :: .int .i64 n :: .str s :: .slice ks.len ks.cells :: rs.cells)] 1 [.int .i64 3] = true := isK1 (.mk k0 n0 s0 (.cons (.mk k n s ks) rs)) [3] (big1 k0 n0 k n s0 s ks rs) (by decide)
  have hc : kC [.int .i64 k0, .int .i64 n0, .str s0, .slice (1 + rs.len) (.int .i64 k :: .int .i64 n :: .str s :: .slice ks.len ks.cells :: rs.cells)] [.int .i64 3] = true := by
    refine (kc1 (.mk k0 n0 s0 (.cons (.mk k n s ks) rs)) _ 3 (big1 k0 n0 k n s0 s ks rs)).trans ?_
    simp [kindD, h0]
  have j0 : (Int.ofNat (1 + rs.len) == (0 : Int)) = false := by simp; omega
  have j1 : isSm [.int .i64 3, .int .i64 0, .str ⟨#[]⟩, .slice rs.len rs.cells] = true := isSm_at rfl sm
  have j2 : decide (0 ≤ (0 : Int) ∧ (0 : Int) < ((1 + rs.len : Nat) : Int)) = true := by simp; omega
  have j3 : isSm [.int .i64 k0, .int .i64 n0, .str s0, .slice (1 + rs.len) (.int .i64 k :: .int .i64 n :: .str s :: .slice ks.len ks.cells :: rs.cells)] = true := isSm_at (big0 k0 n0 k n s0 s ks rs) sw
  have j4 : decide (0 ≤ (1 : Int) ∧ (1 : Int) ≤ ((1 + rs.len : Nat) : Int) ∧ ((1 + rs.len : Nat) : Int) ≤ ((1 + rs.len : Nat) : Int) ∧ List.length (.int .i64 k :: .int .i64 n :: .str s :: .slice ks.len ks.cells :: rs.cells) = (1 + rs.len) * 4) = true := by
    have := Dats.cells_len rs
    simp only [decide_eq_true_eq, List.length_cons, this]
    omega
  have j5 : same (PV.slice (Int.toNat (Int.ofNat (1 + rs.len)) - 1) (List.take ((Int.toNat (Int.ofNat (1 + rs.len)) - 1) * 4) rs.cells)) (.slice rs.len rs.cells) = true := same_of (by rw [show Int.toNat (Int.ofNat (1 + rs.len)) - 1 = rs.len from (by simp; omega), List.take_of_length_le (by rw [Dats.cells_len]; exact Nat.le_refl _)])
  have j6 : Nat.beq (List.length rs.cells) (rs.len * 4) = true := by rw [Nat.beq_eq]; exact Dats.cells_len rs
  have j7 : rs.len ≤ 2000000 := sm.1
  have j8 : Nat.ble ((0 + rs.len) * 56) 140737488355328 = true := by rw [Nat.ble_eq]; omega
  have j9 : Nat.ble (0 + rs.len) 9223372036854775807 = true := by rw [Nat.ble_eq]; omega
  refine Pure.runO (S := SAp lo [(168, [(16, false), (131, false), (146, true)])] [(168, [(146, .slice rs.len rs.cells)])]) 200 (o := [(true, true), (isKinds 1 [.int .i64 k0, .int .i64 n0, .str s0, .slice (1 + Dats.len rs) (.int .i64 k :: .int .i64 n :: .str s :: .slice (Dats.len ks) (Dats.cells ks) :: Dats.cells rs)] 1 [.int .i64 3], true), (!kC [.int .i64 k0, .int .i64 n0, .str s0, .slice (1 + Dats.len rs) (.int .i64 k :: .int .i64 n :: .str s :: .slice (Dats.len ks) (Dats.cells ks) :: Dats.cells rs)] [.int .i64 3], false), (false, false), (Int.ofNat (1 + Dats.len rs) == 0, false), (false, false), (decide ((0 : Int) ≤ 1 ∧ 1 ≤ (↑(1 + Dats.len rs) : Int) ∧ (↑(1 + Dats.len rs) : Int) ≤ (↑(1 + Dats.len rs) : Int) ∧ List.length (.int .i64 k :: .int .i64 n :: .str s :: .slice (Dats.len ks) (Dats.cells ks) :: Dats.cells rs) = (1 + Dats.len rs) * TD.size d24), true), (same (.slice (Int.toNat (Int.ofNat (1 + Dats.len rs)) - 1) (List.take ((Int.toNat (Int.ofNat (1 + Dats.len rs)) - 1) * 4) (Dats.cells rs))) (.slice (Dats.len rs) (Dats.cells rs)), true), (true, true), (isSm [.int .i64 3, .int .i64 0, .str ⟨#[]⟩, .slice (Dats.len rs) (Dats.cells rs)], true)]) (by kernel_rfl) ?_
  (repeat' (first | exact okO_nil | refine okN ?_ ?_))
  all_goals first | rfl | assumption | exact sameS_self _ | (rw [hc]; rfl) | (simp [h0]; done) | (simp only [Nat.ble_eq, Nat.beq_eq, ByteArray.size_append]; omega)
theorem r_rest (k0 n0 k n : Int) (s0 s : ByteArray) (ks rs : Dats) (h0 : k0 = 3) (sm : smallD (.mk 3 0 ⟨#[]⟩ rs)) (sw : smallD (.mk k0 n0 s0 (.cons (.mk k n s ks) rs))) : Pure G0 13 [.str ⟨#[114, 101, 115, 116]⟩, .slice 1 [.int .i64 k0, .int .i64 n0, .str s0, .slice (1 + rs.len) (.int .i64 k :: .int .i64 n :: .str s :: .slice ks.len ks.cells :: rs.cells)]] (fun r => r = .tup [.agg [.int .i64 3, .int .i64 0, .str ⟨#[]⟩, .slice (0 + rs.len) rs.cells], .int .i64 0, .bool true]) := by
  have j0 : (Int.ofNat (1 + rs.len) == (0 : Int)) = false := by simp; omega
  have j1 : isSm [.int .i64 3, .int .i64 0, .str ⟨#[]⟩, .slice rs.len rs.cells] = true := isSm_at rfl sm
  have j2 : decide (0 ≤ (0 : Int) ∧ (0 : Int) < ((1 + rs.len : Nat) : Int)) = true := by simp; omega
  have j3 : isSm [.int .i64 k0, .int .i64 n0, .str s0, .slice (1 + rs.len) (.int .i64 k :: .int .i64 n :: .str s :: .slice ks.len ks.cells :: rs.cells)] = true := isSm_at (big0 k0 n0 k n s0 s ks rs) sw
  have j4 : decide (0 ≤ (1 : Int) ∧ (1 : Int) ≤ ((1 + rs.len : Nat) : Int) ∧ ((1 + rs.len : Nat) : Int) ≤ ((1 + rs.len : Nat) : Int) ∧ List.length (.int .i64 k :: .int .i64 n :: .str s :: .slice ks.len ks.cells :: rs.cells) = (1 + rs.len) * 4) = true := by
    have := Dats.cells_len rs
    simp only [decide_eq_true_eq, List.length_cons, this]
    omega
  have j5 : same (PV.slice (Int.toNat (Int.ofNat (1 + rs.len)) - 1) (List.take ((Int.toNat (Int.ofNat (1 + rs.len)) - 1) * 4) rs.cells)) (.slice rs.len rs.cells) = true := same_of (by rw [show Int.toNat (Int.ofNat (1 + rs.len)) - 1 = rs.len from (by simp; omega), List.take_of_length_le (by rw [Dats.cells_len]; exact Nat.le_refl _)])
  have j6 : Nat.beq (List.length rs.cells) (rs.len * 4) = true := by rw [Nat.beq_eq]; exact Dats.cells_len rs
  have j7 : rs.len ≤ 2000000 := sm.1
  have j8 : Nat.ble ((0 + rs.len) * 56) 140737488355328 = true := by rw [Nat.ble_eq]; omega
  have j9 : Nat.ble (0 + rs.len) 9223372036854775807 = true := by rw [Nat.ble_eq]; omega
  refine Pure.runO (S := SRf [(209, [(105, false), (113, false), (136, true)]), (7, [(5, true)])] [(209, [(136, .slice rs.len rs.cells)])]) 200 (o := [(!k0 == 3, false), (Int.ofNat (1 + Dats.len rs) == 0, false), (true, true), (isSm [.int .i64 k0, .int .i64 n0, .str s0, .slice (1 + Dats.len rs) (.int .i64 k :: .int .i64 n :: .str s :: .slice (Dats.len ks) (Dats.cells ks) :: Dats.cells rs)], true), (decide ((0 : Int) ≤ 1 ∧ 1 ≤ (↑(1 + Dats.len rs) : Int) ∧ (↑(1 + Dats.len rs) : Int) ≤ (↑(1 + Dats.len rs) : Int) ∧ List.length (.int .i64 k :: .int .i64 n :: .str s :: .slice (Dats.len ks) (Dats.cells ks) :: Dats.cells rs) = (1 + Dats.len rs) * TD.size d24), true), (same (.slice (Int.toNat (Int.ofNat (1 + Dats.len rs)) - 1) (List.take ((Int.toNat (Int.ofNat (1 + Dats.len rs)) - 1) * 4) (Dats.cells rs))) (.slice (Dats.len rs) (Dats.cells rs)), true), (Nat.beq (List.length (Dats.cells rs)) (Dats.len rs * 4), true), (Nat.ble ((0 + Dats.len rs) * 56) 140737488355328, true), (Nat.ble (0 + Dats.len rs) 9223372036854775807, true)]) (by kernel_rfl) ?_
  (repeat' (first | exact okO_nil | refine okN ?_ ?_))
  all_goals first | rfl | assumption | exact sameS_self _ | (simp [h0]; done) | (simp only [Nat.ble_eq, Nat.beq_eq, ByteArray.size_append]; omega)
theorem a_countT (lo : Nat) (k0 n0 : Int) (s0 : ByteArray) (ks0 : Dats) (h0 : ¬ k0 = 3) : Pure (G0.at lo) 34 [.str ⟨#[99, 111, 117, 110, 116]⟩, .slice 1 [.int .i64 k0, .int .i64 n0, .str s0, .slice ks0.len ks0.cells]] (fun r => r = .tup [.agg [.int .i64 0, .int .i64 0, .str ⟨#[]⟩, .nil], .int .i64 (-4)]) := by
  have hk : isKinds 1 [.int .i64 k0, .int .i64 n0, .str s0, .slice ks0.len ks0.cells] 1 [.int .i64 3] = true := isK1 (.mk k0 n0 s0 ks0) [3] rfl (by decide)
  have hc : kC [.int .i64 k0, .int .i64 n0, .str s0, .slice ks0.len ks0.cells] [.int .i64 3] = false := by
    refine (kc1 (.mk k0 n0 s0 ks0) _ 3 rfl).trans ?_
    simp [kindD, h0]
  refine Pure.runO (S := SAp lo [(168, [(16, true)])] []) 200 (o := [(true, true), (isKinds 1 [.int .i64 k0, .int .i64 n0, .str s0, .slice (Dats.len ks0) (Dats.cells ks0)] 1 [.int .i64 3], true), (!kC [.int .i64 k0, .int .i64 n0, .str s0, .slice (Dats.len ks0) (Dats.cells ks0)] [.int .i64 3], true), (true, true)]) (by kernel_rfl) ?_
  (repeat' (first | exact okO_nil | refine okN ?_ ?_))
  all_goals first | rfl | assumption | exact sameS_self _ | (rw [hc]; rfl) | (simp [h0]; done) | (simp only [Nat.ble_eq, Nat.beq_eq, ByteArray.size_append]; omega)
theorem r_countT (k0 n0 : Int) (s0 : ByteArray) (ks0 : Dats) (h0 : ¬ k0 = 3) : Pure G0 13 [.str ⟨#[99, 111, 117, 110, 116]⟩, .slice 1 [.int .i64 k0, .int .i64 n0, .str s0, .slice ks0.len ks0.cells]] (fun r => r = .tup [.agg [.int .i64 0, .int .i64 0, .str ⟨#[]⟩, .nil], .int .i64 (-4), .bool true]) := by
  refine Pure.runO (S := SRf [(209, [(105, true)])] []) 200 (o := [(!k0 == 3, true)]) (by kernel_rfl) ?_
  (repeat' (first | exact okO_nil | refine okN ?_ ?_))
  all_goals first | rfl | assumption | exact sameS_self _ | (simp [h0]; done) | (simp only [Nat.ble_eq, Nat.beq_eq, ByteArray.size_append]; omega)
theorem a_count (lo : Nat) (k0 n0 : Int) (s0 : ByteArray) (ks0 : Dats) (h0 : k0 = 3) : Pure (G0.at lo) 34 [.str ⟨#[99, 111, 117, 110, 116]⟩, .slice 1 [.int .i64 k0, .int .i64 n0, .str s0, .slice ks0.len ks0.cells]] (fun r => r = .tup [.agg [.int .i64 1, .int .i64 ((ks0.len : Int)), .str ⟨#[]⟩, .nil], .int .i64 0]) := by
  have hk : isKinds 1 [.int .i64 k0, .int .i64 n0, .str s0, .slice ks0.len ks0.cells] 1 [.int .i64 3] = true := isK1 (.mk k0 n0 s0 ks0) [3] rfl (by decide)
  have hc : kC [.int .i64 k0, .int .i64 n0, .str s0, .slice ks0.len ks0.cells] [.int .i64 3] = true := by
    refine (kc1 (.mk k0 n0 s0 ks0) _ 3 rfl).trans ?_
    simp [kindD, h0]
  refine Pure.runO (S := SAp lo [(168, [(16, false)])] []) 200 (o := [(true, true), (isKinds 1 [.int .i64 k0, .int .i64 n0, .str s0, .slice (Dats.len ks0) (Dats.cells ks0)] 1 [.int .i64 3], true), (!kC [.int .i64 k0, .int .i64 n0, .str s0, .slice (Dats.len ks0) (Dats.cells ks0)] [.int .i64 3], false), (false, false)]) (by kernel_rfl) ?_
  (repeat' (first | exact okO_nil | refine okN ?_ ?_))
  all_goals first | rfl | assumption | exact sameS_self _ | (rw [hc]; rfl) | (simp [h0]; done) | (simp only [Nat.ble_eq, Nat.beq_eq, ByteArray.size_append]; omega)
theorem r_count (k0 n0 : Int) (s0 : ByteArray) (ks0 : Dats) (h0 : k0 = 3) : Pure G0 13 [.str ⟨#[99, 111, 117, 110, 116]⟩, .slice 1 [.int .i64 k0, .int .i64 n0, .str s0, .slice ks0.len ks0.cells]] (fun r => r = .tup [.agg [.int .i64 1, .int .i64 ((ks0.len : Int)), .str ⟨#[]⟩, .nil], .int .i64 0, .bool true]) := by
  refine Pure.runO (S := SRf [(209, [(105, false)])] []) 200 (o := [(!k0 == 3, false)]) (by kernel_rfl) ?_
  (repeat' (first | exact okO_nil | refine okN ?_ ?_))
  all_goals first | rfl | assumption | exact sameS_self _ | (simp [h0]; done) | (simp only [Nat.ble_eq, Nat.beq_eq, ByteArray.size_append]; omega)
theorem a_markT (lo : Nat) (k0 n0 k1 n1 : Int) (s0 s1 : ByteArray) (ks0 ks1 : Dats) (ht : k0 = 2 → ¬ k1 = 1) : Pure (G0.at lo) 34 [.str ⟨#[109, 97, 114, 107]⟩, .slice 2 [.int .i64 k0, .int .i64 n0, .str s0, .slice ks0.len ks0.cells, .int .i64 k1, .int .i64 n1, .str s1, .slice ks1.len ks1.cells]] (fun r => r = .tup [.agg [.int .i64 0, .int .i64 0, .str ⟨#[]⟩, .nil], .int .i64 (-4)]) := by
  have hk : isKinds 2 [.int .i64 k0, .int .i64 n0, .str s0, .slice ks0.len ks0.cells, .int .i64 k1, .int .i64 n1, .str s1, .slice ks1.len ks1.cells] 2 [.int .i64 2, .int .i64 1] = true := isK2 (.mk k0 n0 s0 ks0) (.mk k1 n1 s1 ks1) [2, 1] rfl (by decide)
  have hc : kC [.int .i64 k0, .int .i64 n0, .str s0, .slice ks0.len ks0.cells, .int .i64 k1, .int .i64 n1, .str s1, .slice ks1.len ks1.cells] [.int .i64 2, .int .i64 1] = false := by
    refine (kc2 (.mk k0 n0 s0 ks0) (.mk k1 n1 s1 ks1) _ 2 1 rfl).trans ?_
    simpa [kindD] using ht
  refine Pure.runO (S := SAp lo [(168, [(16, true)])] []) 200 (o := [(true, true), (isKinds 2 [.int .i64 k0, .int .i64 n0, .str s0, .slice (Dats.len ks0) (Dats.cells ks0), .int .i64 k1, .int .i64 n1, .str s1, .slice (Dats.len ks1) (Dats.cells ks1)] 2 [.int .i64 (2 : Int), .int .i64 1], true), (!kC [.int .i64 k0, .int .i64 n0, .str s0, .slice (Dats.len ks0) (Dats.cells ks0), .int .i64 k1, .int .i64 n1, .str s1, .slice (Dats.len ks1) (Dats.cells ks1)] [.int .i64 (2 : Int), .int .i64 1], true), (true, true)]) (by kernel_rfl) ?_
  (repeat' (first | exact okO_nil | refine okN ?_ ?_))
  all_goals first | rfl | assumption | exact sameS_self _ | (rw [hc]; rfl) | (simp [ht]; done) | (simp only [Nat.ble_eq, Nat.beq_eq, ByteArray.size_append, e1, e2]; omega)
theorem r_markT0 (k0 n0 k1 n1 : Int) (s0 s1 : ByteArray) (ks0 ks1 : Dats) (h0 : ¬ k0 = 2) : Pure G0 13 [.str ⟨#[109, 97, 114, 107]⟩, .slice 2 [.int .i64 k0, .int .i64 n0, .str s0, .slice ks0.len ks0.cells, .int .i64 k1, .int .i64 n1, .str s1, .slice ks1.len ks1.cells]] (fun r => r = .tup [.agg [.int .i64 0, .int .i64 0, .str ⟨#[]⟩, .nil], .int .i64 (-4), .bool true]) := by
  refine Pure.runO (S := SRf [(209, [(142, true)])] []) 200 (o := [(!k0 == (2 : Int), true)]) (by kernel_rfl) ?_
  (repeat' (first | exact okO_nil | refine okN ?_ ?_))
  all_goals first | rfl | assumption | exact sameS_self _ | (simp [h0]; done) | (simp only [Nat.ble_eq, Nat.beq_eq, ByteArray.size_append, e1, e2]; omega)
theorem r_markT1 (k0 n0 k1 n1 : Int) (s0 s1 : ByteArray) (ks0 ks1 : Dats) (h0 : k0 = 2) (h1 : ¬ k1 = 1) : Pure G0 13 [.str ⟨#[109, 97, 114, 107]⟩, .slice 2 [.int .i64 k0, .int .i64 n0, .str s0, .slice ks0.len ks0.cells, .int .i64 k1, .int .i64 n1, .str s1, .slice ks1.len ks1.cells]] (fun r => r = .tup [.agg [.int .i64 0, .int .i64 0, .str ⟨#[]⟩, .nil], .int .i64 (-4), .bool true]) := by
  refine Pure.runO (S := SRf [(209, [(142, false), (146, true)])] []) 200 (o := [(!k0 == (2 : Int), false), (!k1 == 1, true)]) (by kernel_rfl) ?_
  (repeat' (first | exact okO_nil | refine okN ?_ ?_))
  all_goals first | rfl | assumption | exact sameS_self _ | (simp [h0, h1]; done) | (simp only [Nat.ble_eq, Nat.beq_eq, ByteArray.size_append, e1, e2]; omega)
theorem a_markM (lo : Nat) (k0 n0 k1 n1 : Int) (s0 s1 : ByteArray) (ks0 ks1 : Dats) (h0 : k0 = 2) (h1 : k1 = 1) (hn : n1 < 0) : Pure (G0.at lo) 34 [.str ⟨#[109, 97, 114, 107]⟩, .slice 2 [.int .i64 k0, .int .i64 n0, .str s0, .slice ks0.len ks0.cells, .int .i64 k1, .int .i64 n1, .str s1, .slice ks1.len ks1.cells]] (fun r => r = .tup [.agg [.int .i64 0, .int .i64 0, .str ⟨#[]⟩, .nil], .int .i64 (-4)]) := by
  have hk : isKinds 2 [.int .i64 k0, .int .i64 n0, .str s0, .slice ks0.len ks0.cells, .int .i64 k1, .int .i64 n1, .str s1, .slice ks1.len ks1.cells] 2 [.int .i64 2, .int .i64 1] = true := isK2 (.mk k0 n0 s0 ks0) (.mk k1 n1 s1 ks1) [2, 1] rfl (by decide)
  have hc : kC [.int .i64 k0, .int .i64 n0, .str s0, .slice ks0.len ks0.cells, .int .i64 k1, .int .i64 n1, .str s1, .slice ks1.len ks1.cells] [.int .i64 2, .int .i64 1] = true := by
    refine (kc2 (.mk k0 n0 s0 ks0) (.mk k1 n1 s1 ks1) _ 2 1 rfl).trans ?_
    simp [kindD, h0, h1]
  refine Pure.runO (S := SAp lo [(168, [(16, false), (86, true)])] []) 200 (o := [(true, true), (isKinds 2 [.int .i64 k0, .int .i64 n0, .str s0, .slice (Dats.len ks0) (Dats.cells ks0), .int .i64 k1, .int .i64 n1, .str s1, .slice (Dats.len ks1) (Dats.cells ks1)] 2 [.int .i64 (2 : Int), .int .i64 1], true), (!kC [.int .i64 k0, .int .i64 n0, .str s0, .slice (Dats.len ks0) (Dats.cells ks0), .int .i64 k1, .int .i64 n1, .str s1, .slice (Dats.len ks1) (Dats.cells ks1)] [.int .i64 (2 : Int), .int .i64 1], false), (false, false), (decide (n1 < 0), true), (true, true)]) (by kernel_rfl) ?_
  (repeat' (first | exact okO_nil | refine okN ?_ ?_))
  all_goals first | rfl | assumption | exact sameS_self _ | (rw [hc]; rfl) | (simp [h0, h1, hn]; done) | (simp only [Nat.ble_eq, Nat.beq_eq, ByteArray.size_append, e1, e2]; omega)
theorem r_markM (k0 n0 k1 n1 : Int) (s0 s1 : ByteArray) (ks0 ks1 : Dats) (h0 : k0 = 2) (h1 : k1 = 1) (hn : n1 < 0) : Pure G0 13 [.str ⟨#[109, 97, 114, 107]⟩, .slice 2 [.int .i64 k0, .int .i64 n0, .str s0, .slice ks0.len ks0.cells, .int .i64 k1, .int .i64 n1, .str s1, .slice ks1.len ks1.cells]] (fun r => r = .tup [.agg [.int .i64 0, .int .i64 0, .str ⟨#[]⟩, .nil], .int .i64 (-4), .bool true]) := by
  refine Pure.runO (S := SRf [(209, [(142, false), (146, false), (151, true)])] []) 200 (o := [(!k0 == (2 : Int), false), (!k1 == 1, false), (decide (n1 < 0), true)]) (by kernel_rfl) ?_
  (repeat' (first | exact okO_nil | refine okN ?_ ?_))
  all_goals first | rfl | assumption | exact sameS_self _ | (simp [h0, h1, hn]; done) | (simp only [Nat.ble_eq, Nat.beq_eq, ByteArray.size_append, e1, e2]; omega)
theorem a_markY (lo : Nat) (k0 n0 k1 n1 : Int) (s0 s1 : ByteArray) (ks0 ks1 : Dats) (h0 : k0 = 2) (h1 : k1 = 1) (hn : ¬ n1 < 0) (hi : inR n1 = true) (hs : s0.size ≤ 1000) (hd : (Go.Lib.itoa n1).length ≤ 21) (hlen : s0.size + 1 + (Go.Lib.itoa n1).length ≤ 40) : Pure (G0.at lo) 34 [.str ⟨#[109, 97, 114, 107]⟩, .slice 2 [.int .i64 k0, .int .i64 n0, .str s0, .slice ks0.len ks0.cells, .int .i64 k1, .int .i64 n1, .str s1, .slice ks1.len ks1.cells]] (fun r => r = .tup [.agg [.int .i64 2, .int .i64 0, .str (s0 ++ (⟨#[46]⟩ ++ mkS (Go.Lib.itoa n1))), .nil], .int .i64 0]) := by
  have hk : isKinds 2 [.int .i64 k0, .int .i64 n0, .str s0, .slice ks0.len ks0.cells, .int .i64 k1, .int .i64 n1, .str s1, .slice ks1.len ks1.cells] 2 [.int .i64 2, .int .i64 1] = true := isK2 (.mk k0 n0 s0 ks0) (.mk k1 n1 s1 ks1) [2, 1] rfl (by decide)
  have hc : kC [.int .i64 k0, .int .i64 n0, .str s0, .slice ks0.len ks0.cells, .int .i64 k1, .int .i64 n1, .str s1, .slice ks1.len ks1.cells] [.int .i64 2, .int .i64 1] = true := by
    refine (kc2 (.mk k0 n0 s0 ks0) (.mk k1 n1 s1 ks1) _ 2 1 rfl).trans ?_
    simp [kindD, h0, h1]
  have e1 : (mkS (Go.Lib.itoa n1)).size = (Go.Lib.itoa n1).length := rfl
  have e2 : (⟨#[46]⟩ : ByteArray).size = 1 := rfl
  refine Pure.runO (S := SAp lo [(168, [(16, false), (86, false), (101, false)]), (15, [(9, true), (10, true)])] []) 200 (o := [(true, true), (isKinds 2 [.int .i64 k0, .int .i64 n0, .str s0, .slice (Dats.len ks0) (Dats.cells ks0), .int .i64 k1, .int .i64 n1, .str s1, .slice (Dats.len ks1) (Dats.cells ks1)] 2 [.int .i64 (2 : Int), .int .i64 1], true), (!kC [.int .i64 k0, .int .i64 n0, .str s0, .slice (Dats.len ks0) (Dats.cells ks0), .int .i64 k1, .int .i64 n1, .str s1, .slice (Dats.len ks1) (Dats.cells ks1)] [.int .i64 (2 : Int), .int .i64 1], false), (false, false), (decide (n1 < 0), false), (false, false), (true, true), (inR n1, true), (Nat.ble (1 + ByteArray.size (mkS (Lib.itoa n1))) 9223372036854775807, true), (Nat.ble (ByteArray.size s0 + ByteArray.size (⟨#[46]⟩ ++ mkS (Lib.itoa n1))) 9223372036854775807, true), (!decide ((↑(ByteArray.size (s0 ++ (⟨#[46]⟩ ++ mkS (Lib.itoa n1)))) : Int) ≤ 40), false), (false, false)]) (by kernel_rfl) ?_
  (repeat' (first | exact okO_nil | refine okN ?_ ?_))
  all_goals first | rfl | assumption | exact sameS_self _ | (rw [hc]; rfl) | (simp [h0, h1, hn]; done) | (simp only [Nat.ble_eq, Nat.beq_eq, ByteArray.size_append, e1, e2]; omega) | (simp only [ByteArray.size_append, e1, e2]; simp; omega)
theorem r_markY (k0 n0 k1 n1 : Int) (s0 s1 : ByteArray) (ks0 ks1 : Dats) (h0 : k0 = 2) (h1 : k1 = 1) (hn : ¬ n1 < 0) (hi : inR n1 = true) (hs : s0.size ≤ 1000) (hd : (Go.Lib.itoa n1).length ≤ 21) (hlen : s0.size + 1 + (Go.Lib.itoa n1).length ≤ 40) : Pure G0 13 [.str ⟨#[109, 97, 114, 107]⟩, .slice 2 [.int .i64 k0, .int .i64 n0, .str s0, .slice ks0.len ks0.cells, .int .i64 k1, .int .i64 n1, .str s1, .slice ks1.len ks1.cells]] (fun r => r = .tup [.agg [.int .i64 2, .int .i64 0, .str (s0 ++ ⟨#[46]⟩ ++ mkS (Go.Lib.itoa n1)), .nil], .int .i64 0, .bool true]) := by
  have e1 : (mkS (Go.Lib.itoa n1)).size = (Go.Lib.itoa n1).length := rfl
  have e2 : (⟨#[46]⟩ : ByteArray).size = 1 := rfl
  refine Pure.runO (S := SRf [(209, [(142, false), (146, false), (151, false), (159, true), (163, true), (166, false)])] []) 200 (o := [(!k0 == (2 : Int), false), (!k1 == 1, false), (decide (n1 < 0), false), (Nat.ble (ByteArray.size s0 + 1) 9223372036854775807, true), (true, true), (inR n1, true), (Nat.ble (ByteArray.size (s0 ++ ⟨#[46]⟩) + ByteArray.size (mkS (Lib.itoa n1))) 9223372036854775807, true), (decide (40 < (↑(ByteArray.size (s0 ++ ⟨#[46]⟩ ++ mkS (Lib.itoa n1))) : Int)), false), (false, false)]) (by kernel_rfl) ?_
  (repeat' (first | exact okO_nil | refine okN ?_ ?_))
  all_goals first | rfl | assumption | exact sameS_self _ | (simp [h0, h1, hn]; done) | (simp only [Nat.ble_eq, Nat.beq_eq, ByteArray.size_append, e1, e2]; omega) | (simp only [ByteArray.size_append, e1, e2]; simp; omega)
theorem a_markN (lo : Nat) (k0 n0 k1 n1 : Int) (s0 s1 : ByteArray) (ks0 ks1 : Dats) (h0 : k0 = 2) (h1 : k1 = 1) (hn : ¬ n1 < 0) (hi : inR n1 = true) (hs : s0.size ≤ 1000) (hd : (Go.Lib.itoa n1).length ≤ 21) (hlen : ¬ s0.size + 1 + (Go.Lib.itoa n1).length ≤ 40) : Pure (G0.at lo) 34 [.str ⟨#[109, 97, 114, 107]⟩, .slice 2 [.int .i64 k0, .int .i64 n0, .str s0, .slice ks0.len ks0.cells, .int .i64 k1, .int .i64 n1, .str s1, .slice ks1.len ks1.cells]] (fun r => r = .tup [.agg [.int .i64 0, .int .i64 0, .str ⟨#[]⟩, .nil], .int .i64 (-6)]) := by
  have hk : isKinds 2 [.int .i64 k0, .int .i64 n0, .str s0, .slice ks0.len ks0.cells, .int .i64 k1, .int .i64 n1, .str s1, .slice ks1.len ks1.cells] 2 [.int .i64 2, .int .i64 1] = true := isK2 (.mk k0 n0 s0 ks0) (.mk k1 n1 s1 ks1) [2, 1] rfl (by decide)
  have hc : kC [.int .i64 k0, .int .i64 n0, .str s0, .slice ks0.len ks0.cells, .int .i64 k1, .int .i64 n1, .str s1, .slice ks1.len ks1.cells] [.int .i64 2, .int .i64 1] = true := by
    refine (kc2 (.mk k0 n0 s0 ks0) (.mk k1 n1 s1 ks1) _ 2 1 rfl).trans ?_
    simp [kindD, h0, h1]
  have e1 : (mkS (Go.Lib.itoa n1)).size = (Go.Lib.itoa n1).length := rfl
  have e2 : (⟨#[46]⟩ : ByteArray).size = 1 := rfl
  refine Pure.runO (S := SAp lo [(168, [(16, false), (86, false), (101, true)]), (15, [(9, true), (10, true)])] []) 200 (o := [(true, true), (isKinds 2 [.int .i64 k0, .int .i64 n0, .str s0, .slice (Dats.len ks0) (Dats.cells ks0), .int .i64 k1, .int .i64 n1, .str s1, .slice (Dats.len ks1) (Dats.cells ks1)] 2 [.int .i64 (2 : Int), .int .i64 1], true), (!kC [.int .i64 k0, .int .i64 n0, .str s0, .slice (Dats.len ks0) (Dats.cells ks0), .int .i64 k1, .int .i64 n1, .str s1, .slice (Dats.len ks1) (Dats.cells ks1)] [.int .i64 (2 : Int), .int .i64 1], false), (false, false), (decide (n1 < 0), false), (false, false), (true, true), (inR n1, true), (Nat.ble (1 + ByteArray.size (mkS (Lib.itoa n1))) 9223372036854775807, true), (Nat.ble (ByteArray.size s0 + ByteArray.size (⟨#[46]⟩ ++ mkS (Lib.itoa n1))) 9223372036854775807, true), (!decide ((↑(ByteArray.size (s0 ++ (⟨#[46]⟩ ++ mkS (Lib.itoa n1)))) : Int) ≤ 40), true), (true, true)]) (by kernel_rfl) ?_
  (repeat' (first | exact okO_nil | refine okN ?_ ?_))
  all_goals first | rfl | assumption | exact sameS_self _ | (rw [hc]; rfl) | (simp [h0, h1, hn]; done) | (simp only [Nat.ble_eq, Nat.beq_eq, ByteArray.size_append, e1, e2]; omega) | (simp only [ByteArray.size_append, e1, e2]; simp; omega)
theorem r_markN (k0 n0 k1 n1 : Int) (s0 s1 : ByteArray) (ks0 ks1 : Dats) (h0 : k0 = 2) (h1 : k1 = 1) (hn : ¬ n1 < 0) (hi : inR n1 = true) (hs : s0.size ≤ 1000) (hd : (Go.Lib.itoa n1).length ≤ 21) (hlen : ¬ s0.size + 1 + (Go.Lib.itoa n1).length ≤ 40) : Pure G0 13 [.str ⟨#[109, 97, 114, 107]⟩, .slice 2 [.int .i64 k0, .int .i64 n0, .str s0, .slice ks0.len ks0.cells, .int .i64 k1, .int .i64 n1, .str s1, .slice ks1.len ks1.cells]] (fun r => r = .tup [.agg [.int .i64 0, .int .i64 0, .str ⟨#[]⟩, .nil], .int .i64 (-6), .bool true]) := by
  have e1 : (mkS (Go.Lib.itoa n1)).size = (Go.Lib.itoa n1).length := rfl
  have e2 : (⟨#[46]⟩ : ByteArray).size = 1 := rfl
  refine Pure.runO (S := SRf [(209, [(142, false), (146, false), (151, false), (159, true), (163, true), (166, true)])] []) 200 (o := [(!k0 == (2 : Int), false), (!k1 == 1, false), (decide (n1 < 0), false), (Nat.ble (ByteArray.size s0 + 1) 9223372036854775807, true), (true, true), (inR n1, true), (Nat.ble (ByteArray.size (s0 ++ ⟨#[46]⟩) + ByteArray.size (mkS (Lib.itoa n1))) 9223372036854775807, true), (decide (40 < (↑(ByteArray.size (s0 ++ ⟨#[46]⟩ ++ mkS (Lib.itoa n1))) : Int)), true), (true, true)]) (by kernel_rfl) ?_
  (repeat' (first | exact okO_nil | refine okN ?_ ?_))
  all_goals first | rfl | assumption | exact sameS_self _ | (simp [h0, h1, hn]; done) | (simp only [Nat.ble_eq, Nat.beq_eq, ByteArray.size_append, e1, e2]; omega) | (simp only [ByteArray.size_append, e1, e2]; simp; omega)
theorem a_stopT (lo : Nat) (k0 n0 : Int) (s0 : ByteArray) (ks0 : Dats) (h0 : ¬ k0 = 1) : Pure (G0.at lo) 34 [.str ⟨#[115, 116, 111, 112]⟩, .slice 1 [.int .i64 k0, .int .i64 n0, .str s0, .slice ks0.len ks0.cells]] (fun r => r = .tup [.agg [.int .i64 0, .int .i64 0, .str ⟨#[]⟩, .nil], .int .i64 (-4)]) := by
  have hk : isKinds 1 [.int .i64 k0, .int .i64 n0, .str s0, .slice ks0.len ks0.cells] 1 [.int .i64 1] = true := isK1 (.mk k0 n0 s0 ks0) [1] rfl (by decide)
  have hc : kC [.int .i64 k0, .int .i64 n0, .str s0, .slice ks0.len ks0.cells] [.int .i64 1] = false := by
    refine (kc1 (.mk k0 n0 s0 ks0) _ 1 rfl).trans ?_
    simp [kindD, h0]
  refine Pure.runO (S := SAp lo [(168, [(16, true)])] []) 200 (o := [(true, true), (isKinds 1 [.int .i64 k0, .int .i64 n0, .str s0, .slice (Dats.len ks0) (Dats.cells ks0)] 1 [.int .i64 1], true), (!kC [.int .i64 k0, .int .i64 n0, .str s0, .slice (Dats.len ks0) (Dats.cells ks0)] [.int .i64 1], true), (true, true)]) (by kernel_rfl) ?_
  (repeat' (first | exact okO_nil | refine okN ?_ ?_))
  all_goals first | rfl | assumption | exact sameS_self _ | (rw [hc]; rfl) | (simp [h0]; done) | (simp only [Nat.ble_eq, Nat.beq_eq, ByteArray.size_append]; omega)
theorem r_stopT (k0 n0 : Int) (s0 : ByteArray) (ks0 : Dats) (h0 : ¬ k0 = 1) : Pure G0 13 [.str ⟨#[115, 116, 111, 112]⟩, .slice 1 [.int .i64 k0, .int .i64 n0, .str s0, .slice ks0.len ks0.cells]] (fun r => r = .tup [.agg [.int .i64 0, .int .i64 0, .str ⟨#[]⟩, .nil], .int .i64 (-4), .bool true]) := by
  refine Pure.runO (S := SRf [(209, [(177, true)])] []) 200 (o := [(!k0 == 1, true), (true, true)]) (by kernel_rfl) ?_
  (repeat' (first | exact okO_nil | refine okN ?_ ?_))
  all_goals first | rfl | assumption | exact sameS_self _ | (simp [h0]; done) | (simp only [Nat.ble_eq, Nat.beq_eq, ByteArray.size_append]; omega)
theorem a_stop (lo : Nat) (k0 n0 : Int) (s0 : ByteArray) (ks0 : Dats) (h0 : k0 = 1) : Pure (G0.at lo) 34 [.str ⟨#[115, 116, 111, 112]⟩, .slice 1 [.int .i64 k0, .int .i64 n0, .str s0, .slice ks0.len ks0.cells]] (fun r => r = .tup [.agg [.int .i64 0, .int .i64 0, .str ⟨#[]⟩, .nil], .int .i64 n0]) := by
  have hk : isKinds 1 [.int .i64 k0, .int .i64 n0, .str s0, .slice ks0.len ks0.cells] 1 [.int .i64 1] = true := isK1 (.mk k0 n0 s0 ks0) [1] rfl (by decide)
  have hc : kC [.int .i64 k0, .int .i64 n0, .str s0, .slice ks0.len ks0.cells] [.int .i64 1] = true := by
    refine (kc1 (.mk k0 n0 s0 ks0) _ 1 rfl).trans ?_
    simp [kindD, h0]
  refine Pure.runO (S := SAp lo [(168, [(16, false)])] []) 200 (o := [(true, true), (isKinds 1 [.int .i64 k0, .int .i64 n0, .str s0, .slice (Dats.len ks0) (Dats.cells ks0)] 1 [.int .i64 1], true), (!kC [.int .i64 k0, .int .i64 n0, .str s0, .slice (Dats.len ks0) (Dats.cells ks0)] [.int .i64 1], false), (false, false), (sameS { t := [(75, .agg [.int .i64 0, .int .i64 0, .str ⟨#[]⟩, .nil]), (76, .slice 1 [.int .i64 k0, .int .i64 n0, .str s0, .slice (Dats.len ks0) (Dats.cells ks0)]), (77, PV.epos [.int .i64 k0, .int .i64 n0, .str s0, .slice (Dats.len ks0) (Dats.cells ks0)]), (78, PV.epos [.int .i64 n0, .str s0, .slice (Dats.len ks0) (Dats.cells ks0)]), (79, .int .i64 n0), (5, .int .i64 n0), (73, .bool true), (74, .bool true), (65, .bool false), (66, .bool false), (54, .bool false), (55, .bool false), (43, .bool false), (44, .bool false), (32, .bool false), (33, .bool false), (19, .bool false), (20, .bool false), (18, .str ⟨#[115, 116, 111, 112]⟩), (6, PV.func (Fn.func 51) []), (16, .bool false), (16, .bool false), (15, .bool (kC [.int .i64 k0, .int .i64 n0, .str s0, .slice (Dats.len ks0) (Dats.cells ks0)] [.int .i64 1])), (14, .slice 1 [.int .i64 1]), (13, .str ⟨#[115, 116, 111, 112]⟩), (12, .slice 1 [.int .i64 k0, .int .i64 n0, .str s0, .slice (Dats.len ks0) (Dats.cells ks0)]), (5, .int .i64 n0), (4, .ptr 0 0), (0, .str ⟨#[115, 116, 111, 112]⟩), (1, .slice 1 [.int .i64 k0, .int .i64 n0, .str s0, .slice (Dats.len ks0) (Dats.cells ks0)])], h := { bx := [{ cs := [.int .i64 0, .int .i64 0, .str ⟨#[]⟩, .nil], ty := 24 }], rw := [] } } { t := [(75, .agg [.int .i64 0, .int .i64 0, .str ⟨#[]⟩, .nil]), (76, .slice 1 [.int .i64 k0, .int .i64 n0, .str s0, .slice (Dats.len ks0) (Dats.cells ks0)]), (77, PV.epos [.int .i64 k0, .int .i64 n0, .str s0, .slice (Dats.len ks0) (Dats.cells ks0)]), (78, PV.epos [.int .i64 n0, .str s0, .slice (Dats.len ks0) (Dats.cells ks0)]), (79, .int .i64 n0), (5, .int .i64 n0), (73, .bool true), (74, .bool true), (65, .bool false), (66, .bool false), (54, .bool false), (55, .bool false), (43, .bool false), (44, .bool false), (32, .bool false), (33, .bool false), (19, .bool false), (20, .bool false), (18, .str ⟨#[115, 116, 111, 112]⟩), (6, PV.func (Fn.func 51) []), (16, .bool false), (16, .bool false), (15, .bool (kC [.int .i64 k0, .int .i64 n0, .str s0, .slice (Dats.len ks0) (Dats.cells ks0)] [.int .i64 1])), (14, .slice 1 [.int .i64 1]), (13, .str ⟨#[115, 116, 111, 112]⟩), (12, .slice 1 [.int .i64 k0, .int .i64 n0, .str s0, .slice (Dats.len ks0) (Dats.cells ks0)]), (5, .int .i64 n0), (4, .ptr 0 0), (0, .str ⟨#[115, 116, 111, 112]⟩), (1, .slice 1 [.int .i64 k0, .int .i64 n0, .str s0, .slice (Dats.len ks0) (Dats.cells ks0)])], h := { bx := [{ cs := [.int .i64 0, .int .i64 0, .str ⟨#[]⟩, .nil], ty := 24 }], rw := [] } }, true), (sameS { t := [(75, .agg [.int .i64 0, .int .i64 0, .str ⟨#[]⟩, .nil]), (76, .slice 1 [.int .i64 k0, .int .i64 n0, .str s0, .slice (Dats.len ks0) (Dats.cells ks0)]), (77, PV.epos [.int .i64 k0, .int .i64 n0, .str s0, .slice (Dats.len ks0) (Dats.cells ks0)]), (78, PV.epos [.int .i64 n0, .str s0, .slice (Dats.len ks0) (Dats.cells ks0)]), (79, .int .i64 n0), (5, .int .i64 n0), (73, .bool true), (74, .bool true), (65, .bool false), (66, .bool false), (54, .bool false), (55, .bool false), (43, .bool false), (44, .bool false), (32, .bool false), (33, .bool false), (19, .bool false), (20, .bool false), (18, .str ⟨#[115, 116, 111, 112]⟩), (6, PV.func (Fn.func 51) []), (16, .bool false), (16, .bool false), (15, .bool (kC [.int .i64 k0, .int .i64 n0, .str s0, .slice (Dats.len ks0) (Dats.cells ks0)] [.int .i64 1])), (14, .slice 1 [.int .i64 1]), (13, .str ⟨#[115, 116, 111, 112]⟩), (12, .slice 1 [.int .i64 k0, .int .i64 n0, .str s0, .slice (Dats.len ks0) (Dats.cells ks0)]), (5, .int .i64 n0), (4, .ptr 0 0), (0, .str ⟨#[115, 116, 111, 112]⟩), (1, .slice 1 [.int .i64 k0, .int .i64 n0, .str s0, .slice (Dats.len ks0) (Dats.cells ks0)])], h := { bx := [{ cs := [.int .i64 0, .int .i64 0, .str ⟨#[]⟩, .nil], ty := 24 }], rw := [] } } { t := [(75, .agg [.int .i64 0, .int .i64 0, .str ⟨#[]⟩, .nil]), (76, .slice 1 [.int .i64 k0, .int .i64 n0, .str s0, .slice (Dats.len ks0) (Dats.cells ks0)]), (77, PV.epos [.int .i64 k0, .int .i64 n0, .str s0, .slice (Dats.len ks0) (Dats.cells ks0)]), (78, PV.epos [.int .i64 n0, .str s0, .slice (Dats.len ks0) (Dats.cells ks0)]), (79, .int .i64 n0), (5, .int .i64 n0), (73, .bool true), (74, .bool true), (65, .bool false), (66, .bool false), (54, .bool false), (55, .bool false), (43, .bool false), (44, .bool false), (32, .bool false), (33, .bool false), (19, .bool false), (20, .bool false), (18, .str ⟨#[115, 116, 111, 112]⟩), (6, PV.func (Fn.func 51) []), (16, .bool false), (16, .bool false), (15, .bool (kC [.int .i64 k0, .int .i64 n0, .str s0, .slice (Dats.len ks0) (Dats.cells ks0)] [.int .i64 1])), (14, .slice 1 [.int .i64 1]), (13, .str ⟨#[115, 116, 111, 112]⟩), (12, .slice 1 [.int .i64 k0, .int .i64 n0, .str s0, .slice (Dats.len ks0) (Dats.cells ks0)]), (5, .int .i64 n0), (4, .ptr 0 0), (0, .str ⟨#[115, 116, 111, 112]⟩), (1, .slice 1 [.int .i64 k0, .int .i64 n0, .str s0, .slice (Dats.len ks0) (Dats.cells ks0)])], h := { bx := [{ cs := [.int .i64 0, .int .i64 0, .str ⟨#[]⟩, .nil], ty := 24 }], rw := [] } }, true), (sameS { t := [(75, .agg [.int .i64 0, .int .i64 0, .str ⟨#[]⟩, .nil]), (76, .slice 1 [.int .i64 k0, .int .i64 n0, .str s0, .slice (Dats.len ks0) (Dats.cells ks0)]), (77, PV.epos [.int .i64 k0, .int .i64 n0, .str s0, .slice (Dats.len ks0) (Dats.cells ks0)]), (78, PV.epos [.int .i64 n0, .str s0, .slice (Dats.len ks0) (Dats.cells ks0)]), (79, .int .i64 n0), (5, .int .i64 n0), (73, .bool true), (74, .bool true), (65, .bool false), (66, .bool false), (54, .bool false), (55, .bool false), (43, .bool false), (44, .bool false), (32, .bool false), (33, .bool false), (19, .bool false), (20, .bool false), (18, .str ⟨#[115, 116, 111, 112]⟩), (6, PV.func (Fn.func 51) []), (16, .bool false), (16, .bool false), (15, .bool (kC [.int .i64 k0, .int .i64 n0, .str s0, .slice (Dats.len ks0) (Dats.cells ks0)] [.int .i64 1])), (14, .slice 1 [.int .i64 1]), (13, .str ⟨#[115, 116, 111, 112]⟩), (12, .slice 1 [.int .i64 k0, .int .i64 n0, .str s0, .slice (Dats.len ks0) (Dats.cells ks0)]), (5, .int .i64 n0), (4, .ptr 0 0), (0, .str ⟨#[115, 116, 111, 112]⟩), (1, .slice 1 [.int .i64 k0, .int .i64 n0, .str s0, .slice (Dats.len ks0) (Dats.cells ks0)])], h := { bx := [{ cs := [.int .i64 0, .int .i64 0, .str ⟨#[]⟩, .nil], ty := 24 }], rw := [] } } { t := [(75, .agg [.int .i64 0, .int .i64 0, .str ⟨#[]⟩, .nil]), (76, .slice 1 [.int .i64 k0, .int .i64 n0, .str s0, .slice (Dats.len ks0) (Dats.cells ks0)]), (77, PV.epos [.int .i64 k0, .int .i64 n0, .str s0, .slice (Dats.len ks0) (Dats.cells ks0)]), (78, PV.epos [.int .i64 n0, .str s0, .slice (Dats.len ks0) (Dats.cells ks0)]), (79, .int .i64 n0), (5, .int .i64 n0), (73, .bool true), (74, .bool true), (65, .bool false), (66, .bool false), (54, .bool false), (55, .bool false), (43, .bool false), (44, .bool false), (32, .bool false), (33, .bool false), (19, .bool false), (20, .bool false), (18, .str ⟨#[115, 116, 111, 112]⟩), (6, PV.func (Fn.func 51) []), (16, .bool false), (16, .bool false), (15, .bool (kC [.int .i64 k0, .int .i64 n0, .str s0, .slice (Dats.len ks0) (Dats.cells ks0)] [.int .i64 1])), (14, .slice 1 [.int .i64 1]), (13, .str ⟨#[115, 116, 111, 112]⟩), (12, .slice 1 [.int .i64 k0, .int .i64 n0, .str s0, .slice (Dats.len ks0) (Dats.cells ks0)]), (5, .int .i64 n0), (4, .ptr 0 0), (0, .str ⟨#[115, 116, 111, 112]⟩), (1, .slice 1 [.int .i64 k0, .int .i64 n0, .str s0, .slice (Dats.len ks0) (Dats.cells ks0)])], h := { bx := [{ cs := [.int .i64 0, .int .i64 0, .str ⟨#[]⟩, .nil], ty := 24 }], rw := [] } }, true)]) (by kernel_rfl) ?_
  (repeat' (first | exact okO_nil | refine okN ?_ ?_))
  all_goals first | rfl | assumption | exact sameS_self _ | (rw [hc]; rfl) | (simp [h0]; done) | (simp only [Nat.ble_eq, Nat.beq_eq, ByteArray.size_append]; omega)
theorem r_stop (k0 n0 : Int) (s0 : ByteArray) (ks0 : Dats) (h0 : k0 = 1) : Pure G0 13 [.str ⟨#[115, 116, 111, 112]⟩, .slice 1 [.int .i64 k0, .int .i64 n0, .str s0, .slice ks0.len ks0.cells]] (fun r => r = .tup [.agg [.int .i64 0, .int .i64 0, .str ⟨#[]⟩, .nil], .int .i64 n0, .bool true]) := by
  refine Pure.runO (S := SRf [(209, [(177, false)])] []) 200 (o := [(!k0 == 1, false), (false, false)]) (by kernel_rfl) ?_
  (repeat' (first | exact okO_nil | refine okN ?_ ?_))
  all_goals first | rfl | assumption | exact sameS_self _ | (simp [h0]; done) | (simp only [Nat.ble_eq, Nat.beq_eq, ByteArray.size_append]; omega)
end Seat
end Go.Proofs.YteimebpgmfhgjaaDoor
namespace Go.AS
open Go.RowKit
set_option linter.unusedVariables false
set_option linter.unusedSimpArgs false
structure MNd where
  l : Array Bool
  st : AS
  ob : List (Nat × Ob)
def insO (i : Nat) (o : Ob) : List (Nat × Ob) → List (Nat × Ob)
  | [] => [(i, o)]
  | (j, p) :: r => match Nat.ble i j with
    | true => (i, o) :: (j, p) :: r
    | false => (j, p) :: insO i o r
def flatO : List (Nat × Ob) → Ob
  | [] => []
  | (_, o) :: r => o ++ flatO r
theorem insO_ok {i : Nat} {o : Ob} : ∀ {l : List (Nat × Ob)}, okO (flatO (insO i o l)) → okO o ∧ okO (flatO l)
  | [], h => ⟨fun p hp => h p (by simp only [insO, flatO, List.append_nil]; exact hp), fun p hp => by cases hp⟩
  | (j, q) :: r, h => by
    unfold insO at h
    split at h
    · exact ⟨fun p hp => h p (List.mem_append_left _ hp), fun p hp => h p (List.mem_append_right _ hp)⟩
    · obtain ⟨h1, h2⟩ := insO_ok (l := r) (fun p hp => h p (List.mem_append_right _ hp))
      exact ⟨h1, fun p hp => (List.mem_append.1 hp).elim (fun g => h p (List.mem_append_left _ g)) (h2 p)⟩
inductive Leaf where
  | i (n : Int)
  | n (n : Nat)
  | b (b : Bool)
  | s (s : ByteArray)
  | l (cs : List PV)
  | v (x : PV)
  | x (b : List Box)
  | r (r : Option Row)
abbrev Lfs := List (Leaf × Leaf)
def okL (l : Lfs) : Prop := l.map Prod.fst = l.map Prod.snd
theorem okL_cons {p : Leaf × Leaf} {l : Lfs} (h : okL (p :: l)) : p.1 = p.2 ∧ okL l := by
  unfold okL at h ⊢
  simp only [List.map_cons, List.cons.injEq] at h
  exact h
theorem okL_app : ∀ {a b : Lfs}, okL (a ++ b) → okL a ∧ okL b
  | [], b, h => ⟨rfl, h⟩
  | p :: a, b, h => by
    obtain ⟨h1, h2⟩ := okL_cons h
    obtain ⟨h3, h4⟩ := okL_app h2
    refine ⟨?_, h4⟩
    unfold okL at h3 ⊢
    simp only [List.map_cons, h1, h3]
def lit (i j : Nat) (r : Lfs) : Lfs := match Nat.beq i j with
  | true => r
  | false => [(.b true, .b false)]
theorem lit_ok {i j : Nat} {r : Lfs} (h : okL (lit i j r)) : i = j ∧ okL r := by
  unfold lit at h
  split at h
  · rename_i e
    exact ⟨Nat.eq_of_beq_eq_true e, h⟩
  · obtain ⟨h1, _⟩ := okL_cons h; cases h1
def PV.lf : PV → PV → Lfs
  | .int .i64 a, .int .i64 b => [(.i a, .i b)]
  | .int .u8 a, .int .u8 b => [(.i a, .i b)]
  | .int .u64 a, .int .u64 b => [(.i a, .i b)]
  | .bool a, .bool b => [(.b a, .b b)]
  | .str a, .str b => [(.s a, .s b)]
  | .slice n cs, .slice m ds => [(.n n, .n m), (.l cs, .l ds)]
  | .own r n, .own q m => lit r q [(.n n, .n m)]
  | .ptr r n, .ptr q m => lit r q [(.n n, .n m)]
  | .rpos r n, .rpos q m => lit r q [(.n n, .n m)]
  | .bsl r n k, .bsl q m l => lit r q [(.n n, .n m), (.n k, .n l)]
  | .agg cs, .agg ds => [(.l cs, .l ds)]
  | .tup cs, .tup ds => [(.l cs, .l ds)]
  | .epos cs, .epos ds => [(.l cs, .l ds)]
  | .func f cs, .func g ds => [(.v (.func f cs), .v (.func g ds))]
  | .iface t x, .iface u y => [(.v (.iface t x), .v (.iface u y))]
  | .int k a, .int q b => [(.v (.int k a), .v (.int q b))]
  | .exact v, .exact u => [(.v (.exact v), .v (.exact u))]
  | .sl F n cs, .sl F' m ds => [(.v (.sl F n cs), .v (.sl F' m ds))]
  | .junk, .junk => []
  | .nil, .nil => []
  | .nilptr, .nilptr => []
  | .nilfunc, .nilfunc => []
  | .niliface, .niliface => []
  | _, _ => [(.b true, .b false)]
theorem PV.lf_eq {x y : PV} (h : okL (PV.lf x y)) : x = y := by
  unfold PV.lf at h
  split at h
  all_goals first
    | rfl
    | (obtain ⟨h1, _⟩ := okL_cons h; cases h1; done)
    | (obtain ⟨h1, _⟩ := okL_cons h; cases h1; rfl)
    | (obtain ⟨h1, h2⟩ := okL_cons h; obtain ⟨h2, _⟩ := okL_cons h2; cases h1; cases h2; rfl)
    | (obtain ⟨h1, h2⟩ := lit_ok h; obtain ⟨h2, _⟩ := okL_cons h2; cases h1; cases h2; rfl)
    | (obtain ⟨h1, h2⟩ := lit_ok h; obtain ⟨h2, h3⟩ := okL_cons h2; obtain ⟨h3, _⟩ := okL_cons h3; cases h1; cases h2; cases h3; rfl)
theorem okL_no {x : Lfs} (h : okL x) (hx : x = [(.b true, .b false)]) : False := by
  subst hx
  obtain ⟨h1, _⟩ := okL_cons h
  cases h1
def lfN : Nat → List PV → List PV → Lfs
  | 0, cs, ds => [(.l cs, .l ds)]
  | n + 1, x :: a, y :: b => PV.lf x y ++ lfN n a b
  | _ + 1, _, _ => [(.b true, .b false)]
theorem lfN_eq : ∀ {n : Nat} {a b : List PV}, okL (lfN n a b) → a = b
  | 0, a, b, h => by obtain ⟨h1, _⟩ := okL_cons h; cases h1; rfl
  | n + 1, x :: a, y :: b, h => by
    obtain ⟨h1, h2⟩ := okL_app h
    rw [PV.lf_eq h1, lfN_eq h2]
  | n + 1, [], [], _ => rfl
  | n + 1, [], _ :: _, h => (okL_no h rfl).elim
  | n + 1, _ :: _, [], h => (okL_no h rfl).elim
def PV.lfh : Option Nat → PV → PV → Lfs
  | none, x, y => PV.lf x y
  | some k, .slice n cs, .slice m ds => (.n n, .n m) :: lfN k cs ds
  | some k, .agg cs, .agg ds => lfN k cs ds
  | some _, x, y => PV.lf x y
theorem PV.lfh_eq {o : Option Nat} {x y : PV} (h : okL (PV.lfh o x y)) : x = y := by
  unfold PV.lfh at h
  split at h
  · exact PV.lf_eq h
  · obtain ⟨h1, h2⟩ := okL_cons h
    have h3 := lfN_eq h2
    cases h1; cases h3; rfl
  · have h3 := lfN_eq h
    cases h3; rfl
  · exact PV.lf_eq h
def lfT (hs : List (Nat × Nat)) : List (Nat × PV) → List (Nat × PV) → Lfs
  | [], [] => []
  | (i, x) :: t, (j, y) :: u => lit i j (PV.lfh (hs.lookup i) x y ++ lfT hs t u)
  | _, _ => [(.b true, .b false)]
theorem lfT_eq {hs : List (Nat × Nat)} : ∀ {t u : List (Nat × PV)}, okL (lfT hs t u) → t = u
  | [], [], _ => rfl
  | (i, x) :: t, (j, y) :: u, h => by
    obtain ⟨h1, h2⟩ := lit_ok h
    obtain ⟨h2, h3⟩ := okL_app h2
    cases h1
    rw [PV.lfh_eq h2, lfT_eq h3]
  | [], _ :: _, h => by obtain ⟨h1, _⟩ := okL_cons h; cases h1
  | _ :: _, [], h => by obtain ⟨h1, _⟩ := okL_cons h; cases h1
def lfB : List Box → List Box → Lfs
  | [], [] => []
  | ⟨cs, t⟩ :: a, ⟨ds, u⟩ :: b => lit t u ((.l cs, .l ds) :: lfB a b)
  | _, _ => [(.b true, .b false)]
theorem lfB_eq : ∀ {a b : List Box}, okL (lfB a b) → a = b
  | [], [], _ => rfl
  | ⟨cs, t⟩ :: a, ⟨ds, u⟩ :: b, h => by
    obtain ⟨h1, h2⟩ := lit_ok h
    obtain ⟨h2, h3⟩ := okL_cons h2
    cases h1; cases h2
    rw [lfB_eq h3]
  | [], _ :: _, h => by obtain ⟨h1, _⟩ := okL_cons h; cases h1
  | _ :: _, [], h => by obtain ⟨h1, _⟩ := okL_cons h; cases h1
def lfR : List (Option Row) → List (Option Row) → Lfs
  | [], [] => []
  | none :: a, none :: b => lfR a b
  | some ⟨cs, n, t, z⟩ :: a, some ⟨ds, m, u, y⟩ :: b => lit t u (lit z y ((.l cs, .l ds) :: (.n n, .n m) :: lfR a b))
  | _, _ => [(.b true, .b false)]
theorem lfR_eq : ∀ (a b : List (Option Row)), okL (lfR a b) → a = b
  | [], [], _ => rfl
  | none :: a, none :: b, h => by rw [lfR_eq a b h]
  | some ⟨cs, n, t, z⟩ :: a, some ⟨ds, m, u, y⟩ :: b, h => by
    obtain ⟨h1, g1⟩ := lit_ok h
    obtain ⟨h2, g2⟩ := lit_ok g1
    obtain ⟨h3, g3⟩ := okL_cons g2
    obtain ⟨h4, g4⟩ := okL_cons g3
    have h5 := lfR_eq a b g4
    cases h1; cases h2; cases h3; cases h4; cases h5
    rfl
  | [], none :: _, h => (okL_no h rfl).elim
  | [], some ⟨_, _, _, _⟩ :: _, h => (okL_no h rfl).elim
  | none :: _, [], h => (okL_no h rfl).elim
  | some ⟨_, _, _, _⟩ :: _, [], h => (okL_no h rfl).elim
  | none :: _, some ⟨_, _, _, _⟩ :: _, h => (okL_no h rfl).elim
  | some ⟨_, _, _, _⟩ :: _, none :: _, h => (okL_no h rfl).elim
def lfP : Ob → Ob → Lfs
  | [], [] => []
  | (x, y) :: a, (z, w) :: b => (.b x, .b z) :: (.b y, .b w) :: lfP a b
  | _, _ => [(.b true, .b false)]
theorem lfP_eq : ∀ (a b : Ob), okL (lfP a b) → a = b
  | [], [], _ => rfl
  | (x, y) :: a, (z, w) :: b, h => by
    obtain ⟨h1, g1⟩ := okL_cons h
    obtain ⟨h2, g2⟩ := okL_cons g1
    have h3 := lfP_eq a b g2
    cases h1; cases h2; cases h3
    rfl
  | [], (_, _) :: _, h => (okL_no h rfl).elim
  | (_, _) :: _, [], h => (okL_no h rfl).elim
def lfO : List (Nat × Ob) → List (Nat × Ob) → Lfs
  | [], [] => []
  | (i, o) :: a, (j, q) :: b => lit i j (lfP o q ++ lfO a b)
  | _, _ => [(.b true, .b false)]
theorem lfO_eq : ∀ (a b : List (Nat × Ob)), okL (lfO a b) → a = b
  | [], [], _ => rfl
  | (i, o) :: a, (j, q) :: b, h => by
    obtain ⟨h1, g1⟩ := lit_ok h
    obtain ⟨h2, g2⟩ := okL_app g1
    have h3 := lfO_eq a b g2
    have h4 := lfP_eq _ _ h2
    cases h1; cases h3; cases h4
    rfl
  | [], (_, _) :: _, h => (okL_no h rfl).elim
  | (_, _) :: _, [], h => (okL_no h rfl).elim
def frcB : List Box → List Box
  | [] => []
  | ⟨cs, t⟩ :: r => ⟨cs, t⟩ :: frcB r
theorem frcB_eq : ∀ l, frcB l = l
  | [] => rfl
  | ⟨cs, t⟩ :: r => by rw [frcB, frcB_eq r]
def frcR : List (Option Row) → List (Option Row)
  | [] => []
  | none :: r => none :: frcR r
  | some ⟨cs, n, t, z⟩ :: r => some ⟨cs, n, t, z⟩ :: frcR r
theorem frcR_eq : ∀ l, frcR l = l
  | [] => rfl
  | none :: r => by rw [frcR, frcR_eq r]
  | some ⟨cs, n, t, z⟩ :: r => by rw [frcR, frcR_eq r]
def frc : AS → AS
  | ⟨t, ⟨bx, rw'⟩⟩ => ⟨t, ⟨frcB bx, frcR rw'⟩⟩
theorem frc_eq (s : AS) : frc s = s := by
  obtain ⟨t, ⟨bx, rw'⟩⟩ := s
  rw [frc, frcB_eq, frcR_eq]
def MNd.lf (hs : List (Nat × Nat)) (a b : MNd) : Lfs := lfT hs a.st.t b.st.t ++ (lfB a.st.h.bx b.st.h.bx ++ (lfR a.st.h.rw b.st.h.rw ++ lfO a.ob b.ob))
theorem MNd.lf_eq {hs : List (Nat × Nat)} {a b : MNd} (hl : a.l = b.l) (h : okL (MNd.lf hs a b)) : a = b := by
  obtain ⟨l, ⟨t, ⟨bx, rw'⟩⟩, ob⟩ := a
  obtain ⟨l', ⟨t', ⟨bx', rw''⟩⟩, ob'⟩ := b
  obtain ⟨h1, h⟩ := okL_app h
  obtain ⟨h2, h⟩ := okL_app h
  obtain ⟨h3, h⟩ := okL_app h
  have := lfT_eq h1
  have := lfB_eq h2
  have := lfR_eq _ _ h3
  have := lfO_eq _ _ h
  simp only [] at *
  subst_vars
  rfl
def pickI {α : Type} (f : Nat → Option α) : List Nat → Option (Nat × α)
  | [] => none
  | i :: is => match f i with
    | some a => some (i, a)
    | none => pickI f is
theorem pickI_some {α : Type} {f : Nat → Option α} : ∀ {is : List Nat} {i : Nat} {a : α}, pickI f is = some (i, a) → f i = some a
  | j :: is, i, a, h => by
    unfold pickI at h
    split at h
    · cases h; assumption
    · exact pickI_some h
def mEach {α : Type} (f : Nat → Option α) : List Nat → Option (List α)
  | [] => some []
  | i :: is => match f i, mEach f is with
    | some a, some b => some (a :: b)
    | _, _ => none
theorem mEach_some {α : Type} {f : Nat → Option α} : ∀ {is : List Nat} {l : List α}, mEach f is = some l → ∀ i ∈ is, ∃ a, f i = some a ∧ a ∈ l
  | j :: is, l, h, i, hi => by
    unfold mEach at h
    split at h
    · rename_i a b ha hb
      cases h
      rcases List.mem_cons.1 hi with rfl | hi
      · exact ⟨a, ha, List.mem_cons_self ..⟩
      · obtain ⟨c, h1, h2⟩ := mEach_some hb i hi
        exact ⟨c, h1, List.mem_cons_of_mem _ h2⟩
    · cases h
section
variable {G : Prg}
noncomputable def mNext (S : Cfg G) (rec : Rec) (nt : Nat) (ops : Array Oper) (ds : List Nat) (sl : List Nat) (N : MNd) : Option (List MNd) := match Region.ready .any ops N.l with
  | [] => some [N]
  | i :: is => match pickI (fun j => pick1 G S.orc S.val nt ops ds N.l N.st [j]) (i :: is) with
    | some (j, l', s, o) => some [⟨l', frc (nrm sl s), insO j o N.ob⟩]
    | none => match pickF G nt ops N.l N.st (i :: is) with
      | some (l', s) => some [⟨l', frc (nrm sl s), N.ob⟩]
      | none => mEach (fun j => match anyOne S rec nt ops ds N.l N.st j with
        | some (l', s, o) => some ⟨l', frc (nrm sl s), insO j o N.ob⟩
        | none => none) (i :: is)
def mIns (hs : List (Nat × Nat)) (N : MNd) : List MNd → List MNd × Lfs
  | [] => ([N], [])
  | M :: r => match M.l == N.l with
    | true => (M :: r, MNd.lf hs M N)
    | false => match mIns hs N r with
      | (r', p) => (M :: r', p)
theorem mIns_ok {hs : List (Nat × Nat)} {N : MNd} : ∀ {r r' : List MNd} {p : Lfs}, mIns hs N r = (r', p) → okL p → N ∈ r' ∧ ∀ M ∈ r, M ∈ r'
  | [], r', p, h, _ => by cases h; exact ⟨List.mem_cons_self .., fun M hM => by cases hM⟩
  | M :: r, r', p, h, hp => by
    unfold mIns at h
    split at h
    · rename_i hl
      cases h
      have e := MNd.lf_eq (eq_of_beq hl) hp
      subst e
      exact ⟨List.mem_cons_self .., fun M hM => hM⟩
    · split at h
      rename_i r2 p2 h2
      cases h
      obtain ⟨g1, g2⟩ := mIns_ok h2 hp
      exact ⟨List.mem_cons_of_mem _ g1, fun K hK => (List.mem_cons.1 hK).elim (fun e => by subst e; exact List.mem_cons_self ..) (fun g => List.mem_cons_of_mem _ (g2 K g))⟩
def mAll (hs : List (Nat × Nat)) : List MNd → List MNd × Lfs
  | [] => ([], [])
  | N :: r => match mAll hs r with
    | (ms, ps) => match mIns hs N ms with
      | (ms', qs) => (ms', qs ++ ps)
theorem mAll_ok {hs : List (Nat × Nat)} : ∀ {r ms : List MNd} {p : Lfs}, mAll hs r = (ms, p) → okL p → ∀ M ∈ r, M ∈ ms
  | [], ms, p, h, _, M, hM => by cases hM
  | N :: r, ms, p, h, hp, M, hM => by
    unfold mAll at h
    split at h
    rename_i ms1 ps h1
    split at h
    rename_i ms2 qs h2
    cases h
    obtain ⟨g1, g2⟩ := okL_app hp
    obtain ⟨g3, g4⟩ := mIns_ok h2 g1
    rcases List.mem_cons.1 hM with rfl | hM
    · exact g3
    · exact g4 M (mAll_ok h1 g2 M hM)
noncomputable def mLevel (S : Cfg G) (rec : Rec) (nt : Nat) (ops : Array Oper) (ds : List Nat) (sl : List Nat) : List MNd → Option (List MNd)
  | [] => some []
  | N :: r => match mNext S rec nt ops ds sl N, mLevel S rec nt ops ds sl r with
    | some a, some b => some (a ++ b)
    | _, _ => none
noncomputable def runM (S : Cfg G) (rec : Rec) (nt : Nat) (ops : Array Oper) (ds : List Nat) (sl : List Nat) (hs : List (Nat × Nat)) : Nat → List MNd → Option (List MNd × Lfs)
  | 0, ns => match ns.all fun N => (Region.ready .any ops N.l).isEmpty with
    | true => some (ns, [])
    | false => none
  | n + 1, ns => match mLevel S rec nt ops ds sl ns with
    | some ms => match mAll hs ms with
      | (ks, ps) => match runM S rec nt ops ds sl hs n ks with
        | some (es, qs) => some (es, ps ++ qs)
        | none => none
    | none => none
variable {C : Ctx} {Q : AEx → AS → Prop} {ops : Array Oper} {ds : List Nat}
theorem wpG_fin {P : Program} {Q : Exit → Act → World → Prop} {n : Nat} {l : Array Bool} {a : Act} {w : World} (hri : Region.ready .any ops l = []) (h : wpG P ops Q ds n l a w) : wpG P ops Q ds (n + 1) l a w := by
  have hq : Q .normal a w := by
    cases n with
    | zero => exact h.2
    | succ n => exact h.1 hri
  exact ⟨fun _ => hq, fun i hi => by rw [hri] at hi; cases hi⟩
theorem mLevel_some {S : Cfg G} {rec : Rec} {nt : Nat} {sl : List Nat} : ∀ {ns ms : List MNd}, mLevel S rec nt ops ds sl ns = some ms → ∀ N ∈ ns, ∃ a, mNext S rec nt ops ds sl N = some a ∧ ∀ M ∈ a, M ∈ ms
  | N :: r, ms, h, K, hK => by
    unfold mLevel at h
    split at h
    · rename_i a b ha hb
      cases h
      rcases List.mem_cons.1 hK with rfl | hK
      · exact ⟨a, ha, fun M hM => List.mem_append_left _ hM⟩
      · obtain ⟨c, h1, h2⟩ := mLevel_some hb K hK
        exact ⟨c, h1, fun M hM => List.mem_append_right _ (h2 M hM)⟩
    · cases h
theorem anyOne_l {S : Cfg G} {rec : Rec} {nt : Nat} {l l' : Array Bool} {st s : AS} {i : Nat} {o : Ob} (hone : anyOne S rec nt ops ds l st i = some (l', s, o)) : l' = l.setIfInBounds i true := by
  unfold anyOne at hone
  split at hone
  · split at hone
    · split at hone
      · split at hone
        · cases hone; rfl
        · cases hone
      · cases hone
    · split at hone
      · cases hone; rfl
      · cases hone
    · cases hone
  · cases hone
theorem runM_ok {S : Cfg G} {rec : Rec} (hr : Snd G rec) (hQ : PanicT Q) {sl : List Nat} {hs : List (Nat × Nat)} : ∀ (n : Nat) (ns es : List MNd) (ps : Lfs), runM S rec C.nt ops ds sl hs n ns = some (es, ps) → okL ps → (∀ N ∈ es, okO (flatO N.ob) ∧ Q .normal N.st) → ∀ N ∈ ns, okO (flatO N.ob) ∧ SAny G C ops Q ds n N.l N.st := by
  intro n
  induction n with
  | zero =>
    intro ns es ps h hp hE N hN
    unfold runM at h
    split at h
    · rename_i hall
      cases h
      have h1 := List.all_eq_true.1 hall N hN
      have h2 : Region.ready .any ops N.l = [] := by simpa using h1
      exact ⟨(hE N hN).1, .done (by rw [h2]; rfl) (hE N hN).2⟩
    · cases h
  | succ n ih =>
    intro ns es ps h hp hE N hN
    unfold runM at h
    split at h
    · rename_i ms hlev
      split at h
      rename_i ks ps1 hall
      split at h
      · rename_i es2 qs hrun
        cases h
        obtain ⟨hp1, hp2⟩ := okL_app hp
        have hk := ih ks es qs hrun hp2 hE
        have hm := mAll_ok hall hp1
        obtain ⟨a, hnext, ha⟩ := mLevel_some hlev N hN
        have hA : ∀ M ∈ a, okO (flatO M.ob) ∧ SAny G C ops Q ds n M.l M.st := fun M hM => hk M (hm M (ha M hM))
        unfold mNext at hnext
        split at hnext
        · rename_i hri
          cases hnext
          have hN2 := hA N (List.mem_singleton.2 rfl)
          refine ⟨hN2.1, ?_⟩
          have hd := hN2.2
          intro E act w hrel
          have h3 := hd E act w hrel
          exact wpG_fin hri h3
        · rename_i i is hri
          split at hnext
          · rename_i j l' s o hp1
            cases hnext
            obtain ⟨g1, g2⟩ := hA _ (List.mem_singleton.2 rfl)
            rw [frc_eq] at g2
            obtain ⟨g3, g4⟩ := insO_ok g1
            exact ⟨g4, pick1_ok hQ g3 _ (pickI_some hp1) (.norm sl g2)⟩
          · split at hnext
            · rename_i l' s hpf
              cases hnext
              obtain ⟨g1, g2⟩ := hA _ (List.mem_singleton.2 rfl)
              rw [frc_eq] at g2
              exact ⟨g1, pickF_ok hQ _ hpf (.norm sl g2)⟩
            · have hAll := mEach_some hnext
              have hob : okO (flatO N.ob) := by
                obtain ⟨b, h1, h2⟩ := hAll i (List.mem_cons_self ..)
                split at h1
                · cases h1
                  exact (insO_ok (hA _ h2).1).2
                · cases h1
              refine ⟨hob, .all (by rw [hri]; exact List.cons_ne_nil _ _) fun j hj => ?_⟩
              rw [hri] at hj
              obtain ⟨b, h1, h2⟩ := hAll j hj
              split at h1
              · rename_i l' s o hone
                cases h1
                obtain ⟨g1, g2⟩ := hA _ h2
                rw [frc_eq] at g2
                obtain ⟨g3, g4⟩ := insO_ok g1
                have hl := anyOne_l hone
                exact anyOne_ok hr hone g3 (.norm sl g2)
              · cases h1
      · cases h
    · cases h
noncomputable def runMs (S : Cfg G) (k nt : Nat) (ops : Array Oper) (st : AS) (hs : List (Nat × Nat)) : Option (List MNd × Lfs) := runM S (run S k) nt ops (dsOf S.D ops) (slotsOf ops st) hs ops.size [⟨Array.replicate ops.size false, nrm (slotsOf ops st) st, []⟩]
noncomputable def runPM (S : Cfg G) (k nt : Nat) (ops : Array Oper) (st : AS) (hs : List (Nat × Nat)) (sl : List Nat) : Option (AS × Ob) := match runMs S k nt ops st hs with
  | some ([N], _) => some (nrm sl N.st, flatO N.ob)
  | _ => none
noncomputable def runPMl (S : Cfg G) (k nt : Nat) (ops : Array Oper) (st : AS) (hs : List (Nat × Nat)) : List Leaf := match runMs S k nt ops st hs with
  | some (_, ps) => ps.map Prod.fst
  | none => []
noncomputable def runPMr (S : Cfg G) (k nt : Nat) (ops : Array Oper) (st : AS) (hs : List (Nat × Nat)) : List Leaf := match runMs S k nt ops st hs with
  | some (_, ps) => ps.map Prod.snd
  | none => []
theorem SWP.runMQ {id : Nat} {st : AS} (S : Cfg G) (k nt : Nat) (hnt : C.nt = nt) (hs : List (Nat × Nat)) (sl : List Nat) {z : AS} {o : Ob} (h : runPM S k nt ops st hs sl = some (z, o)) (he : runPMl S k nt ops st hs = runPMr S k nt ops st hs) (ho : okO o) (hK : ∀ s, nrm sl s = z → Q .normal s) : SWP G C (.region id ops true) Q st := by
  unfold runPM at h
  unfold runPMl runPMr at he
  split at h
  · rename_i N ps hr
    cases h
    subst hnt
    rw [hr] at he
    refine SWP.norm (slotsOf ops st) ?_
    have h1 : SWP G C (.region id ops true) (fun e s => e = .normal ∧ s = N.st) (nrm (slotsOf ops st) st) := .draw _ _ rfl ((runM_ok (run_ok S k) (fun x t ⟨h, _⟩ => by cases h) _ _ _ _ hr he (fun M hM => by
      obtain rfl := List.mem_singleton.1 hM
      exact ⟨ho, rfl, rfl⟩) _ (List.mem_singleton.2 rfl)).2)
    exact h1.mono fun e s ⟨he, hs⟩ => by subst he; subst hs; exact hK _ rfl
  · cases h
end
end Go.AS
namespace Go.Proofs.YteimebpgmfhgjaaDoor
open Go.AS
set_option linter.unusedVariables false
set_option linter.unusedSimpArgs false
set_option maxRecDepth 100000
namespace Seat
theorem cons_cs (k0 n0 : Int) (s0 : ByteArray) (ks0 ks1 : Dats) : (Dat.mk 3 0 ⟨#[]⟩ (.cons (.mk k0 n0 s0 ks0) ks1)).cells = [.int .i64 3, .int .i64 0, .str ⟨#[]⟩, .slice (1 + ks1.len) (.int .i64 k0 :: .int .i64 n0 :: .str s0 :: .slice ks0.len ks0.cells :: ks1.cells)] := by
  simp only [Dat.cells, Dats.cells, Dats.len, List.cons_append, List.nil_append]
  rw [Nat.add_comm]
theorem cons_cs0 (k0 n0 : Int) (s0 : ByteArray) (ks0 ks1 : Dats) : (Dat.mk 3 0 ⟨#[]⟩ (.cons (.mk k0 n0 s0 ks0) ks1)).cells = [.int .i64 3, .int .i64 0, .str ⟨#[]⟩, .slice (0 + (1 + ks1.len)) (.int .i64 k0 :: .int .i64 n0 :: .str s0 :: .slice ks0.len ks0.cells :: ks1.cells)] := by
  rw [cons_cs, Nat.zero_add]
theorem a_cons (lo : Nat) (k0 n0 k1 n1 : Int) (s0 s1 : ByteArray) (ks0 ks1 : Dats) (h1 : k1 = 3) (gC : Good (Dat.mk 3 0 ⟨#[]⟩ (.cons (.mk k0 n0 s0 ks0) ks1))) (sm : smallD (Dat.mk 3 0 ⟨#[]⟩ (.cons (.mk k0 n0 s0 ks0) ks1))) (b : Bool) (hb : decide (chkD (Dat.mk 3 0 ⟨#[]⟩ (.cons (.mk k0 n0 s0 ks0) ks1)) = 0) = b) : Pure (G0.at lo) 34 [.str ⟨#[99, 111, 110, 115]⟩, .slice 2 [.int .i64 k0, .int .i64 n0, .str s0, .slice ks0.len ks0.cells, .int .i64 k1, .int .i64 n1, .str s1, .slice ks1.len ks1.cells]] (fun r => r = .tup [bif b then .agg [.int .i64 3, .int .i64 0, .str ⟨#[]⟩, .sl (OwnN (szC [.int .i64 3, .int .i64 0, .str ⟨#[]⟩, .slice (1 + ks1.len) (.int .i64 k0 :: .int .i64 n0 :: .str s0 :: .slice ks0.len ks0.cells :: ks1.cells)]) (newS lo)) (1 + ks1.len) (.int .i64 k0 :: .int .i64 n0 :: .str s0 :: .slice ks0.len ks0.cells :: ks1.cells)] else .agg [.int .i64 0, .int .i64 0, .str ⟨#[]⟩, .nil], .int .i64 (bif b then 0 else (-6))]) := by
  have hl : ks1.len + 1 ≤ 2000000 := sm.1
  have hk : isKinds 2 [.int .i64 k0, .int .i64 n0, .str s0, .slice ks0.len ks0.cells, .int .i64 k1, .int .i64 n1, .str s1, .slice ks1.len ks1.cells] 2 [.int .i64 0, .int .i64 3] = true := isK2 (.mk k0 n0 s0 ks0) (.mk k1 n1 s1 ks1) [0, 3] rfl (by decide)
  have hc : kC [.int .i64 k0, .int .i64 n0, .str s0, .slice ks0.len ks0.cells, .int .i64 k1, .int .i64 n1, .str s1, .slice ks1.len ks1.cells] [.int .i64 0, .int .i64 3] = true := by
    refine (kc2 (.mk k0 n0 s0 ks0) (.mk k1 n1 s1 ks1) _ 0 3 rfl).trans ?_
    simp [kindD, h1]
  have f5 : Nat.beq ks1.cells.length (ks1.len * 4) = true := by rw [Nat.beq_eq]; exact Dats.cells_len ks1
  have f6 : Nat.ble ((1 + ks1.len) * 56) 140737488355328 = true := by rw [Nat.ble_eq]; omega
  have f7 : Nat.ble (1 + ks1.len) 9223372036854775807 = true := by rw [Nat.ble_eq]; omega
  have f8 : isSm [.int .i64 3, .int .i64 0, .str ⟨#[]⟩, .slice (1 + ks1.len) (.int .i64 k0 :: .int .i64 n0 :: .str s0 :: .slice ks0.len ks0.cells :: ks1.cells)] = true := isSm_at (cons_cs k0 n0 s0 ks0 ks1) sm
  have f9 : isGood [.int .i64 3, .int .i64 0, .str ⟨#[]⟩, .slice (1 + ks1.len) (.int .i64 k0 :: .int .i64 n0 :: .str s0 :: .slice ks0.len ks0.cells :: ks1.cells)] = true := by rw [← cons_cs]; exact isGood_at gC
  have f10 : ofCells chkD (0 : Int) [.int .i64 3, .int .i64 0, .str ⟨#[]⟩, .slice (1 + ks1.len) (.int .i64 k0 :: .int .i64 n0 :: .str s0 :: .slice ks0.len ks0.cells :: ks1.cells)] = chkD (Dat.mk 3 0 ⟨#[]⟩ (.cons (.mk k0 n0 s0 ks0) ks1)) := by rw [← cons_cs]; exact ofCells_at _ _ _
  refine Fn.enterN Tryd.func34 Tryd.ntmps34 rfl (Nat.le_of_ble_eq_true rfl) fun C fr fp hnt hp hfr hfp => ?_
  refine Q.runSeq (SAp lo [] []) 60 168 hnt [0, 1, 4, 5] (z := ⟨[(0, .str ⟨#[99, 111, 110, 115]⟩), (1, .slice 2 [.int .i64 k0, .int .i64 n0, .str s0, .slice ks0.len ks0.cells, .int .i64 k1, .int .i64 n1, .str s1, .slice ks1.len ks1.cells]), (4, .ptr 0 0), (5, .int .i64 0)], ⟨[⟨[.int .i64 0, .int .i64 0, .str ⟨#[]⟩, .nil], 24⟩], []⟩⟩) (o := []) (by kernel_rfl) okO_nil ?_
  refine Q.runSeq (SAp lo [(168, [(16, false)])] []) 100 168 hnt [0, 1, 4, 5] (z := ⟨[(0, .str ⟨#[99, 111, 110, 115]⟩), (1, .slice 2 [.int .i64 k0, .int .i64 n0, .str s0, .slice ks0.len ks0.cells, .int .i64 k1, .int .i64 n1, .str s1, .slice ks1.len ks1.cells]), (4, .ptr 0 0), (5, .int .i64 0)], ⟨[⟨[.int .i64 0, .int .i64 0, .str ⟨#[]⟩, .nil], 24⟩], []⟩⟩) (o := [(true, true), (isKinds 2 [.int .i64 k0, .int .i64 n0, .str s0, .slice ks0.len ks0.cells, .int .i64 k1, .int .i64 n1, .str s1, .slice ks1.len ks1.cells] 2 [.int .i64 0, .int .i64 3], true), (!kC [.int .i64 k0, .int .i64 n0, .str s0, .slice ks0.len ks0.cells, .int .i64 k1, .int .i64 n1, .str s1, .slice ks1.len ks1.cells] [.int .i64 0, .int .i64 3], false), (false, false)]) (by kernel_rfl) (okO_cons rfl (okO_cons hk (okO_cons (by rw [hc]; rfl) (okO_cons rfl okO_nil)))) ?_
  refine Q.runSeq (SAp lo [] []) 60 168 hnt [0, 1, 4, 5, 6] (z := ⟨[(0, .str ⟨#[99, 111, 110, 115]⟩), (1, .slice 2 [.int .i64 k0, .int .i64 n0, .str s0, .slice ks0.len ks0.cells, .int .i64 k1, .int .i64 n1, .str s1, .slice ks1.len ks1.cells]), (4, .ptr 0 0), (5, .int .i64 0), (6, .func (.func 51) [])], ⟨[⟨[.int .i64 0, .int .i64 0, .str ⟨#[]⟩, .nil], 24⟩], []⟩⟩) (o := []) (by kernel_rfl) okO_nil ?_
  refine Q.seq fun K hK => ?_
  refine Q.runSeq (SAp lo [] []) 60 168 hnt [1, 4, 5, 18] (z := ⟨[(1, .slice 2 [.int .i64 k0, .int .i64 n0, .str s0, .slice ks0.len ks0.cells, .int .i64 k1, .int .i64 n1, .str s1, .slice ks1.len ks1.cells]), (4, .ptr 0 0), (5, .int .i64 0), (18, .str ⟨#[99, 111, 110, 115]⟩)], ⟨[⟨[.int .i64 0, .int .i64 0, .str ⟨#[]⟩, .nil], 24⟩], []⟩⟩) (o := []) (by kernel_rfl) okO_nil ?_
  refine Q.block ?_
  refine Q.runSeq (SAp lo [] []) 60 168 hnt [1, 4, 5, 18, 19] (z := ⟨[(1, .slice 2 [.int .i64 k0, .int .i64 n0, .str s0, .slice ks0.len ks0.cells, .int .i64 k1, .int .i64 n1, .str s1, .slice ks1.len ks1.cells]), (4, .ptr 0 0), (5, .int .i64 0), (18, .str ⟨#[99, 111, 110, 115]⟩), (19, .bool false)], ⟨[⟨[.int .i64 0, .int .i64 0, .str ⟨#[]⟩, .nil], 24⟩], []⟩⟩) (o := []) (by kernel_rfl) okO_nil ?_
  refine Q.cond (b := false) rfl (fun h => by cases h) (fun _ => ?_)
  refine Q.runSeq (SAp lo [] []) 60 168 hnt [1, 4, 5, 18, 32] (z := ⟨[(1, .slice 2 [.int .i64 k0, .int .i64 n0, .str s0, .slice ks0.len ks0.cells, .int .i64 k1, .int .i64 n1, .str s1, .slice ks1.len ks1.cells]), (4, .ptr 0 0), (5, .int .i64 0), (18, .str ⟨#[99, 111, 110, 115]⟩), (32, .bool false)], ⟨[⟨[.int .i64 0, .int .i64 0, .str ⟨#[]⟩, .nil], 24⟩], []⟩⟩) (o := []) (by kernel_rfl) okO_nil ?_
  refine Q.cond (b := false) rfl (fun h => by cases h) (fun _ => ?_)
  refine Q.runSeq (SAp lo [] []) 60 168 hnt [1, 4, 5, 18, 43] (z := ⟨[(1, .slice 2 [.int .i64 k0, .int .i64 n0, .str s0, .slice ks0.len ks0.cells, .int .i64 k1, .int .i64 n1, .str s1, .slice ks1.len ks1.cells]), (4, .ptr 0 0), (5, .int .i64 0), (18, .str ⟨#[99, 111, 110, 115]⟩), (43, .bool false)], ⟨[⟨[.int .i64 0, .int .i64 0, .str ⟨#[]⟩, .nil], 24⟩], []⟩⟩) (o := []) (by kernel_rfl) okO_nil ?_
  refine Q.cond (b := false) rfl (fun h => by cases h) (fun _ => ?_)
  refine Q.runSeq (SAp lo [] []) 60 168 hnt [1, 4, 5, 18, 54] (z := ⟨[(1, .slice 2 [.int .i64 k0, .int .i64 n0, .str s0, .slice ks0.len ks0.cells, .int .i64 k1, .int .i64 n1, .str s1, .slice ks1.len ks1.cells]), (4, .ptr 0 0), (5, .int .i64 0), (18, .str ⟨#[99, 111, 110, 115]⟩), (54, .bool false)], ⟨[⟨[.int .i64 0, .int .i64 0, .str ⟨#[]⟩, .nil], 24⟩], []⟩⟩) (o := []) (by kernel_rfl) okO_nil ?_
  refine Q.cond (b := false) rfl (fun h => by cases h) (fun _ => ?_)
  refine Q.runSeq (SAp lo [] []) 60 168 hnt [1, 4, 5, 18, 65] (z := ⟨[(1, .slice 2 [.int .i64 k0, .int .i64 n0, .str s0, .slice ks0.len ks0.cells, .int .i64 k1, .int .i64 n1, .str s1, .slice ks1.len ks1.cells]), (4, .ptr 0 0), (5, .int .i64 0), (18, .str ⟨#[99, 111, 110, 115]⟩), (65, .bool false)], ⟨[⟨[.int .i64 0, .int .i64 0, .str ⟨#[]⟩, .nil], 24⟩], []⟩⟩) (o := []) (by kernel_rfl) okO_nil ?_
  refine Q.cond (b := false) rfl (fun h => by cases h) (fun _ => ?_)
  refine Q.runSeq (SAp lo [] []) 60 168 hnt [1, 4, 5, 18, 73] (z := ⟨[(1, .slice 2 [.int .i64 k0, .int .i64 n0, .str s0, .slice ks0.len ks0.cells, .int .i64 k1, .int .i64 n1, .str s1, .slice ks1.len ks1.cells]), (4, .ptr 0 0), (5, .int .i64 0), (18, .str ⟨#[99, 111, 110, 115]⟩), (73, .bool false)], ⟨[⟨[.int .i64 0, .int .i64 0, .str ⟨#[]⟩, .nil], 24⟩], []⟩⟩) (o := []) (by kernel_rfl) okO_nil ?_
  refine Q.cond (b := false) rfl (fun h => by cases h) (fun _ => ?_)
  refine Q.runSeq (SAp lo [] []) 60 168 hnt [1, 4, 5, 18, 80] (z := ⟨[(1, .slice 2 [.int .i64 k0, .int .i64 n0, .str s0, .slice ks0.len ks0.cells, .int .i64 k1, .int .i64 n1, .str s1, .slice ks1.len ks1.cells]), (4, .ptr 0 0), (5, .int .i64 0), (18, .str ⟨#[99, 111, 110, 115]⟩), (80, .bool false)], ⟨[⟨[.int .i64 0, .int .i64 0, .str ⟨#[]⟩, .nil], 24⟩], []⟩⟩) (o := []) (by kernel_rfl) okO_nil ?_
  refine Q.cond (b := false) rfl (fun h => by cases h) (fun _ => ?_)
  refine Q.runSeq (SAp lo [] []) 60 168 hnt [1, 4, 5, 105] (z := ⟨[(1, .slice 2 [.int .i64 k0, .int .i64 n0, .str s0, .slice ks0.len ks0.cells, .int .i64 k1, .int .i64 n1, .str s1, .slice ks1.len ks1.cells]), (4, .ptr 0 0), (5, .int .i64 0), (105, .bool true)], ⟨[⟨[.int .i64 0, .int .i64 0, .str ⟨#[]⟩, .nil], 24⟩], []⟩⟩) (o := []) (by kernel_rfl) okO_nil ?_
  refine Q.cond (b := true) rfl (fun _ => ?_) (fun h => by cases h)
  refine SWP.norm [1, 4, 5] ?_
  refine Q.seq fun K2 hK2 => ?_
  refine SWP.runMQ (SAp lo [(168, [(115, true)])] []) 100 168 hnt [(110, 4)] [4, 5, 9] (z := ⟨[(4, .ptr 0 0), (5, .int .i64 0), (9, .ptr 1 0)], ⟨[⟨[.int .i64 0, .int .i64 0, .str ⟨#[]⟩, .nil], 24⟩, ⟨[.int .i64 3, .int .i64 0, .str ⟨#[]⟩, .sl (OwnN (szC [.int .i64 3, .int .i64 0, .str ⟨#[]⟩, .slice (1 + ks1.len) (.int .i64 k0 :: .int .i64 n0 :: .str s0 :: .slice ks0.len ks0.cells :: ks1.cells)]) (newS lo)) (1 + ks1.len) (.int .i64 k0 :: .int .i64 n0 :: .str s0 :: .slice ks0.len ks0.cells :: ks1.cells)], 24⟩], [none]⟩⟩) (o := [(Nat.beq ks1.cells.length (ks1.len * 4), true), (Nat.ble ((1 + ks1.len) * 56) 140737488355328, true), (Nat.ble (1 + ks1.len) 9223372036854775807, true), (true, true), (isSm [.int .i64 3, .int .i64 0, .str ⟨#[]⟩, .slice (1 + ks1.len) (.int .i64 k0 :: .int .i64 n0 :: .str s0 :: .slice ks0.len ks0.cells :: ks1.cells)], true)]) (by kernel_rfl) (by kernel_rfl) (okO_cons f5 (okO_cons f6 (okO_cons f7 (okO_cons rfl (okO_cons f8 okO_nil))))) (fun s hs => hK2 s (.norm [4, 5, 9] ?_))
  rw [hs]
  cases b with
  | true =>
    have hb := of_decide_eq_true hb
    refine SWP.runQ (SAp lo [(168, [(120, false)])] []) 100 168 hnt [4, 5] (e := .ret) (z := ⟨[(4, .ptr 0 0), (5, .int .i64 0)], ⟨[⟨[.int .i64 3, .int .i64 0, .str ⟨#[]⟩, .sl (OwnN (szC [.int .i64 3, .int .i64 0, .str ⟨#[]⟩, .slice (1 + ks1.len) (.int .i64 k0 :: .int .i64 n0 :: .str s0 :: .slice ks0.len ks0.cells :: ks1.cells)]) (newS lo)) (1 + ks1.len) (.int .i64 k0 :: .int .i64 n0 :: .str s0 :: .slice ks0.len ks0.cells :: ks1.cells)], 24⟩, ⟨[.int .i64 3, .int .i64 0, .str ⟨#[]⟩, .sl (OwnN (szC [.int .i64 3, .int .i64 0, .str ⟨#[]⟩, .slice (1 + ks1.len) (.int .i64 k0 :: .int .i64 n0 :: .str s0 :: .slice ks0.len ks0.cells :: ks1.cells)]) (newS lo)) (1 + ks1.len) (.int .i64 k0 :: .int .i64 n0 :: .str s0 :: .slice ks0.len ks0.cells :: ks1.cells)], 24⟩], [none]⟩⟩) (o := [(true, true), (isGood [.int .i64 3, .int .i64 0, .str ⟨#[]⟩, .slice (1 + ks1.len) (.int .i64 k0 :: .int .i64 n0 :: .str s0 :: .slice ks0.len ks0.cells :: ks1.cells)], true), (!ofCells chkD (0 : Int) [.int .i64 3, .int .i64 0, .str ⟨#[]⟩, .slice (1 + ks1.len) (.int .i64 k0 :: .int .i64 n0 :: .str s0 :: .slice ks0.len ks0.cells :: ks1.cells)] == (0 : Int), false), (false, false)]) (by kernel_rfl) (okO_cons rfl (okO_cons f9 (okO_cons (by rw [f10, hb]; rfl) (okO_cons rfl okO_nil)))) (fun st hs => hfr st [4, 5] ?_)
    rw [hs]
    exact ⟨0, .tup [.agg [.int .i64 3, .int .i64 0, .str ⟨#[]⟩, .sl (OwnN (szC [.int .i64 3, .int .i64 0, .str ⟨#[]⟩, .slice (1 + ks1.len) (.int .i64 k0 :: .int .i64 n0 :: .str s0 :: .slice ks0.len ks0.cells :: ks1.cells)]) (newS lo)) (1 + ks1.len) (.int .i64 k0 :: .int .i64 n0 :: .str s0 :: .slice ks0.len ks0.cells :: ks1.cells)], .int .i64 0], Nat.le_refl _, Nat.zero_le _, rfl, rfl, rfl, rfl, _, rfl, rfl⟩
  | false =>
    have hb := of_decide_eq_false hb
    refine SWP.runQ (SAp lo [(168, [(120, true)])] []) 100 168 hnt [4, 5] (e := .ret) (z := ⟨[(4, .ptr 0 0), (5, .int .i64 (-6))], ⟨[⟨[.int .i64 0, .int .i64 0, .str ⟨#[]⟩, .nil], 24⟩, ⟨[.int .i64 3, .int .i64 0, .str ⟨#[]⟩, .sl (OwnN (szC [.int .i64 3, .int .i64 0, .str ⟨#[]⟩, .slice (1 + ks1.len) (.int .i64 k0 :: .int .i64 n0 :: .str s0 :: .slice ks0.len ks0.cells :: ks1.cells)]) (newS lo)) (1 + ks1.len) (.int .i64 k0 :: .int .i64 n0 :: .str s0 :: .slice ks0.len ks0.cells :: ks1.cells)], 24⟩], [none]⟩⟩) (o := [(true, true), (isGood [.int .i64 3, .int .i64 0, .str ⟨#[]⟩, .slice (1 + ks1.len) (.int .i64 k0 :: .int .i64 n0 :: .str s0 :: .slice ks0.len ks0.cells :: ks1.cells)], true), (!ofCells chkD (0 : Int) [.int .i64 3, .int .i64 0, .str ⟨#[]⟩, .slice (1 + ks1.len) (.int .i64 k0 :: .int .i64 n0 :: .str s0 :: .slice ks0.len ks0.cells :: ks1.cells)] == (0 : Int), true), (true, true)]) (by kernel_rfl) (okO_cons rfl (okO_cons f9 (okO_cons (by rw [f10]; simpa using hb) (okO_cons rfl okO_nil)))) (fun st hs => hfr st [4, 5] ?_)
    rw [hs]
    exact ⟨0, .tup [.agg [.int .i64 0, .int .i64 0, .str ⟨#[]⟩, .nil], .int .i64 (-6)], Nat.le_refl _, Nat.zero_le _, rfl, rfl, rfl, rfl, _, rfl, rfl⟩
theorem r_cons (k0 n0 k1 n1 : Int) (s0 s1 : ByteArray) (ks0 ks1 : Dats) (h1 : k1 = 3) (s0m : smallD (.mk k0 n0 s0 ks0)) (s1m : smallD (.mk k1 n1 s1 ks1)) (gC : Small (Dat.mk 3 0 ⟨#[]⟩ (.cons (.mk k0 n0 s0 ks0) ks1))) (sm : smallD (Dat.mk 3 0 ⟨#[]⟩ (.cons (.mk k0 n0 s0 ks0) ks1))) (b : Bool) (hb : decide (chkD (Dat.mk 3 0 ⟨#[]⟩ (.cons (.mk k0 n0 s0 ks0) ks1)) = 0) = b) : Pure G0 13 [.str ⟨#[99, 111, 110, 115]⟩, .slice 2 [.int .i64 k0, .int .i64 n0, .str s0, .slice ks0.len ks0.cells, .int .i64 k1, .int .i64 n1, .str s1, .slice ks1.len ks1.cells]] (fun r => r = .tup [bif b then .agg [.int .i64 3, .int .i64 0, .str ⟨#[]⟩, .slice (0 + (1 + ks1.len)) (.int .i64 k0 :: .int .i64 n0 :: .str s0 :: .slice ks0.len ks0.cells :: ks1.cells)] else .agg [.int .i64 0, .int .i64 0, .str ⟨#[]⟩, .nil], .int .i64 (bif b then 0 else (-6)), .bool true]) := by
  have hl : ks1.len + 1 ≤ 2000000 := sm.1
  have f3 : isSm [.int .i64 k0, .int .i64 n0, .str s0, .slice ks0.len ks0.cells] = true := isSm_at rfl s0m
  have f4 : isSm [.int .i64 k1, .int .i64 n1, .str s1, .slice ks1.len ks1.cells] = true := isSm_at rfl s1m
  have f5 : Nat.beq ks1.cells.length (ks1.len * 4) = true := by rw [Nat.beq_eq]; exact Dats.cells_len ks1
  have f6 : Nat.ble ((1 + ks1.len) * 56) 140737488355328 = true := by rw [Nat.ble_eq]; omega
  have f7 : Nat.ble (1 + ks1.len) 9223372036854775807 = true := by rw [Nat.ble_eq]; omega
  have f8 : Nat.beq (List.length (.int .i64 k0 :: .int .i64 n0 :: .str s0 :: .slice ks0.len ks0.cells :: ks1.cells)) ((1 + ks1.len) * 4) = true := by rw [Nat.beq_eq]; simp only [List.length_cons, Dats.cells_len]; omega
  have f9 : Nat.ble ((0 + (1 + ks1.len)) * 56) 140737488355328 = true := by rw [Nat.ble_eq]; omega
  have f10 : Nat.ble (0 + (1 + ks1.len)) 9223372036854775807 = true := by rw [Nat.ble_eq]; omega
  have f11 : isSmc [.int .i64 3, .int .i64 0, .str ⟨#[]⟩, .slice (0 + (1 + ks1.len)) (.int .i64 k0 :: .int .i64 n0 :: .str s0 :: .slice ks0.len ks0.cells :: ks1.cells)] = true := isSmc_at (cons_cs0 k0 n0 s0 ks0 ks1) gC
  have f12 : ofCells chkD (0 : Int) [.int .i64 3, .int .i64 0, .str ⟨#[]⟩, .slice (0 + (1 + ks1.len)) (.int .i64 k0 :: .int .i64 n0 :: .str s0 :: .slice ks0.len ks0.cells :: ks1.cells)] = chkD (Dat.mk 3 0 ⟨#[]⟩ (.cons (.mk k0 n0 s0 ks0) ks1)) := by rw [← cons_cs0]; exact ofCells_at _ _ _
  refine Fn.enterN Tryd.func13 Tryd.ntmps13 rfl (Nat.le_of_ble_eq_true rfl) fun C fr fp hnt hp hfr hfp => ?_
  refine Q.runSeq (SRf [] []) 100 209 hnt [0, 1, 4] (z := ⟨[(0, .str ⟨#[99, 111, 110, 115]⟩), (1, .slice 2 [.int .i64 k0, .int .i64 n0, .str s0, .slice ks0.len ks0.cells, .int .i64 k1, .int .i64 n1, .str s1, .slice ks1.len ks1.cells]), (4, .ptr 0 0)], ⟨[⟨[.int .i64 0, .int .i64 0, .str ⟨#[]⟩, .nil], 24⟩], []⟩⟩) (o := []) (by kernel_rfl) okO_nil ?_
  refine Q.runSeq (SRf [] []) 400 209 hnt [0, 1, 4, 7, 8] (z := ⟨[(0, .str ⟨#[99, 111, 110, 115]⟩), (1, .slice 2 [.int .i64 k0, .int .i64 n0, .str s0, .slice ks0.len ks0.cells, .int .i64 k1, .int .i64 n1, .str s1, .slice ks1.len ks1.cells]), (4, .ptr 0 0), (7, .int .i64 2), (8, .bool true)], ⟨[⟨[.int .i64 0, .int .i64 0, .str ⟨#[]⟩, .nil], 24⟩], []⟩⟩) (o := []) (by kernel_rfl) okO_nil ?_
  refine Q.runSeq (SRf [] []) 100 209 hnt [0, 1, 4, 7] (z := ⟨[(0, .str ⟨#[99, 111, 110, 115]⟩), (1, .slice 2 [.int .i64 k0, .int .i64 n0, .str s0, .slice ks0.len ks0.cells, .int .i64 k1, .int .i64 n1, .str s1, .slice ks1.len ks1.cells]), (4, .ptr 0 0), (7, .int .i64 2)], ⟨[⟨[.int .i64 0, .int .i64 0, .str ⟨#[]⟩, .nil], 24⟩], []⟩⟩) (o := []) (by kernel_rfl) okO_nil ?_
  refine Q.runSeq (SRf [] []) 100 209 hnt [0, 1, 4, 7] (z := ⟨[(0, .str ⟨#[99, 111, 110, 115]⟩), (1, .slice 2 [.int .i64 k0, .int .i64 n0, .str s0, .slice ks0.len ks0.cells, .int .i64 k1, .int .i64 n1, .str s1, .slice ks1.len ks1.cells]), (4, .ptr 0 0), (7, .int .i64 2)], ⟨[⟨[.int .i64 0, .int .i64 0, .str ⟨#[]⟩, .nil], 24⟩], []⟩⟩) (o := []) (by kernel_rfl) okO_nil ?_
  refine Q.runSeq (SRf [] []) 100 209 hnt [0, 1, 4, 7, 9] (z := ⟨[(0, .str ⟨#[99, 111, 110, 115]⟩), (1, .slice 2 [.int .i64 k0, .int .i64 n0, .str s0, .slice ks0.len ks0.cells, .int .i64 k1, .int .i64 n1, .str s1, .slice ks1.len ks1.cells]), (4, .ptr 0 0), (7, .int .i64 2), (9, .ptr 1 0)], ⟨[⟨[.int .i64 0, .int .i64 0, .str ⟨#[]⟩, .nil], 24⟩, ⟨[.int .i64 k0, .int .i64 n0, .str s0, .slice ks0.len ks0.cells], 24⟩], []⟩⟩) (o := []) (by kernel_rfl) okO_nil ?_
  refine Q.runSeq (SRf [] []) 100 209 hnt [0, 4, 9, 10] (z := ⟨[(0, .str ⟨#[99, 111, 110, 115]⟩), (4, .ptr 0 0), (9, .ptr 1 0), (10, .ptr 2 0)], ⟨[⟨[.int .i64 0, .int .i64 0, .str ⟨#[]⟩, .nil], 24⟩, ⟨[.int .i64 k0, .int .i64 n0, .str s0, .slice ks0.len ks0.cells], 24⟩, ⟨[.int .i64 k1, .int .i64 n1, .str s1, .slice ks1.len ks1.cells], 24⟩], []⟩⟩) (o := []) (by kernel_rfl) okO_nil ?_
  refine Q.seq fun K hK => ?_
  refine Q.runSeq (SRf [] []) 100 209 hnt [4, 9, 10, 37] (z := ⟨[(4, .ptr 0 0), (9, .ptr 1 0), (10, .ptr 2 0), (37, .str ⟨#[99, 111, 110, 115]⟩)], ⟨[⟨[.int .i64 0, .int .i64 0, .str ⟨#[]⟩, .nil], 24⟩, ⟨[.int .i64 k0, .int .i64 n0, .str s0, .slice ks0.len ks0.cells], 24⟩, ⟨[.int .i64 k1, .int .i64 n1, .str s1, .slice ks1.len ks1.cells], 24⟩], []⟩⟩) (o := []) (by kernel_rfl) okO_nil ?_
  refine Q.block ?_
  refine Q.runSeq (SRf [] []) 100 209 hnt [4, 9, 10, 37, 38] (z := ⟨[(4, .ptr 0 0), (9, .ptr 1 0), (10, .ptr 2 0), (37, .str ⟨#[99, 111, 110, 115]⟩), (38, .bool false)], ⟨[⟨[.int .i64 0, .int .i64 0, .str ⟨#[]⟩, .nil], 24⟩, ⟨[.int .i64 k0, .int .i64 n0, .str s0, .slice ks0.len ks0.cells], 24⟩, ⟨[.int .i64 k1, .int .i64 n1, .str s1, .slice ks1.len ks1.cells], 24⟩], []⟩⟩) (o := []) (by kernel_rfl) okO_nil ?_
  refine Q.cond (b := false) rfl (fun h => by cases h) (fun _ => ?_)
  refine Q.runSeq (SRf [] []) 100 209 hnt [4, 9, 10, 37, 47] (z := ⟨[(4, .ptr 0 0), (9, .ptr 1 0), (10, .ptr 2 0), (37, .str ⟨#[99, 111, 110, 115]⟩), (47, .bool false)], ⟨[⟨[.int .i64 0, .int .i64 0, .str ⟨#[]⟩, .nil], 24⟩, ⟨[.int .i64 k0, .int .i64 n0, .str s0, .slice ks0.len ks0.cells], 24⟩, ⟨[.int .i64 k1, .int .i64 n1, .str s1, .slice ks1.len ks1.cells], 24⟩], []⟩⟩) (o := []) (by kernel_rfl) okO_nil ?_
  refine Q.cond (b := false) rfl (fun h => by cases h) (fun _ => ?_)
  refine Q.runSeq (SRf [] []) 100 209 hnt [4, 9, 10, 37, 56] (z := ⟨[(4, .ptr 0 0), (9, .ptr 1 0), (10, .ptr 2 0), (37, .str ⟨#[99, 111, 110, 115]⟩), (56, .bool false)], ⟨[⟨[.int .i64 0, .int .i64 0, .str ⟨#[]⟩, .nil], 24⟩, ⟨[.int .i64 k0, .int .i64 n0, .str s0, .slice ks0.len ks0.cells], 24⟩, ⟨[.int .i64 k1, .int .i64 n1, .str s1, .slice ks1.len ks1.cells], 24⟩], []⟩⟩) (o := []) (by kernel_rfl) okO_nil ?_
  refine Q.cond (b := false) rfl (fun h => by cases h) (fun _ => ?_)
  refine Q.runSeq (SRf [] []) 100 209 hnt [4, 9, 10, 37, 65] (z := ⟨[(4, .ptr 0 0), (9, .ptr 1 0), (10, .ptr 2 0), (37, .str ⟨#[99, 111, 110, 115]⟩), (65, .bool false)], ⟨[⟨[.int .i64 0, .int .i64 0, .str ⟨#[]⟩, .nil], 24⟩, ⟨[.int .i64 k0, .int .i64 n0, .str s0, .slice ks0.len ks0.cells], 24⟩, ⟨[.int .i64 k1, .int .i64 n1, .str s1, .slice ks1.len ks1.cells], 24⟩], []⟩⟩) (o := []) (by kernel_rfl) okO_nil ?_
  refine Q.cond (b := false) rfl (fun h => by cases h) (fun _ => ?_)
  refine Q.runSeq (SRf [] []) 100 209 hnt [4, 9, 10, 74] (z := ⟨[(4, .ptr 0 0), (9, .ptr 1 0), (10, .ptr 2 0), (74, .bool true)], ⟨[⟨[.int .i64 0, .int .i64 0, .str ⟨#[]⟩, .nil], 24⟩, ⟨[.int .i64 k0, .int .i64 n0, .str s0, .slice ks0.len ks0.cells], 24⟩, ⟨[.int .i64 k1, .int .i64 n1, .str s1, .slice ks1.len ks1.cells], 24⟩], []⟩⟩) (o := []) (by kernel_rfl) okO_nil ?_
  refine Q.cond (b := true) rfl (fun _ => ?_) (fun h => by cases h)
  refine Q.runSeq (SRf [(209, [(78, false)])] []) 100 209 hnt [4, 9, 10] (z := ⟨[(4, .ptr 0 0), (9, .ptr 1 0), (10, .ptr 2 0)], ⟨[⟨[.int .i64 0, .int .i64 0, .str ⟨#[]⟩, .nil], 24⟩, ⟨[.int .i64 k0, .int .i64 n0, .str s0, .slice ks0.len ks0.cells], 24⟩, ⟨[.int .i64 k1, .int .i64 n1, .str s1, .slice ks1.len ks1.cells], 24⟩], []⟩⟩) (o := [(!k1 == (3 : Int), false), (false, false)]) (by kernel_rfl) (okO_cons (by rw [h1]; rfl) (okO_cons rfl okO_nil)) ?_
  refine Q.seq fun K2 hK2 => ?_
  refine SWP.runMQ (SRf [(209, [(89, true)]), (7, [(5, true)])] []) 100 209 hnt [(85, 4)] [4, 11] (z := ⟨[(4, .ptr 0 0), (11, .ptr 3 0)], ⟨[⟨[.int .i64 0, .int .i64 0, .str ⟨#[]⟩, .nil], 24⟩, ⟨[.int .i64 k0, .int .i64 n0, .str s0, .slice ks0.len ks0.cells], 24⟩, ⟨[.int .i64 k1, .int .i64 n1, .str s1, .slice ks1.len ks1.cells], 24⟩, ⟨[.int .i64 3, .int .i64 0, .str ⟨#[]⟩, .slice (0 + (1 + ks1.len)) (.int .i64 k0 :: .int .i64 n0 :: .str s0 :: .slice ks0.len ks0.cells :: ks1.cells)], 24⟩], [none]⟩⟩) (o := [(true, true), (isSm [.int .i64 k0, .int .i64 n0, .str s0, .slice ks0.len ks0.cells], true), (true, true), (isSm [.int .i64 k1, .int .i64 n1, .str s1, .slice ks1.len ks1.cells], true), (Nat.beq ks1.cells.length (ks1.len * 4), true), (Nat.ble ((1 + ks1.len) * 56) 140737488355328, true), (Nat.ble (1 + ks1.len) 9223372036854775807, true), (Nat.beq (List.length (.int .i64 k0 :: .int .i64 n0 :: .str s0 :: .slice ks0.len ks0.cells :: ks1.cells)) ((1 + ks1.len) * 4), true), (Nat.ble ((0 + (1 + ks1.len)) * 56) 140737488355328, true), (Nat.ble (0 + (1 + ks1.len)) 9223372036854775807, true)]) (by kernel_rfl) (by kernel_rfl) (okO_cons rfl (okO_cons f3 (okO_cons rfl (okO_cons f4 (okO_cons f5 (okO_cons f6 (okO_cons f7 (okO_cons f8 (okO_cons f9 (okO_cons f10 okO_nil)))))))))) (fun s hs => hK2 s (.norm [4, 11] ?_))
  rw [hs]
  cases b with
  | true =>
    have hb := of_decide_eq_true hb
    refine SWP.runQ (SRf [(209, [(93, false)])] []) 100 209 hnt [4, 5, 6] (e := .ret) (z := ⟨[(4, .ptr 0 0), (5, .int .i64 0), (6, .bool true)], ⟨[⟨[.int .i64 3, .int .i64 0, .str ⟨#[]⟩, .slice (0 + (1 + ks1.len)) (.int .i64 k0 :: .int .i64 n0 :: .str s0 :: .slice ks0.len ks0.cells :: ks1.cells)], 24⟩, ⟨[.int .i64 k0, .int .i64 n0, .str s0, .slice ks0.len ks0.cells], 24⟩, ⟨[.int .i64 k1, .int .i64 n1, .str s1, .slice ks1.len ks1.cells], 24⟩, ⟨[.int .i64 3, .int .i64 0, .str ⟨#[]⟩, .slice (0 + (1 + ks1.len)) (.int .i64 k0 :: .int .i64 n0 :: .str s0 :: .slice ks0.len ks0.cells :: ks1.cells)], 24⟩], [none]⟩⟩) (o := [(true, true), (isSmc [.int .i64 3, .int .i64 0, .str ⟨#[]⟩, .slice (0 + (1 + ks1.len)) (.int .i64 k0 :: .int .i64 n0 :: .str s0 :: .slice ks0.len ks0.cells :: ks1.cells)], true), (!ofCells chkD (0 : Int) [.int .i64 3, .int .i64 0, .str ⟨#[]⟩, .slice (0 + (1 + ks1.len)) (.int .i64 k0 :: .int .i64 n0 :: .str s0 :: .slice ks0.len ks0.cells :: ks1.cells)] == (0 : Int), false), (false, false)]) (by kernel_rfl) (okO_cons rfl (okO_cons f11 (okO_cons (by rw [f12, hb]; rfl) (okO_cons rfl okO_nil)))) (fun st hs => hfr st [4, 5, 6] ?_)
    rw [hs]
    exact ⟨0, .tup [.agg [.int .i64 3, .int .i64 0, .str ⟨#[]⟩, .slice (0 + (1 + ks1.len)) (.int .i64 k0 :: .int .i64 n0 :: .str s0 :: .slice ks0.len ks0.cells :: ks1.cells)], .int .i64 0, .bool true], Nat.le_refl _, Nat.zero_le _, rfl, rfl, rfl, rfl, _, rfl, rfl⟩
  | false =>
    have hb := of_decide_eq_false hb
    refine SWP.runQ (SRf [(209, [(93, true)])] []) 100 209 hnt [4, 5, 6] (e := .ret) (z := ⟨[(4, .ptr 0 0), (5, .int .i64 (-6)), (6, .bool true)], ⟨[⟨[.int .i64 0, .int .i64 0, .str ⟨#[]⟩, .nil], 24⟩, ⟨[.int .i64 k0, .int .i64 n0, .str s0, .slice ks0.len ks0.cells], 24⟩, ⟨[.int .i64 k1, .int .i64 n1, .str s1, .slice ks1.len ks1.cells], 24⟩, ⟨[.int .i64 3, .int .i64 0, .str ⟨#[]⟩, .slice (0 + (1 + ks1.len)) (.int .i64 k0 :: .int .i64 n0 :: .str s0 :: .slice ks0.len ks0.cells :: ks1.cells)], 24⟩], [none]⟩⟩) (o := [(true, true), (isSmc [.int .i64 3, .int .i64 0, .str ⟨#[]⟩, .slice (0 + (1 + ks1.len)) (.int .i64 k0 :: .int .i64 n0 :: .str s0 :: .slice ks0.len ks0.cells :: ks1.cells)], true), (!ofCells chkD (0 : Int) [.int .i64 3, .int .i64 0, .str ⟨#[]⟩, .slice (0 + (1 + ks1.len)) (.int .i64 k0 :: .int .i64 n0 :: .str s0 :: .slice ks0.len ks0.cells :: ks1.cells)] == (0 : Int), true), (true, true)]) (by kernel_rfl) (okO_cons rfl (okO_cons f11 (okO_cons (by rw [f12]; simpa using hb) (okO_cons rfl okO_nil)))) (fun st hs => hfr st [4, 5, 6] ?_)
    rw [hs]
    exact ⟨0, .tup [.agg [.int .i64 0, .int .i64 0, .str ⟨#[]⟩, .nil], .int .i64 (-6), .bool true], Nat.le_refl _, Nat.zero_le _, rfl, rfl, rfl, rfl, _, rfl, rfl⟩
end Seat
end Go.Proofs.YteimebpgmfhgjaaDoor
