/- Texts of this session, packed: OffP, ReadO, LawF, FlatI. -/
import Derived.Test.YtenpjkcclmmlhaaDoorRa6
import Derived.ChangeSlices
import Derived.SizedLaws
import Derived.Deep.RegionHeld
/- The program's reader: Offset, for any path. Printed by dev/ofp.py and dev/nfsub.py (this session's). -/
namespace Go.Proofs.YtenpjkcclmmlhaaDoor
open Go.AS Go.RowKit
set_option linter.unusedVariables false
set_option linter.unusedSimpArgs false
set_option maxRecDepth 100000
set_option maxHeartbeats 4000000
namespace Seat
theorem offsetP2 (s : ByteArray) (l : List Int) (hl : l.length ≤ 9223372036854775807) : Pure G0 24 [.str s, .slice l.length (intL l)] (fun r => r = .tup [.int .i64 (offR s l).1, .int .i64 (offR s l).2]) := by
  refine Fn.enterB Tryd.func24 Tryd.ntmps24 rfl (Nat.le_of_ble_eq_true rfl) fun C fr fp hnt hnb hp hfr hfp => ?_
  have fin : ∀ st a e bx, nrm [4, 5] st = ⟨[(4, .int .i64 a), (5, .int .i64 e)], ⟨bx, []⟩⟩ → offR s l = (a, e) → fr st := fun st a e bx hst h => hfr st [4, 5] (by
    rw [hst, h]
    exact ⟨0, .tup [.int .i64 a, .int .i64 e], Nat.le_refl _, Nat.zero_le _, rfl, rfl, rfl, rfl, _, rfl, rfl⟩)
  have hil : (intL l).length = l.length := by simp [intL]
  obtain ⟨cs, hcs⟩ : ∃ cs, cs = intL l := ⟨_, rfl⟩
  obtain ⟨m, hm⟩ : ∃ m, m = l.length := ⟨_, rfl⟩
  rw [← hcs, ← hm]
  refine Q.runSeq (SRf [] []) 100 45 hnt [0, 1, 4, 5] (z := { t := [(0, PV.str s), (1, PV.slice m cs), (4, PV.int IntKind.i64 (0 : Int)), (5, PV.int IntKind.i64 (0 : Int))], h := { bx := [], rw := [] } }) (o := []) (by kernel_rfl) (by ((repeat' (first | exact okO_nil | refine okN ?_ ?_)); all_goals first | assumption | rfl | exact same_of rfl | exact sameS_self _ | (simp only [decide_eq_true_eq, decide_eq_false_iff_not, Nat.ble_eq, Nat.beq_eq, beq_eq_false_iff_ne, beq_iff_eq, ne_eq] <;> omega))) ?_
  refine Q.runSeq (SRf [] []) 100 45 hnt [1, 7, 9] (z := ⟨[(1, .slice m cs), (7, .ptr 1 0), (9, .int .i64 (onE s))], ⟨[⟨ndJ (onX s), 25⟩, ⟨ndP (onX s), 64⟩], []⟩⟩) (o := [(true, true)]) (by kernel_rfl) (by ((repeat' (first | exact okO_nil | refine okN ?_ ?_)); all_goals first | assumption | rfl | exact same_of rfl | exact sameS_self _ | (simp only [decide_eq_true_eq, decide_eq_false_iff_not, Nat.ble_eq, Nat.beq_eq, beq_eq_false_iff_ne, beq_iff_eq, ne_eq] <;> omega))) ?_
  have eq : offR s l = (if onE s = 0 then ofR (onX s) l else (0, onE s) : Int × Int) := rfl
  obtain ⟨e, he⟩ : ∃ e, e = onE s := ⟨_, rfl⟩
  obtain ⟨X, hX⟩ : ∃ e, e = onX s := ⟨_, rfl⟩
  rw [← he, ← hX] at eq ⊢
  by_cases h0 : e = 0
  · have d1 : (!e == (0 : Int)) = false := by rw [h0]; rfl
    rw [if_pos h0] at eq
    refine Q.runSeq (SRf [(45, [(20, false)])] []) 100 45 hnt [1, 7] (z := { t := [(1, PV.slice m cs), (7, PV.ptr 1 0)], h := { bx := [{ cs := [PV.int IntKind.i64 (ndK X), PV.int IntKind.i64 (ndN X), PV.str (ndT X), PV.slice (Dats.len (Nds.dat (ndS X))) (Dats.cells (Nds.dat (ndS X)))], ty := 25 }, { cs := [PV.int IntKind.i64 (ndA X), PV.slice (Nds.len (ndS X)) (Nds.pl (ndS X))], ty := 64 }], rw := [] } }) (o := [(!e == (0 : Int), false), (false, false)]) (by kernel_rfl) (by ((repeat' (first | exact okO_nil | refine okN ?_ ?_)); all_goals first | assumption | rfl | exact same_of rfl | exact sameS_self _ | (simp only [decide_eq_true_eq, decide_eq_false_iff_not, Nat.ble_eq, Nat.beq_eq, beq_eq_false_iff_ne, beq_iff_eq, ne_eq] <;> omega))) ?_
    refine Q.seq fun K hK => ?_
    refine Q.runSeq (SRf [] []) 100 45 hnt [7, 22, 23, 24] (z := { t := [(7, PV.ptr 1 0), (22, PV.slice m cs), (23, PV.int IntKind.i64 (Int.ofNat m)), (24, PV.int IntKind.i64 (0 : Int))], h := { bx := [{ cs := [PV.int IntKind.i64 (ndK X), PV.int IntKind.i64 (ndN X), PV.str (ndT X), PV.slice (Dats.len (Nds.dat (ndS X))) (Dats.cells (Nds.dat (ndS X)))], ty := 25 }, { cs := [PV.int IntKind.i64 (ndA X), PV.slice (Nds.len (ndS X)) (Nds.pl (ndS X))], ty := 64 }], rw := [] } }) (o := []) (by kernel_rfl) (by ((repeat' (first | exact okO_nil | refine okN ?_ ?_)); all_goals first | assumption | rfl | exact same_of rfl | exact sameS_self _ | (simp only [decide_eq_true_eq, decide_eq_false_iff_not, Nat.ble_eq, Nat.beq_eq, beq_eq_false_iff_ne, beq_iff_eq, ne_eq] <;> omega))) ?_
    obtain ⟨d, hd⟩ : ∃ d : Box, d = ⟨[.int .i64 (ndK X), .int .i64 (ndN X), .str (ndT X), .slice (Dats.len (Nds.dat (ndS X))) (Dats.cells (Nds.dat (ndS X)))], 25⟩ := ⟨_, rfl⟩
    refine Q.block ?_
    let T (j : Nat) (Y : Nd) : AS := ⟨[(7, .ptr 1 0), (22, .slice m cs), (23, .int .i64 m), (24, .int .i64 j)], ⟨[d, ⟨ndP Y, 64⟩], []⟩⟩
    refine Q.loopI (σ := { x : Nat × Nd // x.1 ≤ m ∧ ofR x.2 (l.drop x.1) = ofR X l }) [7, 22, 23, 24] (fun x => T x.1.1 x.1.2) (fun x => m - x.1.1) ⟨(0, X), Nat.zero_le _, rfl⟩ (by show _ = (⟨[(7, .ptr 1 0), (22, .slice m cs), (23, .int .i64 m), (24, .int .i64 (0 : Nat))], ⟨[d, ⟨ndP X, 64⟩], []⟩⟩ : AS); rw [hd]; rfl) fun ⟨(j, Y), hj, hk⟩ => ?_
    have hj : j ≤ m := hj
    have hk : ofR Y (l.drop j) = ofR X l := hk
    rw [← hk] at eq
    obtain ⟨k, n, t, xs, xa⟩ := Y
    show SWP G0 C _ _ ⟨[(7, .ptr 1 0), (22, .slice m cs), (23, .int .i64 m), (24, .int .i64 j)], ⟨[d, ⟨[.int .i64 xa, .slice xs.len xs.pl], 64⟩], []⟩⟩
    rcases Nat.lt_or_ge j m with hlt | hge
    · have b1 := lt_at hlt
      have b2 := in_at hlt
      obtain ⟨i, hi⟩ : ∃ i, l[j]? = some i := ⟨_, List.getElem?_eq_getElem (by omega)⟩
      have hdr : l.drop j = i :: l.drop (j + 1) := by
        have := (List.getElem?_eq_some_iff.1 hi)
        obtain ⟨h1, h2⟩ := this
        rw [List.drop_eq_getElem_cons h1, h2]
      have hcj : cs.drop j = .int .i64 i :: cs.drop (j + 1) := by rw [hcs, intL, ← List.map_drop, hdr]; simp [List.map_drop]
      have b3 : decide (1 ≤ List.length (List.drop (Int.toNat (j : Int) * 1) cs)) = true := by rw [Int.toNat_natCast, Nat.mul_one, hcj]; simp
      have b4 : same (List.headD (List.drop (Int.toNat (j : Int) * 1) cs) .junk) (.int .i64 i) = true := same_of (by rw [Int.toNat_natCast, Nat.mul_one, hcj]; rfl)
      rw [hdr, ofR] at eq
      have wj : IntKind.wrap IntKind.i64 (Int.ofNat (j + 1)) = ((j + 1 : Nat) : Int) := wrapI (j + 1) (by omega)
      by_cases hneg : i < 0
      · have b6 := decide_eq_true hneg
        rw [if_pos (.inl hneg)] at eq
        exact SWP.runQ (SRf [(45, [(25, true), (26, true), (27, true), (29, true)])] [(45, [(27, .int .i64 i)])]) 100 45 hnt [4, 5] (e := .ret) (z := { t := [(4, PV.int IntKind.i64 (0 : Int)), (5, PV.int IntKind.i64 (5 : Int))], h := { bx := [d, { cs := [PV.int IntKind.i64 xa, PV.slice (Nds.len xs) (Nds.pl xs)], ty := 64 }], rw := [] } }) (o := [(decide ((j : Int) < (m : Int)), true), (true, true), (decide (0 ≤ (j : Int) ∧ (j : Int) < (m : Int)), true), (decide (1 ≤ List.length (List.drop (Int.toNat (j : Int) * 1) cs)), true), (same (List.headD (List.drop (Int.toNat (j : Int) * 1) cs) .junk) (.int .i64 i), true), (decide (i < 0), true)]) (by kernel_rfl) (by ((repeat' (first | exact okO_nil | refine okN ?_ ?_)); all_goals first | assumption | rfl | exact same_of rfl | exact sameS_self _ | (simp only [decide_eq_true_eq, decide_eq_false_iff_not, Nat.ble_eq, Nat.beq_eq, beq_eq_false_iff_ne, beq_iff_eq, ne_eq] <;> omega))) (fun st hst => fin st 0 5 _ hst eq)
      · have b6 := decide_eq_false hneg
        by_cases hbig : (xs.len : Int) ≤ i
        · have b7 := decide_eq_true hbig
          rw [if_pos (.inr hbig)] at eq
          exact SWP.runQ (SRf [(45, [(25, true), (26, true), (27, true), (29, false), (35, true)])] [(45, [(27, .int .i64 i)])]) 100 45 hnt [4, 5] (e := .ret) (z := { t := [(4, PV.int IntKind.i64 (0 : Int)), (5, PV.int IntKind.i64 (5 : Int))], h := { bx := [d, { cs := [PV.int IntKind.i64 xa, PV.slice (Nds.len xs) (Nds.pl xs)], ty := 64 }], rw := [] } }) (o := [(decide ((j : Int) < (m : Int)), true), (true, true), (decide (0 ≤ (j : Int) ∧ (j : Int) < (m : Int)), true), (decide (1 ≤ List.length (List.drop (Int.toNat (j : Int) * 1) cs)), true), (same (List.headD (List.drop (Int.toNat (j : Int) * 1) cs) .junk) (.int .i64 i), true), (decide (i < 0), false), (decide ((Nds.len xs : Int) ≤ i), true)]) (by kernel_rfl) (by ((repeat' (first | exact okO_nil | refine okN ?_ ?_)); all_goals first | assumption | rfl | exact same_of rfl | exact sameS_self _ | (simp only [decide_eq_true_eq, decide_eq_false_iff_not, Nat.ble_eq, Nat.beq_eq, beq_eq_false_iff_ne, beq_iff_eq, ne_eq] <;> omega))) (fun st hst => fin st 0 5 _ hst eq)
        · have b7 := decide_eq_false hbig
          rw [if_neg (by intro g; rcases g with g | g; exact hneg g; exact hbig g)] at eq
          have hit : i.toNat < xs.len := by omega
          have b8 : decide (0 ≤ i ∧ i < (xs.len : Int)) = true := by rw [decide_eq_true_eq]; omega
          have hpg := pl_get xs i.toNat hit
          rcases hY : xs.get i.toNat with ⟨k', n', t', ys, ya⟩
          rw [hY] at hpg
          have b9 : decide (2 ≤ (xs.pl.drop (i.toNat * 2)).length) = true := by simp only [List.length_drop, pl_len, decide_eq_true_eq]; omega
          have b10 : same (.agg ((xs.pl.drop (i.toNat * 2)).take 2)) (.agg [.int .i64 ya, .slice ys.len ys.pl]) = true := same_of (by rw [hpg]; rfl)
          exact SWP.runQ (SRf [(45, [(25, true), (26, true), (27, true), (29, false), (35, false), (40, true), (41, true)])] [(45, [(27, .int .i64 i), (41, .agg [.int .i64 ya, .slice ys.len ys.pl])])]) 100 45 hnt [7, 22, 23, 24] (e := .normal) (z := { t := [(7, PV.ptr 1 0), (22, PV.slice m cs), (23, PV.int IntKind.i64 (Int.ofNat m)), (24, PV.int IntKind.i64 (IntKind.wrap IntKind.i64 (Int.ofNat (j + 1))))], h := { bx := [d, { cs := [PV.int IntKind.i64 ya, PV.slice (Nds.len ys) (Nds.pl ys)], ty := 64 }], rw := [] } }) (o := [(decide ((j : Int) < (m : Int)), true), (true, true), (decide (0 ≤ (j : Int) ∧ (j : Int) < (m : Int)), true), (decide (1 ≤ List.length (List.drop (Int.toNat (j : Int) * 1) cs)), true), (same (List.headD (List.drop (Int.toNat (j : Int) * 1) cs) .junk) (.int .i64 i), true), (decide (i < 0), false), (decide ((Nds.len xs : Int) ≤ i), false), (decide (0 ≤ i ∧ i < (Nds.len xs : Int)), true), (decide (2 ≤ List.length (List.drop (Int.toNat i * 2) (Nds.pl xs))), true), (same (.agg (List.take 2 (List.drop (Int.toNat i * 2) (Nds.pl xs)))) (.agg [.int .i64 ya, .slice (Nds.len ys) (Nds.pl ys)]), true)]) (by kernel_rfl) (by ((repeat' (first | exact okO_nil | refine okN ?_ ?_)); all_goals first | assumption | rfl | exact same_of rfl | exact sameS_self _ | (simp only [decide_eq_true_eq, decide_eq_false_iff_not, Nat.ble_eq, Nat.beq_eq, beq_eq_false_iff_ne, beq_iff_eq, ne_eq] <;> omega))) (fun st hst => ⟨⟨(j + 1, xs.get i.toNat), hlt, by rw [← hk, hdr, ofR, if_neg (by intro g; rcases g with g | g; exact hneg g; exact hbig g)]; rfl⟩, Nat.sub_lt_sub_left hlt (Nat.lt_succ_self j), by rw [hst, wj]; show _ = (⟨[(7, .ptr 1 0), (22, .slice m cs), (23, .int .i64 m), (24, .int .i64 (j + 1 : Nat))], ⟨[d, ⟨ndP (xs.get i.toNat), 64⟩], []⟩⟩ : AS); rw [hY]; rfl⟩)
    · have hjm : j = m := by omega
      have b1 := ge_at hge
      rw [List.drop_of_length_le (by omega)] at eq
      refine SWP.runQ (SRf [(45, [(25, false)])] []) 100 45 hnt [7] (e := .exit 0) (z := { t := [(7, PV.ptr 1 0)], h := { bx := [d, { cs := [PV.int IntKind.i64 xa, PV.slice (Nds.len xs) (Nds.pl xs)], ty := 64 }], rw := [] } }) (o := [(decide ((↑j : Int) < (↑m : Int)), false), (false, false)]) (by kernel_rfl) (by ((repeat' (first | exact okO_nil | refine okN ?_ ?_)); all_goals first | assumption | rfl | exact same_of rfl | exact sameS_self _ | (simp only [decide_eq_true_eq, decide_eq_false_iff_not, Nat.ble_eq, Nat.beq_eq, beq_eq_false_iff_ne, beq_iff_eq, ne_eq] <;> omega))) (fun st hst => hK st (.norm [7] ?_))
      rw [hst]
      exact SWP.runQ (SRf [] []) 100 45 hnt [4, 5] (e := .ret) (z := { t := [(4, PV.int IntKind.i64 xa), (5, PV.int IntKind.i64 (0 : Int))], h := { bx := [d, { cs := [PV.int IntKind.i64 xa, PV.slice (Nds.len xs) (Nds.pl xs)], ty := 64 }], rw := [] } }) (o := []) (by kernel_rfl) (by ((repeat' (first | exact okO_nil | refine okN ?_ ?_)); all_goals first | assumption | rfl | exact same_of rfl | exact sameS_self _ | (simp only [decide_eq_true_eq, decide_eq_false_iff_not, Nat.ble_eq, Nat.beq_eq, beq_eq_false_iff_ne, beq_iff_eq, ne_eq] <;> omega))) (fun st hst => fin st xa 0 _ hst eq)
  · have d1 : (!e == (0 : Int)) = true := by rw [beqF h0]; rfl
    rw [if_neg h0] at eq
    refine Q.seq fun K hK => ?_
    exact SWP.runQ (SRf [(45, [(20, true)])] []) 100 45 hnt [4, 5] (e := .ret) (z := { t := [(4, PV.int IntKind.i64 (0 : Int)), (5, PV.int IntKind.i64 e)], h := { bx := [{ cs := [PV.int IntKind.i64 (ndK X), PV.int IntKind.i64 (ndN X), PV.str (ndT X), PV.slice (Dats.len (Nds.dat (ndS X))) (Dats.cells (Nds.dat (ndS X)))], ty := 25 }, { cs := [PV.int IntKind.i64 (ndA X), PV.slice (Nds.len (ndS X)) (Nds.pl (ndS X))], ty := 64 }], rw := [] } }) (o := [(!e == (0 : Int), true), (true, true)]) (by kernel_rfl) (by ((repeat' (first | exact okO_nil | refine okN ?_ ?_)); all_goals first | assumption | rfl | exact same_of rfl | exact sameS_self _ | (simp only [decide_eq_true_eq, decide_eq_false_iff_not, Nat.ble_eq, Nat.beq_eq, beq_eq_false_iff_ne, beq_iff_eq, ne_eq] <;> omega))) (fun st hst => fin st 0 e _ hst eq)
end Seat
end Go.Proofs.YtenpjkcclmmlhaaDoor
/- The document's reader: Offset. Printed by dev/rdo.py and dev/nfsub.py (this session's). -/
namespace Go.Proofs.YtenpjkcclmmlhaaDoor
open Go.AS Go.RowKit
set_option linter.unusedVariables false
set_option linter.unusedSimpArgs false
set_option maxRecDepth 100000
set_option maxHeartbeats 4000000
namespace Seat
noncomputable def roS (f : Nat) (args : List PV) : Option (PV × Ob) := match f, args with
  | 38, [.str s] => some (.tup [.agg [.int .i64 (ndK (onX s)), .int .i64 (ndN (onX s)), .str (ndT (onX s)), .slice (Nds.len (ndS (onX s))) (Nds.cells (ndS (onX s))), .int .i64 (ndA (onX s))], .int .i64 (onA s), .int .i64 (onE s)], [])
  | _, _ => none
theorem roS_ok (f : Nat) (args : List PV) (r : PV) (o : Ob) (h : roS f args = some (r, o)) (ho : ∀ p ∈ o, p.1 = p.2) (_ : pureL args = true) : Pure G0 f args (fun x => x = r) := by
  unfold roS at h
  split at h
  · cases h
    exact one_ok _
  · cases h
noncomputable def SRo (l : List (Nat × List (Nat × Bool))) (v : List (Nat × List (Nat × PV))) : Cfg G0 := { F := F, hF := hF, S := roS, hS := roS_ok, orc := orcM l, val := valM v }
theorem offsetR (s : ByteArray) (l : List Int) (hl : l.length ≤ 9223372036854775807) : Pure G0 25 [.str s, .slice l.length (intL l)] (fun r => r = .tup [.int .i64 (offR s l).1, .int .i64 (offR s l).2]) := by
  refine Fn.enterB Tryd.func25 Tryd.ntmps25 rfl (Nat.le_of_ble_eq_true rfl) fun C fr fp hnt hnb hp hfr hfp => ?_
  have fin : ∀ st a e bx rw', nrm [4, 5] st = ⟨[(4, .int .i64 a), (5, .int .i64 e)], ⟨bx, rw'⟩⟩ → offR s l = (a, e) → fr st := fun st a e bx rw' hst h => hfr st [4, 5] (by
    rw [hst, h]
    exact ⟨0, .tup [.int .i64 a, .int .i64 e], Nat.le_refl _, Nat.zero_le _, rfl, rfl, rfl, rfl, _, rfl, rfl⟩)
  have hil : (intL l).length = l.length := by simp [intL]
  obtain ⟨cs, hcs⟩ : ∃ cs, cs = intL l := ⟨_, rfl⟩
  obtain ⟨m, hm⟩ : ∃ m, m = l.length := ⟨_, rfl⟩
  rw [← hcs, ← hm]
  refine Q.runSeq (SRo [] []) 100 50 hnt [0, 1] (z := { t := [(0, PV.str s), (1, PV.slice m cs)], h := { bx := [], rw := [] } }) (o := []) (by kernel_rfl) (by ((repeat' (first | exact okO_nil | refine okN ?_ ?_)); all_goals first | assumption | rfl | exact same_of rfl | exact sameS_self _ | (simp only [decide_eq_true_eq, decide_eq_false_iff_not, Nat.ble_eq, Nat.beq_eq, beq_eq_false_iff_ne, beq_iff_eq, ne_eq] <;> omega))) ?_
  refine Q.runSeq (SRo [] []) 100 50 hnt [1, 6, 8] (z := ⟨[(1, .slice m cs), (6, .ptr 0 0), (8, .int .i64 (onE s))], ⟨[⟨ndC (onX s), 69⟩], []⟩⟩) (o := [(true, true)]) (by kernel_rfl) (by ((repeat' (first | exact okO_nil | refine okN ?_ ?_)); all_goals first | assumption | rfl | exact same_of rfl | exact sameS_self _ | (simp only [decide_eq_true_eq, decide_eq_false_iff_not, Nat.ble_eq, Nat.beq_eq, beq_eq_false_iff_ne, beq_iff_eq, ne_eq] <;> omega))) ?_
  have eq : offR s l = (if onE s = 0 then ofR (onX s) l else (0, onE s) : Int × Int) := rfl
  obtain ⟨e, he⟩ : ∃ e, e = onE s := ⟨_, rfl⟩
  obtain ⟨X, hX⟩ : ∃ e, e = onX s := ⟨_, rfl⟩
  rw [← he, ← hX] at eq ⊢
  by_cases h0 : e = 0
  · have d1 : (!e == (0 : Int)) = false := by rw [h0]; rfl
    rw [if_pos h0] at eq
    refine Q.runSeq (SRo [(50, [(17, false)])] []) 100 50 hnt [1, 6] (z := { t := [(1, PV.slice m cs), (6, PV.ptr 0 0)], h := { bx := [{ cs := [PV.int IntKind.i64 (ndK X), PV.int IntKind.i64 (ndN X), PV.str (ndT X), PV.slice (Nds.len (ndS X)) (Nds.cells (ndS X)), PV.int IntKind.i64 (ndA X)], ty := 69 }], rw := [] } }) (o := [(!e == (0 : Int), false), (false, false)]) (by kernel_rfl) (by ((repeat' (first | exact okO_nil | refine okN ?_ ?_)); all_goals first | assumption | rfl | exact same_of rfl | exact sameS_self _ | (simp only [decide_eq_true_eq, decide_eq_false_iff_not, Nat.ble_eq, Nat.beq_eq, beq_eq_false_iff_ne, beq_iff_eq, ne_eq] <;> omega))) ?_
    refine Q.seq fun K hK => ?_
    refine Q.runSeq (SRo [] []) 100 50 hnt [1, 6, 9] (z := ⟨[(1, .slice m cs), (6, .ptr 0 0), (9, .int .i64 (0 : Nat))], ⟨[⟨ndC X, 69⟩], []⟩⟩) (o := []) (by kernel_rfl) (by ((repeat' (first | exact okO_nil | refine okN ?_ ?_)); all_goals first | assumption | rfl | exact same_of rfl | exact sameS_self _ | (simp only [decide_eq_true_eq, decide_eq_false_iff_not, Nat.ble_eq, Nat.beq_eq, beq_eq_false_iff_ne, beq_iff_eq, ne_eq] <;> omega))) ?_
    refine Q.block ?_
    let T (j : Nat) (Y : Nd) : AS := ⟨[(1, .slice m cs), (6, .ptr 0 0), (9, .int .i64 j)], ⟨[⟨ndC Y, 69⟩], []⟩⟩
    refine Q.loopI (σ := { x : Nat × Nd // x.1 ≤ m ∧ ofR x.2 (l.drop x.1) = ofR X l }) [1, 6, 9] (fun x => T x.1.1 x.1.2) (fun x => m - x.1.1) ⟨(0, X), Nat.zero_le _, rfl⟩ rfl fun ⟨(j, Y), hj, hk⟩ => ?_
    have hj : j ≤ m := hj
    have hk : ofR Y (l.drop j) = ofR X l := hk
    rw [← hk] at eq
    obtain ⟨k, n, t, xs, a⟩ := Y
    show SWP G0 C _ _ ⟨[(1, .slice m cs), (6, .ptr 0 0), (9, .int .i64 j)], ⟨[⟨[.int .i64 k, .int .i64 n, .str t, .slice xs.len xs.cells, .int .i64 a], 69⟩], []⟩⟩
    refine Q.seq fun K2 hK2 => ?_
    rcases Nat.lt_or_ge j m with hlt | hge
    · have b1 := lt_at hlt
      have b2 := in_at hlt
      obtain ⟨i, hi⟩ : ∃ i, l[j]? = some i := ⟨_, List.getElem?_eq_getElem (by omega)⟩
      have hdr : l.drop j = i :: l.drop (j + 1) := by
        have := (List.getElem?_eq_some_iff.1 hi)
        obtain ⟨h1, h2⟩ := this
        rw [List.drop_eq_getElem_cons h1, h2]
      have hcj : cs.drop j = .int .i64 i :: cs.drop (j + 1) := by rw [hcs, intL, ← List.map_drop, hdr]; simp [List.map_drop]
      have b3 : decide (1 ≤ List.length (List.drop (Int.toNat (j : Int) * 1) cs)) = true := by rw [Int.toNat_natCast, Nat.mul_one, hcj]; simp
      have b4 : same (List.headD (List.drop (Int.toNat (j : Int) * 1) cs) .junk) (.int .i64 i) = true := same_of (by rw [Int.toNat_natCast, Nat.mul_one, hcj]; rfl)
      rw [hdr, ofR] at eq
      have wj : IntKind.wrap IntKind.i64 (Int.ofNat (j + 1)) = ((j + 1 : Nat) : Int) := wrapI (j + 1) (by omega)
      refine SWP.runQ (SRo [(50, [(22, true)])] []) 100 50 hnt [1, 6, 9] (e := .normal) (z := { t := [(1, PV.slice m cs), (6, PV.ptr 0 0), (9, PV.int IntKind.i64 (Int.ofNat j))], h := { bx := [{ cs := [PV.int IntKind.i64 k, PV.int IntKind.i64 n, PV.str t, PV.slice (Nds.len xs) (Nds.cells xs), PV.int IntKind.i64 a], ty := 69 }], rw := [] } }) (o := [(decide ((↑j : Int) < (↑m : Int)), true), (true, true)]) (by kernel_rfl) (by ((repeat' (first | exact okO_nil | refine okN ?_ ?_)); all_goals first | assumption | rfl | exact same_of rfl | exact sameS_self _ | (simp only [decide_eq_true_eq, decide_eq_false_iff_not, Nat.ble_eq, Nat.beq_eq, beq_eq_false_iff_ne, beq_iff_eq, ne_eq] <;> omega))) (fun st hst => hK2 st (.norm [1, 6, 9] ?_))
      rw [hst]
      clear hst hK2
      refine Q.seq fun K3 hK3 => ?_
      refine Q.block ?_
      refine Q.seq fun K4 hK4 => ?_
      refine Q.seq fun K5 hK5 => ?_
      have bad : ∀ st, nrm [1, 6, 9, 39] st = ⟨[(1, .slice m cs), (6, .ptr 0 0), (9, .int .i64 j), (39, .bool true)], ⟨[⟨[.int .i64 k, .int .i64 n, .str t, .slice xs.len xs.cells, .int .i64 a], 69⟩], []⟩⟩ → offR s l = (0, 5) → K5 st := fun st hst h => hK5 st (.norm [1, 6, 9, 39] (by
        rw [hst]
        refine Q.cond (b := true) rfl (fun _ => ?_) (fun h => by cases h)
        refine SWP.norm [1, 6, 9] ?_
        exact SWP.runQ (SRo [] []) 100 50 hnt [4, 5] (e := .ret) (z := { t := [(4, PV.int IntKind.i64 (0 : Int)), (5, PV.int IntKind.i64 (5 : Int))], h := { bx := [{ cs := [PV.int IntKind.i64 k, PV.int IntKind.i64 n, PV.str t, PV.slice (Nds.len xs) (Nds.cells xs), PV.int IntKind.i64 a], ty := 69 }], rw := [] } }) (o := []) (by kernel_rfl) (by ((repeat' (first | exact okO_nil | refine okN ?_ ?_)); all_goals first | assumption | rfl | exact same_of rfl | exact sameS_self _ | (simp only [decide_eq_true_eq, decide_eq_false_iff_not, Nat.ble_eq, Nat.beq_eq, beq_eq_false_iff_ne, beq_iff_eq, ne_eq] <;> omega))) (fun st hst => fin st 0 5 _ _ hst h)))
      by_cases hneg : i < 0
      · have b6 : same (.bool (decide (i < 0))) (.bool true) = true := sameB (decide_eq_true hneg)
        rw [if_pos (.inl hneg)] at eq
        exact SWP.runLQ (SRo [(50, [(27, true), (28, true)])] [(50, [(28, .int .i64 i), (29, .bool true)])]) 100 50 hnt [1, 6, 9, 39] (l := List.replicate 1 { t := [(1, PV.slice m cs), (6, PV.ptr 0 0), (9, PV.int IntKind.i64 (Int.ofNat j)), (39, PV.bool true)], h := { bx := [{ cs := [PV.int IntKind.i64 k, PV.int IntKind.i64 n, PV.str t, PV.slice (Nds.len xs) (Nds.cells xs), PV.int IntKind.i64 a], ty := 69 }], rw := [] } }) (o := [(decide (0 ≤ (j : Int) ∧ (j : Int) < (m : Int)), true), (decide (1 ≤ List.length (List.drop (Int.toNat (j : Int) * 1) cs)), true), (same (List.headD (List.drop (Int.toNat (j : Int) * 1) cs) .junk) (.int .i64 i), true), (same (.bool (decide (i < 0))) (.bool true), true)]) (by kernel_rfl) (by ((repeat' (first | exact okO_nil | refine okN ?_ ?_)); all_goals first | assumption | rfl | exact same_of rfl | exact sameS_self _ | (simp only [decide_eq_true_eq, decide_eq_false_iff_not, Nat.ble_eq, Nat.beq_eq, beq_eq_false_iff_ne, beq_iff_eq, ne_eq] <;> omega))) (fun st hst => bad st (List.eq_of_mem_replicate hst) eq)
      · have b6 : same (.bool (decide (i < 0))) (.bool false) = true := sameB (decide_eq_false hneg)
        by_cases hbig : (xs.len : Int) ≤ i
        · have b7 : same (.bool (decide ((xs.len : Int) ≤ i))) (.bool true) = true := sameB (decide_eq_true hbig)
          rw [if_pos (.inr hbig)] at eq
          exact SWP.runLQ (SRo [(50, [(27, true), (28, true), (33, true), (34, true)])] [(50, [(28, .int .i64 i), (29, .bool false), (34, .int .i64 i), (38, .bool true)])]) 100 50 hnt [1, 6, 9, 39] (l := List.replicate 1 { t := [(1, PV.slice m cs), (6, PV.ptr 0 0), (9, PV.int IntKind.i64 (Int.ofNat j)), (39, PV.bool true)], h := { bx := [{ cs := [PV.int IntKind.i64 k, PV.int IntKind.i64 n, PV.str t, PV.slice (Nds.len xs) (Nds.cells xs), PV.int IntKind.i64 a], ty := 69 }], rw := [] } }) (o := [(decide (0 ≤ (j : Int) ∧ (j : Int) < (m : Int)), true), (decide (1 ≤ List.length (List.drop (Int.toNat (j : Int) * 1) cs)), true), (same (List.headD (List.drop (Int.toNat (j : Int) * 1) cs) .junk) (.int .i64 i), true), (same (.bool (decide (i < 0))) (.bool false), true), (decide (0 ≤ (j : Int) ∧ (j : Int) < (m : Int)), true), (decide (1 ≤ List.length (List.drop (Int.toNat (j : Int) * 1) cs)), true), (same (List.headD (List.drop (Int.toNat (j : Int) * 1) cs) .junk) (.int .i64 i), true), (same (.bool (decide ((Nds.len xs : Int) ≤ i))) (.bool true), true)]) (by kernel_rfl) (by ((repeat' (first | exact okO_nil | refine okN ?_ ?_)); all_goals first | assumption | rfl | exact same_of rfl | exact sameS_self _ | (simp only [decide_eq_true_eq, decide_eq_false_iff_not, Nat.ble_eq, Nat.beq_eq, beq_eq_false_iff_ne, beq_iff_eq, ne_eq] <;> omega))) (fun st hst => bad st (List.eq_of_mem_replicate hst) eq)
        · have b7 : same (.bool (decide ((xs.len : Int) ≤ i))) (.bool false) = true := sameB (decide_eq_false hbig)
          rw [if_neg (by intro g; rcases g with g | g; exact hneg g; exact hbig g)] at eq
          have hit : i.toNat < xs.len := by omega
          have b8 : decide (0 ≤ i ∧ i < (xs.len : Int)) = true := by rw [decide_eq_true_eq]; omega
          rcases hY : xs.get i.toNat with ⟨k', n', t', ks', a'⟩
          have b9 : decide (5 ≤ List.length (List.drop (Int.toNat i * 5) (Nds.cells xs))) = true := by simp only [List.length_drop, Nds.cells_len, decide_eq_true_eq]; omega
          have b10 : same (.agg (List.take 5 (List.drop (Int.toNat i * 5) (Nds.cells xs)))) (.agg [.int .i64 k', .int .i64 n', .str t', .slice ks'.len ks'.cells, .int .i64 a']) = true := same_of (by rw [Nds.get_cells xs i.toNat hit, hY]; rfl)
          refine SWP.runLQ (SRo [(50, [(27, true), (28, true), (33, true), (34, true)])] [(50, [(28, .int .i64 i), (29, .bool false), (34, .int .i64 i), (38, .bool false)])]) 100 50 hnt [1, 6, 9, 39] (l := List.replicate 1 { t := [(1, PV.slice m cs), (6, PV.ptr 0 0), (9, PV.int IntKind.i64 (Int.ofNat j)), (39, PV.bool false)], h := { bx := [{ cs := [PV.int IntKind.i64 k, PV.int IntKind.i64 n, PV.str t, PV.slice (Nds.len xs) (Nds.cells xs), PV.int IntKind.i64 a], ty := 69 }], rw := [] } }) (o := [(decide (0 ≤ (j : Int) ∧ (j : Int) < (m : Int)), true), (decide (1 ≤ List.length (List.drop (Int.toNat (j : Int) * 1) cs)), true), (same (List.headD (List.drop (Int.toNat (j : Int) * 1) cs) .junk) (.int .i64 i), true), (same (.bool (decide (i < 0))) (.bool false), true), (decide (0 ≤ (j : Int) ∧ (j : Int) < (m : Int)), true), (decide (1 ≤ List.length (List.drop (Int.toNat (j : Int) * 1) cs)), true), (same (List.headD (List.drop (Int.toNat (j : Int) * 1) cs) .junk) (.int .i64 i), true), (same (.bool (decide ((Nds.len xs : Int) ≤ i))) (.bool false), true)]) (by kernel_rfl) (by ((repeat' (first | exact okO_nil | refine okN ?_ ?_)); all_goals first | assumption | rfl | exact same_of rfl | exact sameS_self _ | (simp only [decide_eq_true_eq, decide_eq_false_iff_not, Nat.ble_eq, Nat.beq_eq, beq_eq_false_iff_ne, beq_iff_eq, ne_eq] <;> omega))) (fun st hst => hK5 st (.norm [1, 6, 9, 39] ?_))
          rw [List.eq_of_mem_replicate hst]
          refine Q.cond (b := false) rfl (fun h => by cases h) (fun _ => ?_)
          refine .skip (hK4 _ (.norm [1, 6, 9] ?_))
          refine SWP.runLQ (SRo [(50, [(44, true), (45, true), (46, true), (47, true)])] [(50, [(45, .int .i64 i), (47, .agg [.int .i64 k', .int .i64 n', .str t', .slice ks'.len ks'.cells, .int .i64 a'])])]) 100 50 hnt [1, 6, 9] (l := List.replicate 1 { t := [(1, PV.slice m cs), (6, PV.ptr 0 0), (9, PV.int IntKind.i64 (Int.ofNat j))], h := { bx := [{ cs := [PV.int IntKind.i64 k', PV.int IntKind.i64 n', PV.str t', PV.slice (Nds.len ks') (Nds.cells ks'), PV.int IntKind.i64 a'], ty := 69 }], rw := [] } }) (o := [(decide (0 ≤ (j : Int) ∧ (j : Int) < (m : Int)), true), (decide (1 ≤ List.length (List.drop (Int.toNat (j : Int) * 1) cs)), true), (same (List.headD (List.drop (Int.toNat (j : Int) * 1) cs) .junk) (.int .i64 i), true), (decide (0 ≤ i ∧ i < (Nds.len xs : Int)), true), (decide (5 ≤ List.length (List.drop (Int.toNat i * 5) (Nds.cells xs))), true), (same (.agg (List.take 5 (List.drop (Int.toNat i * 5) (Nds.cells xs)))) (.agg [.int .i64 k', .int .i64 n', .str t', .slice ks'.len ks'.cells, .int .i64 a']), true)]) (by kernel_rfl) (by ((repeat' (first | exact okO_nil | refine okN ?_ ?_)); all_goals first | assumption | rfl | exact same_of rfl | exact sameS_self _ | (simp only [decide_eq_true_eq, decide_eq_false_iff_not, Nat.ble_eq, Nat.beq_eq, beq_eq_false_iff_ne, beq_iff_eq, ne_eq] <;> omega))) (fun st hst => hK3 st (.norm [1, 6, 9] ?_))
          rw [List.eq_of_mem_replicate hst]
          exact SWP.runQ (SRo [] []) 100 50 hnt [1, 6, 9] (e := .normal) (z := ⟨[(1, .slice m cs), (6, .ptr 0 0), (9, .int .i64 (IntKind.wrap IntKind.i64 (Int.ofNat (j + 1))))], ⟨[⟨[.int .i64 k', .int .i64 n', .str t', .slice ks'.len ks'.cells, .int .i64 a'], 69⟩], []⟩⟩) (o := []) (by kernel_rfl) (by ((repeat' (first | exact okO_nil | refine okN ?_ ?_)); all_goals first | assumption | rfl | exact same_of rfl | exact sameS_self _ | (simp only [decide_eq_true_eq, decide_eq_false_iff_not, Nat.ble_eq, Nat.beq_eq, beq_eq_false_iff_ne, beq_iff_eq, ne_eq] <;> omega))) (fun st hst => ⟨⟨(j + 1, xs.get i.toNat), hlt, by rw [← hk, hdr, ofR, if_neg (by intro g; rcases g with g | g; exact hneg g; exact hbig g)]; rfl⟩, Nat.sub_lt_sub_left hlt (Nat.lt_succ_self j), by rw [hst, wj]; show _ = (⟨[(1, .slice m cs), (6, .ptr 0 0), (9, .int .i64 (j + 1 : Nat))], ⟨[⟨ndC (xs.get i.toNat), 69⟩], []⟩⟩ : AS); rw [hY]; rfl⟩)
    · have hjm : j = m := by omega
      have b1 := ge_at hge
      rw [List.drop_of_length_le (by omega)] at eq
      refine SWP.runQ (SRo [(50, [(22, false)])] []) 100 50 hnt [6] (e := .exit 0) (z := { t := [(6, PV.ptr 0 0)], h := { bx := [{ cs := [PV.int IntKind.i64 k, PV.int IntKind.i64 n, PV.str t, PV.slice (Nds.len xs) (Nds.cells xs), PV.int IntKind.i64 a], ty := 69 }], rw := [] } }) (o := [(decide ((↑j : Int) < (↑m : Int)), false), (false, false)]) (by kernel_rfl) (by ((repeat' (first | exact okO_nil | refine okN ?_ ?_)); all_goals first | assumption | rfl | exact same_of rfl | exact sameS_self _ | (simp only [decide_eq_true_eq, decide_eq_false_iff_not, Nat.ble_eq, Nat.beq_eq, beq_eq_false_iff_ne, beq_iff_eq, ne_eq] <;> omega))) (fun st hst => hK st (.norm [6] ?_))
      rw [hst]
      exact SWP.runQ (SRo [] []) 100 50 hnt [4, 5] (e := .ret) (z := { t := [(4, PV.int IntKind.i64 a), (5, PV.int IntKind.i64 (0 : Int))], h := { bx := [{ cs := [PV.int IntKind.i64 k, PV.int IntKind.i64 n, PV.str t, PV.slice (Nds.len xs) (Nds.cells xs), PV.int IntKind.i64 a], ty := 69 }], rw := [] } }) (o := []) (by kernel_rfl) (by ((repeat' (first | exact okO_nil | refine okN ?_ ?_)); all_goals first | assumption | rfl | exact same_of rfl | exact sameS_self _ | (simp only [decide_eq_true_eq, decide_eq_false_iff_not, Nat.ble_eq, Nat.beq_eq, beq_eq_false_iff_ne, beq_iff_eq, ne_eq] <;> omega))) (fun st hst => fin st a 0 _ _ hst eq)
  · have d1 : (!e == (0 : Int)) = true := by rw [beqF h0]; rfl
    rw [if_neg h0] at eq
    refine Q.seq fun K hK => ?_
    exact SWP.runQ (SRo [(50, [(17, true)])] []) 100 50 hnt [4, 5] (e := .ret) (z := { t := [(4, PV.int IntKind.i64 (0 : Int)), (5, PV.int IntKind.i64 e)], h := { bx := [{ cs := [PV.int IntKind.i64 (ndK X), PV.int IntKind.i64 (ndN X), PV.str (ndT X), PV.slice (Nds.len (ndS X)) (Nds.cells (ndS X)), PV.int IntKind.i64 (ndA X)], ty := 69 }], rw := [] } }) (o := [(!e == (0 : Int), true), (true, true)]) (by kernel_rfl) (by ((repeat' (first | exact okO_nil | refine okN ?_ ?_)); all_goals first | assumption | rfl | exact same_of rfl | exact sameS_self _ | (simp only [decide_eq_true_eq, decide_eq_false_iff_not, Nat.ble_eq, Nat.beq_eq, beq_eq_false_iff_ne, beq_iff_eq, ne_eq] <;> omega))) (fun st hst => fin st 0 e _ _ hst eq)
end Seat
end Go.Proofs.YtenpjkcclmmlhaaDoor
/- The law of ReaderOffsets. Printed by dev/lwf.py and dev/nfsub.py (this session's). -/
namespace Go.Proofs.YtenpjkcclmmlhaaDoor
open Go.AS Go.RowKit
set_option linter.unusedVariables false
set_option linter.unusedSimpArgs false
set_option maxRecDepth 100000
set_option maxHeartbeats 4000000
namespace Seat
def unI : PV → Int
  | .int _ n => n
  | _ => 0
def offA (s : ByteArray) (cs : List PV) : Int := (offR s (cs.map unI)).1
def offE (s : ByteArray) (cs : List PV) : Int := (offR s (cs.map unI)).2
open Classical in
noncomputable def isPath (m : Nat) (cs : List PV) : Bool := decide (∃ l : List Int, cs = intL l ∧ m = l.length ∧ l.length ≤ 9223372036854775807)
theorem isPath_at {l : List Int} (h : l.length ≤ 9223372036854775807) : isPath l.length (intL l) = true := by
  unfold isPath
  classical exact decide_eq_true ⟨l, rfl, rfl, h⟩
theorem isPath_of {m : Nat} {cs : List PV} (h : isPath m cs = true) : ∃ l : List Int, cs = intL l ∧ m = l.length ∧ l.length ≤ 9223372036854775807 := by
  unfold isPath at h
  classical exact of_decide_eq_true h
theorem unI_intL (l : List Int) : (intL l).map unI = l := by
  unfold intL
  rw [List.map_map]
  exact List.map_id'' (fun _ => rfl) l
noncomputable def loS (f : Nat) (args : List PV) : Option (PV × Ob) := match f, args with
  | 14, [.str s] => some (.str (shortS s), [(Nat.ble s.size 9223372036854775807, true)])
  | 25, [.str s, .slice m cs] => some (.tup [.int .i64 (offA s cs), .int .i64 (offE s cs)], [(isPath m cs, true)])
  | 24, [.str s, .slice m cs] => some (.tup [.int .i64 (offA s cs), .int .i64 (offE s cs)], [(isPath m cs, true)])
  | 18, [] => some (.bool true, [])
  | _, _ => none
theorem loS_ok (f : Nat) (args : List PV) (r : PV) (o : Ob) (h : loS f args = some (r, o)) (ho : ∀ p ∈ o, p.1 = p.2) (_ : pureL args = true) : Pure G0 f args (fun x => x = r) := by
  unfold loS at h
  split at h
  · rename_i s _
    cases h
    exact short_ok s (Nat.le_of_ble_eq_true (ho _ (List.mem_singleton.2 rfl)))
  · rename_i s m cs _
    cases h
    obtain ⟨l, rfl, rfl, hl⟩ := isPath_of (ho _ (List.mem_singleton.2 rfl))
    unfold offA offE
    rw [unI_intL]
    exact offsetR s l hl
  · rename_i s m cs _
    cases h
    obtain ⟨l, rfl, rfl, hl⟩ := isPath_of (ho _ (List.mem_singleton.2 rfl))
    unfold offA offE
    rw [unI_intL]
    exact offsetP2 s l hl
  · cases h
    exact alive_ok
  · cases h
noncomputable def SLo (l : List (Nat × List (Nat × Bool))) (v : List (Nat × List (Nat × PV))) : Cfg G0 := { F := F, hF := hF, S := loS, hS := loS_ok, orc := orcM l, val := valM v }
theorem offsets_law (s : ByteArray) (hs : s.size ≤ 9223372036854775807) (l : List Int) (hl : l.length * 8 ≤ 140737488355328) : Pure G0 6 [.str s, .slice l.length (intL l)] (fun r => r = .bool true) := by
  have c3 : Nat.ble s.size 9223372036854775807 = true := Nat.ble_eq_true_of_le hs
  have c4 := isPath_at (l := l) (by omega)
  have c5 : (intL l).length = l.length := by simp [intL]
  obtain ⟨m, hm⟩ : ∃ m, m = l.length := ⟨_, rfl⟩
  obtain ⟨cs, hcs⟩ : ∃ cs, cs = intL l := ⟨_, rfl⟩
  rw [← hm, ← hcs] at c5 c4 ⊢
  rw [← hm] at hl
  have c6 : Nat.ble ((0 + m) * 8) 140737488355328 = true := Nat.ble_eq_true_of_le (by omega)
  have c7 : Nat.ble (0 + m) 9223372036854775807 = true := Nat.ble_eq_true_of_le (by omega)
  have c8 : Nat.beq (List.length cs) (m * 1) = true := by rw [c5, Nat.mul_one]; exact Nat.beq_refl m
  have c9 : isPath (0 + m) ([] ++ cs) = true := by rw [Nat.zero_add]; exact c4
  have c1 : (offA (shortS s) ([] ++ cs) == offA (shortS s) cs) = true := beq_self_eq_true _
  have c2 : (offE (shortS s) ([] ++ cs) == offE (shortS s) cs) = true := beq_self_eq_true _
  refine Fn.enterB Tryd.func6 Tryd.ntmps6 rfl (Nat.le_of_ble_eq_true rfl) fun C fr fp hnt hnb hp hfr hfp => ?_
  refine SWP.runQ (SLo [(37, [(16, true), (28, true), (32, true)])] []) 100 37 hnt [4] (e := .ret) (z := { t := [(4, PV.bool true)], h := { bx := [], rw := [some { cs := [] ++ cs, n := 0 + m, ty := 3, sz := 1 }] } }) (o := [(true, true), (Nat.ble (ByteArray.size s) 9223372036854775807, true), (Nat.beq (List.length cs) (m * 1), true), (Nat.ble ((0 + m) * 8) 140737488355328, true), (Nat.ble (0 + m) 9223372036854775807, true), (isPath (0 + m) ([] ++ cs), true), (true, true), (isPath m cs, true), (offA (shortS s) ([] ++ cs) == offA (shortS s) cs, true), (offE (shortS s) ([] ++ cs) == offE (shortS s) cs, true), (true, true)]) (by kernel_rfl) (by ((repeat' (first | exact okO_nil | refine okN ?_ ?_)); all_goals first | assumption | rfl | exact same_of rfl | exact sameS_self _ | (simp only [decide_eq_true_eq, decide_eq_false_iff_not, Nat.ble_eq, Nat.beq_eq, beq_eq_false_iff_ne, beq_iff_eq, ne_eq] <;> omega))) (fun st hs => hfr st [4] ?_)
  rw [hs]
  exact ⟨0, .bool true, Nat.le_refl _, Nat.zero_le _, rfl, rfl, rfl, rfl, _, rfl, rfl⟩
end Seat
end Go.Proofs.YtenpjkcclmmlhaaDoor
/- A path that is handed in: a slice of numbers. -/
namespace Go.Proofs.YtenpjkcclmmlhaaDoor.Seat
open Go Go.ChangeShapes Go.WideShapes Go.ChangeAt Go.RowKit Go.AS
set_option linter.unusedVariables false
set_option maxRecDepth 100000
def flatIT (t : TypeId) : Prop := t = 3 ∨ t = 9 ∨ t = 40
theorem flatI : Flat Tryd.prog flatIT := ⟨fun t ht => by
  rcases ht with rfl | rfl | rfl
  · exact .inr (.inl ⟨_, Tryd.underlying3⟩)
  · exact .inr (.inr (.inl Tryd.underlying9))
  · exact .inr (.inr (.inr (.inl ⟨_, Tryd.underlying40, .inl rfl, by rw [show Tryd.prog.cellsOf 3 = 1 by kernel_rfl]; exact Nat.le_of_ble_eq_true rfl⟩)))⟩
/-- A path that is handed in: its numbers, and how it lies. -/
theorem open_path {H : Type} {enc : TypeId × Value → H} {W : World} {base b0 : Nat} {sp : Nat → Bool} {held : Bool} {v : Value} {d : DataW H} {p : List MemPlace} (hv : Value.okWide Tryd.prog W .any base 40 v) (h : DataW.Trod enc Tryd.prog W b0 sp held 40 v d p) :
    ∃ l : List Int, IRep (old W) W (.slice l.length (intL l)) v ∧ (l = [] ∨ ∃ es rs : List (DataW H), d = .slice es rs ∧ es.length = l.length) := by
  obtain ⟨sa, sl, sc, rfl⟩ := okWide_slice Tryd.underlying40 hv
  obtain ⟨m, h⟩ := h
  rcases Go.ChangeShapes.open_ints Tryd.underlying40 Tryd.underlying3 (by kernel_rfl) h with ⟨hcs, _⟩ | ⟨a, len, cap, zs, hcs, h1, h2, h3, h4, h5, h6, h7⟩
  · simp only [Value.cells, List.cons.injEq, and_true] at hcs
    rw [hcs]
    exact ⟨[], .slice0, .inl rfl⟩
  · simp only [Value.cells, List.cons.injEq, and_true] at hcs
    rw [hcs]
    have hz : len ≤ zs.length := by
      rw [h4]
      cases sp a.block
      · exact Nat.le_refl _
      · exact h2
    have hl : (zs.take len).length = len := by simp [hz]
    have hcell : ∀ (j : Nat) (v : Value), ((zs.take len).map (Value.int .i64))[j]? = some v → W.cell? (a.add j) = some v := fun j v hj => by
      rw [List.getElem?_map, Option.map_eq_some_iff] at hj
      obtain ⟨z, hj, rfl⟩ := hj
      have hlt : j < len := by have := (List.getElem?_eq_some_iff.1 hj).1; omega
      rw [List.getElem?_take_of_lt hlt] at hj
      rw [h6 j (by omega), List.getD_eq_getElem?_getD, hj]
      rfl
    refine ⟨zs.take len, ?_, .inr ⟨_, _, congrArg Prod.fst h5, by simp [lits, hz]⟩⟩
    rw [hl]
    refine .slice (vs := (zs.take len).map (Value.int .i64)) h2 (by simp [intL]) (fun h => ?_) hcell (fun u hu => ?_) (fun j x v hx hv => ?_)
    · obtain ⟨u, hu⟩ : ∃ u, ((zs.take len).map (Value.int .i64))[0]? = some u := ⟨_, List.getElem?_eq_getElem h⟩
      have := World.block_lt_of_cell? W _ (hcell 0 u hu)
      exact this
    · obtain ⟨z, _, rfl⟩ := List.mem_map.1 hu
      rfl
    · unfold intL at hx
      rw [List.getElem?_map, Option.map_eq_some_iff] at hx hv
      obtain ⟨z, hz1, rfl⟩ := hx
      obtain ⟨z', hz2, rfl⟩ := hv
      rw [hz1] at hz2
      cases hz2
      exact .int _ _
end Go.Proofs.YtenpjkcclmmlhaaDoor.Seat
