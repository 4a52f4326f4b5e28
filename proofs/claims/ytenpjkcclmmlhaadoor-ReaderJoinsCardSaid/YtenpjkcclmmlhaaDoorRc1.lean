/- Texts of this session, packed: Rp9, ReadA, ReadB, Back0, All0, LawE. -/
import Derived.Test.YtenpjkcclmmlhaaDoorRa6
/- The program's reader: all. Printed by dev/rp9.py and dev/nfsub.py (this session's). -/
namespace Go.Proofs.YtenpjkcclmmlhaaDoor
open Go.AS Go.RowKit
set_option linter.unusedVariables false
set_option linter.unusedSimpArgs false
set_option maxRecDepth 100000
set_option maxHeartbeats 4000000
namespace Seat
/-- The data from a on, or the first fault. -/
def rdZ (s : ByteArray) : Nat → Nat → Nds → Nds × RS
  | 0, a, l => (l, ⟨a, 0, 0⟩)
  | k + 1, a, l => if a < s.size then (if (rdD s 1000 a).2.e = 0 then rdZ s k (skp s (rdD s 1000 a).2.a) (l.snoc (rdD s 1000 a).1) else (l, (rdD s 1000 a).2)) else (l, ⟨a, 0, 0⟩)
/-- All data of a string, or where what is wrong. -/
def azR (s : ByteArray) : Nds × Int × Int := if (rdZ s (s.size + 1) (skp s 0) .nil).2.e = 0 then ((rdZ s (s.size + 1) (skp s 0) .nil).1, 0, 0) else (.nil, (rdZ s (s.size + 1) (skp s 0) .nil).2.b, (rdZ s (s.size + 1) (skp s 0) .nil).2.e)
theorem azR_eq (s : ByteArray) : azR s = (if (rdZ s (s.size + 1) (skp s 0) .nil).2.e = 0 then ((rdZ s (s.size + 1) (skp s 0) .nil).1, 0, 0) else (.nil, (rdZ s (s.size + 1) (skp s 0) .nil).2.b, (rdZ s (s.size + 1) (skp s 0) .nil).2.e) : Nds × Int × Int) := rfl
def azX (s : ByteArray) : Nds := (azR s).1
def azA (s : ByteArray) : Int := (azR s).2.1
def azE (s : ByteArray) : Int := (azR s).2.2
theorem alls_ok (s : ByteArray) (hs : s.size ≤ 1099511627776) : Pure G0 48 [.str s] (fun r => r = .tup [.slice (azX s).dat.len (azX s).dat.cells, .int .i64 (azA s), .int .i64 (azE s)]) := by
  refine Pure.nz ?_
  have hss : Nat.ble s.size 1099511627776 = true := Nat.ble_eq_true_of_le hs
  refine PCalls.deferQ (s1 := ⟨[(0, .str s), (2, .nil), (3, .ptr 0 0), (4, .ptr 1 0)], ⟨[iZ 0, eZ 0], []⟩⟩) (b1 := 0) (b2 := 1) Tryd.func48 Tryd.ntmps48 rfl (Nat.le_of_ble_eq_true rfl) (guardOk G0 rfl) Tryd.func67 (by kernel_rfl) rfl rfl rfl rfl rfl rfl rfl (by decide) rfl
    (fun C hC => SWP.normQ (SWP.runQ (SLg false [] []) 100 33 hC [0, 2, 3, 4] (e := .normal) (z := { t := [(0, PV.str s), (2, PV.nil), (3, PV.ptr 0 0), (4, PV.ptr 1 0)], h := { bx := [{ cs := [PV.int IntKind.i64 (0 : Int)], ty := 3 }, { cs := [PV.int IntKind.i64 (0 : Int)], ty := 26 }], rw := [] } }) (o := []) (by kernel_rfl) (by ((repeat' (first | exact okO_nil | refine okN ?_ ?_)); all_goals first | assumption | rfl | exact same_of rfl | exact sameS_self _ | (simp only [decide_eq_true_eq, decide_eq_false_iff_not, Nat.ble_eq, Nat.beq_eq, beq_eq_false_iff_ne, beq_iff_eq, ne_eq] <;> omega))) (fun st hst => ⟨[0, 2, 3, 4], rfl, hst⟩))) fun C fr fp hnt hnb hfr hfp => ?_
  have eq := azR_eq s
  have fin : ∀ st n cs a e bx rw', nrm [2, 3, 4] st = ⟨[(2, .slice n cs), (3, .ptr 0 0), (4, .ptr 1 0)], ⟨iZ a :: eZ e :: bx, rw'⟩⟩ → PV.nz (.slice n cs) = .slice (azX s).dat.len (azX s).dat.cells → azA s = a → azE s = e → fr st := fun st n cs a e bx rw' hst g1 g3 g4 => hfr st [2, 3, 4] (by
    rw [hst]
    refine ⟨0, .tup [.slice n cs, .int .i64 a, .int .i64 e], Nat.le_refl _, Nat.zero_le _, rfl, rfl, rfl, rfl, _, rfl, ?_⟩
    show PV.tup [PV.nz (.slice n cs), .int .i64 a, .int .i64 e] = _
    rw [g1, g3, g4])
  have pan : ∀ st (a e : Int) bx rw', nrm [2, 3, 4] st = ⟨[(2, .nil), (3, .ptr 0 0), (4, .ptr 1 0)], ⟨iZ 0 :: eZ 0 :: bx, rw'⟩⟩ → azR s = (.nil, a, e) → fp (faultV a e) st := fun st a e bx rw' hst h => hfp a e st [2, 3, 4] (.int .i64 0) (.int .i64 0) (by rw [hst]; rfl) (by rw [hst]; rfl) (by
    rw [hst]
    refine ⟨0, .tup [.nil, .int .i64 a, .int .i64 e], Nat.le_refl _, Nat.zero_le _, rfl, rfl, rfl, rfl, _, rfl, ?_⟩
    unfold azX azA azE
    rw [h]
    rfl)
  refine Q.runSeq (SLg false [] []) 100 33 hnt [0, 2, 3, 4, 5] (z := { t := [(0, PV.str s), (2, PV.nil), (3, PV.ptr 0 0), (4, PV.ptr 1 0), (5, PV.ptr 2 0)], h := { bx := [{ cs := [PV.int IntKind.i64 (0 : Int)], ty := 3 }, { cs := [PV.int IntKind.i64 (0 : Int)], ty := 26 }, { cs := [PV.str s, PV.int IntKind.i64 (0 : Int)], ty := 87 }], rw := [] } }) (o := []) (by kernel_rfl) (by ((repeat' (first | exact okO_nil | refine okN ?_ ?_)); all_goals first | assumption | rfl | exact same_of rfl | exact sameS_self _ | (simp only [decide_eq_true_eq, decide_eq_false_iff_not, Nat.ble_eq, Nat.beq_eq, beq_eq_false_iff_ne, beq_iff_eq, ne_eq] <;> omega))) ?_
  refine Q.runSeq (SLg false [] []) 100 33 hnt [0, 2, 3, 4, 5, 6] (z := { t := [(0, PV.str s), (2, PV.nil), (3, PV.ptr 0 0), (4, PV.ptr 1 0), (5, PV.ptr 2 0), (6, PV.nil)], h := { bx := [{ cs := [PV.int IntKind.i64 (0 : Int)], ty := 3 }, { cs := [PV.int IntKind.i64 (0 : Int)], ty := 26 }, { cs := [PV.str s, PV.int IntKind.i64 (0 : Int)], ty := 87 }], rw := [] } }) (o := []) (by kernel_rfl) (by ((repeat' (first | exact okO_nil | refine okN ?_ ?_)); all_goals first | assumption | rfl | exact same_of rfl | exact sameS_self _ | (simp only [decide_eq_true_eq, decide_eq_false_iff_not, Nat.ble_eq, Nat.beq_eq, beq_eq_false_iff_ne, beq_iff_eq, ne_eq] <;> omega))) ?_
  refine SWP.adoptS 6 25 4 rfl ?_
  refine SWP.norm [0, 2, 3, 4, 5, 6] ?_
  refine Q.seq fun K9 hK9 => ?_
  have dx0 : decide (0 ≤ ((0 : Nat) : Int) ∧ ((0 : Nat) : Int) ≤ (s.size : Int)) = true := by rw [decide_eq_true_eq]; omega
  refine Q.runSeq (SLg false [] []) 100 33 hnt [0, 2, 3, 4, 5, 6] (z := ⟨[(0, .str s), (2, .nil), (3, .ptr 0 0), (4, .ptr 1 0), (5, .ptr 2 0), (6, .own 0 0)], ⟨[iZ 0, eZ 0, rP s (skp s 0)], [some (jR [] 0)]⟩⟩) (o := [(decide (0 ≤ ((0 : Nat) : Int) ∧ ((0 : Nat) : Int) ≤ (s.size : Int)), true), (Nat.ble s.size 1099511627776, true)]) (by kernel_rfl) (by ((repeat' (first | exact okO_nil | refine okN ?_ ?_)); all_goals first | assumption | rfl | exact same_of rfl | exact sameS_self _ | (simp only [decide_eq_true_eq, decide_eq_false_iff_not, Nat.ble_eq, Nat.beq_eq, beq_eq_false_iff_ne, beq_iff_eq, ne_eq] <;> omega))) ?_
  refine Q.block ?_
  obtain ⟨y, hy⟩ : ∃ y, y = skp s 0 := ⟨_, rfl⟩
  have hy2 : y ≤ s.size := by rw [hy]; exact skp_le s 0 (Nat.zero_le _)
  have hcl : skp s y = y := by rw [hy]; exact skp_skp s 0
  rw [← hy] at eq ⊢
  let T (x : Nat) (l : Nds) : AS := ⟨[(0, .str s), (2, .nil), (3, .ptr 0 0), (4, .ptr 1 0), (5, .ptr 2 0), (6, .own 0 l.len)], ⟨[iZ 0, eZ 0, rP s x], [some (jR l.dat.cells l.len)]⟩⟩
  refine Q.loopH (σ := { x : Nat × Nds × Nat // (x.1 ≤ s.size ∧ skp s x.1 = x.1) ∧ s.size + 1 - x.1 ≤ x.2.2 ∧ x.2.1.len + x.2.2 ≤ s.size + 1 ∧ rdZ s x.2.2 x.1 x.2.1 = rdZ s (s.size + 1) y .nil }) [0, 2, 3, 4, 5, 6] 3 (by rw [hnb]; exact Nat.le_of_ble_eq_true rfl) (fun x => T x.1.1 x.1.2.1) (fun x => x.1.2.2) ⟨(y, .nil, s.size + 1), ⟨hy2, hcl⟩, Nat.sub_le _ _, by simp [Nds.len], rfl⟩ (fun x => ⟨rfl, rfl, rfl⟩) ⟨[], rfl⟩ fun ⟨(x, l, k), hx0, hk, hlen, hrd⟩ => ?_
  have hx1 : x ≤ s.size ∧ skp s x = x := hx0
  have hx := hx1.1
  have hxx := hx1.2
  have hk : s.size + 1 - x ≤ k := hk
  have hlen : l.len + k ≤ s.size + 1 := hlen
  have hrd : rdZ s k x l = rdZ s (s.size + 1) y .nil := hrd
  rw [← hrd] at eq
  show SWP G0 C _ _ ⟨[(0, .str s), (2, .nil), (3, .ptr 0 0), (4, .ptr 1 0), (5, .ptr 2 0), (6, .own 0 l.len)], ⟨[iZ 0, eZ 0, rP s x], [some (jR l.dat.cells l.len)]⟩⟩
  obtain ⟨m, hm⟩ : ∃ m, m = l.len := ⟨_, rfl⟩
  obtain ⟨rc, hrc⟩ : ∃ rc, rc = l.dat.cells := ⟨_, rfl⟩
  refine swp_st (st' := ⟨[(0, .str s), (2, .nil), (3, .ptr 0 0), (4, .ptr 1 0), (5, .ptr 2 0), (6, .own 0 m)], ⟨[iZ 0, eZ 0, rP s x], [some (jR rc m)]⟩⟩) (by rw [hm, hrc]) ?_
  rw [← hm] at hlen
  obtain ⟨k, rfl⟩ : ∃ j, k = j + 1 := ⟨k - 1, by omega⟩
  have dx : decide (0 ≤ (x : Int) ∧ (x : Int) ≤ (s.size : Int)) = true := by rw [decide_eq_true_eq]; omega
  refine Q.seq fun K2 hK2 => ?_
  rcases Nat.lt_or_ge x s.size with hlt | hge
  · have d1 := lt_at hlt
    refine SWP.runQ (SLg false [(33, [(20, true)])] []) 100 33 hnt [0, 2, 3, 4, 5, 6] (e := .normal) (z := { t := [(0, PV.str s), (2, PV.nil), (3, PV.ptr 0 0), (4, PV.ptr 1 0), (5, PV.ptr 2 0), (6, PV.own 0 m)], h := { bx := [{ cs := [PV.int IntKind.i64 (0 : Int)], ty := 3 }, { cs := [PV.int IntKind.i64 (0 : Int)], ty := 26 }, { cs := [PV.str s, PV.int IntKind.i64 (Int.ofNat x)], ty := 87 }], rw := [some { cs := rc, n := m, ty := 25, sz := 4 }] } }) (o := [(decide ((↑x : Int) < (↑(ByteArray.size s) : Int)), true), (true, true)]) (by kernel_rfl) (by ((repeat' (first | exact okO_nil | refine okN ?_ ?_)); all_goals first | assumption | rfl | exact same_of rfl | exact sameS_self _ | (simp only [decide_eq_true_eq, decide_eq_false_iff_not, Nat.ble_eq, Nat.beq_eq, beq_eq_false_iff_ne, beq_iff_eq, ne_eq] <;> omega))) (fun st hst => hK2 st (.norm [0, 2, 3, 4, 5, 6] ?_))
    rw [hst]
    clear hst hK2
    have hs2 := rdD_steps s 1000 x hx
    have hqx : qX s 1000 x = rdX s 1000 x := by unfold qX; rw [hxx]
    have hqa : qA s 1000 x = rdA s 1000 x := by unfold qA; rw [hxx]
    have hqe : qE s 1000 x = rdE s 1000 x := by unfold qE; rw [hxx]
    have hqf : qF s 1000 x = rdF s 1000 x := by unfold qF; rw [hxx]
    have g1 : (rdD s 1000 x).2 = ⟨rdA s 1000 x, rdE s 1000 x, rdF s 1000 x⟩ := rfl
    have g2 : (rdD s 1000 x).1 = rdX s 1000 x := rfl
    rw [rdZ, if_pos hlt] at hrd eq
    refine Q.seq fun K3 hK3 => ?_
    refine Q.block ?_
    by_cases he : rdE s 1000 x = 0
    · have de : decide (qE s 1000 (Int.toNat (x : Int)) = 0) = true := by rw [Int.toNat_natCast, hqe]; exact decide_eq_true he
      have hin := hs2.1.ok he
      have hadv : x < rdA s 1000 x := hs2.2 he
      have hin1 : rdA s 1000 x ≤ s.size := hin.1
      rw [if_pos (show (rdD s 1000 x).2.e = 0 from he), g1, g2] at hrd
      refine Q.runSeq (SLg false [] []) 100 33 hnt [0, 2, 3, 4, 5, 6, 7, 8] (z := ⟨[(0, .str s), (2, .nil), (3, .ptr 0 0), (4, .ptr 1 0), (5, .ptr 2 0), (6, .own 0 m), (7, .ptr 3 0), (8, .ptr 4 0)], ⟨[iZ 0, eZ 0, rP s (qA s 1000 x), ⟨ndJ (qX s 1000 x), 25⟩, ⟨ndP (qX s 1000 x), 64⟩], [some (jR rc m)]⟩⟩) (o := [(decide (0 ≤ (↑x : Int) ∧ (↑x : Int) ≤ (↑(ByteArray.size s) : Int)), true), (true, true), (decide (qE s 1000 (Int.toNat (↑x : Int)) = 0), true), (Nat.ble (ByteArray.size s) 1099511627776, true)]) (by kernel_rfl) (by ((repeat' (first | exact okO_nil | refine okN ?_ ?_)); all_goals first | assumption | rfl | exact same_of rfl | exact sameS_self _ | (simp only [decide_eq_true_eq, decide_eq_false_iff_not, Nat.ble_eq, Nat.beq_eq, beq_eq_false_iff_ne, beq_iff_eq, ne_eq] <;> omega))) ?_
      obtain ⟨X, hX⟩ : ∃ X, X = qX s 1000 x := ⟨_, rfl⟩
      obtain ⟨p, hp'⟩ : ∃ X, X = qA s 1000 x := ⟨_, rfl⟩
      obtain ⟨xp, hxp⟩ : ∃ z, z = (ndS X).pl := ⟨_, rfl⟩
      refine swp_st (st' := ⟨[(0, .str s), (2, .nil), (3, .ptr 0 0), (4, .ptr 1 0), (5, .ptr 2 0), (6, .own 0 m), (7, .ptr 3 0), (8, .ptr 4 0)], ⟨[iZ 0, eZ 0, rP s p, ⟨ndJ X, 25⟩, ⟨[.int .i64 (ndA X), .slice (Nds.len (ndS X)) xp], 64⟩], [some (jR rc m)]⟩⟩) (by rw [hxp, hX, hp']; rfl) ?_
      rw [hqx] at hX
      rw [hqa] at hp'
      rw [← hX, ← hp'] at hrd
      rw [← hp'] at hin1 hadv
      have dp : decide (0 ≤ (p : Int) ∧ (p : Int) ≤ (s.size : Int)) = true := by rw [decide_eq_true_eq]; omega
      have g3 : m + 1 = (l.snoc X).len := by rw [Nds.snoc_len, hm]
      have g4 : rc ++ ndJ X = (l.snoc X).dat.cells := by rw [Nds.snoc_dc, hrc, ndJ_eq]
      have hpge := skp_ge s p
      refine SWP.runQ (SLg false [(33, [(31, true)])] []) 100 33 hnt [0, 2, 3, 4, 5, 6] (e := .normal) (z := { t := [(0, PV.str s), (2, PV.nil), (3, PV.ptr 0 0), (4, PV.ptr 1 0), (5, PV.ptr 2 0), (6, PV.own 0 (m + 1))], h := { bx := [{ cs := [PV.int IntKind.i64 (0 : Int)], ty := 3 }, { cs := [PV.int IntKind.i64 (0 : Int)], ty := 26 }, { cs := [PV.str s, PV.int IntKind.i64 (Int.ofNat p)], ty := 87 }, { cs := [PV.int IntKind.i64 (ndK X), PV.int IntKind.i64 (ndN X), PV.str (ndT X), PV.slice (Dats.len (Nds.dat (ndS X))) (Dats.cells (Nds.dat (ndS X)))], ty := 25 }, { cs := [PV.int IntKind.i64 (ndA X), PV.slice (Nds.len (ndS X)) xp], ty := 64 }], rw := [some { cs := rc ++ [PV.int IntKind.i64 (ndK X), PV.int IntKind.i64 (ndN X), PV.str (ndT X), PV.slice (Dats.len (Nds.dat (ndS X))) (Dats.cells (Nds.dat (ndS X)))], n := m + 1, ty := 25, sz := 4 }] } }) (o := [(true, true), (Nat.ble ((m + 1) * 56) 140737488355328, true), (Nat.ble (m + 1) 9223372036854775807, true)]) (by kernel_rfl) (by ((repeat' (first | exact okO_nil | refine okN ?_ ?_)); all_goals first | assumption | rfl | exact same_of rfl | exact sameS_self _ | (simp only [decide_eq_true_eq, decide_eq_false_iff_not, Nat.ble_eq, Nat.beq_eq, beq_eq_false_iff_ne, beq_iff_eq, ne_eq] <;> omega))) (fun st hst => hK3 st (.norm [0, 2, 3, 4, 5, 6] ?_))
      rw [hst]
      clear hst hK3
      obtain ⟨r2, hr2⟩ : ∃ r2, r2 = rc ++ ndJ X := ⟨_, rfl⟩
      refine swp_st (st' := ⟨[(0, .str s), (2, .nil), (3, .ptr 0 0), (4, .ptr 1 0), (5, .ptr 2 0), (6, .own 0 (m + 1))], ⟨[iZ 0, eZ 0, rP s p, ⟨ndJ X, 25⟩, ⟨[.int .i64 (ndA X), .slice (Nds.len (ndS X)) xp], 64⟩], [some (jR r2 (m + 1))]⟩⟩) (by rw [hr2]; rfl) ?_
      rw [g4] at hr2
      obtain ⟨m2, hm2⟩ : ∃ m2, m2 = m + 1 := ⟨_, rfl⟩
      rw [← hm2]
      rw [g3] at hm2
      have e2 : (⟨[(0, .str s), (2, .nil), (3, .ptr 0 0), (4, .ptr 1 0), (5, .ptr 2 0), (6, .own 0 m2)], ⟨[iZ 0, eZ 0, rP s (skp s p), ⟨ndJ X, 25⟩, ⟨[.int .i64 (ndA X), .slice (Nds.len (ndS X)) xp], 64⟩], [some (jR r2 m2)]⟩⟩ : AS) = ⟨[(0, .str s), (2, .nil), (3, .ptr 0 0), (4, .ptr 1 0), (5, .ptr 2 0), (6, .own 0 (l.snoc X).len)], ⟨[iZ 0, eZ 0, rP s (skp s p), ⟨ndJ X, 25⟩, ⟨[.int .i64 (ndA X), .slice (Nds.len (ndS X)) xp], 64⟩], [some (jR (l.snoc X).dat.cells (l.snoc X).len)]⟩⟩ := by rw [hm2, hr2]
      refine SWP.runQ (SLg false [] []) 100 33 hnt [0, 2, 3, 4, 5, 6] (e := .normal) (z := ⟨[(0, .str s), (2, .nil), (3, .ptr 0 0), (4, .ptr 1 0), (5, .ptr 2 0), (6, .own 0 m2)], ⟨[iZ 0, eZ 0, rP s (skp s p), ⟨ndJ X, 25⟩, ⟨[.int .i64 (ndA X), .slice (Nds.len (ndS X)) xp], 64⟩], [some (jR r2 m2)]⟩⟩) (o := [(decide (0 ≤ (↑p : Int) ∧ (↑p : Int) ≤ (↑(ByteArray.size s) : Int)), true), (Nat.ble (ByteArray.size s) 1099511627776, true)]) (by kernel_rfl) (by ((repeat' (first | exact okO_nil | refine okN ?_ ?_)); all_goals first | assumption | rfl | exact same_of rfl | exact sameS_self _ | (simp only [decide_eq_true_eq, decide_eq_false_iff_not, Nat.ble_eq, Nat.beq_eq, beq_eq_false_iff_ne, beq_iff_eq, ne_eq] <;> omega))) (fun st hst => ⟨⟨(skp s p, l.snoc X, k), ⟨skp_le s p hin1, skp_skp s p⟩, by show s.size + 1 - skp s p ≤ k; omega, by show (l.snoc X).len + k ≤ _; rw [← g3]; omega, hrd⟩, Nat.lt_succ_self k, [⟨ndJ X, 25⟩, ⟨[.int .i64 (ndA X), .slice (Nds.len (ndS X)) xp], 64⟩], hst.trans (e2.trans rfl)⟩)
    · have de : decide (qE s 1000 (Int.toNat (x : Int)) = 0) = false := by rw [Int.toNat_natCast, hqe]; exact decide_eq_false he
      rw [if_neg (show ¬ (rdD s 1000 x).2.e = 0 from he)] at hrd eq
      rw [if_neg (show ¬ (l, (rdD s 1000 x).2).2.e = 0 from he)] at eq
      refine Q.seq fun K4 hK4 => ?_
      exact SWP.runQ (SLg true [] []) 100 33 hnt [2, 3, 4] (e := .panic (faultV (qF s 1000 x) (qE s 1000 x))) (z := { t := [(2, PV.nil), (3, PV.ptr 0 0), (4, PV.ptr 1 0)], h := { bx := [{ cs := [PV.int IntKind.i64 (0 : Int)], ty := 3 }, { cs := [PV.int IntKind.i64 (0 : Int)], ty := 26 }, { cs := [PV.str s, PV.int IntKind.i64 (qF s 1000 (Int.toNat (Int.ofNat x)))], ty := 87 }], rw := [some { cs := rc, n := m, ty := 25, sz := 4 }] } }) (o := [(decide (0 ≤ (↑x : Int) ∧ (↑x : Int) ≤ (↑(ByteArray.size s) : Int)), true), (true, true), (decide (qE s 1000 (Int.toNat (↑x : Int)) = 0), false), (Nat.ble (ByteArray.size s) 1099511627776, true)]) (by kernel_rfl) (by ((repeat' (first | exact okO_nil | refine okN ?_ ?_)); all_goals first | assumption | rfl | exact same_of rfl | exact sameS_self _ | (simp only [decide_eq_true_eq, decide_eq_false_iff_not, Nat.ble_eq, Nat.beq_eq, beq_eq_false_iff_ne, beq_iff_eq, ne_eq] <;> omega))) (fun st hst => pan st (qF s 1000 x) (qE s 1000 x) _ _ hst (by rw [eq, hqf, hqe]; rfl))
  · have d1 := ge_at hge
    have hz : rdZ s (k + 1) x l = (l, ⟨x, 0, 0⟩) := by rw [rdZ, if_neg (by omega)]
    rw [hz] at eq
    rw [if_pos (show (l, (⟨x, 0, 0⟩ : RS)).2.e = 0 from rfl)] at eq
    refine SWP.runQ (SLg false [(33, [(20, false)])] []) 100 33 hnt [0, 2, 3, 4, 5, 6] (e := .exit 0) (z := { t := [(0, PV.str s), (2, PV.nil), (3, PV.ptr 0 0), (4, PV.ptr 1 0), (5, PV.ptr 2 0), (6, PV.own 0 m)], h := { bx := [{ cs := [PV.int IntKind.i64 (0 : Int)], ty := 3 }, { cs := [PV.int IntKind.i64 (0 : Int)], ty := 26 }, { cs := [PV.str s, PV.int IntKind.i64 (Int.ofNat x)], ty := 87 }], rw := [some { cs := rc, n := m, ty := 25, sz := 4 }] } }) (o := [(decide ((↑x : Int) < (↑(ByteArray.size s) : Int)), false), (false, false)]) (by kernel_rfl) (by ((repeat' (first | exact okO_nil | refine okN ?_ ?_)); all_goals first | assumption | rfl | exact same_of rfl | exact sameS_self _ | (simp only [decide_eq_true_eq, decide_eq_false_iff_not, Nat.ble_eq, Nat.beq_eq, beq_eq_false_iff_ne, beq_iff_eq, ne_eq] <;> omega))) (fun st hst => hK9 st (.norm [0, 2, 3, 4, 5, 6] ?_))
    rw [hst]
    refine SWP.frz [0] ?_
    exact SWP.runQ (SLg false [] []) 100 33 hnt [2, 3, 4] (e := .ret) (z := { t := [(2, PV.slice m rc), (3, PV.ptr 0 0), (4, PV.ptr 1 0)], h := { bx := [{ cs := [PV.int IntKind.i64 (0 : Int)], ty := 3 }, { cs := [PV.int IntKind.i64 (0 : Int)], ty := 26 }, { cs := [PV.str s, PV.int IntKind.i64 (Int.ofNat x)], ty := 87 }], rw := [none] } }) (o := []) (by kernel_rfl) (by ((repeat' (first | exact okO_nil | refine okN ?_ ?_)); all_goals first | assumption | rfl | exact same_of rfl | exact sameS_self _ | (simp only [decide_eq_true_eq, decide_eq_false_iff_not, Nat.ble_eq, Nat.beq_eq, beq_eq_false_iff_ne, beq_iff_eq, ne_eq] <;> omega))) (fun st hst => fin st m rc 0 0 _ _ hst (by
      unfold azX
      rw [eq, hm, hrc, ← Nds.dat_len]
      simp only [PV.nz, Dats.nz]) (by unfold azA; rw [eq]) (by unfold azE; rw [eq]))
end Seat
end Go.Proofs.YtenpjkcclmmlhaaDoor
/- The document's reader: All. Printed by dev/rda.py and dev/nfsub.py (this session's). -/
namespace Go.Proofs.YtenpjkcclmmlhaaDoor
open Go.AS Go.RowKit
set_option linter.unusedVariables false
set_option linter.unusedSimpArgs false
set_option maxRecDepth 100000
set_option maxHeartbeats 4000000
namespace Seat
/-- All data of a string that isn't too long. -/
def alR (s : ByteArray) : Nds × Int × Int := if 20000 < s.size then (.nil, 0, 3) else azR s
theorem alR_eq (s : ByteArray) : alR s = (if 20000 < s.size then (.nil, 0, 3) else azR s : Nds × Int × Int) := rfl
def alX (s : ByteArray) : Nds := (alR s).1
def alA (s : ByteArray) : Int := (alR s).2.1
def alE (s : ByteArray) : Int := (alR s).2.2
mutual
theorem Nd.nz_cells : ∀ d : Nd, nzL d.cells = d.cells
  | .mk k n t ks a => by simp only [Nd.cells, nzL, PV.nz, Nds.nz_cells ks]
theorem Nds.nz_cells : ∀ ds : Nds, nzL ds.cells = ds.cells
  | .nil => rfl
  | .cons d ds => by simp only [Nds.cells, nzL_app, Nd.nz_cells d, Nds.nz_cells ds]
end
theorem all_ok (s : ByteArray) : Pure G0 49 [.str s] (fun r => r = .tup [.slice (alX s).len (alX s).cells, .int .i64 (alA s), .int .i64 (alE s)]) := by
  refine Pure.nz ?_
  refine Fn.enterB Tryd.func49 Tryd.ntmps49 rfl (Nat.le_of_ble_eq_true rfl) fun C fr fp hnt hnb hp hfr hfp => ?_
  have eq := alR_eq s
  have fin : ∀ st n cs a e bx rw', nrm [2, 3, 4] st = ⟨[(2, .slice n cs), (3, .int .i64 a), (4, .int .i64 e)], ⟨bx, rw'⟩⟩ → PV.nz (.slice n cs) = .slice (alX s).len (alX s).cells → alA s = a → alE s = e → fr st := fun st n cs a e bx rw' hst g1 g3 g4 => hfr st [2, 3, 4] (by
    rw [hst]
    refine ⟨0, .tup [.slice n cs, .int .i64 a, .int .i64 e], Nat.le_refl _, Nat.zero_le _, rfl, rfl, rfl, rfl, _, rfl, ?_⟩
    show PV.tup [PV.nz (.slice n cs), .int .i64 a, .int .i64 e] = _
    rw [g1, g3, g4])
  have finN : ∀ st a e bx rw', nrm [2, 3, 4] st = ⟨[(2, .nil), (3, .int .i64 a), (4, .int .i64 e)], ⟨bx, rw'⟩⟩ → alX s = .nil → alA s = a → alE s = e → fr st := fun st a e bx rw' hst g1 g3 g4 => hfr st [2, 3, 4] (by
    rw [hst]
    refine ⟨0, .tup [.nil, .int .i64 a, .int .i64 e], Nat.le_refl _, Nat.zero_le _, rfl, rfl, rfl, rfl, _, rfl, ?_⟩
    rw [g1, g3, g4]; rfl)
  refine Q.runSeq (SOn [] []) 100 50 hnt [0] (z := { t := [(0, PV.str s)], h := { bx := [], rw := [] } }) (o := []) (by kernel_rfl) (by ((repeat' (first | exact okO_nil | refine okN ?_ ?_)); all_goals first | assumption | rfl | exact same_of rfl | exact sameS_self _ | (simp only [decide_eq_true_eq, decide_eq_false_iff_not, Nat.ble_eq, Nat.beq_eq, beq_eq_false_iff_ne, beq_iff_eq, ne_eq] <;> omega))) ?_
  by_cases hbig : 20000 < s.size
  · have d1 : decide (20000 < (s.size : Int)) = true := by rw [decide_eq_true_eq]; omega
    rw [if_pos hbig] at eq
    refine Q.seq fun K hK => ?_
    exact SWP.runQ (SOn [(50, [(9, true)])] []) 100 50 hnt [2, 3, 4] (e := .ret) (z := { t := [(2, PV.nil), (3, PV.int IntKind.i64 (0 : Int)), (4, PV.int IntKind.i64 (3 : Int))], h := { bx := [], rw := [] } }) (o := [(decide (20000 < (↑(ByteArray.size s) : Int)), true), (true, true)]) (by kernel_rfl) (by ((repeat' (first | exact okO_nil | refine okN ?_ ?_)); all_goals first | assumption | rfl | exact same_of rfl | exact sameS_self _ | (simp only [decide_eq_true_eq, decide_eq_false_iff_not, Nat.ble_eq, Nat.beq_eq, beq_eq_false_iff_ne, beq_iff_eq, ne_eq] <;> omega))) (fun st hst => finN st 0 3 _ _ hst (by unfold alX; rw [eq]) (by unfold alA; rw [eq]) (by unfold alE; rw [eq]))
  have d1 : decide (20000 < (s.size : Int)) = false := by rw [decide_eq_false_iff_not]; omega
  have hss : Nat.ble s.size 1099511627776 = true := by rw [Nat.ble_eq]; omega
  rw [if_neg hbig, azR_eq] at eq
  refine Q.runSeq (SOn [(50, [(9, false)])] []) 100 50 hnt [0] (z := { t := [(0, PV.str s)], h := { bx := [], rw := [] } }) (o := [(decide (20000 < (↑(ByteArray.size s) : Int)), false), (false, false)]) (by kernel_rfl) (by ((repeat' (first | exact okO_nil | refine okN ?_ ?_)); all_goals first | assumption | rfl | exact same_of rfl | exact sameS_self _ | (simp only [decide_eq_true_eq, decide_eq_false_iff_not, Nat.ble_eq, Nat.beq_eq, beq_eq_false_iff_ne, beq_iff_eq, ne_eq] <;> omega))) ?_
  refine Q.runSeq (SOn [] []) 100 50 hnt [0, 5] (z := { t := [(0, PV.str s), (5, PV.ptr 0 0)], h := { bx := [{ cs := [PV.str s, PV.int IntKind.i64 (0 : Int), PV.int IntKind.i64 (0 : Int), PV.int IntKind.i64 (0 : Int)], ty := 97 }], rw := [] } }) (o := []) (by kernel_rfl) (by ((repeat' (first | exact okO_nil | refine okN ?_ ?_)); all_goals first | assumption | rfl | exact same_of rfl | exact sameS_self _ | (simp only [decide_eq_true_eq, decide_eq_false_iff_not, Nat.ble_eq, Nat.beq_eq, beq_eq_false_iff_ne, beq_iff_eq, ne_eq] <;> omega))) ?_
  refine Q.runSeq (SOn [] []) 100 50 hnt [0, 5, 6] (z := { t := [(0, PV.str s), (5, PV.ptr 0 0), (6, PV.nil)], h := { bx := [{ cs := [PV.str s, PV.int IntKind.i64 (0 : Int), PV.int IntKind.i64 (0 : Int), PV.int IntKind.i64 (0 : Int)], ty := 97 }], rw := [] } }) (o := []) (by kernel_rfl) (by ((repeat' (first | exact okO_nil | refine okN ?_ ?_)); all_goals first | assumption | rfl | exact same_of rfl | exact sameS_self _ | (simp only [decide_eq_true_eq, decide_eq_false_iff_not, Nat.ble_eq, Nat.beq_eq, beq_eq_false_iff_ne, beq_iff_eq, ne_eq] <;> omega))) ?_
  refine SWP.adoptS 6 69 5 rfl ?_
  refine SWP.norm [0, 5, 6] ?_
  refine Q.seq fun K9 hK9 => ?_
  refine Q.runSeq (SOn [] []) 100 50 hnt [0, 5, 6] (z := ⟨[(0, .str s), (5, .ptr 0 0), (6, .own 0 0)], ⟨[rB s (skp s 0) 0 0], [some (nR [] 0)]⟩⟩) (o := [(true, true), (Nat.ble s.size 1099511627776, true)]) (by kernel_rfl) (by ((repeat' (first | exact okO_nil | refine okN ?_ ?_)); all_goals first | assumption | rfl | exact same_of rfl | exact sameS_self _ | (simp only [decide_eq_true_eq, decide_eq_false_iff_not, Nat.ble_eq, Nat.beq_eq, beq_eq_false_iff_ne, beq_iff_eq, ne_eq] <;> omega))) ?_
  refine Q.block ?_
  obtain ⟨y, hy⟩ : ∃ y, y = skp s 0 := ⟨_, rfl⟩
  have hy2 : y ≤ s.size := by rw [hy]; exact skp_le s 0 (Nat.zero_le _)
  rw [← hy] at eq ⊢
  let T (r : RS) (l : Nds) : AS := ⟨[(0, .str s), (5, .ptr 0 0), (6, .own 0 l.len)], ⟨[rB s r.a r.e r.b], [some (nR l.cells l.len)]⟩⟩
  refine Q.loopI (σ := { x : RS × Nds × Nat // (x.1.e = 0 → x.1.a ≤ s.size ∧ x.1.b = 0 ∧ s.size + 1 - x.1.a ≤ x.2.2 ∧ x.2.1.len + x.2.2 ≤ s.size + 1 ∧ rdZ s x.2.2 x.1.a x.2.1 = rdZ s (s.size + 1) y .nil) ∧ (x.1.e ≠ 0 → (rdZ s (s.size + 1) y .nil).2.e = x.1.e ∧ (rdZ s (s.size + 1) y .nil).2.b = x.1.b) }) [0, 5, 6] (fun x => T x.1.1 x.1.2.1) (fun x => x.1.2.2) ⟨(⟨y, 0, 0⟩, .nil, s.size + 1), fun _ => ⟨hy2, rfl, Nat.sub_le _ _, by simp [Nds.len], rfl⟩, fun h => absurd rfl h⟩ rfl fun ⟨(⟨x, e, b⟩, l, k), h0, h1⟩ => ?_
  have h0 : e = 0 → x ≤ s.size ∧ b = 0 ∧ s.size + 1 - x ≤ k ∧ l.len + k ≤ s.size + 1 ∧ rdZ s k x l = rdZ s (s.size + 1) y .nil := h0
  have h1 : e ≠ 0 → (rdZ s (s.size + 1) y .nil).2.e = e ∧ (rdZ s (s.size + 1) y .nil).2.b = b := h1
  show SWP G0 C _ _ ⟨[(0, .str s), (5, .ptr 0 0), (6, .own 0 l.len)], ⟨[rB s x e b], [some (nR l.cells l.len)]⟩⟩
  obtain ⟨m, hm⟩ : ∃ m, m = l.len := ⟨_, rfl⟩
  obtain ⟨rc, hrc⟩ : ∃ rc, rc = l.cells := ⟨_, rfl⟩
  refine swp_st (st' := ⟨[(0, .str s), (5, .ptr 0 0), (6, .own 0 m)], ⟨[rB s x e b], [some (nR rc m)]⟩⟩) (by rw [hm, hrc]) ?_
  refine Q.seq fun K2 hK2 => ?_
  by_cases he : e = 0
  · subst he
    obtain ⟨hx, hb, hk, hlen, hrd⟩ := h0 rfl
    subst hb
    rw [← hm] at hlen
    rw [← hrd] at eq
    obtain ⟨k, rfl⟩ : ∃ j, k = j + 1 := ⟨k - 1, by omega⟩
    have dx : decide (0 ≤ (x : Int) ∧ (x : Int) ≤ (s.size : Int)) = true := by rw [decide_eq_true_eq]; omega
    rcases Nat.lt_or_ge x s.size with hlt | hge
    · have d2 := lt_at hlt
      refine SWP.runQ (SOn [(50, [(27, true)])] []) 100 50 hnt [0, 5, 6] (e := .normal) (z := { t := [(0, PV.str s), (5, PV.ptr 0 0), (6, PV.own 0 m)], h := { bx := [{ cs := [PV.str s, PV.int IntKind.i64 (Int.ofNat x), PV.int IntKind.i64 (0 : Int), PV.int IntKind.i64 (0 : Int)], ty := 97 }], rw := [some { cs := rc, n := m, ty := 69, sz := 5 }] } }) (o := [(decide ((↑x : Int) < (↑(ByteArray.size s) : Int)), true)]) (by kernel_rfl) (by ((repeat' (first | exact okO_nil | refine okN ?_ ?_)); all_goals first | assumption | rfl | exact same_of rfl | exact sameS_self _ | (simp only [decide_eq_true_eq, decide_eq_false_iff_not, Nat.ble_eq, Nat.beq_eq, beq_eq_false_iff_ne, beq_iff_eq, ne_eq] <;> omega))) (fun st hst => hK2 st (.norm [0, 5, 6] ?_))
      rw [hst]
      clear hst hK2
      have hs2 := rdD_steps s 1000 x hx
      have g1 : (rdD s 1000 x).2 = ⟨rdA s 1000 x, rdE s 1000 x, rdF s 1000 x⟩ := rfl
      have g2 : (rdD s 1000 x).1 = rdX s 1000 x := rfl
      rw [rdZ, if_pos hlt, g1, g2] at hrd
      rw [g1] at hs2
      refine Q.seq fun K3 hK3 => ?_
      refine Q.block ?_
      refine SWP.runQ (SOn [(50, [(35, true)])] []) 100 50 hnt [0, 5, 6] (e := .normal) (z := ⟨[(0, .str s), (5, .ptr 0 0), (6, .own 0 (m + 1))], ⟨[rB s (rdA s 1000 x) (rdE s 1000 x) (rdF s 1000 x)], [some (nR (rc ++ ndC (rdX s 1000 x)) (m + 1))]⟩⟩) (o := [(decide (0 ≤ (↑x : Int) ∧ (↑x : Int) ≤ (↑(ByteArray.size s) : Int)), true), (true, true), (Nat.ble (ByteArray.size s) 1099511627776, true), (true, true), (Nat.ble ((m + 1) * 64) 140737488355328, true), (Nat.ble (m + 1) 9223372036854775807, true)]) (by kernel_rfl) (by ((repeat' (first | exact okO_nil | refine okN ?_ ?_)); all_goals first | assumption | rfl | exact same_of rfl | exact sameS_self _ | (simp only [decide_eq_true_eq, decide_eq_false_iff_not, Nat.ble_eq, Nat.beq_eq, beq_eq_false_iff_ne, beq_iff_eq, ne_eq] <;> omega))) (fun st hst => hK3 st (.norm [0, 5, 6] ?_))
      rw [hst]
      clear hst hK3
      have g3 : m + 1 = (l.snoc (rdX s 1000 x)).len := by rw [Nds.snoc_len, hm]
      have g4 : rc ++ ndC (rdX s 1000 x) = (l.snoc (rdX s 1000 x)).cells := by rw [Nds.snoc_cells, hrc, ndC_eq]
      obtain ⟨p, hp⟩ : ∃ p, p = rdA s 1000 x := ⟨_, rfl⟩
      obtain ⟨pe, hpe⟩ : ∃ p, p = rdE s 1000 x := ⟨_, rfl⟩
      obtain ⟨pb, hpb⟩ : ∃ p, p = rdF s 1000 x := ⟨_, rfl⟩
      obtain ⟨X, hX⟩ : ∃ p, p = rdX s 1000 x := ⟨_, rfl⟩
      rw [← hp, ← hpe, ← hpb] at hs2
      rw [← hp, ← hpe, ← hpb, ← hX] at hrd
      rw [← hX] at g3 g4
      obtain ⟨m2, hm2⟩ : ∃ m2, m2 = m + 1 := ⟨_, rfl⟩
      obtain ⟨r2, hr2⟩ : ∃ r2, r2 = rc ++ ndC X := ⟨_, rfl⟩
      refine swp_st (st' := ⟨[(0, .str s), (5, .ptr 0 0), (6, .own 0 m2)], ⟨[rB s p pe pb], [some (nR r2 m2)]⟩⟩) (by rw [hm2, hr2, hp, hpe, hpb, hX]) ?_
      rw [g3] at hm2
      rw [g4] at hr2
      have e2 : (⟨[(0, .str s), (5, .ptr 0 0), (6, .own 0 m2)], ⟨[rB s (skp s p) pe pb], [some (nR r2 m2)]⟩⟩ : AS) = ⟨[(0, .str s), (5, .ptr 0 0), (6, .own 0 (l.snoc X).len)], ⟨[rB s (skp s p) pe pb], [some (nR (l.snoc X).cells (l.snoc X).len)]⟩⟩ := by rw [hm2, hr2]
      refine SWP.runQ (SOn [] []) 100 50 hnt [0, 5, 6] (e := .normal) (z := ⟨[(0, .str s), (5, .ptr 0 0), (6, .own 0 m2)], ⟨[rB s (skp s p) pe pb], [some (nR r2 m2)]⟩⟩) (o := [(true, true), (Nat.ble s.size 1099511627776, true)]) (by kernel_rfl) (by ((repeat' (first | exact okO_nil | refine okN ?_ ?_)); all_goals first | assumption | rfl | exact same_of rfl | exact sameS_self _ | (simp only [decide_eq_true_eq, decide_eq_false_iff_not, Nat.ble_eq, Nat.beq_eq, beq_eq_false_iff_ne, beq_iff_eq, ne_eq] <;> omega))) (fun st hst => ⟨⟨(⟨skp s p, pe, pb⟩, l.snoc X, k), fun h => ?_, fun h => ?_⟩, Nat.lt_succ_self k, hst.trans (e2.trans rfl)⟩)
      · have h : pe = 0 := h
        have hin := hs2.1.ok h
        have hadv : x < p := hs2.2 h
        have hin1 : p ≤ s.size := hin.1
        have hb0 : pb = 0 := hin.2
        have hpge := skp_ge s p
        rw [if_pos h] at hrd
        exact ⟨skp_le s p hin1, hb0, by show s.size + 1 - skp s p ≤ k; omega, by show (l.snoc X).len + k ≤ _; rw [← g3]; omega, hrd⟩
      · have h : pe ≠ 0 := h
        rw [if_neg h] at hrd
        rw [← hrd]
        exact ⟨rfl, rfl⟩
    · have d2 := ge_at hge
      have hz : rdZ s (k + 1) x l = (l, ⟨x, 0, 0⟩) := by rw [rdZ, if_neg (by omega)]
      rw [hz, if_pos (show (l, (⟨x, 0, 0⟩ : RS)).2.e = 0 from rfl)] at eq
      refine SWP.runQ (SOn [(50, [(27, false)])] []) 100 50 hnt [0, 5, 6] (e := .exit 0) (z := { t := [(0, PV.str s), (5, PV.ptr 0 0), (6, PV.own 0 m)], h := { bx := [{ cs := [PV.str s, PV.int IntKind.i64 (Int.ofNat x), PV.int IntKind.i64 (0 : Int), PV.int IntKind.i64 (0 : Int)], ty := 97 }], rw := [some { cs := rc, n := m, ty := 69, sz := 5 }] } }) (o := [(decide ((↑x : Int) < (↑(ByteArray.size s) : Int)), false)]) (by kernel_rfl) (by ((repeat' (first | exact okO_nil | refine okN ?_ ?_)); all_goals first | assumption | rfl | exact same_of rfl | exact sameS_self _ | (simp only [decide_eq_true_eq, decide_eq_false_iff_not, Nat.ble_eq, Nat.beq_eq, beq_eq_false_iff_ne, beq_iff_eq, ne_eq] <;> omega))) (fun st hst => hK9 st (.norm [0, 5, 6] ?_))
      rw [hst]
      refine Q.runSeq (SOn [(50, [(40, false)])] []) 100 50 hnt [6] (z := { t := [(6, PV.own 0 m)], h := { bx := [{ cs := [PV.str s, PV.int IntKind.i64 (Int.ofNat x), PV.int IntKind.i64 (0 : Int), PV.int IntKind.i64 (0 : Int)], ty := 97 }], rw := [some { cs := rc, n := m, ty := 69, sz := 5 }] } }) (o := [(false, false), (false, false)]) (by kernel_rfl) (by ((repeat' (first | exact okO_nil | refine okN ?_ ?_)); all_goals first | assumption | rfl | exact same_of rfl | exact sameS_self _ | (simp only [decide_eq_true_eq, decide_eq_false_iff_not, Nat.ble_eq, Nat.beq_eq, beq_eq_false_iff_ne, beq_iff_eq, ne_eq] <;> omega))) ?_
      refine SWP.frz [0] ?_
      exact SWP.runQ (SOn [] []) 100 50 hnt [2, 3, 4] (e := .ret) (z := { t := [(2, PV.slice m rc), (3, PV.int IntKind.i64 (0 : Int)), (4, PV.int IntKind.i64 (0 : Int))], h := { bx := [{ cs := [PV.str s, PV.int IntKind.i64 (Int.ofNat x), PV.int IntKind.i64 (0 : Int), PV.int IntKind.i64 (0 : Int)], ty := 97 }], rw := [none] } }) (o := []) (by kernel_rfl) (by ((repeat' (first | exact okO_nil | refine okN ?_ ?_)); all_goals first | assumption | rfl | exact same_of rfl | exact sameS_self _ | (simp only [decide_eq_true_eq, decide_eq_false_iff_not, Nat.ble_eq, Nat.beq_eq, beq_eq_false_iff_ne, beq_iff_eq, ne_eq] <;> omega))) (fun st hst => fin st m rc 0 0 _ _ hst (by
        unfold alX
        rw [eq, hm, hrc]
        simp only [PV.nz, Nds.nz_cells]) (by unfold alA; rw [eq]) (by unfold alE; rw [eq]))
  · obtain ⟨k1, k2⟩ := h1 he
    rw [k1, k2, if_neg he] at eq
    have d2 : (e == (0 : Int)) = false := beqF he
    have d3 : (!e == (0 : Int)) = true := by rw [beqF he]; rfl
    refine SWP.runQ (SOn [(50, [(19, false)])] []) 100 50 hnt [0, 5, 6] (e := .exit 0) (z := { t := [(0, PV.str s), (5, PV.ptr 0 0), (6, PV.own 0 m)], h := { bx := [{ cs := [PV.str s, PV.int IntKind.i64 (Int.ofNat x), PV.int IntKind.i64 e, PV.int IntKind.i64 b], ty := 97 }], rw := [some { cs := rc, n := m, ty := 69, sz := 5 }] } }) (o := [(e == (0 : Int), false)]) (by kernel_rfl) (by ((repeat' (first | exact okO_nil | refine okN ?_ ?_)); all_goals first | assumption | rfl | exact same_of rfl | exact sameS_self _ | (simp only [decide_eq_true_eq, decide_eq_false_iff_not, Nat.ble_eq, Nat.beq_eq, beq_eq_false_iff_ne, beq_iff_eq, ne_eq] <;> omega))) (fun st hst => hK9 st (.norm [0, 5, 6] ?_))
    rw [hst]
    refine Q.seq fun K4 hK4 => ?_
    refine Q.runSeq (SOn [(50, [(40, true)])] []) 100 50 hnt [5, 40] (z := { t := [(5, PV.ptr 0 0), (40, PV.bool true)], h := { bx := [{ cs := [PV.str s, PV.int IntKind.i64 (Int.ofNat x), PV.int IntKind.i64 e, PV.int IntKind.i64 b], ty := 97 }], rw := [some { cs := rc, n := m, ty := 69, sz := 5 }] } }) (o := [(!e == (0 : Int), true)]) (by kernel_rfl) (by ((repeat' (first | exact okO_nil | refine okN ?_ ?_)); all_goals first | assumption | rfl | exact same_of rfl | exact sameS_self _ | (simp only [decide_eq_true_eq, decide_eq_false_iff_not, Nat.ble_eq, Nat.beq_eq, beq_eq_false_iff_ne, beq_iff_eq, ne_eq] <;> omega))) ?_
    refine Q.cond (b := true) rfl (fun _ => ?_) (fun h => by cases h)
    refine Q.seq fun K5 hK5 => ?_
    refine SWP.runLQ (SOn [] []) 100 50 hnt [2, 3, 4] (l := List.replicate 1 { t := [(2, PV.nil), (3, PV.int IntKind.i64 b), (4, PV.int IntKind.i64 e)], h := { bx := [{ cs := [PV.str s, PV.int IntKind.i64 (Int.ofNat x), PV.int IntKind.i64 e, PV.int IntKind.i64 b], ty := 97 }], rw := [some { cs := rc, n := m, ty := 69, sz := 5 }] } }) (o := []) (by kernel_rfl) (by ((repeat' (first | exact okO_nil | refine okN ?_ ?_)); all_goals first | assumption | rfl | exact same_of rfl | exact sameS_self _ | (simp only [decide_eq_true_eq, decide_eq_false_iff_not, Nat.ble_eq, Nat.beq_eq, beq_eq_false_iff_ne, beq_iff_eq, ne_eq] <;> omega))) (fun st hst => hK5 st (.norm [2, 3, 4] ?_))
    rw [List.eq_of_mem_replicate hst]
    exact .ret (finN _ b e _ _ rfl (by unfold alX; rw [eq]) (by unfold alA; rw [eq]) (by unfold alE; rw [eq]))
end Seat
end Go.Proofs.YtenpjkcclmmlhaaDoor
/- Both ReadAlls; Lists of lists that are the same. Printed by dev/rdb.py and dev/nfsub.py (this session's). -/
namespace Go.Proofs.YtenpjkcclmmlhaaDoor
open Go.AS Go.RowKit
set_option linter.unusedVariables false
set_option linter.unusedSimpArgs false
set_option maxRecDepth 100000
set_option maxHeartbeats 4000000
namespace Seat
noncomputable def rbS (f : Nat) (args : List PV) : Option (PV × Ob) := match f, args with
  | 48, [.str s] => some (.tup [.slice (azX s).dat.len (azX s).dat.cells, .int .i64 (azA s), .int .i64 (azE s)], [(Nat.ble s.size 1099511627776, true)])
  | 49, [.str s] => some (.tup [.slice (alX s).len (alX s).cells, .int .i64 (alA s), .int .i64 (alE s)], [])
  | 39, [.agg [.int .i64 k, .int .i64 n, .str t, .slice m cs, .int .i64 a]] => some (.agg [.int .i64 k, .int .i64 n, .str t, .slice m (ndD cs).cells], [(isNdo m cs, true)])
  | 17, [.agg cs, .agg ds] => some (.bool (eqC cs ds), [(isOk cs, true), (isOk ds, true)])
  | _, _ => none
theorem rbS_ok (f : Nat) (args : List PV) (r : PV) (o : Ob) (h : rbS f args = some (r, o)) (ho : ∀ p ∈ o, p.1 = p.2) (_ : pureL args = true) : Pure G0 f args (fun x => x = r) := by
  unfold rbS at h
  split at h
  · rename_i s _
    cases h
    exact alls_ok s (Nat.le_of_ble_eq_true (ho _ (List.mem_singleton.2 rfl)))
  · cases h
    exact all_ok _
  · rename_i k n t m cs a _
    cases h
    obtain ⟨ks, rfl, rfl, h2, h3⟩ := isNdo_of (ho (isNdo m cs, true) (List.mem_singleton.2 rfl))
    rw [ndD_at]
    exact dt_at (ks.size + 1) k n t ks a (Nat.lt_succ_self _) h2 h3
  · rename_i cs ds _
    cases h
    obtain ⟨d, rfl, h1⟩ := isOk_of (ho (isOk cs, true) (by simp))
    obtain ⟨e, rfl, h2⟩ := isOk_of (ho (isOk ds, true) (by simp))
    rw [eqC_at]
    exact same_ok d e h1 h2
  · cases h
noncomputable def SRb (l : List (Nat × List (Nat × Bool))) (v : List (Nat × List (Nat × PV))) : Cfg G0 := { F := F, hF := hF, S := rbS, hS := rbS_ok, orc := orcM l, val := valM v }
theorem readAllP (s : ByteArray) : Pure G0 30 [.str s] (fun r => r = .tup [.slice (alX s).dat.len (alX s).dat.cells, .int .i64 (alA s), .int .i64 (alE s)]) := by
  refine Pure.nz ?_
  refine Fn.enterB Tryd.func30 Tryd.ntmps30 rfl (Nat.le_of_ble_eq_true rfl) fun C fr fp hnt hnb hp hfr hfp => ?_
  by_cases hb : 20000 < s.size
  · have d1 : decide (20000 < (s.size : Int)) = true := by rw [decide_eq_true_eq]; omega
    exact SWP.runQ (SRb [(13, [(7, true)])] []) 100 13 hnt [2, 3, 4] (e := .ret) (z := { t := [(2, PV.nil), (3, PV.int IntKind.i64 (0 : Int)), (4, PV.int IntKind.i64 (3 : Int))], h := { bx := [], rw := [] } }) (o := [(decide (20000 < (↑(ByteArray.size s) : Int)), true), (true, true)]) (by kernel_rfl) (by ((repeat' (first | exact okO_nil | refine okN ?_ ?_)); all_goals first | assumption | rfl | exact same_of rfl | exact sameS_self _ | (simp only [decide_eq_true_eq, decide_eq_false_iff_not, Nat.ble_eq, Nat.beq_eq, beq_eq_false_iff_ne, beq_iff_eq, ne_eq] <;> omega))) (fun st hst => hfr st [2, 3, 4] (by
      rw [hst]
      refine ⟨0, .tup [.nil, .int .i64 0, .int .i64 3], Nat.le_refl _, Nat.zero_le _, rfl, rfl, rfl, rfl, _, rfl, ?_⟩
      unfold alX alA alE
      rw [alR_eq, if_pos hb]; rfl))
  · have d1 : decide (20000 < (s.size : Int)) = false := by rw [decide_eq_false_iff_not]; omega
    have d2 : Nat.ble s.size 1099511627776 = true := by rw [Nat.ble_eq]; omega
    exact SWP.runQ (SRb [(13, [(7, false)])] []) 100 13 hnt [2, 3, 4] (e := .ret) (z := { t := [(2, PV.slice (Dats.len (Nds.dat (azX s))) (Dats.cells (Nds.dat (azX s)))), (3, PV.int IntKind.i64 (Prod.fst (Prod.snd (if RS.e (Prod.snd (rdZ s (ByteArray.size s + 1) (skp s 0) Nds.nil)) = 0 then ((rdZ s (ByteArray.size s + 1) (skp s 0) Nds.nil).1, (0 : Int), (0 : Int)) else (Nds.nil, RS.b (Prod.snd (rdZ s (ByteArray.size s + 1) (skp s 0) Nds.nil)), RS.e (Prod.snd (rdZ s (ByteArray.size s + 1) (skp s 0) Nds.nil))))))), (4, PV.int IntKind.i64 (Prod.snd (Prod.snd (if RS.e (Prod.snd (rdZ s (ByteArray.size s + 1) (skp s 0) Nds.nil)) = 0 then ((rdZ s (ByteArray.size s + 1) (skp s 0) Nds.nil).1, (0 : Int), (0 : Int)) else (Nds.nil, RS.b (Prod.snd (rdZ s (ByteArray.size s + 1) (skp s 0) Nds.nil)), RS.e (Prod.snd (rdZ s (ByteArray.size s + 1) (skp s 0) Nds.nil)))))))], h := { bx := [], rw := [] } }) (o := [(decide (20000 < (↑(ByteArray.size s) : Int)), false), (false, false), (true, true), (Nat.ble (ByteArray.size s) 1099511627776, true)]) (by kernel_rfl) (by ((repeat' (first | exact okO_nil | refine okN ?_ ?_)); all_goals first | assumption | rfl | exact same_of rfl | exact sameS_self _ | (simp only [decide_eq_true_eq, decide_eq_false_iff_not, Nat.ble_eq, Nat.beq_eq, beq_eq_false_iff_ne, beq_iff_eq, ne_eq] <;> omega))) (fun st hst => hfr st [2, 3, 4] (by
      rw [hst]
      refine ⟨0, .tup [.slice (azX s).dat.len (azX s).dat.cells, .int .i64 (azA s), .int .i64 (azE s)], Nat.le_refl _, Nat.zero_le _, rfl, rfl, rfl, rfl, _, rfl, ?_⟩
      show PV.tup [.slice (azX s).dat.len (nzL (azX s).dat.cells), .int .i64 (azA s), .int .i64 (azE s)] = _
      unfold alX alA alE
      rw [alR_eq, if_neg hb, Dats.nz]; rfl))
theorem rdZ_ok {s : ByteArray} (hs : s.size ≤ 1099511627776) : ∀ k a l, l.ok → (rdZ s k a l).1.ok
  | 0, a, l, h => h
  | k + 1, a, l, h => by
    rw [rdZ]
    split
    · split
      · exact rdZ_ok hs k _ _ (Nds.snoc_ok l _ h (rdD_ok s hs 1000 a))
      · exact h
    · exact h
theorem rdZ_len {s : ByteArray} : ∀ k a l, (rdZ s k a l).1.len ≤ l.len + k
  | 0, a, l => Nat.le_refl _
  | k + 1, a, l => by
    rw [rdZ]
    split
    · split
      · have := rdZ_len (s := s) k (skp s (rdD s 1000 a).2.a) (l.snoc (rdD s 1000 a).1)
        rw [Nds.snoc_len] at this
        omega
      · show l.len ≤ _; omega
    · show l.len ≤ _; omega
theorem alX_ok (s : ByteArray) : (alX s).ok ∧ (alX s).len ≤ 20001 := by
  unfold alX
  rw [alR_eq]
  split
  · exact ⟨trivial, by simp [Nds.len]⟩
  · rw [azR_eq]
    split
    · have := rdZ_len (s := s) (s.size + 1) (skp s 0) .nil
      simp only [Nds.len] at this
      exact ⟨rdZ_ok (by omega) _ _ _ trivial, by show (rdZ s (s.size + 1) (skp s 0) .nil).1.len ≤ _; omega⟩
    · exact ⟨trivial, by simp [Nds.len]⟩
theorem readAllR (s : ByteArray) : Pure G0 31 [.str s] (fun r => r = .tup [.slice (alX s).dat.len (alX s).dat.cells, .int .i64 (alA s), .int .i64 (alE s)]) := by
  refine Pure.nz ?_
  obtain ⟨hok, hlen⟩ := alX_ok s
  refine Fn.enterB Tryd.func31 Tryd.ntmps31 rfl (Nat.le_of_ble_eq_true rfl) fun C fr fp hnt hnb hp hfr hfp => ?_
  refine Q.runSeq (SRb [] []) 100 33 hnt [0] (z := { t := [(0, PV.str s)], h := { bx := [], rw := [] } }) (o := []) (by kernel_rfl) (by ((repeat' (first | exact okO_nil | refine okN ?_ ?_)); all_goals first | assumption | rfl | exact same_of rfl | exact sameS_self _ | (simp only [decide_eq_true_eq, decide_eq_false_iff_not, Nat.ble_eq, Nat.beq_eq, beq_eq_false_iff_ne, beq_iff_eq, ne_eq] <;> omega))) ?_
  refine Q.runSeq (SRb [] []) 100 33 hnt [5, 6, 7] (z := ⟨[(5, .slice (alX s).len (alX s).cells), (6, .int .i64 (alA s)), (7, .int .i64 (alE s))], ⟨[], []⟩⟩) (o := [(true, true)]) (by kernel_rfl) (by ((repeat' (first | exact okO_nil | refine okN ?_ ?_)); all_goals first | assumption | rfl | exact same_of rfl | exact sameS_self _ | (simp only [decide_eq_true_eq, decide_eq_false_iff_not, Nat.ble_eq, Nat.beq_eq, beq_eq_false_iff_ne, beq_iff_eq, ne_eq] <;> omega))) ?_
  have fin : ∀ st m rc bx rw', nrm [2, 3, 4] st = ⟨[(2, .slice m rc), (3, .int .i64 (alA s)), (4, .int .i64 (alE s))], ⟨bx, rw'⟩⟩ → m = (alX s).dat.len → rc = (alX s).dat.cells → fr st := fun st m rc bx rw' hst g1 g2 => hfr st [2, 3, 4] (by
    rw [hst]
    refine ⟨0, .tup [.slice m rc, .int .i64 (alA s), .int .i64 (alE s)], Nat.le_refl _, Nat.zero_le _, rfl, rfl, rfl, rfl, _, rfl, ?_⟩
    show PV.tup [.slice m (nzL rc), .int .i64 (alA s), .int .i64 (alE s)] = _
    rw [g1, g2, Dats.nz])
  obtain ⟨ks, hks⟩ : ∃ ks, ks = alX s := ⟨_, rfl⟩
  obtain ⟨a, ha⟩ : ∃ ks, ks = alA s := ⟨_, rfl⟩
  obtain ⟨e, he⟩ : ∃ ks, ks = alE s := ⟨_, rfl⟩
  rw [← ha, ← he, ← hks] at fin ⊢
  rw [← hks] at hok hlen
  refine Q.runSeq (SRb [] []) 100 33 hnt [5, 6, 7, 8] (z := { t := [(5, PV.slice (Nds.len ks) (Nds.cells ks)), (6, PV.int IntKind.i64 a), (7, PV.int IntKind.i64 e), (8, PV.nil)], h := { bx := [], rw := [] } }) (o := []) (by kernel_rfl) (by ((repeat' (first | exact okO_nil | refine okN ?_ ?_)); all_goals first | assumption | rfl | exact same_of rfl | exact sameS_self _ | (simp only [decide_eq_true_eq, decide_eq_false_iff_not, Nat.ble_eq, Nat.beq_eq, beq_eq_false_iff_ne, beq_iff_eq, ne_eq] <;> omega))) ?_
  refine SWP.adoptS 8 25 4 rfl ?_
  refine SWP.norm [5, 6, 7, 8] ?_
  refine Q.seq fun K hK => ?_
  refine Q.runSeq (SRb [] []) 100 33 hnt [5, 6, 7, 8, 9] (z := ⟨[(5, .slice ks.len ks.cells), (6, .int .i64 a), (7, .int .i64 e), (8, .own 0 0), (9, .int .i64 (0 : Nat))], ⟨[], [some (jR [] 0)]⟩⟩) (o := []) (by kernel_rfl) (by ((repeat' (first | exact okO_nil | refine okN ?_ ?_)); all_goals first | assumption | rfl | exact same_of rfl | exact sameS_self _ | (simp only [decide_eq_true_eq, decide_eq_false_iff_not, Nat.ble_eq, Nat.beq_eq, beq_eq_false_iff_ne, beq_iff_eq, ne_eq] <;> omega))) ?_
  refine Q.block ?_
  let T (j : Nat) : AS := ⟨[(5, .slice ks.len ks.cells), (6, .int .i64 a), (7, .int .i64 e), (8, .own 0 j), (9, .int .i64 j)], ⟨[], [some (jR (ks.take j).dat.cells j)]⟩⟩
  refine Q.loopI (σ := { j : Nat // j ≤ ks.len }) [5, 6, 7, 8, 9] (fun j => T j.1) (fun j => ks.len - j.1) ⟨0, Nat.zero_le _⟩ (by cases ks <;> rfl) fun ⟨j, hj⟩ => ?_
  show SWP G0 C _ _ ⟨[(5, .slice ks.len ks.cells), (6, .int .i64 a), (7, .int .i64 e), (8, .own 0 j), (9, .int .i64 j)], ⟨[], [some (jR (ks.take j).dat.cells j)]⟩⟩
  obtain ⟨rc, hrc⟩ : ∃ rc, rc = (ks.take j).dat.cells := ⟨_, rfl⟩
  refine swp_st (st' := ⟨[(5, .slice ks.len ks.cells), (6, .int .i64 a), (7, .int .i64 e), (8, .own 0 j), (9, .int .i64 j)], ⟨[], [some (jR rc j)]⟩⟩) (by rw [hrc]) ?_
  rcases Nat.lt_or_ge j ks.len with hlt | hge
  · have d1 := lt_at hlt
    have d2 := in_at hlt
    obtain ⟨k', n', t', ks', a', hget⟩ := nd_mk (ks.get j)
    have hoj := Nds.get_ok ks j hlt hok
    rw [hget] at hoj
    have d3 : decide (TD.size d69 ≤ List.length (List.drop (Int.toNat (j : Int) * TD.size d69) (Nds.cells ks))) = true := by
      show decide (5 ≤ List.length (List.drop (Int.toNat (j : Int) * 5) (Nds.cells ks))) = true
      simp only [Int.toNat_natCast, List.length_drop, Nds.cells_len, decide_eq_true_eq]; omega
    have d4 : same (PV.agg (List.take 5 (List.drop (Int.toNat (Int.ofNat j) * 5) (Nds.cells ks)))) (PV.agg [PV.int IntKind.i64 k', PV.int IntKind.i64 n', PV.str t', PV.slice (Nds.len ks') (Nds.cells ks'), PV.int IntKind.i64 a']) = true := same_of (by
      show PV.agg (List.take 5 (List.drop (j * 5) (Nds.cells ks))) = _
      rw [Nds.get_cells ks j hlt, hget]; rfl)
    have d4' : same (PV.agg (List.take 5 (List.drop (Int.toNat (j : Int) * 5) (Nds.cells ks)))) (PV.agg [PV.int IntKind.i64 k', PV.int IntKind.i64 n', PV.str t', PV.slice (Nds.len ks') (Nds.cells ks'), PV.int IntKind.i64 a']) = true := d4
    have d5 : isNdo (Nds.len ks') (Nds.cells ks') = true := isNdo_at hoj.1 hoj.2
    have wj : IntKind.wrap IntKind.i64 (Int.ofNat (j + 1)) = ((j + 1 : Nat) : Int) := wrapI (j + 1) (by omega)
    have hr2 : rc ++ [.int .i64 k', .int .i64 n', .str t', .slice ks'.len (ndD ks'.cells).cells] = (ks.take (j + 1)).dat.cells := by
      rw [Nds.take_dat ks j hlt, hrc, hget, ndD_at]
      simp only [Nd.dat, Dat.cells, Nds.dat_len]
    have e2 : (⟨[(5, .slice ks.len ks.cells), (6, .int .i64 a), (7, .int .i64 e), (8, .own 0 (j + 1)), (9, .int .i64 (IntKind.wrap IntKind.i64 (Int.ofNat (j + 1))))], ⟨[], [some (jR (rc ++ [.int .i64 k', .int .i64 n', .str t', .slice ks'.len (ndD ks'.cells).cells]) (j + 1))]⟩⟩ : AS) = T (j + 1) := by rw [wj, hr2]
    exact SWP.runQ (SRb [(33, [(19, true), (25, true), (26, true), (29, true)])] [(33, [(26, .agg [.int .i64 k', .int .i64 n', .str t', .slice ks'.len ks'.cells, .int .i64 a'])])]) 100 33 hnt [5, 6, 7, 8, 9] (e := .normal) (z := { t := [(5, PV.slice (Nds.len ks) (Nds.cells ks)), (6, PV.int IntKind.i64 a), (7, PV.int IntKind.i64 e), (8, PV.own 0 (j + 1)), (9, PV.int IntKind.i64 (IntKind.wrap IntKind.i64 (Int.ofNat (j + 1))))], h := { bx := [], rw := [some { cs := rc ++ [PV.int IntKind.i64 k', PV.int IntKind.i64 n', PV.str t', PV.slice (Nds.len ks') (Dats.cells (ndD (Nds.cells ks')))], n := j + 1, ty := 25, sz := 4 }] } }) (o := [(decide ((↑j : Int) < (↑(Nds.len ks) : Int)), true), (true, true), (decide (0 ≤ (↑j : Int) ∧ (↑j : Int) < (↑(Nds.len ks) : Int)), true), (decide (TD.size d69 ≤ List.length (List.drop (Int.toNat (↑j : Int) * TD.size d69) (Nds.cells ks))), true), (same (PV.agg (List.take 5 (List.drop (Int.toNat (Int.ofNat j) * 5) (Nds.cells ks)))) (PV.agg [PV.int IntKind.i64 k', PV.int IntKind.i64 n', PV.str t', PV.slice (Nds.len ks') (Nds.cells ks'), PV.int IntKind.i64 a']), true), (true, true), (isNdo (Nds.len ks') (Nds.cells ks'), true), (true, true), (Nat.ble ((j + 1) * 56) 140737488355328, true), (Nat.ble (j + 1) 9223372036854775807, true)]) (by kernel_rfl) (by ((repeat' (first | exact okO_nil | refine okN ?_ ?_)); all_goals first | assumption | rfl | exact same_of rfl | exact sameS_self _ | (simp only [decide_eq_true_eq, decide_eq_false_iff_not, Nat.ble_eq, Nat.beq_eq, beq_eq_false_iff_ne, beq_iff_eq, ne_eq] <;> omega))) (fun st hst => ⟨⟨j + 1, hlt⟩, Nat.sub_lt_sub_left hlt (Nat.lt_succ_self j), hst.trans e2⟩)
  · have d1 := ge_at hge
    have hje : j = ks.len := by omega
    refine SWP.runQ (SRb [(33, [(19, false)])] []) 100 33 hnt [6, 7, 8] (e := .exit 0) (z := { t := [(6, PV.int IntKind.i64 a), (7, PV.int IntKind.i64 e), (8, PV.own 0 j)], h := { bx := [], rw := [some { cs := rc, n := j, ty := 25, sz := 4 }] } }) (o := [(decide ((↑j : Int) < (↑(Nds.len ks) : Int)), false), (false, false)]) (by kernel_rfl) (by ((repeat' (first | exact okO_nil | refine okN ?_ ?_)); all_goals first | assumption | rfl | exact same_of rfl | exact sameS_self _ | (simp only [decide_eq_true_eq, decide_eq_false_iff_not, Nat.ble_eq, Nat.beq_eq, beq_eq_false_iff_ne, beq_iff_eq, ne_eq] <;> omega))) (fun st hst => hK st (.norm [6, 7, 8] ?_))
    rw [hst]
    refine SWP.frz [0] ?_
    refine SWP.runQ (SRb [] []) 100 33 hnt [2, 3, 4] (e := .ret) (z := ⟨[(2, .slice j rc), (3, .int .i64 a), (4, .int .i64 e)], ⟨[], [none]⟩⟩) (o := []) (by kernel_rfl) (by ((repeat' (first | exact okO_nil | refine okN ?_ ?_)); all_goals first | assumption | rfl | exact same_of rfl | exact sameS_self _ | (simp only [decide_eq_true_eq, decide_eq_false_iff_not, Nat.ble_eq, Nat.beq_eq, beq_eq_false_iff_ne, beq_iff_eq, ne_eq] <;> omega))) (fun st hst => fin st j rc _ _ hst (by rw [hje, Nds.dat_len]) (by rw [hrc, hje, Nds.take_all]))
theorem lists_same (ks : Dats) (hok : ks.ok) (hl : ks.len ≤ 9223372036854775807) : Pure G0 32 [.slice ks.len ks.cells, .slice ks.len ks.cells] (fun r => r = .bool true) := by
  refine Fn.enterB Tryd.func32 Tryd.ntmps32 rfl (Nat.le_of_ble_eq_true rfl) fun C fr fp hnt hnb hp hfr hfp => ?_
  have d0 : (!(ks.len : Int) == (ks.len : Int)) = false := by rw [beq_self_eq_true]; rfl
  refine Q.runSeq (SRb [] []) 100 27 hnt [0, 1] (z := { t := [(0, PV.slice (Dats.len ks) (Dats.cells ks)), (1, PV.slice (Dats.len ks) (Dats.cells ks))], h := { bx := [], rw := [] } }) (o := []) (by kernel_rfl) (by ((repeat' (first | exact okO_nil | refine okN ?_ ?_)); all_goals first | assumption | rfl | exact same_of rfl | exact sameS_self _ | (simp only [decide_eq_true_eq, decide_eq_false_iff_not, Nat.ble_eq, Nat.beq_eq, beq_eq_false_iff_ne, beq_iff_eq, ne_eq] <;> omega))) ?_
  refine Q.runSeq (SRb [(27, [(10, false)])] []) 100 27 hnt [0, 1] (z := { t := [(0, PV.slice (Dats.len ks) (Dats.cells ks)), (1, PV.slice (Dats.len ks) (Dats.cells ks))], h := { bx := [], rw := [] } }) (o := [(!Int.ofNat (Dats.len ks) == Int.ofNat (Dats.len ks), false), (false, false)]) (by kernel_rfl) (by ((repeat' (first | exact okO_nil | refine okN ?_ ?_)); all_goals first | assumption | rfl | exact same_of rfl | exact sameS_self _ | (simp only [decide_eq_true_eq, decide_eq_false_iff_not, Nat.ble_eq, Nat.beq_eq, beq_eq_false_iff_ne, beq_iff_eq, ne_eq] <;> omega))) ?_
  refine Q.seq fun K hK => ?_
  refine Q.runSeq (SRb [] []) 100 27 hnt [0, 1, 5] (z := ⟨[(0, .slice ks.len ks.cells), (1, .slice ks.len ks.cells), (5, .int .i64 (0 : Nat))], ⟨[], []⟩⟩) (o := []) (by kernel_rfl) (by ((repeat' (first | exact okO_nil | refine okN ?_ ?_)); all_goals first | assumption | rfl | exact same_of rfl | exact sameS_self _ | (simp only [decide_eq_true_eq, decide_eq_false_iff_not, Nat.ble_eq, Nat.beq_eq, beq_eq_false_iff_ne, beq_iff_eq, ne_eq] <;> omega))) ?_
  refine Q.block ?_
  let T (j : Nat) : AS := ⟨[(0, .slice ks.len ks.cells), (1, .slice ks.len ks.cells), (5, .int .i64 j)], ⟨[], []⟩⟩
  refine Q.loopI (σ := { j : Nat // j ≤ ks.len }) [0, 1, 5] (fun j => T j.1) (fun j => ks.len - j.1) ⟨0, Nat.zero_le _⟩ rfl fun ⟨j, hj⟩ => ?_
  show SWP G0 C _ _ ⟨[(0, .slice ks.len ks.cells), (1, .slice ks.len ks.cells), (5, .int .i64 j)], ⟨[], []⟩⟩
  refine Q.seq fun K2 hK2 => ?_
  rcases Nat.lt_or_ge j ks.len with hlt | hge
  · have d1 := lt_at hlt
    have d2 := in_at hlt
    refine SWP.runQ (SRb [(27, [(14, true)])] []) 100 27 hnt [0, 1, 5] (e := .normal) (z := { t := [(0, PV.slice (Dats.len ks) (Dats.cells ks)), (1, PV.slice (Dats.len ks) (Dats.cells ks)), (5, PV.int IntKind.i64 (Int.ofNat j))], h := { bx := [], rw := [] } }) (o := [(decide ((↑j : Int) < (↑(Dats.len ks) : Int)), true), (true, true)]) (by kernel_rfl) (by ((repeat' (first | exact okO_nil | refine okN ?_ ?_)); all_goals first | assumption | rfl | exact same_of rfl | exact sameS_self _ | (simp only [decide_eq_true_eq, decide_eq_false_iff_not, Nat.ble_eq, Nat.beq_eq, beq_eq_false_iff_ne, beq_iff_eq, ne_eq] <;> omega))) (fun st hst => hK2 st (.norm [0, 1, 5] ?_))
    rw [hst]
    rcases hget : ks.get j with ⟨k', n', s', ks'⟩
    have hoj := Dats.get_ok ks j hlt hok
    rw [hget] at hoj
    have d4 : decide (TD.size d25 ≤ List.length (List.drop (Int.toNat (j : Int) * TD.size d25) (Dats.cells ks))) = true := kid_len hlt
    have d5 := kid_same' hlt hget
    have d6 : isOk [PV.int IntKind.i64 k', PV.int IntKind.i64 n', PV.str s', PV.slice (Dats.len ks') (Dats.cells ks')] = true := isOk_at (d := .mk k' n' s' ks') hoj
    have d7 : same (PV.bool (eqC [PV.int IntKind.i64 k', PV.int IntKind.i64 n', PV.str s', PV.slice (Dats.len ks') (Dats.cells ks')] [PV.int IntKind.i64 k', PV.int IntKind.i64 n', PV.str s', PV.slice (Dats.len ks') (Dats.cells ks')])) (PV.bool true) = true := sameB ((eqC_at (.mk k' n' s' ks') (.mk k' n' s' ks')).trans (eqD_self _))
    refine Q.seq fun K3 hK3 => ?_
    refine Q.block ?_
    refine Q.seq fun K4 hK4 => ?_
    refine SWP.runLQ (SRb [(27, [(19, true), (20, true), (23, true), (24, true)])] [(27, [(20, .agg [.int .i64 k', .int .i64 n', .str s', .slice ks'.len ks'.cells]), (24, .agg [.int .i64 k', .int .i64 n', .str s', .slice ks'.len ks'.cells]), (25, .bool true)])]) 100 27 hnt [0, 1, 5, 26] (l := List.replicate 1 { t := [(0, PV.slice (Dats.len ks) (Dats.cells ks)), (1, PV.slice (Dats.len ks) (Dats.cells ks)), (5, PV.int IntKind.i64 (Int.ofNat j)), (26, PV.bool false)], h := { bx := [], rw := [] } }) (o := [(decide (0 ≤ (↑j : Int) ∧ (↑j : Int) < (↑(Dats.len ks) : Int)), true), (decide (TD.size d25 ≤ List.length (List.drop (Int.toNat (↑j : Int) * TD.size d25) (Dats.cells ks))), true), (same (PV.agg (List.take 4 (List.drop (Int.toNat (Int.ofNat j) * 4) (Dats.cells ks)))) (PV.agg [PV.int IntKind.i64 k', PV.int IntKind.i64 n', PV.str s', PV.slice (Dats.len ks') (Dats.cells ks')]), true), (decide (0 ≤ (↑j : Int) ∧ (↑j : Int) < (↑(Dats.len ks) : Int)), true), (decide (TD.size d25 ≤ List.length (List.drop (Int.toNat (↑j : Int) * TD.size d25) (Dats.cells ks))), true), (same (PV.agg (List.take 4 (List.drop (Int.toNat (Int.ofNat j) * 4) (Dats.cells ks)))) (PV.agg [PV.int IntKind.i64 k', PV.int IntKind.i64 n', PV.str s', PV.slice (Dats.len ks') (Dats.cells ks')]), true), (true, true), (isOk [PV.int IntKind.i64 k', PV.int IntKind.i64 n', PV.str s', PV.slice (Dats.len ks') (Dats.cells ks')], true), (isOk [PV.int IntKind.i64 k', PV.int IntKind.i64 n', PV.str s', PV.slice (Dats.len ks') (Dats.cells ks')], true), (same (PV.bool (eqC [PV.int IntKind.i64 k', PV.int IntKind.i64 n', PV.str s', PV.slice (Dats.len ks') (Dats.cells ks')] [PV.int IntKind.i64 k', PV.int IntKind.i64 n', PV.str s', PV.slice (Dats.len ks') (Dats.cells ks')])) (PV.bool true), true)]) (by kernel_rfl) (by ((repeat' (first | exact okO_nil | refine okN ?_ ?_)); all_goals first | assumption | rfl | exact same_of rfl | exact sameS_self _ | (simp only [decide_eq_true_eq, decide_eq_false_iff_not, Nat.ble_eq, Nat.beq_eq, beq_eq_false_iff_ne, beq_iff_eq, ne_eq] <;> omega))) (fun st hst => hK4 st (.norm [0, 1, 5, 26] ?_))
    rw [List.eq_of_mem_replicate hst]
    refine Q.cond (b := false) rfl (fun h => by cases h) (fun _ => ?_)
    refine .skip (hK3 _ (.norm [0, 1, 5] ?_))
    have wj : IntKind.wrap IntKind.i64 (Int.ofNat (j + 1)) = ((j + 1 : Nat) : Int) := wrapI (j + 1) (by omega)
    exact SWP.runQ (SRb [] []) 100 27 hnt [0, 1, 5] (e := .normal) (z := { t := [(0, PV.slice (Dats.len ks) (Dats.cells ks)), (1, PV.slice (Dats.len ks) (Dats.cells ks)), (5, PV.int IntKind.i64 (IntKind.wrap IntKind.i64 (Int.ofNat (j + 1))))], h := { bx := [], rw := [] } }) (o := []) (by kernel_rfl) (by ((repeat' (first | exact okO_nil | refine okN ?_ ?_)); all_goals first | assumption | rfl | exact same_of rfl | exact sameS_self _ | (simp only [decide_eq_true_eq, decide_eq_false_iff_not, Nat.ble_eq, Nat.beq_eq, beq_eq_false_iff_ne, beq_iff_eq, ne_eq] <;> omega))) (fun st hst => ⟨⟨j + 1, hlt⟩, Nat.sub_lt_sub_left hlt (Nat.lt_succ_self j), by rw [hst, wj]⟩)
  · have d1 := ge_at hge
    refine SWP.runQ (SRb [(27, [(14, false)])] []) 100 27 hnt [0] (e := .exit 0) (z := { t := [(0, PV.slice (Dats.len ks) (Dats.cells ks))], h := { bx := [], rw := [] } }) (o := [(decide ((↑j : Int) < (↑(Dats.len ks) : Int)), false), (false, false)]) (by kernel_rfl) (by ((repeat' (first | exact okO_nil | refine okN ?_ ?_)); all_goals first | assumption | rfl | exact same_of rfl | exact sameS_self _ | (simp only [decide_eq_true_eq, decide_eq_false_iff_not, Nat.ble_eq, Nat.beq_eq, beq_eq_false_iff_ne, beq_iff_eq, ne_eq] <;> omega))) (fun st hst => hK st (.norm [] ?_))
    have e : nrm [] st = ⟨[], ⟨[], []⟩⟩ := by
      have : st.h = ⟨[], []⟩ := congrArg AS.h hst
      unfold nrm; rw [this]; rfl
    rw [e]
    exact SWP.runQ (SRb [] []) 100 27 hnt [4] (e := .ret) (z := { t := [(4, PV.bool true)], h := { bx := [], rw := [] } }) (o := []) (by kernel_rfl) (by ((repeat' (first | exact okO_nil | refine okN ?_ ?_)); all_goals first | assumption | rfl | exact same_of rfl | exact sameS_self _ | (simp only [decide_eq_true_eq, decide_eq_false_iff_not, Nat.ble_eq, Nat.beq_eq, beq_eq_false_iff_ne, beq_iff_eq, ne_eq] <;> omega))) (fun st hst => hfr st [4] (by
      rw [hst]
      exact ⟨0, .bool true, Nat.le_refl _, Nat.zero_le _, rfl, rfl, rfl, rfl, _, rfl, rfl⟩))
end Seat
end Go.Proofs.YtenpjkcclmmlhaaDoor
/- Reading back what was written (plain Lean). -/
namespace Go.Proofs.YtenpjkcclmmlhaaDoor
open Go.AS
set_option linter.unusedVariables false
set_option linter.unusedSimpArgs false
set_option maxRecDepth 10000
namespace Seat
theorem num_C (w : ByteArray) (x : Int) (hb : -9223372036854775808 ≤ x ∧ x ≤ 9223372036854775807) (hl : Go.Lib.itoa x = w.data.toList) : numV w = (x, true) := by
  unfold Go.Lib.itoa at hl
  unfold numV
  split at hl
  · rename_i hneg
    have hl' := hl.symm
    rw [numB_cons hl', if_pos (by decide)]
    obtain ⟨c, r, h1, h2, _⟩ := dec_head x.natAbs
    obtain ⟨d1, d2⟩ := dec_ok x.natAbs
    rw [h1] at d1 d2
    have ht : (w.extract 1 w.size).data.toList = c :: r := by rw [Go.Lib.extract_to_end, hl', h1]; rfl
    rw [numT_of _ true c r ht d1 (.inl (h2 (by omega))) (by omega), if_pos rfl, d2]
    have hw : IntKind.wrap IntKind.i64 (-(x.natAbs : Int)) = x := by rw [IntKind.wrap_i64]; omega
    rw [hw]
  · rename_i hneg
    have hl' := hl.symm
    obtain ⟨c, r, h1, h2, h3⟩ := dec_head x.toNat
    obtain ⟨d1, d2⟩ := dec_ok x.toNat
    rw [h1] at d1 d2 hl'
    have hdg := allDig_head d1
    rw [numB_cons hl', if_neg (by simp; omega)]
    rw [numT_of w false c r hl' d1 (by
      by_cases h0 : x.toNat = 0
      · exact .inr ⟨h3 h0, rfl⟩
      · exact .inl (h2 (by omega))) (by omega), if_neg (by decide), d2]
    have hw : IntKind.wrap IntKind.i64 ((x.toNat : Nat) : Int) = x := by rw [IntKind.wrap_i64]; omega
    rw [hw, decide_eq_true (by omega)]
theorem dig_let {c : UInt8} (h : 48 ≤ c.toNat ∧ c.toNat ≤ 57) : lle c = true := by
  unfold lle letC digC
  simp only [Bool.or_eq_true, decide_eq_true_eq]
  exact .inl (.inr (by omega))
theorem let_clean {c : UInt8} (h : lle c = true) : lbl c = false ∧ c.toNat ≠ 59 := by
  have key : ∀ k : Nat, letC (k : Int) = true → blank (k : Int) = false ∧ k ≠ 59 := by
    intro k hk
    have hb : blank (k : Int) = true → letC (k : Int) = false := by
      intro hb
      unfold blank at hb
      simp only [Bool.or_eq_true, beq_iff_eq] at hb
      rcases hb with ((hb | hb) | hb) | hb <;> rw [hb] <;> decide
    refine ⟨?_, fun h9 => ?_⟩
    · cases hq : blank (k : Int) with
      | false => rfl
      | true => rw [hb hq] at hk; cases hk
    · rw [h9] at hk; exact absurd hk (by decide)
  exact key c.toNat h
theorem takeW_app {α : Type} (p : α → Bool) : ∀ (w r : List α), (∀ x ∈ w, p x = true) → (∀ x ∈ r.head?, p x = false) → (w ++ r).takeWhile p = w ∧ (w ++ r).dropWhile p = r
  | [], [], _, _ => ⟨rfl, rfl⟩
  | [], y :: r, _, h => by
    have := h y rfl
    simp [List.takeWhile_cons, List.dropWhile_cons, this]
  | x :: w, r, hw, h => by
    have hx := hw x (List.mem_cons_self ..)
    obtain ⟨h1, h2⟩ := takeW_app p w r (fun y hy => hw y (List.mem_cons_of_mem _ hy)) h
    exact ⟨by rw [List.cons_append, List.takeWhile_cons, if_pos hx, h1], by rw [List.cons_append, List.dropWhile_cons, if_pos hx, h2]⟩
theorem tok_atom (w r : List UInt8) (h0 : w ≠ []) (hw : ∀ x ∈ w, lle x = true) (hr : ∀ x ∈ r.head?, lle x = false) : tok (w ++ r) = w :: tok r := by
  cases w with
  | nil => exact absurd rfl h0
  | cons c w =>
    have hc := hw c (List.mem_cons_self ..)
    obtain ⟨g1, g2⟩ := let_clean hc
    obtain ⟨h1, h2⟩ := takeW_app lle w r (fun y hy => hw y (List.mem_cons_of_mem _ hy)) hr
    rw [List.cons_append, tok_cons, if_neg (by rw [g1]; decide), if_neg g2, if_pos hc, h1, h2]
theorem tok_sign (c : UInt8) (r : List UInt8) (h1 : lbl c = false) (h2 : c.toNat ≠ 59) (h3 : lle c = false) : tok (c :: r) = [c] :: tok r := by
  rw [tok_cons, if_neg (by rw [h1]; decide), if_neg h2, if_neg (by rw [h3]; decide)]
theorem tok_open (r : List UInt8) : tok (40 :: r) = [40] :: tok r := tok_sign 40 r (by decide) (by decide) (by decide)
theorem tok_close (r : List UInt8) : tok (41 :: r) = [41] :: tok r := tok_sign 41 r (by decide) (by decide) (by decide)
theorem tok_blank (r : List UInt8) : tok (32 :: r) = tok r := by rw [tok_cons, if_pos (by decide)]
mutual
/-- A datum's parts. -/
def dtok : Dat → List Tok
  | .mk k n s ks => if k = 1 then [Go.Lib.itoa n] else if k = 2 then [s.data.toList] else [40] :: (dtokL ks ++ [[41]])
def dtokL : Dats → List Tok
  | .nil => []
  | .cons d ds => dtok d ++ dtokL ds
end
theorem itoa_let (n : Int) : Go.Lib.itoa n ≠ [] ∧ ∀ x ∈ Go.Lib.itoa n, lle x = true := by
  have dig : ∀ u : Nat, Go.Lib.decDigits u ≠ [] ∧ ∀ x ∈ Go.Lib.decDigits u, lle x = true := by
    intro u
    obtain ⟨c, r, h1, _⟩ := dec_head u
    obtain ⟨d1, _⟩ := dec_ok u
    refine ⟨by rw [h1]; simp, fun x hx => ?_⟩
    unfold allDig at d1
    rw [List.all_eq_true] at d1
    exact dig_let (of_decide_eq_true (d1 x hx))
  unfold Go.Lib.itoa
  split
  · refine ⟨by simp, fun x hx => ?_⟩
    rcases List.mem_cons.1 hx with rfl | hx
    · decide
    · exact (dig _).2 x hx
  · exact dig _
theorem sym_let {s : ByteArray} (h : symOk s = true) : s.data.toList ≠ [] ∧ (∀ x ∈ s.data.toList, lle x = true) ∧ (numV s).2 = false := by
  unfold symOk at h
  rw [Bool.and_eq_true] at h
  obtain ⟨hb, ha⟩ := h
  have hlen : s.data.toList.length = s.size := Array.length_toList
  simp only [symBad, Bool.not_eq_true', Bool.or_eq_false_iff, decide_eq_false_iff_not] at hb
  have hpos : s.size ≠ 0 := by omega
  refine ⟨fun h => by rw [h] at hlen; exact hpos hlen.symm, fun x hx => ?_, ?_⟩
  · obtain ⟨i, hi, rfl⟩ := List.getElem_of_mem hx
    rw [List.all_eq_true] at ha
    have := ha i (by rw [List.mem_range]; omega)
    obtain ⟨c, h1, h2⟩ := bt_drop0 s i (by omega)
    rw [h2] at this
    rw [List.drop_eq_getElem_cons hi] at h1
    rw [(List.cons.inj h1).1]
    exact this
  · cases hv : (numV s).2 with
    | false => rfl
    | true =>
      exfalso
      have hv' : numV s = ((numV s).1, true) := by rw [← hv]
      unfold numV at hv'
      split at hv'
      · rename_i hB
        obtain ⟨r, hl, ht⟩ := numB_none hB
        obtain ⟨c, q, h1, h2, _⟩ := numT_true _ _ _ hv'
        rw [ht] at h1
        have hdg := allDig_head h2
        have hb0 : bt s 0 = 45 := bt_head hl
        have hsz := size_cons hl
        have hb1 : bt s 1 = (c.toNat : Int) := by
          obtain ⟨e, g1, g2⟩ := bt_drop0 s 1 (by rw [hsz, h1]; simp)
          rw [hl, h1] at g1
          have : c = e := by simpa using (List.cons.inj g1).1
          rw [this]; exact g2
        have hq : 1 < s.size := by rw [hsz, h1]; simp
        revert hb
        simp only [digC, hb0, hb1]
        simp
        omega
      · rename_i hB
        obtain ⟨c, q, h1, h2, _⟩ := numT_true _ _ _ hv'
        have hdg := allDig_head h2
        have hb0 : bt s 0 = (c.toNat : Int) := bt_head h1
        revert hb
        simp only [digC, hb0]
        simp
        omega
theorem len_nil : ∀ {ks : Dats}, ks.len = 0 → ks = .nil
  | .nil, _ => rfl
  | .cons d ds, h => by simp [Dats.len] at h
mutual
theorem tok_text : ∀ (d : Dat) (r : List UInt8), formedD d = true → (∀ x ∈ r.head?, lle x = false) → tok (textD d ++ r) = dtok d ++ tok r
  | .mk k n s ks, r, hf, hr => by
    simp only [formedD, Bool.or_eq_true, Bool.and_eq_true, decide_eq_true_eq] at hf
    rw [textD, dtok]
    by_cases h1 : k = 1
    · rw [if_pos h1, if_pos h1]
      obtain ⟨g1, g2⟩ := itoa_let n
      exact tok_atom _ r g1 g2 hr
    · rw [if_neg h1, if_neg h1]
      by_cases h2 : k = 2
      · rw [if_pos h2, if_pos h2]
        have hs : symOk s = true := by
          rcases hf with (h | h) | h
          · exact absurd h.1.1 h1
          · exact h.1.2
          · omega
        obtain ⟨g1, g2, _⟩ := sym_let hs
        exact tok_atom _ r g1 g2 hr
      · rw [if_neg h2, if_neg h2]
        have hk : formedL ks = true := by
          rcases hf with (h | h) | h
          · exact absurd h.1.1 h1
          · omega
          · exact h.2
        rw [List.cons_append, tok_open, List.append_assoc, List.cons_append, List.nil_append, tok_textL ks true r hk]
        simp
theorem tok_textL : ∀ (ks : Dats) (f : Bool) (r : List UInt8), formedL ks = true → tok (textL f ks ++ 41 :: r) = dtokL ks ++ [41] :: tok r
  | .nil, f, r, _ => by simp only [textL, dtokL, List.nil_append]; exact tok_close r
  | .cons d ds, f, r, hf => by
    simp only [formedL, Bool.and_eq_true] at hf
    have hhead : ∀ x ∈ (textL false ds ++ 41 :: r).head?, lle x = false := by
      intro x hx
      cases ds with
      | nil => simp only [textL, List.nil_append, List.head?_cons, Option.mem_def, Option.some.injEq] at hx; subst hx; decide
      | cons e es => simp only [textL, Bool.false_eq_true, if_false, List.cons_append, List.head?_cons, Option.mem_def, Option.some.injEq] at hx; subst hx; decide
    have key := tok_text d (textL false ds ++ 41 :: r) hf.1 hhead
    rw [tok_textL ds false r hf.2] at key
    simp only [textL, dtokL]
    cases f with
    | true => simp only [if_true, List.nil_append, List.append_assoc]; exact key
    | false =>
      simp only [Bool.false_eq_true, if_false, List.append_assoc, List.cons_append, List.nil_append]
      rw [tok_blank]; exact key
end
theorem hd_let {w : Tok} (h0 : w ≠ []) (hw : ∀ x ∈ w, lle x = true) : letC (hd0 w) = true := by
  cases w with
  | nil => exact absurd rfl h0
  | cons c w => exact hw c (List.mem_cons_self ..)
theorem mkB_of (s : ByteArray) : mkB s.data.toList = s := mkB_list s
theorem snoc_app : ∀ (l : Dats) (d : Dat) (ks : Dats), ∃ m, m = Dats.snoc l d := fun l d ks => ⟨_, rfl⟩
def appD : Dats → Dats → Dats
  | .nil, b => b
  | .cons d ds, b => .cons d (appD ds b)
theorem appD_nil : ∀ a : Dats, appD a .nil = a
  | .nil => rfl
  | .cons d ds => by simp only [appD, appD_nil ds]
theorem appD_snoc : ∀ (l : Dats) (d : Dat) (ks : Dats), appD (Dats.snoc l d) ks = appD l (.cons d ks)
  | .nil, d, ks => rfl
  | .cons e l, d, ks => by simp only [Dats.snoc, appD, appD_snoc l d ks]
mutual
theorem pr_dtok : ∀ (d : Dat) (n : Nat) (r : List Tok), formedD d = true → d.rng → deepN d ≤ n → prD n (dtok d ++ r) = some (d, r)
  | .mk k m s ks, n, r, hf, hr, hd => by
    simp only [formedD, Bool.or_eq_true, Bool.and_eq_true, decide_eq_true_eq] at hf
    obtain ⟨n, rfl⟩ : ∃ j, n = j + 1 := ⟨n - 1, by simp only [deepN] at hd; omega⟩
    rw [dtok]
    by_cases h1 : k = 1
    · rw [if_pos h1]
      obtain ⟨g1, g2⟩ := itoa_let m
      have hn := num_C (mkB (Go.Lib.itoa m)) m hr.1 (by unfold mkB; simp)
      show prD (n + 1) (Go.Lib.itoa m :: r) = _
      rw [prD, if_pos (hd_let g1 g2), hn, if_pos rfl]
      rcases hf with (h | h) | h
      · have e1 : s = ⟨#[]⟩ := by
          have := h.1.2
          cases s with
          | mk a => congr; exact Array.eq_empty_of_size_eq_zero this
        rw [h1, e1, len_nil h.2]
      · omega
      · omega
    · rw [if_neg h1]
      by_cases h2 : k = 2
      · rw [if_pos h2]
        rcases hf with (h | h) | h
        · exact absurd h.1.1 h1
        · obtain ⟨g1, g2, g3⟩ := sym_let h.1.2
          show prD (n + 1) (s.data.toList :: r) = _
          rw [prD, if_pos (hd_let g1 g2), mkB_list, if_neg (by rw [g3]; decide), if_pos h.1.2, h2, h.1.1.2, len_nil h.2]
        · omega
      · rw [if_neg h2]
        rcases hf with (h | h) | h
        · exact absurd h.1.1 h1
        · omega
        · show prD (n + 1) ([40] :: ((dtokL ks ++ [[41]]) ++ r)) = _
          rw [prD, if_neg (by decide), if_neg (by decide), if_pos (by decide), List.append_assoc]
          have key := pr_dtokL ks n ((dtokL ks ++ ([[41]] ++ r)).length + 1) .nil r h.2 hr.2 (by simp only [deepN] at hd; omega) (by simp)
          rw [show [[41]] ++ r = [41] :: r from rfl] at key ⊢
          rw [key]
          have e1 : s = ⟨#[]⟩ := by
            have := h.1.2
            cases s with
            | mk a => congr; exact Array.eq_empty_of_size_eq_zero this
          rw [h.1.1.1, h.1.1.2, e1]
          rfl
theorem pr_dtokL : ∀ (ks : Dats) (n k : Nat) (l : Dats) (r : List Tok), formedL ks = true → ks.rng → deepNL ks ≤ n → (dtokL ks ++ [41] :: r).length ≤ k → prL (prD n) k (dtokL ks ++ [41] :: r) l = some (appD l ks, r)
  | .nil, n, k, l, r, _, _, _, hk => by
    obtain ⟨k, rfl⟩ : ∃ j, k = j + 1 := ⟨k - 1, by simp at hk; omega⟩
    simp only [dtokL, List.nil_append]
    rw [prL, if_pos (by decide), appD_nil]
  | .cons d ds, n, k, l, r, hf, hr, hd, hk => by
    simp only [formedL, Bool.and_eq_true] at hf
    simp only [deepNL] at hd
    have key := pr_dtok d n (dtokL ds ++ [41] :: r) hf.1 hr.1 (by omega)
    have hne : ∃ t q, dtok d ++ (dtokL ds ++ [41] :: r) = t :: q ∧ hd0 t ≠ 41 := by
      obtain ⟨k', m, s, ks⟩ := d
      rw [dtok]
      have hf1 := hf.1
      simp only [formedD, Bool.or_eq_true, Bool.and_eq_true, decide_eq_true_eq] at hf1
      by_cases h1 : k' = 1
      · rw [if_pos h1]
        obtain ⟨g1, g2⟩ := itoa_let m
        refine ⟨_, _, rfl, fun h => ?_⟩
        have := hd_let g1 g2
        rw [h] at this; exact absurd this (by decide)
      · rw [if_neg h1]
        by_cases h2 : k' = 2
        · rw [if_pos h2]
          rcases hf1 with (h | h) | h
          · exact absurd h.1.1 h1
          · obtain ⟨g1, g2, _⟩ := sym_let h.1.2
            refine ⟨_, _, rfl, fun h => ?_⟩
            have := hd_let g1 g2
            rw [h] at this; exact absurd this (by decide)
          · omega
        · rw [if_neg h2]
          exact ⟨_, _, rfl, by decide⟩
    obtain ⟨t, q, ht, h41⟩ := hne
    simp only [dtokL, List.append_assoc] at hk ⊢
    rw [ht] at key ⊢
    have hlen : (t :: q).length = (dtok d).length + (dtokL ds ++ [41] :: r).length := by rw [← ht, List.length_append]
    rw [ht] at hk
    have heat := prD_eats n _ _ _ key
    obtain ⟨k, rfl⟩ : ∃ j, k = j + 1 := ⟨k - 1, by simp at hk; omega⟩
    rw [prL, if_neg h41, key]
    simp only []
    rw [pr_dtokL ds n k (Dats.snoc l d) r hf.2 hr.2 (by omega) (by omega), appD_snoc]
end
theorem toks_end {s : ByteArray} {a : Nat} (h : toks s a = []) : ¬ skp s a < s.size := by
  intro hl
  have h5 := toks_skp s _ a (Nat.le_refl _)
  rw [← h5.1] at h
  cases hc : letC (bt s (skp s a : Int)) with
  | true => rw [toks_at_let hl (clean_skp s a) hc] at h; cases h
  | false =>
    obtain ⟨c, _, h2⟩ := toks_at hl (clean_skp s a) hc
    rw [h2] at h; cases h
/-- A string whose parts are a datum's. -/
theorem one_toks (s : ByteArray) (d : Dat) (hs : s.size ≤ 20000) (h : prD 1000 (toks s 0) = some (d, [])) : onE s = 0 ∧ (onX s).dat = d ∧ onA s = 0 := by
  have h5 := toks_skp s _ 0 (Nat.le_refl _)
  rw [← h5.1, prD_rd s 1000 (skp s 0) (skp_le s 0 (Nat.zero_le _)) (clean_skp s 0)] at h
  split at h
  · rename_i he
    obtain ⟨h1, h2⟩ := Prod.mk.inj (Option.some.inj h)
    have hend := toks_end h2
    have e : oneR s = (rdX s 1000 (skp s 0), 0, 0) := by
      rw [oneR_eq, if_neg (by omega), if_pos (show rdE s 1000 (skp s 0) = 0 from he), if_neg (show ¬ skp s (rdA s 1000 (skp s 0)) < s.size from hend)]
    unfold onE onX onA
    rw [e]
    exact ⟨rfl, h1, rfl⟩
  · cases h
/-- Read of the written form is the datum. -/
theorem one_text (d : Dat) (hf : formedD d = true) (hr : d.rng) (hd : deepN d ≤ 1000) (hl : (textD d).length ≤ 20000) : onE (mkS (textD d)) = 0 ∧ (onX (mkS (textD d))).dat = d ∧ onA (mkS (textD d)) = 0 := by
  refine one_toks _ d (by rw [mkS_size]; exact hl) ?_
  unfold toks
  rw [List.drop_zero, toList_mk]
  have h1 := tok_text d [] hf (fun x hx => by simp at hx)
  rw [List.append_nil] at h1
  rw [h1, pr_dtok d 1000 (tok []) hf hr hd]
  rfl
end Seat
end Go.Proofs.YtenpjkcclmmlhaaDoor
/- All data of a string, by its parts; two strings with a line's end between them (plain Lean). -/
namespace Go.Proofs.YtenpjkcclmmlhaaDoor
open Go.AS
set_option linter.unusedVariables false
set_option linter.unusedSimpArgs false
set_option maxRecDepth 10000
namespace Seat
/-- All data of parts. -/
def prA : Nat → List Tok → Dats → Option Dats
  | 0, _, _ => none
  | _ + 1, [], l => some l
  | k + 1, t :: r, l => match prD 1000 (t :: r) with
    | some (d, r') => prA k r' (Dats.snoc l d)
    | none => none
theorem toks_more {s : ByteArray} {x : Nat} (h : x < s.size) (hc : Clean s x) : ∃ t r, toks s x = t :: r := by
  cases hl : letC (bt s (x : Int)) with
  | true => exact ⟨_, _, toks_at_let h hc hl⟩
  | false =>
    obtain ⟨c, _, h2⟩ := toks_at h hc hl
    exact ⟨_, _, h2⟩
theorem prA_rd (s : ByteArray) : ∀ k k' x l, x ≤ s.size → Clean s x → s.size + 1 - x ≤ k → (toks s x).length + 1 ≤ k' →
    prA k' (toks s x) l.dat = if (rdZ s k x l).2.e = 0 then some (rdZ s k x l).1.dat else none := by
  intro k
  induction k with
  | zero => intro k' x l hx hc hk _; omega
  | succ k ihk =>
    intro k' x l hx hc hk hk'
    obtain ⟨k', rfl⟩ : ∃ j, k' = j + 1 := ⟨k' - 1, by omega⟩
    rcases Nat.lt_or_ge x s.size with hlt | hge
    · have hix := prD_rd s 1000 x hx hc
      have hsx := rdD_steps s 1000 x hx
      obtain ⟨t, r, ht⟩ := toks_more hlt hc
      have hz : rdZ s (k + 1) x l = if (rdD s 1000 x).2.e = 0 then rdZ s k (skp s (rdD s 1000 x).2.a) (l.snoc (rdD s 1000 x).1) else (l, (rdD s 1000 x).2) := by rw [rdZ, if_pos hlt]
      rw [hz]
      by_cases he : (rdD s 1000 x).2.e = 0
      · rw [if_pos he] at hix ⊢
        have h5 := toks_skp s _ (rdD s 1000 x).2.a (Nat.le_refl _)
        have h6 := prD_eats 1000 _ _ _ hix
        have h7 := skp_ge s (rdD s 1000 x).2.a
        have h3 := hsx.2 he
        have h4 := hsx.1.ok he
        rw [ht] at hix ⊢
        rw [prA, hix]
        simp only []
        rw [← Nds.dat_snoc, ← h5.1]
        exact ihk k' _ (l.snoc (rdD s 1000 x).1) (skp_le s _ h4.1) (clean_skp s _) (by omega) (by rw [h5.1]; omega)
      · rw [if_neg he] at hix ⊢
        rw [if_neg (show ¬ (l, (rdD s 1000 x).2).2.e = 0 from he)]
        rw [ht] at hix ⊢
        rw [prA, hix]
    · have hz : rdZ s (k + 1) x l = (l, ⟨x, 0, 0⟩) := by rw [rdZ, if_neg (by omega)]
      rw [hz, toks_out s x hge]; rfl
/-- All data of a string. -/
theorem al_toks (s : ByteArray) (hs : s.size ≤ 20000) : prA ((toks s 0).length + 1) (toks s 0) .nil = if alE s = 0 then some (alX s).dat else none := by
  have h5 := toks_skp s _ 0 (Nat.le_refl _)
  have key := prA_rd s (s.size + 1) ((toks s (skp s 0)).length + 1) (skp s 0) .nil (skp_le s 0 (Nat.zero_le _)) (clean_skp s 0) (by omega) (Nat.le_refl _)
  rw [h5.1] at key
  rw [show (Nds.nil).dat = Dats.nil from rfl] at key
  rw [key]
  have e : alR s = azR s := by rw [alR_eq, if_neg (by omega)]
  unfold alE alX
  rw [e]
  by_cases h : (rdZ s (s.size + 1) (skp s 0) .nil).2.e = 0
  · have z : azR s = ((rdZ s (s.size + 1) (skp s 0) .nil).1, 0, 0) := by rw [azR_eq, if_pos h]
    rw [z, if_pos h]
    exact (if_pos rfl).symm
  · have z : azR s = (.nil, (rdZ s (s.size + 1) (skp s 0) .nil).2.b, (rdZ s (s.size + 1) (skp s 0) .nil).2.e) := by rw [azR_eq, if_neg h]
    rw [z, if_neg h]
    exact (if_neg h).symm
theorem prA_more : ∀ (k m : Nat) (ts : List Tok) (l D : Dats), prA k ts l = some D → k ≤ m → prA m ts l = some D
  | 0, m, ts, l, D, h, _ => by cases h
  | k + 1, m, [], l, D, h, hm => by
    obtain ⟨m, rfl⟩ : ∃ j, m = j + 1 := ⟨m - 1, by omega⟩
    exact h
  | k + 1, m, t :: r, l, D, h, hm => by
    obtain ⟨m, rfl⟩ : ∃ j, m = j + 1 := ⟨m - 1, by omega⟩
    rw [prA] at h ⊢
    split at h
    · rename_i d r' hd
      exact prA_more k m r' _ D h (by omega)
    · cases h
/-- Enough rounds, however many. -/
theorem prA_fuel : ∀ (k : Nat) (ts : List Tok) (l D : Dats), prA k ts l = some D → prA (ts.length + 1) ts l = some D
  | 0, ts, l, D, h => by cases h
  | k + 1, [], l, D, h => h
  | k + 1, t :: r, l, D, h => by
    rw [prA] at h
    rw [List.length_cons, prA]
    split at h
    · rename_i d r' hd
      have he := prD_eats 1000 _ _ _ hd
      exact prA_more _ _ _ _ _ (prA_fuel k r' _ D h) (by simp at he; omega)
    · cases h
/-- A string whose parts are data's. -/
theorem al_of (s : ByteArray) (hs : s.size ≤ 20000) (k : Nat) (D : Dats) (h : prA k (toks s 0) .nil = some D) : alE s = 0 ∧ (alX s).dat = D := by
  have h1 := prA_fuel k _ _ _ h
  rw [al_toks s hs] at h1
  split at h1
  · rename_i he
    exact ⟨he, Option.some.inj h1⟩
  · cases h1
theorem alE_size {s : ByteArray} (h : alE s = 0) : s.size ≤ 20000 := by
  unfold alE at h
  rw [alR_eq] at h
  split at h
  · exact absurd h n3
  · omega
theorem al_pr {s : ByteArray} (h : alE s = 0) : prA ((toks s 0).length + 1) (toks s 0) .nil = some (alX s).dat := by
  rw [al_toks s (alE_size h), if_pos h]
/-! ### More behind -/
def Exts (f : List Tok → Option (Dat × List Tok)) : Prop := ∀ ts us d r, f ts = some (d, r) → f (ts ++ us) = some (d, r ++ us)
theorem prL_ext {f : List Tok → Option (Dat × List Tok)} (hf : Exts f) : ∀ k m ts us l l' r, prL f k ts l = some (l', r) → k ≤ m → prL f m (ts ++ us) l = some (l', r ++ us)
  | 0, m, ts, us, l, l', r, h, _ => by cases h
  | k + 1, m, [], us, l, l', r, h, _ => by cases h
  | k + 1, m, t :: q, us, l, l', r, h, hm => by
    obtain ⟨m, rfl⟩ : ∃ j, m = j + 1 := ⟨m - 1, by omega⟩
    rw [prL] at h
    rw [List.cons_append, prL]
    split at h
    · rename_i h41
      cases h
      rw [if_pos h41]
    · rename_i h41
      rw [if_neg h41]
      split at h
      · rename_i d r' hd
        have := hf _ us _ _ hd
        rw [List.cons_append] at this
        rw [this]
        exact prL_ext hf k m r' us _ l' r h (by omega)
      · cases h
theorem prD_ext : ∀ n, Exts (prD n)
  | 0, ts, us, d, r, h => by cases h
  | n + 1, [], us, d, r, h => by cases h
  | n + 1, t :: q, us, d, r, h => by
    rw [prD] at h
    rw [List.cons_append, prD]
    split at h
    · rename_i h1
      rw [if_pos h1]
      split at h
      · rename_i h2
        cases h
        rw [if_pos h2]
      · rename_i h2
        rw [if_neg h2]
        split at h
        · rename_i h3
          cases h
          rw [if_pos h3]
        · cases h
    · rename_i h1
      rw [if_neg h1]
      split at h
      · rename_i h2
        rw [if_pos h2]
        split at h
        · cases h
        · rename_i h3
          rw [if_neg h3]
          split at h
          · rename_i x r' hx
            have := prD_ext n _ us _ _ hx
            cases h
            rw [this]
          · cases h
      · rename_i h2
        rw [if_neg h2]
        split at h
        · rename_i h3
          rw [if_pos h3]
          split at h
          · rename_i x r' hx
            have := prL_ext (prD_ext n) _ ((q ++ us).length + 1) _ us _ _ _ hx (by simp)
            cases h
            rw [this]
          · cases h
        · cases h
/-- Data, and data behind them. -/
theorem prA_join : ∀ (k : Nat) (ts us : List Tok) (l D E : Dats) (m : Nat), prA k ts l = some D → prA m us D = some E → ∃ j, prA j (ts ++ us) l = some E
  | 0, ts, us, l, D, E, m, h, _ => by cases h
  | k + 1, [], us, l, D, E, m, h, h2 => by cases h; exact ⟨m, h2⟩
  | k + 1, t :: r, us, l, D, E, m, h, h2 => by
    rw [prA] at h
    split at h
    · rename_i d r' hd
      obtain ⟨j, hj⟩ := prA_join k r' us _ D E m h h2
      have := prD_ext 1000 _ us _ _ hd
      refine ⟨j + 1, ?_⟩
      rw [List.cons_append] at this ⊢
      rw [prA, this]
      exact hj
    · cases h
theorem prA_acc : ∀ (k : Nat) (ts : List Tok) (l D a : Dats), prA k ts l = some D → prA k ts (appD a l) = some (appD a D)
  | 0, ts, l, D, a, h => by cases h
  | k + 1, [], l, D, a, h => by cases h; rfl
  | k + 1, t :: r, l, D, a, h => by
    rw [prA] at h ⊢
    split at h
    · rename_i d r' hd
      have e : Dats.snoc (appD a l) d = appD a (Dats.snoc l d) := by
        have : ∀ x : Dats, Dats.snoc (appD x l) d = appD x (Dats.snoc l d) := by
          intro x
          exact snoc_appD x l d
        exact this a
      rw [e]
      exact prA_acc k r' _ D a h
    · cases h
where
  snoc_appD : ∀ (x l : Dats) (d : Dat), Dats.snoc (appD x l) d = appD x (Dats.snoc l d)
    | .nil, l, d => rfl
    | .cons e x, l, d => by simp only [appD, Dats.snoc, snoc_appD x l d]
theorem dropW_app {α : Type} (p : α → Bool) (x : α) (hx : p x = false) : ∀ (l r : List α), (l ++ x :: r).dropWhile p = l.dropWhile p ++ x :: r ∧ (l ++ x :: r).takeWhile p = l.takeWhile p
  | [], r => by simp [List.dropWhile_cons, List.takeWhile_cons, hx]
  | c :: l, r => by
    obtain ⟨h1, h2⟩ := dropW_app p x hx l r
    simp only [List.cons_append, List.dropWhile_cons, List.takeWhile_cons]
    by_cases hc : p c = true
    · rw [if_pos hc, if_pos hc, if_pos hc, if_pos hc]; exact ⟨h1, by rw [h2]⟩
    · rw [if_neg hc, if_neg hc, if_neg hc, if_neg hc]; exact ⟨rfl, rfl⟩
/-- The parts of two strings with a line's end between them. -/
theorem tok_line : ∀ (n : Nat) (l r : List UInt8), l.length ≤ n → tok (l ++ 10 :: r) = tok l ++ tok r
  | _, [], r, _ => by rw [List.nil_append, tok_cons, if_pos (by decide)]; rfl
  | 0, c :: l, r, h => by simp at h
  | n + 1, c :: l, r, h => by
    have hl : l.length ≤ n := by simpa using h
    rw [List.cons_append, tok_cons, tok_cons]
    split
    · exact tok_line n l r hl
    · split
      · rw [(dropW_app nl10 10 (by decide) l r).1]
        exact tok_line n _ r (Nat.le_trans (dropWhile_len nl10 l) hl)
      · split
        · obtain ⟨h1, h2⟩ := dropW_app lle 10 (by decide) l r
          rw [h1, h2, tok_line n _ r (Nat.le_trans (dropWhile_len lle l) hl), List.cons_append]
        · rw [tok_line n l r hl, List.cons_append]
theorem toks0 (s : ByteArray) : toks s 0 = tok s.data.toList := by unfold toks; rw [List.drop_zero]
theorem appD_cells : ∀ (a b : Dats), (appD a b).cells = a.cells ++ b.cells
  | .nil, b => rfl
  | .cons d a, b => by simp only [appD, Dats.cells, appD_cells a b, List.append_assoc]
theorem appD_len : ∀ (a b : Dats), (appD a b).len = a.len + b.len
  | .nil, b => by simp [appD, Dats.len]
  | .cons d a, b => by simp only [appD, Dats.len, appD_len a b]; omega
/-- ReadAll of two strings with a line's end between them. -/
theorem al_join (a b c : ByteArray) (hc : c.data.toList = a.data.toList ++ 10 :: b.data.toList) (hs : c.size ≤ 20000) (ha : alE a = 0) (hb : alE b = 0) : alE c = 0 ∧ (alX c).dat = appD (alX a).dat (alX b).dat := by
  have h1 := al_pr ha
  have h2 := prA_acc _ _ _ _ (alX a).dat (al_pr hb)
  rw [appD_nil] at h2
  obtain ⟨j, hj⟩ := prA_join _ _ _ _ _ _ _ h1 h2
  refine al_of c hs j _ ?_
  rw [toks0, hc, tok_line _ _ _ (Nat.le_refl _), ← toks0, ← toks0]
  exact hj
end Seat
end Go.Proofs.YtenpjkcclmmlhaaDoor
/- The laws of ReaderAll and ReaderJoins. Printed by dev/lwe.py and dev/nfsub.py (this session's). -/
namespace Go.Proofs.YtenpjkcclmmlhaaDoor
open Go.AS Go.RowKit
set_option linter.unusedVariables false
set_option linter.unusedSimpArgs false
set_option maxRecDepth 100000
set_option maxHeartbeats 4000000
namespace Seat
noncomputable def lfS (f : Nat) (args : List PV) : Option (PV × Ob) := match f, args with
  | 14, [.str s] => some (.str (shortS s), [(Nat.ble s.size 9223372036854775807, true)])
  | 30, [.str s] => some (.tup [.slice (alX s).dat.len (alX s).dat.cells, .int .i64 (alA s), .int .i64 (alE s)], [])
  | 31, [.str s] => some (.tup [.slice (alX s).dat.len (alX s).dat.cells, .int .i64 (alA s), .int .i64 (alE s)], [])
  | 32, [.slice n cs, .slice m ds] => some (.bool true, [(same (.slice n cs) (.slice m ds), true), (isOkL n cs, true)])
  | 18, [] => some (.bool true, [])
  | _, _ => none
theorem lfS_ok (f : Nat) (args : List PV) (r : PV) (o : Ob) (h : lfS f args = some (r, o)) (ho : ∀ p ∈ o, p.1 = p.2) (_ : pureL args = true) : Pure G0 f args (fun x => x = r) := by
  unfold lfS at h
  split at h
  · rename_i s _
    cases h
    exact short_ok s (Nat.le_of_ble_eq_true (ho _ (List.mem_singleton.2 rfl)))
  · cases h
    exact readAllP _
  · cases h
    exact readAllR _
  · rename_i n cs m ds _
    cases h
    have h1 := of_same (ho (same (.slice n cs) (.slice m ds), true) (by simp))
    have h2 := ho (isOkL n cs, true) (by simp)
    cases h1
    obtain ⟨ks, rfl, rfl, g1, g2⟩ := isOkL_of h2
    exact lists_same ks g2 g1
  · cases h
    exact alive_ok
  · cases h
noncomputable def SLf (l : List (Nat × List (Nat × Bool))) (v : List (Nat × List (Nat × PV))) : Cfg G0 := { F := F, hF := hF, S := lfS, hS := lfS_ok, orc := orcM l, val := valM v }
theorem alX_okL (s : ByteArray) : isOkL (alX s).dat.len (alX s).dat.cells = true := by
  obtain ⟨h1, h2⟩ := alX_ok s
  exact isOkL_at (by rw [Nds.dat_len]; omega) (Nds.dat_ok _ h1)
theorem all_law (s : ByteArray) (hs : s.size ≤ 9223372036854775807) : Pure G0 10 [.str s] (fun r => r = .bool true) := by
  have c1 : (alE (shortS s) == alE (shortS s)) = true := beq_self_eq_true _
  have c2 : (alA (shortS s) == alA (shortS s)) = true := beq_self_eq_true _
  have c3 : Nat.ble s.size 9223372036854775807 = true := Nat.ble_eq_true_of_le hs
  have c4 := alX_okL (shortS s)
  have c5 : same (.slice (alX (shortS s)).dat.len (alX (shortS s)).dat.cells) (.slice (alX (shortS s)).dat.len (alX (shortS s)).dat.cells) = true := same_of rfl
  refine Fn.enterB Tryd.func10 Tryd.ntmps10 rfl (Nat.le_of_ble_eq_true rfl) fun C fr fp hnt hnb hp hfr hfp => ?_
  refine SWP.runQ (SLf [(40, [(26, true), (30, true)])] []) 100 40 hnt [2] (e := .ret) (z := { t := [(2, PV.bool true)], h := { bx := [], rw := [] } }) (o := [(true, true), (Nat.ble (ByteArray.size s) 9223372036854775807, true), (true, true), (true, true), (alE (shortS s) == alE (shortS s), true), (alA (shortS s) == alA (shortS s), true), (true, true), (same (PV.slice (Dats.len (Nds.dat (alX (shortS s)))) (Dats.cells (Nds.dat (alX (shortS s))))) (PV.slice (Dats.len (Nds.dat (alX (shortS s)))) (Dats.cells (Nds.dat (alX (shortS s))))), true), (isOkL (Dats.len (Nds.dat (alX (shortS s)))) (Dats.cells (Nds.dat (alX (shortS s)))), true), (true, true)]) (by kernel_rfl) (by ((repeat' (first | exact okO_nil | refine okN ?_ ?_)); all_goals first | assumption | rfl | exact same_of rfl | exact sameS_self _ | (simp only [decide_eq_true_eq, decide_eq_false_iff_not, Nat.ble_eq, Nat.beq_eq, beq_eq_false_iff_ne, beq_iff_eq, ne_eq] <;> omega))) (fun st hs => hfr st [2] ?_)
  rw [hs]
  exact ⟨0, .bool true, Nat.le_refl _, Nat.zero_le _, rfl, rfl, rfl, rfl, _, rfl, rfl⟩
theorem cut9 (s : ByteArray) : (if (9000 : Int) < (s.size : Int) then (9000 : Int) else (s.size : Int)) = ((min s.size 9000 : Nat) : Int) := by split <;> omega
theorem joins_law (s t : ByteArray) (hs : s.size ≤ 9223372036854775807) (ht : t.size ≤ 9223372036854775807) : Pure G0 11 [.str s, .str t] (fun r => r = .bool true) := by
  obtain ⟨a, ha⟩ : ∃ a, a = s.extract 0 (min s.size 9000) := ⟨_, rfl⟩
  obtain ⟨b, hb⟩ : ∃ a, a = t.extract 0 (min t.size 9000) := ⟨_, rfl⟩
  have e1 := cut9 s
  have e2 := cut9 t
  have d1 : decide ((0 : Int) ≤ ((0 : Nat) : Int) ∧ (((0 : Nat) : Int) ≤ (if (9000 : Int) < (s.size : Int) then (9000 : Int) else (s.size : Int))) ∧ (if (9000 : Int) < (s.size : Int) then (9000 : Int) else (s.size : Int)) ≤ (s.size : Int)) = true := by rw [e1, decide_eq_true_eq]; omega
  have d2 : decide ((0 : Int) ≤ ((0 : Nat) : Int) ∧ (((0 : Nat) : Int) ≤ (if (9000 : Int) < (t.size : Int) then (9000 : Int) else (t.size : Int))) ∧ (if (9000 : Int) < (t.size : Int) then (9000 : Int) else (t.size : Int)) ≤ (t.size : Int)) = true := by rw [e2, decide_eq_true_eq]; omega
  have d3 : same (PV.str (ByteArray.extract s 0 (Int.toNat (if (9000 : Int) < (s.size : Int) then (9000 : Int) else (s.size : Int))))) (PV.str a) = true := same_of (by rw [e1, Int.toNat_natCast, ha])
  have d4 : same (PV.str (ByteArray.extract t 0 (Int.toNat (if (9000 : Int) < (t.size : Int) then (9000 : Int) else (t.size : Int))))) (PV.str b) = true := same_of (by rw [e2, Int.toNat_natCast, hb])
  have sa : a.size ≤ 9000 := by rw [ha, ByteArray.size_extract]; omega
  have sb : b.size ≤ 9000 := by rw [hb, ByteArray.size_extract]; omega
  refine Fn.enterB Tryd.func11 Tryd.ntmps11 rfl (Nat.le_of_ble_eq_true rfl) fun C fr fp hnt hnb hp hfr hfp => ?_
  have fin : ∀ st H, nrm [4] st = ⟨[(4, .bool true)], H⟩ → fr st := fun st H hst => hfr st [4] (by
    rw [hst]
    exact ⟨0, .bool true, Nat.le_refl _, Nat.zero_le _, rfl, rfl, rfl, rfl, _, rfl, rfl⟩)
  refine Q.runSeq (SLf [] []) 100 68 hnt [0, 1] (z := { t := [(0, PV.str s), (1, PV.str t)], h := { bx := [], rw := [] } }) (o := []) (by kernel_rfl) (by ((repeat' (first | exact okO_nil | refine okN ?_ ?_)); all_goals first | assumption | rfl | exact same_of rfl | exact sameS_self _ | (simp only [decide_eq_true_eq, decide_eq_false_iff_not, Nat.ble_eq, Nat.beq_eq, beq_eq_false_iff_ne, beq_iff_eq, ne_eq] <;> omega))) ?_
  refine Q.seq fun K hK => ?_
  refine SWP.runLQ (SLf [(68, [(20, true), (25, true)])] [(68, [(20, .str a), (25, .str b)])]) 100 68 hnt [5, 6] (l := List.replicate 1 { t := [(5, PV.str a), (6, PV.str b)], h := { bx := [], rw := [] } }) (o := [(decide ((0 : Int) ≤ ((0 : Nat) : Int) ∧ (((0 : Nat) : Int) ≤ (if (9000 : Int) < (s.size : Int) then (9000 : Int) else (s.size : Int))) ∧ (if (9000 : Int) < (s.size : Int) then (9000 : Int) else (s.size : Int)) ≤ (s.size : Int)), true), (same (PV.str (ByteArray.extract s 0 (Int.toNat (if (9000 : Int) < (s.size : Int) then (9000 : Int) else (s.size : Int))))) (PV.str a), true), (decide ((0 : Int) ≤ ((0 : Nat) : Int) ∧ (((0 : Nat) : Int) ≤ (if (9000 : Int) < (t.size : Int) then (9000 : Int) else (t.size : Int))) ∧ (if (9000 : Int) < (t.size : Int) then (9000 : Int) else (t.size : Int)) ≤ (t.size : Int)), true), (same (PV.str (ByteArray.extract t 0 (Int.toNat (if (9000 : Int) < (t.size : Int) then (9000 : Int) else (t.size : Int))))) (PV.str b), true)]) (by kernel_rfl) (by ((repeat' (first | exact okO_nil | refine okN ?_ ?_)); all_goals first | assumption | rfl | exact same_of rfl | exact sameS_self _ | (simp only [decide_eq_true_eq, decide_eq_false_iff_not, Nat.ble_eq, Nat.beq_eq, beq_eq_false_iff_ne, beq_iff_eq, ne_eq] <;> omega))) (fun st hst => hK st (.norm [5, 6] ?_))
  rw [List.eq_of_mem_replicate hst]
  clear hst hK d1 d2 d3 d4 e1 e2
  by_cases h1 : alE a = 0
  · have c1 : (!alE a == (0 : Int)) = false := by rw [h1]; rfl
    by_cases h2 : alE b = 0
    · have c2 : (!alE b == (0 : Int)) = false := by rw [h2]; rfl
      obtain ⟨c, hc⟩ : ∃ c, c = a ++ (⟨#[10]⟩ : ByteArray) ++ b := ⟨_, rfl⟩
      have hcl : c.data.toList = a.data.toList ++ 10 :: b.data.toList := by rw [hc]; simp
      have hcs : c.size ≤ 20000 := by rw [hc]; simp only [ByteArray.size_append]; show a.size + 1 + b.size ≤ 20000; omega
      obtain ⟨h3, h4⟩ := al_join a b c hcl hcs h1 h2
      have c3 : (alE c == (0 : Int)) = true := bq h3
      have n1 : Nat.ble (ByteArray.size a + 1) 9223372036854775807 = true := by rw [Nat.ble_eq]; omega
      have n2 : Nat.ble (ByteArray.size (a ++ (⟨#[10]⟩ : ByteArray)) + ByteArray.size b) 9223372036854775807 = true := by
        rw [Nat.ble_eq, ByteArray.size_append]
        show a.size + 1 + b.size ≤ 9223372036854775807
        omega
      have hlen : (alX c).dat.len = 0 + (alX a).dat.len + (alX b).dat.len := by rw [h4, appD_len]; omega
      have hcel : (alX c).dat.cells = (alX a).dat.cells ++ (alX b).dat.cells := by rw [h4, appD_cells]
      have c4 : same (PV.slice (alX c).dat.len (alX c).dat.cells) (PV.slice (0 + (alX a).dat.len + (alX b).dat.len) ((alX a).dat.cells ++ (alX b).dat.cells)) = true := same_of (by rw [hlen, hcel])
      have c5 := alX_okL c
      have c6 : same (PV.str (a ++ (⟨#[10]⟩ : ByteArray) ++ b)) (PV.str c) = true := same_of (by rw [hc])
      have la := (alX_ok a).2
      have lb := (alX_ok b).2
      have ca : (alX a).dat.cells.length = (alX a).dat.len * 4 := Dats.cells_len _
      have cb : (alX b).dat.cells.length = (alX b).dat.len * 4 := Dats.cells_len _
      have la' : (alX a).dat.len ≤ 20001 := by rw [Nds.dat_len]; exact la
      have lb' : (alX b).dat.len ≤ 20001 := by rw [Nds.dat_len]; exact lb
      exact SWP.runQ (SLf [(68, [(39, false), (42, false), (47, true), (49, true), (55, true), (60, true), (62, true)])] [(68, [(49, .str c)])]) 100 68 hnt [4] (e := .ret) (z := { t := [(4, PV.bool true)], h := { bx := [], rw := [some { cs := Dats.cells (Nds.dat (alX a)) ++ Dats.cells (Nds.dat (alX b)), n := 0 + Dats.len (Nds.dat (alX a)) + Dats.len (Nds.dat (alX b)), ty := 25, sz := 4 }] } }) (o := [(true, true), (true, true), (!alE a == (0 : Int), false), (!alE b == (0 : Int), false), (Nat.ble (ByteArray.size a + 1) 9223372036854775807, true), (Nat.ble (ByteArray.size (a ++ { data := #[10] }) + ByteArray.size b) 9223372036854775807, true), (same (PV.str (a ++ { data := #[10] } ++ b)) (PV.str c), true), (true, true), (alE c == (0 : Int), true), (Nat.beq (List.length (Dats.cells (Nds.dat (alX a)))) (Dats.len (Nds.dat (alX a)) * 4), true), (Nat.ble ((0 + Dats.len (Nds.dat (alX a))) * 56) 140737488355328, true), (Nat.ble (0 + Dats.len (Nds.dat (alX a))) 9223372036854775807, true), (Nat.beq (List.length (Dats.cells (Nds.dat (alX b)))) (Dats.len (Nds.dat (alX b)) * 4), true), (Nat.ble ((0 + Dats.len (Nds.dat (alX a)) + Dats.len (Nds.dat (alX b))) * 56) 140737488355328, true), (Nat.ble (0 + Dats.len (Nds.dat (alX a)) + Dats.len (Nds.dat (alX b))) 9223372036854775807, true), (same (PV.slice (Dats.len (Nds.dat (alX c))) (Dats.cells (Nds.dat (alX c)))) (PV.slice (0 + Dats.len (Nds.dat (alX a)) + Dats.len (Nds.dat (alX b))) (Dats.cells (Nds.dat (alX a)) ++ Dats.cells (Nds.dat (alX b)))), true), (isOkL (Dats.len (Nds.dat (alX c))) (Dats.cells (Nds.dat (alX c))), true), (true, true)]) (by kernel_rfl) (by ((repeat' (first | exact okO_nil | refine okN ?_ ?_)); all_goals first | assumption | rfl | exact same_of rfl | exact sameS_self _ | (simp only [decide_eq_true_eq, decide_eq_false_iff_not, Nat.ble_eq, Nat.beq_eq, beq_eq_false_iff_ne, beq_iff_eq, ne_eq] <;> omega))) (fun st hst => fin st _ hst)
    · have c2 : (!alE b == (0 : Int)) = true := by rw [beqF h2]; rfl
      exact SWP.runQ (SLf [(68, [(39, false), (42, true)])] []) 100 68 hnt [4] (e := .ret) (z := { t := [(4, PV.bool true)], h := { bx := [], rw := [] } }) (o := [(true, true), (true, true), (!alE a == (0 : Int), false), (!alE b == (0 : Int), true), (true, true)]) (by kernel_rfl) (by ((repeat' (first | exact okO_nil | refine okN ?_ ?_)); all_goals first | assumption | rfl | exact same_of rfl | exact sameS_self _ | (simp only [decide_eq_true_eq, decide_eq_false_iff_not, Nat.ble_eq, Nat.beq_eq, beq_eq_false_iff_ne, beq_iff_eq, ne_eq] <;> omega))) (fun st hst => fin st _ hst)
  · have c1 : (!alE a == (0 : Int)) = true := by rw [beqF h1]; rfl
    exact SWP.runQ (SLf [(68, [(39, true)])] []) 100 68 hnt [4] (e := .ret) (z := { t := [(4, PV.bool true)], h := { bx := [], rw := [] } }) (o := [(true, true), (true, true), (!alE a == (0 : Int), true), (true, true)]) (by kernel_rfl) (by ((repeat' (first | exact okO_nil | refine okN ?_ ?_)); all_goals first | assumption | rfl | exact same_of rfl | exact sameS_self _ | (simp only [decide_eq_true_eq, decide_eq_false_iff_not, Nat.ble_eq, Nat.beq_eq, beq_eq_false_iff_ne, beq_iff_eq, ne_eq] <;> omega))) (fun st hst => fin st _ hst)
end Seat
end Go.Proofs.YtenpjkcclmmlhaaDoor
