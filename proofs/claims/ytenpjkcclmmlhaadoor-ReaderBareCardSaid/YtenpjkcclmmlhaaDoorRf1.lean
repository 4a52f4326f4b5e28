/- Texts of this session, packed: Rp9, ReadA, AllK, Bare0, Bare1, Bare2, ReadK, BareP, TokR, BareR, Alv, LawG, Wit, Eng1, Flat1. -/
import Derived.Test.YtenpjkcclmmlhaaDoorRa5
import Derived.Deep.DeepWitnessRowRef
import Derived.DataShut
import Derived.OpenShut
/- The program's reader: all. Printed by dev/rp9.py and dev/nfsub.py (this session's). -/
namespace Go.Proofs.YtenpjkcclmmlhaaDoor
open Go.AS Go.RowKit
set_option linter.unusedVariables false
set_option linter.unusedSimpArgs false
set_option maxRecDepth 100000
set_option maxHeartbeats 4000000
namespace Seat
/-- The data from a on, or the first fault. -/
def rdZ (s : ByteArray) : Nat → Nat → Nds → Nds × RS
  | 0, a, l => (l, ⟨a, 0, 0⟩)
  | k + 1, a, l => if a < s.size then (if (rdD s 1000 a).2.e = 0 then rdZ s k (skp s (rdD s 1000 a).2.a) (l.snoc (rdD s 1000 a).1) else (l, (rdD s 1000 a).2)) else (l, ⟨a, 0, 0⟩)
/-- All data of a string, or where what is wrong. -/
def azR (s : ByteArray) : Nds × Int × Int := if (rdZ s (s.size + 1) (skp s 0) .nil).2.e = 0 then ((rdZ s (s.size + 1) (skp s 0) .nil).1, 0, 0) else (.nil, (rdZ s (s.size + 1) (skp s 0) .nil).2.b, (rdZ s (s.size + 1) (skp s 0) .nil).2.e)
theorem azR_eq (s : ByteArray) : azR s = (if (rdZ s (s.size + 1) (skp s 0) .nil).2.e = 0 then ((rdZ s (s.size + 1) (skp s 0) .nil).1, 0, 0) else (.nil, (rdZ s (s.size + 1) (skp s 0) .nil).2.b, (rdZ s (s.size + 1) (skp s 0) .nil).2.e) : Nds × Int × Int) := rfl
def azX (s : ByteArray) : Nds := (azR s).1
def azA (s : ByteArray) : Int := (azR s).2.1
def azE (s : ByteArray) : Int := (azR s).2.2
theorem alls_ok (s : ByteArray) (hs : s.size ≤ 1099511627776) : Pure G0 48 [.str s] (fun r => r = .tup [.slice (azX s).dat.len (azX s).dat.cells, .int .i64 (azA s), .int .i64 (azE s)]) := by
  refine Pure.nz ?_
  have hss : Nat.ble s.size 1099511627776 = true := Nat.ble_eq_true_of_le hs
  refine PCalls.deferQ (s1 := ⟨[(0, .str s), (2, .nil), (3, .ptr 0 0), (4, .ptr 1 0)], ⟨[iZ 0, eZ 0], []⟩⟩) (b1 := 0) (b2 := 1) Tryd.func48 Tryd.ntmps48 rfl (Nat.le_of_ble_eq_true rfl) (guardOk G0 rfl) Tryd.func67 (by kernel_rfl) rfl rfl rfl rfl rfl rfl rfl (by decide) rfl
    (fun C hC => SWP.normQ (SWP.runQ (SLg false [] []) 100 33 hC [0, 2, 3, 4] (e := .normal) (z := { t := [(0, PV.str s), (2, PV.nil), (3, PV.ptr 0 0), (4, PV.ptr 1 0)], h := { bx := [{ cs := [PV.int IntKind.i64 (0 : Int)], ty := 3 }, { cs := [PV.int IntKind.i64 (0 : Int)], ty := 26 }], rw := [] } }) (o := []) (by kernel_rfl) (by ((repeat' (first | exact okO_nil | refine okN ?_ ?_)); all_goals first | assumption | rfl | exact same_of rfl | exact sameS_self _ | (simp only [decide_eq_true_eq, decide_eq_false_iff_not, Nat.ble_eq, Nat.beq_eq, beq_eq_false_iff_ne, beq_iff_eq, ne_eq] <;> omega))) (fun st hst => ⟨[0, 2, 3, 4], rfl, hst⟩))) fun C fr fp hnt hnb hfr hfp => ?_
  have eq := azR_eq s
  have fin : ∀ st n cs a e bx rw', nrm [2, 3, 4] st = ⟨[(2, .slice n cs), (3, .ptr 0 0), (4, .ptr 1 0)], ⟨iZ a :: eZ e :: bx, rw'⟩⟩ → PV.nz (.slice n cs) = .slice (azX s).dat.len (azX s).dat.cells → azA s = a → azE s = e → fr st := fun st n cs a e bx rw' hst g1 g3 g4 => hfr st [2, 3, 4] (by
    rw [hst]
    refine ⟨0, .tup [.slice n cs, .int .i64 a, .int .i64 e], Nat.le_refl _, Nat.zero_le _, rfl, rfl, rfl, rfl, _, rfl, ?_⟩
    show PV.tup [PV.nz (.slice n cs), .int .i64 a, .int .i64 e] = _
    rw [g1, g3, g4])
  have pan : ∀ st (a e : Int) bx rw', nrm [2, 3, 4] st = ⟨[(2, .nil), (3, .ptr 0 0), (4, .ptr 1 0)], ⟨iZ 0 :: eZ 0 :: bx, rw'⟩⟩ → azR s = (.nil, a, e) → fp (faultV a e) st := fun st a e bx rw' hst h => hfp a e st [2, 3, 4] (.int .i64 0) (.int .i64 0) (by rw [hst]; rfl) (by rw [hst]; rfl) (by
    rw [hst]
    refine ⟨0, .tup [.nil, .int .i64 a, .int .i64 e], Nat.le_refl _, Nat.zero_le _, rfl, rfl, rfl, rfl, _, rfl, ?_⟩
    unfold azX azA azE
    rw [h]
    rfl)
  refine Q.runSeq (SLg false [] []) 100 33 hnt [0, 2, 3, 4, 5] (z := { t := [(0, PV.str s), (2, PV.nil), (3, PV.ptr 0 0), (4, PV.ptr 1 0), (5, PV.ptr 2 0)], h := { bx := [{ cs := [PV.int IntKind.i64 (0 : Int)], ty := 3 }, { cs := [PV.int IntKind.i64 (0 : Int)], ty := 26 }, { cs := [PV.str s, PV.int IntKind.i64 (0 : Int)], ty := 87 }], rw := [] } }) (o := []) (by kernel_rfl) (by ((repeat' (first | exact okO_nil | refine okN ?_ ?_)); all_goals first | assumption | rfl | exact same_of rfl | exact sameS_self _ | (simp only [decide_eq_true_eq, decide_eq_false_iff_not, Nat.ble_eq, Nat.beq_eq, beq_eq_false_iff_ne, beq_iff_eq, ne_eq] <;> omega))) ?_
  refine Q.runSeq (SLg false [] []) 100 33 hnt [0, 2, 3, 4, 5, 6] (z := { t := [(0, PV.str s), (2, PV.nil), (3, PV.ptr 0 0), (4, PV.ptr 1 0), (5, PV.ptr 2 0), (6, PV.nil)], h := { bx := [{ cs := [PV.int IntKind.i64 (0 : Int)], ty := 3 }, { cs := [PV.int IntKind.i64 (0 : Int)], ty := 26 }, { cs := [PV.str s, PV.int IntKind.i64 (0 : Int)], ty := 87 }], rw := [] } }) (o := []) (by kernel_rfl) (by ((repeat' (first | exact okO_nil | refine okN ?_ ?_)); all_goals first | assumption | rfl | exact same_of rfl | exact sameS_self _ | (simp only [decide_eq_true_eq, decide_eq_false_iff_not, Nat.ble_eq, Nat.beq_eq, beq_eq_false_iff_ne, beq_iff_eq, ne_eq] <;> omega))) ?_
  refine SWP.adoptS 6 25 4 rfl ?_
  refine SWP.norm [0, 2, 3, 4, 5, 6] ?_
  refine Q.seq fun K9 hK9 => ?_
  have dx0 : decide (0 ≤ ((0 : Nat) : Int) ∧ ((0 : Nat) : Int) ≤ (s.size : Int)) = true := by rw [decide_eq_true_eq]; omega
  refine Q.runSeq (SLg false [] []) 100 33 hnt [0, 2, 3, 4, 5, 6] (z := ⟨[(0, .str s), (2, .nil), (3, .ptr 0 0), (4, .ptr 1 0), (5, .ptr 2 0), (6, .own 0 0)], ⟨[iZ 0, eZ 0, rP s (skp s 0)], [some (jR [] 0)]⟩⟩) (o := [(decide (0 ≤ ((0 : Nat) : Int) ∧ ((0 : Nat) : Int) ≤ (s.size : Int)), true), (Nat.ble s.size 1099511627776, true)]) (by kernel_rfl) (by ((repeat' (first | exact okO_nil | refine okN ?_ ?_)); all_goals first | assumption | rfl | exact same_of rfl | exact sameS_self _ | (simp only [decide_eq_true_eq, decide_eq_false_iff_not, Nat.ble_eq, Nat.beq_eq, beq_eq_false_iff_ne, beq_iff_eq, ne_eq] <;> omega))) ?_
  refine Q.block ?_
  obtain ⟨y, hy⟩ : ∃ y, y = skp s 0 := ⟨_, rfl⟩
  have hy2 : y ≤ s.size := by rw [hy]; exact skp_le s 0 (Nat.zero_le _)
  have hcl : skp s y = y := by rw [hy]; exact skp_skp s 0
  rw [← hy] at eq ⊢
  let T (x : Nat) (l : Nds) : AS := ⟨[(0, .str s), (2, .nil), (3, .ptr 0 0), (4, .ptr 1 0), (5, .ptr 2 0), (6, .own 0 l.len)], ⟨[iZ 0, eZ 0, rP s x], [some (jR l.dat.cells l.len)]⟩⟩
  refine Q.loopH (σ := { x : Nat × Nds × Nat // (x.1 ≤ s.size ∧ skp s x.1 = x.1) ∧ s.size + 1 - x.1 ≤ x.2.2 ∧ x.2.1.len + x.2.2 ≤ s.size + 1 ∧ rdZ s x.2.2 x.1 x.2.1 = rdZ s (s.size + 1) y .nil }) [0, 2, 3, 4, 5, 6] 3 (by rw [hnb]; exact Nat.le_of_ble_eq_true rfl) (fun x => T x.1.1 x.1.2.1) (fun x => x.1.2.2) ⟨(y, .nil, s.size + 1), ⟨hy2, hcl⟩, Nat.sub_le _ _, by simp [Nds.len], rfl⟩ (fun x => ⟨rfl, rfl, rfl⟩) ⟨[], rfl⟩ fun ⟨(x, l, k), hx0, hk, hlen, hrd⟩ => ?_
  have hx1 : x ≤ s.size ∧ skp s x = x := hx0
  have hx := hx1.1
  have hxx := hx1.2
  have hk : s.size + 1 - x ≤ k := hk
  have hlen : l.len + k ≤ s.size + 1 := hlen
  have hrd : rdZ s k x l = rdZ s (s.size + 1) y .nil := hrd
  rw [← hrd] at eq
  show SWP G0 C _ _ ⟨[(0, .str s), (2, .nil), (3, .ptr 0 0), (4, .ptr 1 0), (5, .ptr 2 0), (6, .own 0 l.len)], ⟨[iZ 0, eZ 0, rP s x], [some (jR l.dat.cells l.len)]⟩⟩
  obtain ⟨m, hm⟩ : ∃ m, m = l.len := ⟨_, rfl⟩
  obtain ⟨rc, hrc⟩ : ∃ rc, rc = l.dat.cells := ⟨_, rfl⟩
  refine swp_st (st' := ⟨[(0, .str s), (2, .nil), (3, .ptr 0 0), (4, .ptr 1 0), (5, .ptr 2 0), (6, .own 0 m)], ⟨[iZ 0, eZ 0, rP s x], [some (jR rc m)]⟩⟩) (by rw [hm, hrc]) ?_
  rw [← hm] at hlen
  obtain ⟨k, rfl⟩ : ∃ j, k = j + 1 := ⟨k - 1, by omega⟩
  have dx : decide (0 ≤ (x : Int) ∧ (x : Int) ≤ (s.size : Int)) = true := by rw [decide_eq_true_eq]; omega
  refine Q.seq fun K2 hK2 => ?_
  rcases Nat.lt_or_ge x s.size with hlt | hge
  · have d1 := lt_at hlt
    refine SWP.runQ (SLg false [(33, [(20, true)])] []) 100 33 hnt [0, 2, 3, 4, 5, 6] (e := .normal) (z := { t := [(0, PV.str s), (2, PV.nil), (3, PV.ptr 0 0), (4, PV.ptr 1 0), (5, PV.ptr 2 0), (6, PV.own 0 m)], h := { bx := [{ cs := [PV.int IntKind.i64 (0 : Int)], ty := 3 }, { cs := [PV.int IntKind.i64 (0 : Int)], ty := 26 }, { cs := [PV.str s, PV.int IntKind.i64 (Int.ofNat x)], ty := 87 }], rw := [some { cs := rc, n := m, ty := 25, sz := 4 }] } }) (o := [(decide ((↑x : Int) < (↑(ByteArray.size s) : Int)), true), (true, true)]) (by kernel_rfl) (by ((repeat' (first | exact okO_nil | refine okN ?_ ?_)); all_goals first | assumption | rfl | exact same_of rfl | exact sameS_self _ | (simp only [decide_eq_true_eq, decide_eq_false_iff_not, Nat.ble_eq, Nat.beq_eq, beq_eq_false_iff_ne, beq_iff_eq, ne_eq] <;> omega))) (fun st hst => hK2 st (.norm [0, 2, 3, 4, 5, 6] ?_))
    rw [hst]
    clear hst hK2
    have hs2 := rdD_steps s 1000 x hx
    have hqx : qX s 1000 x = rdX s 1000 x := by unfold qX; rw [hxx]
    have hqa : qA s 1000 x = rdA s 1000 x := by unfold qA; rw [hxx]
    have hqe : qE s 1000 x = rdE s 1000 x := by unfold qE; rw [hxx]
    have hqf : qF s 1000 x = rdF s 1000 x := by unfold qF; rw [hxx]
    have g1 : (rdD s 1000 x).2 = ⟨rdA s 1000 x, rdE s 1000 x, rdF s 1000 x⟩ := rfl
    have g2 : (rdD s 1000 x).1 = rdX s 1000 x := rfl
    rw [rdZ, if_pos hlt] at hrd eq
    refine Q.seq fun K3 hK3 => ?_
    refine Q.block ?_
    by_cases he : rdE s 1000 x = 0
    · have de : decide (qE s 1000 (Int.toNat (x : Int)) = 0) = true := by rw [Int.toNat_natCast, hqe]; exact decide_eq_true he
      have hin := hs2.1.ok he
      have hadv : x < rdA s 1000 x := hs2.2 he
      have hin1 : rdA s 1000 x ≤ s.size := hin.1
      rw [if_pos (show (rdD s 1000 x).2.e = 0 from he), g1, g2] at hrd
      refine Q.runSeq (SLg false [] []) 100 33 hnt [0, 2, 3, 4, 5, 6, 7, 8] (z := ⟨[(0, .str s), (2, .nil), (3, .ptr 0 0), (4, .ptr 1 0), (5, .ptr 2 0), (6, .own 0 m), (7, .ptr 3 0), (8, .ptr 4 0)], ⟨[iZ 0, eZ 0, rP s (qA s 1000 x), ⟨ndJ (qX s 1000 x), 25⟩, ⟨ndP (qX s 1000 x), 64⟩], [some (jR rc m)]⟩⟩) (o := [(decide (0 ≤ (↑x : Int) ∧ (↑x : Int) ≤ (↑(ByteArray.size s) : Int)), true), (true, true), (decide (qE s 1000 (Int.toNat (↑x : Int)) = 0), true), (Nat.ble (ByteArray.size s) 1099511627776, true)]) (by kernel_rfl) (by ((repeat' (first | exact okO_nil | refine okN ?_ ?_)); all_goals first | assumption | rfl | exact same_of rfl | exact sameS_self _ | (simp only [decide_eq_true_eq, decide_eq_false_iff_not, Nat.ble_eq, Nat.beq_eq, beq_eq_false_iff_ne, beq_iff_eq, ne_eq] <;> omega))) ?_
      obtain ⟨X, hX⟩ : ∃ X, X = qX s 1000 x := ⟨_, rfl⟩
      obtain ⟨p, hp'⟩ : ∃ X, X = qA s 1000 x := ⟨_, rfl⟩
      obtain ⟨xp, hxp⟩ : ∃ z, z = (ndS X).pl := ⟨_, rfl⟩
      refine swp_st (st' := ⟨[(0, .str s), (2, .nil), (3, .ptr 0 0), (4, .ptr 1 0), (5, .ptr 2 0), (6, .own 0 m), (7, .ptr 3 0), (8, .ptr 4 0)], ⟨[iZ 0, eZ 0, rP s p, ⟨ndJ X, 25⟩, ⟨[.int .i64 (ndA X), .slice (Nds.len (ndS X)) xp], 64⟩], [some (jR rc m)]⟩⟩) (by rw [hxp, hX, hp']; rfl) ?_
      rw [hqx] at hX
      rw [hqa] at hp'
      rw [← hX, ← hp'] at hrd
      rw [← hp'] at hin1 hadv
      have dp : decide (0 ≤ (p : Int) ∧ (p : Int) ≤ (s.size : Int)) = true := by rw [decide_eq_true_eq]; omega
      have g3 : m + 1 = (l.snoc X).len := by rw [Nds.snoc_len, hm]
      have g4 : rc ++ ndJ X = (l.snoc X).dat.cells := by rw [Nds.snoc_dc, hrc, ndJ_eq]
      have hpge := skp_ge s p
      refine SWP.runQ (SLg false [(33, [(31, true)])] []) 100 33 hnt [0, 2, 3, 4, 5, 6] (e := .normal) (z := { t := [(0, PV.str s), (2, PV.nil), (3, PV.ptr 0 0), (4, PV.ptr 1 0), (5, PV.ptr 2 0), (6, PV.own 0 (m + 1))], h := { bx := [{ cs := [PV.int IntKind.i64 (0 : Int)], ty := 3 }, { cs := [PV.int IntKind.i64 (0 : Int)], ty := 26 }, { cs := [PV.str s, PV.int IntKind.i64 (Int.ofNat p)], ty := 87 }, { cs := [PV.int IntKind.i64 (ndK X), PV.int IntKind.i64 (ndN X), PV.str (ndT X), PV.slice (Dats.len (Nds.dat (ndS X))) (Dats.cells (Nds.dat (ndS X)))], ty := 25 }, { cs := [PV.int IntKind.i64 (ndA X), PV.slice (Nds.len (ndS X)) xp], ty := 64 }], rw := [some { cs := rc ++ [PV.int IntKind.i64 (ndK X), PV.int IntKind.i64 (ndN X), PV.str (ndT X), PV.slice (Dats.len (Nds.dat (ndS X))) (Dats.cells (Nds.dat (ndS X)))], n := m + 1, ty := 25, sz := 4 }] } }) (o := [(true, true), (Nat.ble ((m + 1) * 56) 140737488355328, true), (Nat.ble (m + 1) 9223372036854775807, true)]) (by kernel_rfl) (by ((repeat' (first | exact okO_nil | refine okN ?_ ?_)); all_goals first | assumption | rfl | exact same_of rfl | exact sameS_self _ | (simp only [decide_eq_true_eq, decide_eq_false_iff_not, Nat.ble_eq, Nat.beq_eq, beq_eq_false_iff_ne, beq_iff_eq, ne_eq] <;> omega))) (fun st hst => hK3 st (.norm [0, 2, 3, 4, 5, 6] ?_))
      rw [hst]
      clear hst hK3
      obtain ⟨r2, hr2⟩ : ∃ r2, r2 = rc ++ ndJ X := ⟨_, rfl⟩
      refine swp_st (st' := ⟨[(0, .str s), (2, .nil), (3, .ptr 0 0), (4, .ptr 1 0), (5, .ptr 2 0), (6, .own 0 (m + 1))], ⟨[iZ 0, eZ 0, rP s p, ⟨ndJ X, 25⟩, ⟨[.int .i64 (ndA X), .slice (Nds.len (ndS X)) xp], 64⟩], [some (jR r2 (m + 1))]⟩⟩) (by rw [hr2]; rfl) ?_
      rw [g4] at hr2
      obtain ⟨m2, hm2⟩ : ∃ m2, m2 = m + 1 := ⟨_, rfl⟩
      rw [← hm2]
      rw [g3] at hm2
      have e2 : (⟨[(0, .str s), (2, .nil), (3, .ptr 0 0), (4, .ptr 1 0), (5, .ptr 2 0), (6, .own 0 m2)], ⟨[iZ 0, eZ 0, rP s (skp s p), ⟨ndJ X, 25⟩, ⟨[.int .i64 (ndA X), .slice (Nds.len (ndS X)) xp], 64⟩], [some (jR r2 m2)]⟩⟩ : AS) = ⟨[(0, .str s), (2, .nil), (3, .ptr 0 0), (4, .ptr 1 0), (5, .ptr 2 0), (6, .own 0 (l.snoc X).len)], ⟨[iZ 0, eZ 0, rP s (skp s p), ⟨ndJ X, 25⟩, ⟨[.int .i64 (ndA X), .slice (Nds.len (ndS X)) xp], 64⟩], [some (jR (l.snoc X).dat.cells (l.snoc X).len)]⟩⟩ := by rw [hm2, hr2]
      refine SWP.runQ (SLg false [] []) 100 33 hnt [0, 2, 3, 4, 5, 6] (e := .normal) (z := ⟨[(0, .str s), (2, .nil), (3, .ptr 0 0), (4, .ptr 1 0), (5, .ptr 2 0), (6, .own 0 m2)], ⟨[iZ 0, eZ 0, rP s (skp s p), ⟨ndJ X, 25⟩, ⟨[.int .i64 (ndA X), .slice (Nds.len (ndS X)) xp], 64⟩], [some (jR r2 m2)]⟩⟩) (o := [(decide (0 ≤ (↑p : Int) ∧ (↑p : Int) ≤ (↑(ByteArray.size s) : Int)), true), (Nat.ble (ByteArray.size s) 1099511627776, true)]) (by kernel_rfl) (by ((repeat' (first | exact okO_nil | refine okN ?_ ?_)); all_goals first | assumption | rfl | exact same_of rfl | exact sameS_self _ | (simp only [decide_eq_true_eq, decide_eq_false_iff_not, Nat.ble_eq, Nat.beq_eq, beq_eq_false_iff_ne, beq_iff_eq, ne_eq] <;> omega))) (fun st hst => ⟨⟨(skp s p, l.snoc X, k), ⟨skp_le s p hin1, skp_skp s p⟩, by show s.size + 1 - skp s p ≤ k; omega, by show (l.snoc X).len + k ≤ _; rw [← g3]; omega, hrd⟩, Nat.lt_succ_self k, [⟨ndJ X, 25⟩, ⟨[.int .i64 (ndA X), .slice (Nds.len (ndS X)) xp], 64⟩], hst.trans (e2.trans rfl)⟩)
    · have de : decide (qE s 1000 (Int.toNat (x : Int)) = 0) = false := by rw [Int.toNat_natCast, hqe]; exact decide_eq_false he
      rw [if_neg (show ¬ (rdD s 1000 x).2.e = 0 from he)] at hrd eq
      rw [if_neg (show ¬ (l, (rdD s 1000 x).2).2.e = 0 from he)] at eq
      refine Q.seq fun K4 hK4 => ?_
      exact SWP.runQ (SLg true [] []) 100 33 hnt [2, 3, 4] (e := .panic (faultV (qF s 1000 x) (qE s 1000 x))) (z := { t := [(2, PV.nil), (3, PV.ptr 0 0), (4, PV.ptr 1 0)], h := { bx := [{ cs := [PV.int IntKind.i64 (0 : Int)], ty := 3 }, { cs := [PV.int IntKind.i64 (0 : Int)], ty := 26 }, { cs := [PV.str s, PV.int IntKind.i64 (qF s 1000 (Int.toNat (Int.ofNat x)))], ty := 87 }], rw := [some { cs := rc, n := m, ty := 25, sz := 4 }] } }) (o := [(decide (0 ≤ (↑x : Int) ∧ (↑x : Int) ≤ (↑(ByteArray.size s) : Int)), true), (true, true), (decide (qE s 1000 (Int.toNat (↑x : Int)) = 0), false), (Nat.ble (ByteArray.size s) 1099511627776, true)]) (by kernel_rfl) (by ((repeat' (first | exact okO_nil | refine okN ?_ ?_)); all_goals first | assumption | rfl | exact same_of rfl | exact sameS_self _ | (simp only [decide_eq_true_eq, decide_eq_false_iff_not, Nat.ble_eq, Nat.beq_eq, beq_eq_false_iff_ne, beq_iff_eq, ne_eq] <;> omega))) (fun st hst => pan st (qF s 1000 x) (qE s 1000 x) _ _ hst (by rw [eq, hqf, hqe]; rfl))
  · have d1 := ge_at hge
    have hz : rdZ s (k + 1) x l = (l, ⟨x, 0, 0⟩) := by rw [rdZ, if_neg (by omega)]
    rw [hz] at eq
    rw [if_pos (show (l, (⟨x, 0, 0⟩ : RS)).2.e = 0 from rfl)] at eq
    refine SWP.runQ (SLg false [(33, [(20, false)])] []) 100 33 hnt [0, 2, 3, 4, 5, 6] (e := .exit 0) (z := { t := [(0, PV.str s), (2, PV.nil), (3, PV.ptr 0 0), (4, PV.ptr 1 0), (5, PV.ptr 2 0), (6, PV.own 0 m)], h := { bx := [{ cs := [PV.int IntKind.i64 (0 : Int)], ty := 3 }, { cs := [PV.int IntKind.i64 (0 : Int)], ty := 26 }, { cs := [PV.str s, PV.int IntKind.i64 (Int.ofNat x)], ty := 87 }], rw := [some { cs := rc, n := m, ty := 25, sz := 4 }] } }) (o := [(decide ((↑x : Int) < (↑(ByteArray.size s) : Int)), false), (false, false)]) (by kernel_rfl) (by ((repeat' (first | exact okO_nil | refine okN ?_ ?_)); all_goals first | assumption | rfl | exact same_of rfl | exact sameS_self _ | (simp only [decide_eq_true_eq, decide_eq_false_iff_not, Nat.ble_eq, Nat.beq_eq, beq_eq_false_iff_ne, beq_iff_eq, ne_eq] <;> omega))) (fun st hst => hK9 st (.norm [0, 2, 3, 4, 5, 6] ?_))
    rw [hst]
    refine SWP.frz [0] ?_
    exact SWP.runQ (SLg false [] []) 100 33 hnt [2, 3, 4] (e := .ret) (z := { t := [(2, PV.slice m rc), (3, PV.ptr 0 0), (4, PV.ptr 1 0)], h := { bx := [{ cs := [PV.int IntKind.i64 (0 : Int)], ty := 3 }, { cs := [PV.int IntKind.i64 (0 : Int)], ty := 26 }, { cs := [PV.str s, PV.int IntKind.i64 (Int.ofNat x)], ty := 87 }], rw := [none] } }) (o := []) (by kernel_rfl) (by ((repeat' (first | exact okO_nil | refine okN ?_ ?_)); all_goals first | assumption | rfl | exact same_of rfl | exact sameS_self _ | (simp only [decide_eq_true_eq, decide_eq_false_iff_not, Nat.ble_eq, Nat.beq_eq, beq_eq_false_iff_ne, beq_iff_eq, ne_eq] <;> omega))) (fun st hst => fin st m rc 0 0 _ _ hst (by
      unfold azX
      rw [eq, hm, hrc, ← Nds.dat_len]
      simp only [PV.nz, Dats.nz]) (by unfold azA; rw [eq]) (by unfold azE; rw [eq]))
end Seat
end Go.Proofs.YtenpjkcclmmlhaaDoor
/- The document's reader: All. Printed by dev/rda.py and dev/nfsub.py (this session's). -/
namespace Go.Proofs.YtenpjkcclmmlhaaDoor
open Go.AS Go.RowKit
set_option linter.unusedVariables false
set_option linter.unusedSimpArgs false
set_option maxRecDepth 100000
set_option maxHeartbeats 4000000
namespace Seat
/-- All data of a string that isn't too long. -/
def alR (s : ByteArray) : Nds × Int × Int := if 20000 < s.size then (.nil, 0, 3) else azR s
theorem alR_eq (s : ByteArray) : alR s = (if 20000 < s.size then (.nil, 0, 3) else azR s : Nds × Int × Int) := rfl
def alX (s : ByteArray) : Nds := (alR s).1
def alA (s : ByteArray) : Int := (alR s).2.1
def alE (s : ByteArray) : Int := (alR s).2.2
mutual
theorem Nd.nz_cells : ∀ d : Nd, nzL d.cells = d.cells
  | .mk k n t ks a => by simp only [Nd.cells, nzL, PV.nz, Nds.nz_cells ks]
theorem Nds.nz_cells : ∀ ds : Nds, nzL ds.cells = ds.cells
  | .nil => rfl
  | .cons d ds => by simp only [Nds.cells, nzL_app, Nd.nz_cells d, Nds.nz_cells ds]
end
theorem all_ok (s : ByteArray) : Pure G0 49 [.str s] (fun r => r = .tup [.slice (alX s).len (alX s).cells, .int .i64 (alA s), .int .i64 (alE s)]) := by
  refine Pure.nz ?_
  refine Fn.enterB Tryd.func49 Tryd.ntmps49 rfl (Nat.le_of_ble_eq_true rfl) fun C fr fp hnt hnb hp hfr hfp => ?_
  have eq := alR_eq s
  have fin : ∀ st n cs a e bx rw', nrm [2, 3, 4] st = ⟨[(2, .slice n cs), (3, .int .i64 a), (4, .int .i64 e)], ⟨bx, rw'⟩⟩ → PV.nz (.slice n cs) = .slice (alX s).len (alX s).cells → alA s = a → alE s = e → fr st := fun st n cs a e bx rw' hst g1 g3 g4 => hfr st [2, 3, 4] (by
    rw [hst]
    refine ⟨0, .tup [.slice n cs, .int .i64 a, .int .i64 e], Nat.le_refl _, Nat.zero_le _, rfl, rfl, rfl, rfl, _, rfl, ?_⟩
    show PV.tup [PV.nz (.slice n cs), .int .i64 a, .int .i64 e] = _
    rw [g1, g3, g4])
  have finN : ∀ st a e bx rw', nrm [2, 3, 4] st = ⟨[(2, .nil), (3, .int .i64 a), (4, .int .i64 e)], ⟨bx, rw'⟩⟩ → alX s = .nil → alA s = a → alE s = e → fr st := fun st a e bx rw' hst g1 g3 g4 => hfr st [2, 3, 4] (by
    rw [hst]
    refine ⟨0, .tup [.nil, .int .i64 a, .int .i64 e], Nat.le_refl _, Nat.zero_le _, rfl, rfl, rfl, rfl, _, rfl, ?_⟩
    rw [g1, g3, g4]; rfl)
  refine Q.runSeq (SOn [] []) 100 50 hnt [0] (z := { t := [(0, PV.str s)], h := { bx := [], rw := [] } }) (o := []) (by kernel_rfl) (by ((repeat' (first | exact okO_nil | refine okN ?_ ?_)); all_goals first | assumption | rfl | exact same_of rfl | exact sameS_self _ | (simp only [decide_eq_true_eq, decide_eq_false_iff_not, Nat.ble_eq, Nat.beq_eq, beq_eq_false_iff_ne, beq_iff_eq, ne_eq] <;> omega))) ?_
  by_cases hbig : 20000 < s.size
  · have d1 : decide (20000 < (s.size : Int)) = true := by rw [decide_eq_true_eq]; omega
    rw [if_pos hbig] at eq
    refine Q.seq fun K hK => ?_
    exact SWP.runQ (SOn [(50, [(9, true)])] []) 100 50 hnt [2, 3, 4] (e := .ret) (z := { t := [(2, PV.nil), (3, PV.int IntKind.i64 (0 : Int)), (4, PV.int IntKind.i64 (3 : Int))], h := { bx := [], rw := [] } }) (o := [(decide (20000 < (↑(ByteArray.size s) : Int)), true), (true, true)]) (by kernel_rfl) (by ((repeat' (first | exact okO_nil | refine okN ?_ ?_)); all_goals first | assumption | rfl | exact same_of rfl | exact sameS_self _ | (simp only [decide_eq_true_eq, decide_eq_false_iff_not, Nat.ble_eq, Nat.beq_eq, beq_eq_false_iff_ne, beq_iff_eq, ne_eq] <;> omega))) (fun st hst => finN st 0 3 _ _ hst (by unfold alX; rw [eq]) (by unfold alA; rw [eq]) (by unfold alE; rw [eq]))
  have d1 : decide (20000 < (s.size : Int)) = false := by rw [decide_eq_false_iff_not]; omega
  have hss : Nat.ble s.size 1099511627776 = true := by rw [Nat.ble_eq]; omega
  rw [if_neg hbig, azR_eq] at eq
  refine Q.runSeq (SOn [(50, [(9, false)])] []) 100 50 hnt [0] (z := { t := [(0, PV.str s)], h := { bx := [], rw := [] } }) (o := [(decide (20000 < (↑(ByteArray.size s) : Int)), false), (false, false)]) (by kernel_rfl) (by ((repeat' (first | exact okO_nil | refine okN ?_ ?_)); all_goals first | assumption | rfl | exact same_of rfl | exact sameS_self _ | (simp only [decide_eq_true_eq, decide_eq_false_iff_not, Nat.ble_eq, Nat.beq_eq, beq_eq_false_iff_ne, beq_iff_eq, ne_eq] <;> omega))) ?_
  refine Q.runSeq (SOn [] []) 100 50 hnt [0, 5] (z := { t := [(0, PV.str s), (5, PV.ptr 0 0)], h := { bx := [{ cs := [PV.str s, PV.int IntKind.i64 (0 : Int), PV.int IntKind.i64 (0 : Int), PV.int IntKind.i64 (0 : Int)], ty := 97 }], rw := [] } }) (o := []) (by kernel_rfl) (by ((repeat' (first | exact okO_nil | refine okN ?_ ?_)); all_goals first | assumption | rfl | exact same_of rfl | exact sameS_self _ | (simp only [decide_eq_true_eq, decide_eq_false_iff_not, Nat.ble_eq, Nat.beq_eq, beq_eq_false_iff_ne, beq_iff_eq, ne_eq] <;> omega))) ?_
  refine Q.runSeq (SOn [] []) 100 50 hnt [0, 5, 6] (z := { t := [(0, PV.str s), (5, PV.ptr 0 0), (6, PV.nil)], h := { bx := [{ cs := [PV.str s, PV.int IntKind.i64 (0 : Int), PV.int IntKind.i64 (0 : Int), PV.int IntKind.i64 (0 : Int)], ty := 97 }], rw := [] } }) (o := []) (by kernel_rfl) (by ((repeat' (first | exact okO_nil | refine okN ?_ ?_)); all_goals first | assumption | rfl | exact same_of rfl | exact sameS_self _ | (simp only [decide_eq_true_eq, decide_eq_false_iff_not, Nat.ble_eq, Nat.beq_eq, beq_eq_false_iff_ne, beq_iff_eq, ne_eq] <;> omega))) ?_
  refine SWP.adoptS 6 69 5 rfl ?_
  refine SWP.norm [0, 5, 6] ?_
  refine Q.seq fun K9 hK9 => ?_
  refine Q.runSeq (SOn [] []) 100 50 hnt [0, 5, 6] (z := ⟨[(0, .str s), (5, .ptr 0 0), (6, .own 0 0)], ⟨[rB s (skp s 0) 0 0], [some (nR [] 0)]⟩⟩) (o := [(true, true), (Nat.ble s.size 1099511627776, true)]) (by kernel_rfl) (by ((repeat' (first | exact okO_nil | refine okN ?_ ?_)); all_goals first | assumption | rfl | exact same_of rfl | exact sameS_self _ | (simp only [decide_eq_true_eq, decide_eq_false_iff_not, Nat.ble_eq, Nat.beq_eq, beq_eq_false_iff_ne, beq_iff_eq, ne_eq] <;> omega))) ?_
  refine Q.block ?_
  obtain ⟨y, hy⟩ : ∃ y, y = skp s 0 := ⟨_, rfl⟩
  have hy2 : y ≤ s.size := by rw [hy]; exact skp_le s 0 (Nat.zero_le _)
  rw [← hy] at eq ⊢
  let T (r : RS) (l : Nds) : AS := ⟨[(0, .str s), (5, .ptr 0 0), (6, .own 0 l.len)], ⟨[rB s r.a r.e r.b], [some (nR l.cells l.len)]⟩⟩
  refine Q.loopI (σ := { x : RS × Nds × Nat // (x.1.e = 0 → x.1.a ≤ s.size ∧ x.1.b = 0 ∧ s.size + 1 - x.1.a ≤ x.2.2 ∧ x.2.1.len + x.2.2 ≤ s.size + 1 ∧ rdZ s x.2.2 x.1.a x.2.1 = rdZ s (s.size + 1) y .nil) ∧ (x.1.e ≠ 0 → (rdZ s (s.size + 1) y .nil).2.e = x.1.e ∧ (rdZ s (s.size + 1) y .nil).2.b = x.1.b) }) [0, 5, 6] (fun x => T x.1.1 x.1.2.1) (fun x => x.1.2.2) ⟨(⟨y, 0, 0⟩, .nil, s.size + 1), fun _ => ⟨hy2, rfl, Nat.sub_le _ _, by simp [Nds.len], rfl⟩, fun h => absurd rfl h⟩ rfl fun ⟨(⟨x, e, b⟩, l, k), h0, h1⟩ => ?_
  have h0 : e = 0 → x ≤ s.size ∧ b = 0 ∧ s.size + 1 - x ≤ k ∧ l.len + k ≤ s.size + 1 ∧ rdZ s k x l = rdZ s (s.size + 1) y .nil := h0
  have h1 : e ≠ 0 → (rdZ s (s.size + 1) y .nil).2.e = e ∧ (rdZ s (s.size + 1) y .nil).2.b = b := h1
  show SWP G0 C _ _ ⟨[(0, .str s), (5, .ptr 0 0), (6, .own 0 l.len)], ⟨[rB s x e b], [some (nR l.cells l.len)]⟩⟩
  obtain ⟨m, hm⟩ : ∃ m, m = l.len := ⟨_, rfl⟩
  obtain ⟨rc, hrc⟩ : ∃ rc, rc = l.cells := ⟨_, rfl⟩
  refine swp_st (st' := ⟨[(0, .str s), (5, .ptr 0 0), (6, .own 0 m)], ⟨[rB s x e b], [some (nR rc m)]⟩⟩) (by rw [hm, hrc]) ?_
  refine Q.seq fun K2 hK2 => ?_
  by_cases he : e = 0
  · subst he
    obtain ⟨hx, hb, hk, hlen, hrd⟩ := h0 rfl
    subst hb
    rw [← hm] at hlen
    rw [← hrd] at eq
    obtain ⟨k, rfl⟩ : ∃ j, k = j + 1 := ⟨k - 1, by omega⟩
    have dx : decide (0 ≤ (x : Int) ∧ (x : Int) ≤ (s.size : Int)) = true := by rw [decide_eq_true_eq]; omega
    rcases Nat.lt_or_ge x s.size with hlt | hge
    · have d2 := lt_at hlt
      refine SWP.runQ (SOn [(50, [(27, true)])] []) 100 50 hnt [0, 5, 6] (e := .normal) (z := { t := [(0, PV.str s), (5, PV.ptr 0 0), (6, PV.own 0 m)], h := { bx := [{ cs := [PV.str s, PV.int IntKind.i64 (Int.ofNat x), PV.int IntKind.i64 (0 : Int), PV.int IntKind.i64 (0 : Int)], ty := 97 }], rw := [some { cs := rc, n := m, ty := 69, sz := 5 }] } }) (o := [(decide ((↑x : Int) < (↑(ByteArray.size s) : Int)), true)]) (by kernel_rfl) (by ((repeat' (first | exact okO_nil | refine okN ?_ ?_)); all_goals first | assumption | rfl | exact same_of rfl | exact sameS_self _ | (simp only [decide_eq_true_eq, decide_eq_false_iff_not, Nat.ble_eq, Nat.beq_eq, beq_eq_false_iff_ne, beq_iff_eq, ne_eq] <;> omega))) (fun st hst => hK2 st (.norm [0, 5, 6] ?_))
      rw [hst]
      clear hst hK2
      have hs2 := rdD_steps s 1000 x hx
      have g1 : (rdD s 1000 x).2 = ⟨rdA s 1000 x, rdE s 1000 x, rdF s 1000 x⟩ := rfl
      have g2 : (rdD s 1000 x).1 = rdX s 1000 x := rfl
      rw [rdZ, if_pos hlt, g1, g2] at hrd
      rw [g1] at hs2
      refine Q.seq fun K3 hK3 => ?_
      refine Q.block ?_
      refine SWP.runQ (SOn [(50, [(35, true)])] []) 100 50 hnt [0, 5, 6] (e := .normal) (z := ⟨[(0, .str s), (5, .ptr 0 0), (6, .own 0 (m + 1))], ⟨[rB s (rdA s 1000 x) (rdE s 1000 x) (rdF s 1000 x)], [some (nR (rc ++ ndC (rdX s 1000 x)) (m + 1))]⟩⟩) (o := [(decide (0 ≤ (↑x : Int) ∧ (↑x : Int) ≤ (↑(ByteArray.size s) : Int)), true), (true, true), (Nat.ble (ByteArray.size s) 1099511627776, true), (true, true), (Nat.ble ((m + 1) * 64) 140737488355328, true), (Nat.ble (m + 1) 9223372036854775807, true)]) (by kernel_rfl) (by ((repeat' (first | exact okO_nil | refine okN ?_ ?_)); all_goals first | assumption | rfl | exact same_of rfl | exact sameS_self _ | (simp only [decide_eq_true_eq, decide_eq_false_iff_not, Nat.ble_eq, Nat.beq_eq, beq_eq_false_iff_ne, beq_iff_eq, ne_eq] <;> omega))) (fun st hst => hK3 st (.norm [0, 5, 6] ?_))
      rw [hst]
      clear hst hK3
      have g3 : m + 1 = (l.snoc (rdX s 1000 x)).len := by rw [Nds.snoc_len, hm]
      have g4 : rc ++ ndC (rdX s 1000 x) = (l.snoc (rdX s 1000 x)).cells := by rw [Nds.snoc_cells, hrc, ndC_eq]
      obtain ⟨p, hp⟩ : ∃ p, p = rdA s 1000 x := ⟨_, rfl⟩
      obtain ⟨pe, hpe⟩ : ∃ p, p = rdE s 1000 x := ⟨_, rfl⟩
      obtain ⟨pb, hpb⟩ : ∃ p, p = rdF s 1000 x := ⟨_, rfl⟩
      obtain ⟨X, hX⟩ : ∃ p, p = rdX s 1000 x := ⟨_, rfl⟩
      rw [← hp, ← hpe, ← hpb] at hs2
      rw [← hp, ← hpe, ← hpb, ← hX] at hrd
      rw [← hX] at g3 g4
      obtain ⟨m2, hm2⟩ : ∃ m2, m2 = m + 1 := ⟨_, rfl⟩
      obtain ⟨r2, hr2⟩ : ∃ r2, r2 = rc ++ ndC X := ⟨_, rfl⟩
      refine swp_st (st' := ⟨[(0, .str s), (5, .ptr 0 0), (6, .own 0 m2)], ⟨[rB s p pe pb], [some (nR r2 m2)]⟩⟩) (by rw [hm2, hr2, hp, hpe, hpb, hX]) ?_
      rw [g3] at hm2
      rw [g4] at hr2
      have e2 : (⟨[(0, .str s), (5, .ptr 0 0), (6, .own 0 m2)], ⟨[rB s (skp s p) pe pb], [some (nR r2 m2)]⟩⟩ : AS) = ⟨[(0, .str s), (5, .ptr 0 0), (6, .own 0 (l.snoc X).len)], ⟨[rB s (skp s p) pe pb], [some (nR (l.snoc X).cells (l.snoc X).len)]⟩⟩ := by rw [hm2, hr2]
      refine SWP.runQ (SOn [] []) 100 50 hnt [0, 5, 6] (e := .normal) (z := ⟨[(0, .str s), (5, .ptr 0 0), (6, .own 0 m2)], ⟨[rB s (skp s p) pe pb], [some (nR r2 m2)]⟩⟩) (o := [(true, true), (Nat.ble s.size 1099511627776, true)]) (by kernel_rfl) (by ((repeat' (first | exact okO_nil | refine okN ?_ ?_)); all_goals first | assumption | rfl | exact same_of rfl | exact sameS_self _ | (simp only [decide_eq_true_eq, decide_eq_false_iff_not, Nat.ble_eq, Nat.beq_eq, beq_eq_false_iff_ne, beq_iff_eq, ne_eq] <;> omega))) (fun st hst => ⟨⟨(⟨skp s p, pe, pb⟩, l.snoc X, k), fun h => ?_, fun h => ?_⟩, Nat.lt_succ_self k, hst.trans (e2.trans rfl)⟩)
      · have h : pe = 0 := h
        have hin := hs2.1.ok h
        have hadv : x < p := hs2.2 h
        have hin1 : p ≤ s.size := hin.1
        have hb0 : pb = 0 := hin.2
        have hpge := skp_ge s p
        rw [if_pos h] at hrd
        exact ⟨skp_le s p hin1, hb0, by show s.size + 1 - skp s p ≤ k; omega, by show (l.snoc X).len + k ≤ _; rw [← g3]; omega, hrd⟩
      · have h : pe ≠ 0 := h
        rw [if_neg h] at hrd
        rw [← hrd]
        exact ⟨rfl, rfl⟩
    · have d2 := ge_at hge
      have hz : rdZ s (k + 1) x l = (l, ⟨x, 0, 0⟩) := by rw [rdZ, if_neg (by omega)]
      rw [hz, if_pos (show (l, (⟨x, 0, 0⟩ : RS)).2.e = 0 from rfl)] at eq
      refine SWP.runQ (SOn [(50, [(27, false)])] []) 100 50 hnt [0, 5, 6] (e := .exit 0) (z := { t := [(0, PV.str s), (5, PV.ptr 0 0), (6, PV.own 0 m)], h := { bx := [{ cs := [PV.str s, PV.int IntKind.i64 (Int.ofNat x), PV.int IntKind.i64 (0 : Int), PV.int IntKind.i64 (0 : Int)], ty := 97 }], rw := [some { cs := rc, n := m, ty := 69, sz := 5 }] } }) (o := [(decide ((↑x : Int) < (↑(ByteArray.size s) : Int)), false)]) (by kernel_rfl) (by ((repeat' (first | exact okO_nil | refine okN ?_ ?_)); all_goals first | assumption | rfl | exact same_of rfl | exact sameS_self _ | (simp only [decide_eq_true_eq, decide_eq_false_iff_not, Nat.ble_eq, Nat.beq_eq, beq_eq_false_iff_ne, beq_iff_eq, ne_eq] <;> omega))) (fun st hst => hK9 st (.norm [0, 5, 6] ?_))
      rw [hst]
      refine Q.runSeq (SOn [(50, [(40, false)])] []) 100 50 hnt [6] (z := { t := [(6, PV.own 0 m)], h := { bx := [{ cs := [PV.str s, PV.int IntKind.i64 (Int.ofNat x), PV.int IntKind.i64 (0 : Int), PV.int IntKind.i64 (0 : Int)], ty := 97 }], rw := [some { cs := rc, n := m, ty := 69, sz := 5 }] } }) (o := [(false, false), (false, false)]) (by kernel_rfl) (by ((repeat' (first | exact okO_nil | refine okN ?_ ?_)); all_goals first | assumption | rfl | exact same_of rfl | exact sameS_self _ | (simp only [decide_eq_true_eq, decide_eq_false_iff_not, Nat.ble_eq, Nat.beq_eq, beq_eq_false_iff_ne, beq_iff_eq, ne_eq] <;> omega))) ?_
      refine SWP.frz [0] ?_
      exact SWP.runQ (SOn [] []) 100 50 hnt [2, 3, 4] (e := .ret) (z := { t := [(2, PV.slice m rc), (3, PV.int IntKind.i64 (0 : Int)), (4, PV.int IntKind.i64 (0 : Int))], h := { bx := [{ cs := [PV.str s, PV.int IntKind.i64 (Int.ofNat x), PV.int IntKind.i64 (0 : Int), PV.int IntKind.i64 (0 : Int)], ty := 97 }], rw := [none] } }) (o := []) (by kernel_rfl) (by ((repeat' (first | exact okO_nil | refine okN ?_ ?_)); all_goals first | assumption | rfl | exact same_of rfl | exact sameS_self _ | (simp only [decide_eq_true_eq, decide_eq_false_iff_not, Nat.ble_eq, Nat.beq_eq, beq_eq_false_iff_ne, beq_iff_eq, ne_eq] <;> omega))) (fun st hst => fin st m rc 0 0 _ _ hst (by
        unfold alX
        rw [eq, hm, hrc]
        simp only [PV.nz, Nds.nz_cells]) (by unfold alA; rw [eq]) (by unfold alE; rw [eq]))
  · obtain ⟨k1, k2⟩ := h1 he
    rw [k1, k2, if_neg he] at eq
    have d2 : (e == (0 : Int)) = false := beqF he
    have d3 : (!e == (0 : Int)) = true := by rw [beqF he]; rfl
    refine SWP.runQ (SOn [(50, [(19, false)])] []) 100 50 hnt [0, 5, 6] (e := .exit 0) (z := { t := [(0, PV.str s), (5, PV.ptr 0 0), (6, PV.own 0 m)], h := { bx := [{ cs := [PV.str s, PV.int IntKind.i64 (Int.ofNat x), PV.int IntKind.i64 e, PV.int IntKind.i64 b], ty := 97 }], rw := [some { cs := rc, n := m, ty := 69, sz := 5 }] } }) (o := [(e == (0 : Int), false)]) (by kernel_rfl) (by ((repeat' (first | exact okO_nil | refine okN ?_ ?_)); all_goals first | assumption | rfl | exact same_of rfl | exact sameS_self _ | (simp only [decide_eq_true_eq, decide_eq_false_iff_not, Nat.ble_eq, Nat.beq_eq, beq_eq_false_iff_ne, beq_iff_eq, ne_eq] <;> omega))) (fun st hst => hK9 st (.norm [0, 5, 6] ?_))
    rw [hst]
    refine Q.seq fun K4 hK4 => ?_
    refine Q.runSeq (SOn [(50, [(40, true)])] []) 100 50 hnt [5, 40] (z := { t := [(5, PV.ptr 0 0), (40, PV.bool true)], h := { bx := [{ cs := [PV.str s, PV.int IntKind.i64 (Int.ofNat x), PV.int IntKind.i64 e, PV.int IntKind.i64 b], ty := 97 }], rw := [some { cs := rc, n := m, ty := 69, sz := 5 }] } }) (o := [(!e == (0 : Int), true)]) (by kernel_rfl) (by ((repeat' (first | exact okO_nil | refine okN ?_ ?_)); all_goals first | assumption | rfl | exact same_of rfl | exact sameS_self _ | (simp only [decide_eq_true_eq, decide_eq_false_iff_not, Nat.ble_eq, Nat.beq_eq, beq_eq_false_iff_ne, beq_iff_eq, ne_eq] <;> omega))) ?_
    refine Q.cond (b := true) rfl (fun _ => ?_) (fun h => by cases h)
    refine Q.seq fun K5 hK5 => ?_
    refine SWP.runLQ (SOn [] []) 100 50 hnt [2, 3, 4] (l := List.replicate 1 { t := [(2, PV.nil), (3, PV.int IntKind.i64 b), (4, PV.int IntKind.i64 e)], h := { bx := [{ cs := [PV.str s, PV.int IntKind.i64 (Int.ofNat x), PV.int IntKind.i64 e, PV.int IntKind.i64 b], ty := 97 }], rw := [some { cs := rc, n := m, ty := 69, sz := 5 }] } }) (o := []) (by kernel_rfl) (by ((repeat' (first | exact okO_nil | refine okN ?_ ?_)); all_goals first | assumption | rfl | exact same_of rfl | exact sameS_self _ | (simp only [decide_eq_true_eq, decide_eq_false_iff_not, Nat.ble_eq, Nat.beq_eq, beq_eq_false_iff_ne, beq_iff_eq, ne_eq] <;> omega))) (fun st hst => hK5 st (.norm [2, 3, 4] ?_))
    rw [List.eq_of_mem_replicate hst]
    exact .ret (finN _ b e _ _ rfl (by unfold alX; rw [eq]) (by unfold alA; rw [eq]) (by unfold alE; rw [eq]))
end Seat
end Go.Proofs.YtenpjkcclmmlhaaDoor
/- All data of a string, by its parts (plain Lean; the first part of All0). -/
namespace Go.Proofs.YtenpjkcclmmlhaaDoor
open Go.AS
set_option linter.unusedVariables false
set_option linter.unusedSimpArgs false
set_option maxRecDepth 10000
namespace Seat
/-- All data of parts. -/
def prA : Nat → List Tok → Dats → Option Dats
  | 0, _, _ => none
  | _ + 1, [], l => some l
  | k + 1, t :: r, l => match prD 1000 (t :: r) with
    | some (d, r') => prA k r' (Dats.snoc l d)
    | none => none
theorem toks_more {s : ByteArray} {x : Nat} (h : x < s.size) (hc : Clean s x) : ∃ t r, toks s x = t :: r := by
  cases hl : letC (bt s (x : Int)) with
  | true => exact ⟨_, _, toks_at_let h hc hl⟩
  | false =>
    obtain ⟨c, _, h2⟩ := toks_at h hc hl
    exact ⟨_, _, h2⟩
theorem prA_rd (s : ByteArray) : ∀ k k' x l, x ≤ s.size → Clean s x → s.size + 1 - x ≤ k → (toks s x).length + 1 ≤ k' →
    prA k' (toks s x) l.dat = if (rdZ s k x l).2.e = 0 then some (rdZ s k x l).1.dat else none := by
  intro k
  induction k with
  | zero => intro k' x l hx hc hk _; omega
  | succ k ihk =>
    intro k' x l hx hc hk hk'
    obtain ⟨k', rfl⟩ : ∃ j, k' = j + 1 := ⟨k' - 1, by omega⟩
    rcases Nat.lt_or_ge x s.size with hlt | hge
    · have hix := prD_rd s 1000 x hx hc
      have hsx := rdD_steps s 1000 x hx
      obtain ⟨t, r, ht⟩ := toks_more hlt hc
      have hz : rdZ s (k + 1) x l = if (rdD s 1000 x).2.e = 0 then rdZ s k (skp s (rdD s 1000 x).2.a) (l.snoc (rdD s 1000 x).1) else (l, (rdD s 1000 x).2) := by rw [rdZ, if_pos hlt]
      rw [hz]
      by_cases he : (rdD s 1000 x).2.e = 0
      · rw [if_pos he] at hix ⊢
        have h5 := toks_skp s _ (rdD s 1000 x).2.a (Nat.le_refl _)
        have h6 := prD_eats 1000 _ _ _ hix
        have h7 := skp_ge s (rdD s 1000 x).2.a
        have h3 := hsx.2 he
        have h4 := hsx.1.ok he
        rw [ht] at hix ⊢
        rw [prA, hix]
        simp only []
        rw [← Nds.dat_snoc, ← h5.1]
        exact ihk k' _ (l.snoc (rdD s 1000 x).1) (skp_le s _ h4.1) (clean_skp s _) (by omega) (by rw [h5.1]; omega)
      · rw [if_neg he] at hix ⊢
        rw [if_neg (show ¬ (l, (rdD s 1000 x).2).2.e = 0 from he)]
        rw [ht] at hix ⊢
        rw [prA, hix]
    · have hz : rdZ s (k + 1) x l = (l, ⟨x, 0, 0⟩) := by rw [rdZ, if_neg (by omega)]
      rw [hz, toks_out s x hge]; rfl
/-- All data of a string. -/
theorem al_toks (s : ByteArray) (hs : s.size ≤ 20000) : prA ((toks s 0).length + 1) (toks s 0) .nil = if alE s = 0 then some (alX s).dat else none := by
  have h5 := toks_skp s _ 0 (Nat.le_refl _)
  have key := prA_rd s (s.size + 1) ((toks s (skp s 0)).length + 1) (skp s 0) .nil (skp_le s 0 (Nat.zero_le _)) (clean_skp s 0) (by omega) (Nat.le_refl _)
  rw [h5.1] at key
  rw [show (Nds.nil).dat = Dats.nil from rfl] at key
  rw [key]
  have e : alR s = azR s := by rw [alR_eq, if_neg (by omega)]
  unfold alE alX
  rw [e]
  by_cases h : (rdZ s (s.size + 1) (skp s 0) .nil).2.e = 0
  · have z : azR s = ((rdZ s (s.size + 1) (skp s 0) .nil).1, 0, 0) := by rw [azR_eq, if_pos h]
    rw [z, if_pos h]
    exact (if_pos rfl).symm
  · have z : azR s = (.nil, (rdZ s (s.size + 1) (skp s 0) .nil).2.b, (rdZ s (s.size + 1) (skp s 0) .nil).2.e) := by rw [azR_eq, if_neg h]
    rw [z, if_neg h]
    exact (if_neg h).symm
theorem alE_size {s : ByteArray} (h : alE s = 0) : s.size ≤ 20000 := by
  unfold alE at h
  rw [alR_eq] at h
  split at h
  · exact absurd h n3
  · omega
theorem al_pr {s : ByteArray} (h : alE s = 0) : prA ((toks s 0).length + 1) (toks s 0) .nil = some (alX s).dat := by
  rw [al_toks s (alE_size h), if_pos h]
end Seat
end Go.Proofs.YtenpjkcclmmlhaaDoor
/- The parts of a bare string (plain Lean). -/
namespace Go.Proofs.YtenpjkcclmmlhaaDoor
open Go.AS
set_option linter.unusedVariables false
set_option linter.unusedSimpArgs false
set_option maxRecDepth 10000
namespace Seat
/-- A part that is an atom is a right one. -/
def okTok (w : Tok) : Prop := (letC (hd0 w) = true → (numV (mkB w)).2 = true ∨ symOk (mkB w) = true) ∧ (letC (hd0 w) = true ∨ hd0 w = 39 ∨ hd0 w = 40 ∨ hd0 w = 41)
def Tells (f : List Tok → Option (Dat × List Tok)) : Prop := ∀ ts d r, f ts = some (d, r) → ∃ us, ts = us ++ r ∧ ∀ w ∈ us, okTok w
theorem prL_okT {f : List Tok → Option (Dat × List Tok)} (hf : Tells f) : ∀ k ts l l' r, prL f k ts l = some (l', r) → ∃ us, ts = us ++ r ∧ ∀ w ∈ us, okTok w
  | 0, ts, l, l', r, h => by cases h
  | k + 1, [], l, l', r, h => by cases h
  | k + 1, t :: q, l, l', r, h => by
    rw [prL] at h
    split at h
    · rename_i h41
      cases h
      exact ⟨[t], rfl, fun w hw => by
        obtain rfl := List.mem_singleton.1 hw
        exact ⟨fun g => by rw [h41] at g; exact absurd g (by decide), .inr (.inr (.inr h41))⟩⟩
    · split at h
      · rename_i d r' hd
        obtain ⟨us, h1, h2⟩ := hf _ _ _ hd
        obtain ⟨vs, h3, h4⟩ := prL_okT hf k r' _ l' r h
        exact ⟨us ++ vs, by rw [h1, h3, List.append_assoc], fun w hw => (List.mem_append.1 hw).elim (h2 w) (h4 w)⟩
      · cases h
theorem prD_okT : ∀ n, Tells (prD n)
  | 0, ts, d, r, h => by cases h
  | n + 1, [], d, r, h => by cases h
  | n + 1, t :: q, d, r, h => by
    rw [prD] at h
    split at h
    · rename_i hl
      split at h
      · rename_i hn
        cases h
        exact ⟨[t], rfl, fun w hw => by obtain rfl := List.mem_singleton.1 hw; exact ⟨fun _ => .inl hn, .inl hl⟩⟩
      · split at h
        · rename_i hs
          cases h
          exact ⟨[t], rfl, fun w hw => by obtain rfl := List.mem_singleton.1 hw; exact ⟨fun _ => .inr hs, .inl hl⟩⟩
        · cases h
    · rename_i hl
      split at h
      · rename_i h39
        have ht : okTok t := ⟨fun g => absurd g hl, .inr (.inl h39)⟩
        split at h
        · cases h
        · split at h
          · rename_i x r' hx
            obtain ⟨us, h1, h2⟩ := prD_okT n _ _ _ hx
            cases h
            exact ⟨t :: us, by rw [h1]; rfl, fun w hw => (List.mem_cons.1 hw).elim (fun e => e ▸ ht) (h2 w)⟩
          · cases h
      · split at h
        · rename_i h40
          have ht : okTok t := ⟨fun g => absurd g hl, .inr (.inr (.inl h40))⟩
          split at h
          · rename_i x r' hx
            obtain ⟨us, h1, h2⟩ := prL_okT (prD_okT n) _ _ _ _ _ hx
            cases h
            exact ⟨t :: us, by rw [h1]; rfl, fun w hw => (List.mem_cons.1 hw).elim (fun e => e ▸ ht) (h2 w)⟩
          · cases h
        · cases h
theorem prA_okT : ∀ (k : Nat) (ts : List Tok) (l D : Dats), prA k ts l = some D → ∀ w ∈ ts, okTok w
  | 0, ts, l, D, h => by cases h
  | k + 1, [], l, D, h => fun w hw => by cases hw
  | k + 1, t :: q, l, D, h => by
    rw [prA] at h
    split at h
    · rename_i d r' hd
      obtain ⟨us, h1, h2⟩ := prD_okT 1000 _ _ _ hd
      have h3 := prA_okT k r' _ D h
      intro w hw
      rw [h1] at hw
      exact (List.mem_append.1 hw).elim (h2 w) (h3 w)
    · cases h
/-- The parts, with a blank between two atoms. -/
def bareB : Bool → List Tok → List UInt8
  | _, [] => []
  | b, w :: r => (if b = true ∧ letC (hd0 w) = true then [32] else []) ++ (w ++ bareB (letC (hd0 w)) r)
theorem bareB_len : ∀ (n : Nat) (l : List UInt8) (b : Bool), l.length ≤ n → (bareB b (tok l)).length ≤ 2 * l.length
  | n, [], b, _ => by rw [tok_nil]; exact Nat.le_refl _
  | 0, c :: r, b, h => by simp at h
  | n + 1, c :: r, b, h => by
    have hr : r.length ≤ n := by simpa using h
    have h1 := dropWhile_len nl10 r
    have h2 := dropWhile_len lle r
    rw [tok_cons]
    split
    · have := bareB_len n r b hr
      simp only [List.length_cons]; omega
    · split
      · have := bareB_len n (r.dropWhile nl10) b (by omega)
        simp only [List.length_cons]; omega
      · split
        · have := bareB_len n (r.dropWhile lle) (letC (hd0 (c :: r.takeWhile lle))) (by omega)
          have e : r.length = (r.takeWhile lle).length + (r.dropWhile lle).length := by rw [← List.length_append, List.takeWhile_append_dropWhile]
          rw [bareB]
          split <;> simp only [List.length_append, List.length_cons, List.length_nil] at this ⊢ <;> omega
        · have := bareB_len n r (letC (hd0 [c])) hr
          rw [bareB]
          split <;> simp only [List.length_append, List.length_cons, List.length_nil] at this ⊢ <;> omega
/-! ### The parts with their offsets -/
def nxE (s : ByteArray) (a : Nat) : Nat := max (letE s a) (a + 1)
def tkA (s : ByteArray) : Nat → Nat → List (ByteArray × Nat)
  | 0, _ => []
  | k + 1, a => if a < s.size then (s.extract a (nxE s a), a) :: tkA s k (skp s (nxE s a)) else []
theorem nxE_gt (s : ByteArray) (a : Nat) : a < nxE s a := by unfold nxE; omega
theorem nxE_le (s : ByteArray) (a : Nat) (h : a < s.size) : nxE s a ≤ s.size := by have := letE_le s a (by omega); unfold nxE; omega
theorem tkA_more (s : ByteArray) : ∀ (k m a : Nat), s.size - a ≤ k → k ≤ m → tkA s m a = tkA s k a
  | 0, m, a, h, _ => by
    cases m with
    | zero => rfl
    | succ m => exact if_neg (by omega)
  | k + 1, m, a, h, hm => by
    obtain ⟨m, rfl⟩ : ∃ j, m = j + 1 := ⟨m - 1, by omega⟩
    rw [tkA, tkA]
    split
    · have h1 := nxE_gt s a
      have h2 := skp_ge s (nxE s a)
      rw [tkA_more s k m (skp s (nxE s a)) (by omega) (by omega)]
    · rfl
def tkO (s : ByteArray) (a : Nat) : List (ByteArray × Nat) := tkA s (s.size - a) a
theorem tkO_out (s : ByteArray) (a : Nat) (h : s.size ≤ a) : tkO s a = [] := by unfold tkO; rw [show s.size - a = 0 by omega]; rfl
theorem tkO_at (s : ByteArray) (a : Nat) (h : a < s.size) : tkO s a = (s.extract a (nxE s a), a) :: tkO s (skp s (nxE s a)) := by
  unfold tkO
  obtain ⟨k, hk⟩ : ∃ k, s.size - a = k + 1 := ⟨s.size - a - 1, by omega⟩
  have h1 := nxE_gt s a
  have h2 := skp_ge s (nxE s a)
  rw [hk, tkA, if_pos h, tkA_more s (s.size - skp s (nxE s a)) k (skp s (nxE s a)) (Nat.le_refl _) (by omega)]
theorem tkO_toks (s : ByteArray) : ∀ (k a : Nat), s.size - a ≤ k → Clean s a → (tkO s a).map (fun x => x.1.data.toList) = toks s a
  | k, a, h, hc => by
    rcases Nat.lt_or_ge a s.size with hlt | hge
    · obtain ⟨k, rfl⟩ : ∃ j, k = j + 1 := ⟨k - 1, by omega⟩
      have h1 := nxE_gt s a
      have h2 := skp_ge s (nxE s a)
      rw [tkO_at s a hlt, List.map_cons, tkO_toks s k (skp s (nxE s a)) (by omega) (clean_skp s _), (toks_skp s _ (nxE s a) (Nat.le_refl _)).1]
      cases hl : letC (bt s (a : Int)) with
      | true =>
        have e : nxE s a = letE s a := by
          have : a + 1 ≤ letE s a := by rw [letE_eq, if_pos ⟨hlt, hl⟩]; exact letE_ge s (a + 1)
          unfold nxE; omega
        rw [e, toks_at_let hlt hc hl]
      | false =>
        have e : nxE s a = a + 1 := by
          have : letE s a = a := by rw [letE_eq, if_neg (by rw [hl]; intro g; exact absurd g.2 (by decide))]
          unfold nxE; omega
        obtain ⟨c, g1, g2⟩ := toks_at hlt hc hl
        obtain ⟨c', g3, g4⟩ := bt_drop0 s a hlt
        rw [e, g2]
        congr 1
        show (s.extract a (a + 1)).data.toList = [c]
        rw [ext_list, g3, show a + 1 - a = 1 by omega]
        rw [g1] at g4
        have : c = c' := by
          have : (c.toNat : Int) = c'.toNat := g4
          exact UInt8.toNat_inj.1 (by omega)
        rw [this]; rfl
    · rw [tkO_out s a hge, toks_out s a hge]; rfl
/-- A string without what is not needed. -/
noncomputable def bareX (s : ByteArray) : ByteArray := if alE s = 0 then mkB (bareB false (toks s 0)) else ⟨#[]⟩
end Seat
end Go.Proofs.YtenpjkcclmmlhaaDoor
/- A bare string, along a list of its parts (plain Lean). -/
namespace Go.Proofs.YtenpjkcclmmlhaaDoor
open Go.AS
set_option linter.unusedVariables false
set_option linter.unusedSimpArgs false
set_option maxRecDepth 10000
namespace Seat
def bareL : Bool → List ByteArray → List UInt8
  | _, [] => []
  | b, w :: r => (if b = true ∧ letC (bt w 0) = true then [32] else []) ++ (w.data.toList ++ bareL (letC (bt w 0)) r)
def tkB (s : ByteArray) (a : Nat) : List ByteArray := (tkO s a).map (·.1)
theorem hd0_bt {w : ByteArray} (h : 0 < w.size) : hd0 w.data.toList = bt w 0 := by
  obtain ⟨c, h1, h2⟩ := bt_drop0 w 0 h
  rw [List.drop_zero] at h1
  rw [h1]
  exact h2.symm
theorem bareL_eq : ∀ (b : Bool) (l : List ByteArray), (∀ w ∈ l, 0 < w.size) → bareL b l = bareB b (l.map (·.data.toList))
  | b, [], _ => rfl
  | b, w :: r, h => by
    rw [bareL, List.map_cons, bareB, hd0_bt (h w (List.mem_cons_self ..)), bareL_eq _ r (fun x hx => h x (List.mem_cons_of_mem _ hx))]
theorem tkB_pos (s : ByteArray) : ∀ (k a : Nat), s.size - a ≤ k → ∀ w ∈ tkB s a, 0 < w.size
  | k, a, h, w, hw => by
    unfold tkB at hw
    rcases Nat.lt_or_ge a s.size with hlt | hge
    · obtain ⟨k, rfl⟩ : ∃ j, k = j + 1 := ⟨k - 1, by omega⟩
      have h1 := nxE_gt s a
      have h2 := skp_ge s (nxE s a)
      have h3 := nxE_le s a hlt
      rw [tkO_at s a hlt, List.map_cons] at hw
      rcases List.mem_cons.1 hw with rfl | hw
      · show 0 < (s.extract a (nxE s a)).size
        rw [ByteArray.size_extract]; omega
      · exact tkB_pos s k (skp s (nxE s a)) (by omega) w hw
    · rw [tkO_out s a hge] at hw
      cases hw
def bareN (s : ByteArray) : List UInt8 := bareL false (tkB s (skp s 0))
theorem bareN_eq (s : ByteArray) : bareN s = bareB false (toks s 0) := by
  unfold bareN
  rw [bareL_eq _ _ (tkB_pos s _ _ (Nat.le_refl _)), tkB, List.map_map]
  have := tkO_toks s _ (skp s 0) (Nat.le_refl _) (clean_skp s 0)
  rw [(toks_skp s _ 0 (Nat.le_refl _)).1] at this
  rw [← this]
  rfl
theorem bareN_len (s : ByteArray) : (bareN s).length ≤ 2 * s.size := by
  rw [bareN_eq]
  have h1 := bareB_len _ s.data.toList false (Nat.le_refl _)
  have h2 : toks s 0 = tok s.data.toList := by unfold toks; rw [List.drop_zero]
  rw [h2]
  have hlen : s.data.toList.length = s.size := Array.length_toList
  omega
def bareA (s : ByteArray) : Int := if alE s = 0 then 0 else alA s
/-- Whether the part before is an atom. -/
def lastL (L : List ByteArray) : Nat → Bool
  | 0 => false
  | i + 1 => letC (bt (L.getD i ⟨#[]⟩) 0)
theorem bareL_at {L : List ByteArray} {j : Nat} (h : j < L.length) : bareL (lastL L j) (L.drop j) = (if lastL L j = true ∧ letC (bt (L.getD j ⟨#[]⟩) 0) = true then [32] else []) ++ ((L.getD j ⟨#[]⟩).data.toList ++ bareL (lastL L (j + 1)) (L.drop (j + 1))) := by
  have e : L.getD j ⟨#[]⟩ = L[j] := by simp [List.getD, h]
  rw [List.drop_eq_getElem_cons h, bareL, lastL, e]
theorem str_app (u w : ByteArray) : (u ++ w).data.toList = u.data.toList ++ w.data.toList := by
  show (ByteArray.append u w).data.toList = _
  simp
theorem str_len (u : ByteArray) : u.data.toList.length = u.size := Array.length_toList
end Seat
end Go.Proofs.YtenpjkcclmmlhaaDoor
/- Atoms of a bare string: their text is theirs. -/
namespace Go.AS
theorem VReps.nzL {E : Env} {w : World} {xs : List PV} {vs : List Value} (h : VReps E w xs vs) : VReps E w (nzL xs) vs :=
  ⟨h.1.trans (nzL_len _).symm, nz_at (T := VRep E w) fun j x v hx hv => (h.2 j x v hx hv).nz⟩
/-- A call with nil slices is one with empty ones. -/
theorem PCalls.nzA {G : Prg} {f : FuncId} {args : List PV} {bx : List Box} {R : Out → List Box → Prop} (h : PCalls G f (nzL args) bx R) : PCalls G f args bx R := fun E w vs hh hv => h E w vs hh hv.nzL
theorem Pure.nzA {G : Prg} {f : FuncId} {args : List PV} {R : PV → Prop} (h : Pure G f (nzL args) R) : Pure G f args R := PCalls.nzA h
end Go.AS
namespace Go.Proofs.YtenpjkcclmmlhaaDoor
open Go.AS
set_option linter.unusedVariables false
set_option linter.unusedSimpArgs false
set_option maxRecDepth 10000
namespace Seat
theorem wrap_rngK (n : Int) : -9223372036854775808 ≤ IntKind.wrap IntKind.i64 n ∧ IntKind.wrap IntKind.i64 n ≤ 9223372036854775807 := by rw [IntKind.wrap_i64]; omega
theorem numT_rngK (t : ByteArray) (b : Bool) : -9223372036854775808 ≤ (numT t b).1 ∧ (numT t b).1 ≤ 9223372036854775807 := by
  unfold numT
  split
  · decide
  · split
    · decide
    · split
      · exact wrap_rngK _
      · exact wrap_rngK _
theorem numV_rngK (w : ByteArray) : -9223372036854775808 ≤ (numV w).1 ∧ (numV w).1 ≤ 9223372036854775807 := by
  unfold numV
  split
  · exact numT_rngK _ _
  · exact numT_rngK _ _
theorem itoa_num {w : ByteArray} (h : (numV w).2 = true) : Go.Lib.itoa (numV w).1 = w.data.toList := by
  have hq := num_A w (numV w).1 (by rw [← h])
  obtain ⟨x, hx⟩ : ∃ x, x = (numV w).1 := ⟨_, rfl⟩
  rw [← hx] at hq ⊢
  unfold numQ at hq
  split at hq
  · rename_i v hv
    obtain ⟨rfl, h2⟩ := Prod.mk.inj hq
    rw [bl_eq, bl_eq, toList_mk] at h2
    exact eq_of_beq h2
  · cases hq
  · cases hq
def atD (s : ByteArray) (a : Nat) : Dat := .mk (ndK (atX s a)) (ndN (atX s a)) (ndT (atX s a)) .nil
theorem atD_at {s : ByteArray} {a : Nat} (h : (numV (s.extract a (letE s a))).2 = true ∨ symOk (s.extract a (letE s a)) = true) : atE s a = 0 ∧ atA s a = letE s a ∧ textD (atD s a) = (s.extract a (letE s a)).data.toList ∧ (atD s a).ok ∧ (atD s a).rng := by
  unfold atD atE atA atX atomR
  obtain ⟨w, hw⟩ : ∃ w, w = s.extract a (letE s a) := ⟨_, rfl⟩
  rw [← hw] at h ⊢
  by_cases h1 : (numV w).2 = true
  · rw [if_pos h1]
    refine ⟨rfl, rfl, ?_, ⟨by simp [Dats.len], trivial⟩, ⟨numV_rngK w, trivial⟩⟩
    show textD (.mk 1 (numV w).1 ⟨#[]⟩ .nil) = _
    rw [textD, if_pos rfl, itoa_num h1]
  · have h2 : symOk w = true := h.resolve_left h1
    rw [if_neg h1, if_pos h2]
    refine ⟨rfl, rfl, ?_, ⟨by simp [Dats.len], trivial⟩, ⟨(show (-9223372036854775808 : Int) ≤ 0 ∧ (0 : Int) ≤ 9223372036854775807 by decide), trivial⟩⟩
    show textD (.mk 2 0 w .nil) = _
    rw [textD, if_neg (by decide), if_pos rfl]
/-- Each atom of a string that can be read is a right one. -/
theorem ok_atoms {s : ByteArray} (he : alE s = 0) : ∀ w ∈ toks s 0, okTok w := prA_okT _ _ _ _ (al_pr he)
theorem atom_right {s : ByteArray} (he : alE s = 0) {a : Nat} (ha : a < s.size) (hm : s.extract a (nxE s a) ∈ tkB s (skp s 0)) (hl : letC (bt s (a : Int)) = true) : (numV (s.extract a (letE s a))).2 = true ∨ symOk (s.extract a (letE s a)) = true := by
  have hgt := letE_gt ha hl
  have e : nxE s a = letE s a := by unfold nxE; omega
  rw [e] at hm
  have hle := letE_le s a (by omega)
  have hpos : 0 < (s.extract a (letE s a)).size := by rw [ByteArray.size_extract]; omega
  have key := tkO_toks s _ (skp s 0) (Nat.le_refl _) (clean_skp s 0)
  rw [(toks_skp s _ 0 (Nat.le_refl _)).1] at key
  have hin : (s.extract a (letE s a)).data.toList ∈ toks s 0 := by
    rw [← key]
    obtain ⟨x, hx, hx2⟩ := List.mem_map.1 hm
    exact List.mem_map.2 ⟨x, hx, by rw [← hx2]⟩
  have := (ok_atoms he _ hin).1
  have hb : letC (hd0 (s.extract a (letE s a)).data.toList) = true := by
    have hlist : (s.extract a (letE s a)).data.toList = (s.data.toList.drop a).take (letE s a - a) := ext_list s a (letE s a)
    obtain ⟨c, h1, h2⟩ := bt_drop0 s a ha
    rw [hlist, h1]
    obtain ⟨k, hk⟩ : ∃ k, letE s a - a = k + 1 := ⟨letE s a - a - 1, by omega⟩
    rw [hk, List.take_succ_cons]
    show letC (c.toNat : Int) = true
    rw [← h2]; exact hl
  have h3 := this hb
  rw [show mkB (s.extract a (letE s a)).data.toList = s.extract a (letE s a) from mkB_list _] at h3
  exact h3
theorem sign_right {s : ByteArray} (he : alE s = 0) {a : Nat} (ha : a < s.size) (hm : s.extract a (nxE s a) ∈ tkB s (skp s 0)) : letC (bt s (a : Int)) = true ∨ bt s (a : Int) = 39 ∨ bt s (a : Int) = 40 ∨ bt s (a : Int) = 41 := by
  have h1 := nxE_gt s a
  have key := tkO_toks s _ (skp s 0) (Nat.le_refl _) (clean_skp s 0)
  rw [(toks_skp s _ 0 (Nat.le_refl _)).1] at key
  have hin : (s.extract a (nxE s a)).data.toList ∈ toks s 0 := by
    rw [← key]
    obtain ⟨x, hx, hx2⟩ := List.mem_map.1 hm
    exact List.mem_map.2 ⟨x, hx, by rw [← hx2]⟩
  have := (ok_atoms he _ hin).2
  have hb : hd0 (s.extract a (nxE s a)).data.toList = bt s (a : Int) := by
    have hlist : (s.extract a (nxE s a)).data.toList = (s.data.toList.drop a).take (nxE s a - a) := ext_list s a (nxE s a)
    obtain ⟨c, h1, h2⟩ := bt_drop0 s a ha
    rw [hlist, h1]
    obtain ⟨k, hk⟩ : ∃ k, nxE s a - a = k + 1 := ⟨nxE s a - a - 1, by omega⟩
    rw [hk, List.take_succ_cons]
    exact h2.symm
  rw [hb] at this
  exact this
end Seat
end Go.Proofs.YtenpjkcclmmlhaaDoor
/- The program's ReadAll (the first part of ReadB). -/
namespace Go.Proofs.YtenpjkcclmmlhaaDoor
open Go.AS Go.RowKit
set_option linter.unusedVariables false
set_option linter.unusedSimpArgs false
set_option maxRecDepth 100000
set_option maxHeartbeats 4000000
namespace Seat
noncomputable def rkS (f : Nat) (args : List PV) : Option (PV × Ob) := match f, args with
  | 48, [.str s] => some (.tup [.slice (azX s).dat.len (azX s).dat.cells, .int .i64 (azA s), .int .i64 (azE s)], [(Nat.ble s.size 1099511627776, true)])
  | _, _ => none
theorem rkS_ok (f : Nat) (args : List PV) (r : PV) (o : Ob) (h : rkS f args = some (r, o)) (ho : ∀ p ∈ o, p.1 = p.2) (_ : pureL args = true) : Pure G0 f args (fun x => x = r) := by
  unfold rkS at h
  split at h
  · rename_i s _
    cases h
    exact alls_ok s (Nat.le_of_ble_eq_true (ho _ (List.mem_singleton.2 rfl)))
  · cases h
noncomputable def SRkk (l : List (Nat × List (Nat × Bool))) (v : List (Nat × List (Nat × PV))) : Cfg G0 := { F := F, hF := hF, S := rkS, hS := rkS_ok, orc := orcM l, val := valM v }
theorem readAllP (s : ByteArray) : Pure G0 30 [.str s] (fun r => r = .tup [.slice (alX s).dat.len (alX s).dat.cells, .int .i64 (alA s), .int .i64 (alE s)]) := by
  refine Pure.nz ?_
  refine Fn.enterB Tryd.func30 Tryd.ntmps30 rfl (Nat.le_of_ble_eq_true rfl) fun C fr fp hnt hnb hp hfr hfp => ?_
  by_cases hb : 20000 < s.size
  · have d1 : decide (20000 < (s.size : Int)) = true := by rw [decide_eq_true_eq]; omega
    exact SWP.runQ (SRkk [(13, [(7, true)])] []) 100 13 hnt [2, 3, 4] (e := .ret) (z := { t := [(2, PV.nil), (3, PV.int IntKind.i64 (0 : Int)), (4, PV.int IntKind.i64 (3 : Int))], h := { bx := [], rw := [] } }) (o := [(decide (20000 < (↑(ByteArray.size s) : Int)), true), (true, true)]) (by kernel_rfl) (by ((repeat' (first | exact okO_nil | refine okN ?_ ?_)); all_goals first | assumption | rfl | exact same_of rfl | exact sameS_self _ | (simp only [decide_eq_true_eq, decide_eq_false_iff_not, Nat.ble_eq, Nat.beq_eq, beq_eq_false_iff_ne, beq_iff_eq, ne_eq] <;> omega))) (fun st hst => hfr st [2, 3, 4] (by
      rw [hst]
      refine ⟨0, .tup [.nil, .int .i64 0, .int .i64 3], Nat.le_refl _, Nat.zero_le _, rfl, rfl, rfl, rfl, _, rfl, ?_⟩
      unfold alX alA alE
      rw [alR_eq, if_pos hb]; rfl))
  · have d1 : decide (20000 < (s.size : Int)) = false := by rw [decide_eq_false_iff_not]; omega
    have d2 : Nat.ble s.size 1099511627776 = true := by rw [Nat.ble_eq]; omega
    exact SWP.runQ (SRkk [(13, [(7, false)])] []) 100 13 hnt [2, 3, 4] (e := .ret) (z := { t := [(2, PV.slice (Dats.len (Nds.dat (azX s))) (Dats.cells (Nds.dat (azX s)))), (3, PV.int IntKind.i64 (Prod.fst (Prod.snd (if RS.e (Prod.snd (rdZ s (ByteArray.size s + 1) (skp s 0) Nds.nil)) = 0 then ((rdZ s (ByteArray.size s + 1) (skp s 0) Nds.nil).1, (0 : Int), (0 : Int)) else (Nds.nil, RS.b (Prod.snd (rdZ s (ByteArray.size s + 1) (skp s 0) Nds.nil)), RS.e (Prod.snd (rdZ s (ByteArray.size s + 1) (skp s 0) Nds.nil))))))), (4, PV.int IntKind.i64 (Prod.snd (Prod.snd (if RS.e (Prod.snd (rdZ s (ByteArray.size s + 1) (skp s 0) Nds.nil)) = 0 then ((rdZ s (ByteArray.size s + 1) (skp s 0) Nds.nil).1, (0 : Int), (0 : Int)) else (Nds.nil, RS.b (Prod.snd (rdZ s (ByteArray.size s + 1) (skp s 0) Nds.nil)), RS.e (Prod.snd (rdZ s (ByteArray.size s + 1) (skp s 0) Nds.nil)))))))], h := { bx := [], rw := [] } }) (o := [(decide (20000 < (↑(ByteArray.size s) : Int)), false), (false, false), (true, true), (Nat.ble (ByteArray.size s) 1099511627776, true)]) (by kernel_rfl) (by ((repeat' (first | exact okO_nil | refine okN ?_ ?_)); all_goals first | assumption | rfl | exact same_of rfl | exact sameS_self _ | (simp only [decide_eq_true_eq, decide_eq_false_iff_not, Nat.ble_eq, Nat.beq_eq, beq_eq_false_iff_ne, beq_iff_eq, ne_eq] <;> omega))) (fun st hst => hfr st [2, 3, 4] (by
      rw [hst]
      refine ⟨0, .tup [.slice (azX s).dat.len (azX s).dat.cells, .int .i64 (azA s), .int .i64 (azE s)], Nat.le_refl _, Nat.zero_le _, rfl, rfl, rfl, rfl, _, rfl, ?_⟩
      show PV.tup [.slice (azX s).dat.len (nzL (azX s).dat.cells), .int .i64 (azA s), .int .i64 (azE s)] = _
      unfold alX alA alE
      rw [alR_eq, if_neg hb, Dats.nz]; rfl))
end Seat
end Go.Proofs.YtenpjkcclmmlhaaDoor
/- The program's Bare. Printed by dev/bpp.py and dev/nfsub.py (this session's). -/
namespace Go.Proofs.YtenpjkcclmmlhaaDoor
open Go.AS Go.RowKit
set_option linter.unusedVariables false
set_option linter.unusedSimpArgs false
set_option maxRecDepth 100000
set_option maxHeartbeats 4000000
namespace Seat
open Classical in
noncomputable def isAtD (k n : Int) (t : ByteArray) : Bool := decide ((Dat.mk k n t .nil).ok ∧ (Dat.mk k n t .nil).rng ∧ 0 < (textD (.mk k n t .nil)).length ∧ (textD (.mk k n t .nil)).length ≤ 140737488355328)
theorem isAtD_of {k n : Int} {t : ByteArray} (h : isAtD k n t = true) : (Dat.mk k n t .nil).ok ∧ (Dat.mk k n t .nil).rng ∧ 0 < (textD (.mk k n t .nil)).length ∧ (textD (.mk k n t .nil)).length ≤ 140737488355328 := by
  unfold isAtD at h
  classical exact of_decide_eq_true h
theorem isAtD_at {k n : Int} {t : ByteArray} (h1 : (Dat.mk k n t .nil).ok) (h2 : (Dat.mk k n t .nil).rng) (h3 : 0 < (textD (.mk k n t .nil)).length) (h4 : (textD (.mk k n t .nil)).length ≤ 140737488355328) : isAtD k n t = true := by
  unfold isAtD
  classical exact decide_eq_true ⟨h1, h2, h3, h4⟩
noncomputable def bpS (f : Nat) (args : List PV) : Option (PV × Ob) := match f, args with
  | 30, [.str s] => some (.tup [.slice (alX s).dat.len (alX s).dat.cells, .int .i64 (alA s), .int .i64 (alE s)], [])
  | 51, [.int .u8 c] => some (.bool (letC c), [(decide (0 ≤ c ∧ c < 256), true)])
  | 42, [.agg [.int .i64 k, .int .i64 n, .str t, .nil]] => some (.str (mkS (textD (.mk k n t .nil))), [(isAtD k n t, true)])
  | _, _ => none
theorem bpS_ok (f : Nat) (args : List PV) (r : PV) (o : Ob) (h : bpS f args = some (r, o)) (ho : ∀ p ∈ o, p.1 = p.2) (_ : pureL args = true) : Pure G0 f args (fun x => x = r) := by
  unfold bpS at h
  split at h
  · cases h
    exact readAllP _
  · cases h; exact isAtom_ok _ (of_decide_eq_true (ho _ (List.mem_singleton.2 rfl)))
  · rename_i k n t _
    cases h
    obtain ⟨h1, h2, h3, h4⟩ := isAtD_of (ho _ (List.mem_singleton.2 rfl))
    exact Pure.nzA (text_prog (.mk k n t .nil) h1 h2 h3 h4)
  · cases h
noncomputable def SBp (l : List (Nat × List (Nat × Bool))) (v : List (Nat × List (Nat × PV))) : Cfg G0 := { F := F, hF := hF, S := bpS, hS := bpS_ok, B := pdB false 0, hB := pdB_ok (fun h => by cases h), V := ccV, hV := ccV_ok, hp := hpB, D := hpB, orc := orcM l, val := valM v }
def cA (s : ByteArray) (a : Nat) : Int := if a < s.size then bt s (a : Int) else 0
def bpT (s : ByteArray) (a : Nat) (b : Bool) : List UInt8 → AS
  | [] => ⟨[(8, .ptr 0 0), (9, .ptr 1 0), (10, .bool b), (11, .int .u8 (cA s a))], ⟨[bB0, rP s a], []⟩⟩
  | x :: xs => ⟨[(8, .ptr 0 0), (9, .ptr 1 0), (10, .bool b), (11, .int .u8 (cA s a))], ⟨[bB (xs.length + 1), rP s a], [some (bR (bytesPL (x :: xs)) (xs.length + 1))]⟩⟩
theorem bt_ext {s : ByteArray} {a : Nat} (ha : a < s.size) : bt (s.extract a (nxE s a)) 0 = bt s (a : Int) := by
  have h1 := nxE_gt s a
  have h3 := nxE_le s a ha
  rw [← hd0_bt (by rw [ByteArray.size_extract]; omega)]
  have hlist : (s.extract a (nxE s a)).data.toList = (s.data.toList.drop a).take (nxE s a - a) := ext_list s a (nxE s a)
  obtain ⟨c, h1, h2⟩ := bt_drop0 s a ha
  rw [hlist, h1]
  obtain ⟨k, hk⟩ : ∃ k, nxE s a - a = k + 1 := ⟨nxE s a - a - 1, by omega⟩
  rw [hk, List.take_succ_cons]
  exact h2.symm
theorem tkB_at (s : ByteArray) (a : Nat) (h : a < s.size) : tkB s a = s.extract a (nxE s a) :: tkB s (skp s (nxE s a)) := by unfold tkB; rw [tkO_at s a h]; rfl
theorem tkB_out (s : ByteArray) (a : Nat) (h : s.size ≤ a) : tkB s a = [] := by unfold tkB; rw [tkO_out s a h]; rfl
theorem bareP (s : ByteArray) : Pure G0 33 [.str s] (fun r => r = .tup [.str (bareX s), .int .i64 (bareA s), .int .i64 (alE s)]) := by
  refine Fn.enterB Tryd.func33 Tryd.ntmps33 rfl (Nat.le_of_ble_eq_true rfl) fun C fr fp hnt hnb hp hfr hfp => ?_
  have fin : ∀ st u a e H, nrm [2, 3, 4] st = ⟨[(2, .str u), (3, .int .i64 a), (4, .int .i64 e)], H⟩ → u = bareX s → a = bareA s → e = alE s → fr st := fun st u a e H hst g1 g2 g3 => hfr st [2, 3, 4] (by
    rw [hst]
    exact ⟨0, .tup [.str u, .int .i64 a, .int .i64 e], Nat.le_refl _, Nat.zero_le _, rfl, rfl, rfl, rfl, _, rfl, by rw [g1, g2, g3]⟩)
  refine Q.runSeq (SBp [] []) 100 50 hnt [0] (z := { t := [(0, PV.str s)], h := { bx := [], rw := [] } }) (o := []) (by kernel_rfl) (by ((repeat' (first | exact okO_nil | refine okN ?_ ?_)); all_goals first | assumption | rfl | exact same_of rfl | exact sameS_self _ | (simp only [decide_eq_true_eq, decide_eq_false_iff_not, Nat.ble_eq, Nat.beq_eq, beq_eq_false_iff_ne, beq_iff_eq, ne_eq] <;> omega))) ?_
  by_cases he : alE s = 0
  · have d1 : (!alE s == (0 : Int)) = false := by rw [he]; rfl
    have hsz := alE_size he
    have hss : Nat.ble s.size 1099511627776 = true := Nat.ble_eq_true_of_le (by omega)
    have hX : bareX s = mkB (bareN s) := by unfold bareX; rw [if_pos he, bareN_eq]
    have hA : bareA s = 0 := if_pos he
    have hlen := bareN_len s
    refine Q.runSeq (SBp [(50, [(19, false)])] []) 100 50 hnt [0] (z := { t := [(0, PV.str s)], h := { bx := [], rw := [] } }) (o := [(true, true), (!alE s == (0 : Int), false), (false, false)]) (by kernel_rfl) (by ((repeat' (first | exact okO_nil | refine okN ?_ ?_)); all_goals first | assumption | rfl | exact same_of rfl | exact sameS_self _ | (simp only [decide_eq_true_eq, decide_eq_false_iff_not, Nat.ble_eq, Nat.beq_eq, beq_eq_false_iff_ne, beq_iff_eq, ne_eq] <;> omega))) ?_
    refine Q.runSeq (SBp [] []) 100 50 hnt [0, 8] (z := { t := [(0, PV.str s), (8, PV.ptr 0 0)], h := { bx := [{ cs := [PV.nilptr, PV.nil], ty := 84 }], rw := [] } }) (o := []) (by kernel_rfl) (by ((repeat' (first | exact okO_nil | refine okN ?_ ?_)); all_goals first | assumption | rfl | exact same_of rfl | exact sameS_self _ | (simp only [decide_eq_true_eq, decide_eq_false_iff_not, Nat.ble_eq, Nat.beq_eq, beq_eq_false_iff_ne, beq_iff_eq, ne_eq] <;> omega))) ?_
    refine Q.runSeq (SBp [] []) 100 50 hnt [8, 9] (z := { t := [(8, PV.ptr 0 0), (9, PV.ptr 1 0)], h := { bx := [{ cs := [PV.nilptr, PV.nil], ty := 84 }, { cs := [PV.str s, PV.int IntKind.i64 (0 : Int)], ty := 87 }], rw := [] } }) (o := []) (by kernel_rfl) (by ((repeat' (first | exact okO_nil | refine okN ?_ ?_)); all_goals first | assumption | rfl | exact same_of rfl | exact sameS_self _ | (simp only [decide_eq_true_eq, decide_eq_false_iff_not, Nat.ble_eq, Nat.beq_eq, beq_eq_false_iff_ne, beq_iff_eq, ne_eq] <;> omega))) ?_
    refine Q.runSeq (SBp [] []) 100 50 hnt [8, 9, 10] (z := { t := [(8, PV.ptr 0 0), (9, PV.ptr 1 0), (10, PV.bool false)], h := { bx := [{ cs := [PV.nilptr, PV.nil], ty := 84 }, { cs := [PV.str s, PV.int IntKind.i64 (0 : Int)], ty := 87 }], rw := [] } }) (o := []) (by kernel_rfl) (by ((repeat' (first | exact okO_nil | refine okN ?_ ?_)); all_goals first | assumption | rfl | exact same_of rfl | exact sameS_self _ | (simp only [decide_eq_true_eq, decide_eq_false_iff_not, Nat.ble_eq, Nat.beq_eq, beq_eq_false_iff_ne, beq_iff_eq, ne_eq] <;> omega))) ?_
    refine Q.seq fun K9 hK9 => ?_
    refine Q.runSeq (SBp [] []) 100 50 hnt [8, 9, 10, 11] (z := ⟨[(8, .ptr 0 0), (9, .ptr 1 0), (10, .bool false), (11, .int .u8 (cA s (skp s 0)))], ⟨[bB0, rP s (skp s 0)], []⟩⟩) (o := [(true, true), (Nat.ble (ByteArray.size s) 1099511627776, true)]) (by kernel_rfl) (by ((repeat' (first | exact okO_nil | refine okN ?_ ?_)); all_goals first | assumption | rfl | exact same_of rfl | exact sameS_self _ | (simp only [decide_eq_true_eq, decide_eq_false_iff_not, Nat.ble_eq, Nat.beq_eq, beq_eq_false_iff_ne, beq_iff_eq, ne_eq] <;> omega))) ?_
    refine Q.block ?_
    obtain ⟨q, hq⟩ : ∃ q, q = skp s 0 := ⟨_, rfl⟩
    have hq2 : q ≤ s.size := by rw [hq]; exact skp_le s 0 (Nat.zero_le _)
    have hq3 : Clean s q := by rw [hq]; exact clean_skp s 0
    have hN : bareN s = bareL false (tkB s q) := by rw [hq]; rfl
    have hright : ∀ {a : Nat}, a < s.size → s.extract a (nxE s a) ∈ tkB s q → _ := fun {a} ha hm => sign_right he ha (by rw [hq] at hm; exact hm)
    have hatom : ∀ {a : Nat}, a < s.size → s.extract a (nxE s a) ∈ tkB s q → letC (bt s (a : Int)) = true → _ := fun {a} ha hm hl => atom_right he ha (by rw [hq] at hm; exact hm) hl
    rw [← hq]
    refine Q.loopI (σ := { x : Nat × List UInt8 × Bool // x.1 ≤ s.size ∧ Clean s x.1 ∧ x.2.1 ++ bareL x.2.2 (tkB s x.1) = bareN s ∧ (∀ w ∈ tkB s x.1, w ∈ tkB s q) ∧ (x.2.1 = [] → x.2.2 = false) }) [8, 9, 10, 11] (fun x => bpT s x.1.1 x.1.2.2 x.1.2.1) (fun x => s.size - x.1.1) ⟨(q, [], false), hq2, hq3, hN.symm, fun w h => h, fun _ => rfl⟩ rfl fun ⟨(a, D, b), ha, hcl, hD, hin, hb0⟩ => ?_
    have ha : a ≤ s.size := ha
    have hcl : Clean s a := hcl
    have hD : D ++ bareL b (tkB s a) = bareN s := hD
    have hin : ∀ w ∈ tkB s a, w ∈ tkB s q := hin
    have hb0 : D = [] → b = false := hb0
    show SWP G0 C _ _ (bpT s a b D)
    obtain ⟨c, hc⟩ : ∃ c, c = cA s a := ⟨_, rfl⟩
    refine Q.seq fun K2 hK2 => ?_
    rcases Nat.lt_or_ge a s.size with hlt | hge
    · have hcb : c = bt s (a : Int) := by rw [hc]; exact if_pos hlt
      have hat := tkB_at s a hlt
      have hm : s.extract a (nxE s a) ∈ tkB s q := hin _ (by rw [hat]; exact List.mem_cons_self ..)
      have hsg := hright hlt hm
      have hatm := hatom hlt hm
      have hbe := bt_ext hlt
      have h3 := nxE_gt s a
      have h4 := nxE_le s a hlt
      rw [← hcb] at hsg hatm hbe
      have hc0 : ¬ c = 0 := by
        intro h
        rw [h] at hsg
        rcases hsg with g | g | g | g
        · exact absurd g (by decide)
        · exact absurd g (by decide)
        · exact absurd g (by decide)
        · exact absurd g (by decide)
      have d2 : (!c == (0 : Int)) = true := by rw [beqF hc0]; rfl
      have d3 : decide (0 ≤ c ∧ c < 256) = true := by rw [hcb]; exact decide_eq_true (bt_in s a)
      have d4 : decide (0 ≤ (a : Int) ∧ (a : Int) ≤ (s.size : Int)) = true := by rw [decide_eq_true_eq]; omega
      obtain ⟨y, hy⟩ : ∃ y, y = nxE s a := ⟨_, rfl⟩
      obtain ⟨w, hw⟩ : ∃ w, w = s.extract a (nxE s a) := ⟨_, rfl⟩
      have hin2 : ∀ x ∈ tkB s (skp s y), x ∈ tkB s q := fun x hx => hin x (by rw [hat, ← hy]; exact List.mem_cons_of_mem _ hx)
      rw [← hw, ← hy] at hat
      rw [← hw] at hbe
      have hD' : D ++ ((if b = true ∧ letC c = true then [32] else []) ++ (w.data.toList ++ bareL (letC c) (tkB s (skp s y)))) = bareN s := by rw [← hD, hat, bareL, hbe]
      have hdl := congrArg List.length hD'
      simp only [List.length_append, str_len] at hdl
      have d5 : decide (0 ≤ (y : Int) ∧ (y : Int) ≤ (s.size : Int)) = true := by rw [decide_eq_true_eq]; omega
      have hy2 : y ≤ s.size := by omega
      have hya : a < y := by omega
      have wi : letC c = false → IntKind.wrap IntKind.i64 (Int.ofNat (a + 1)) = ((y : Nat) : Int) := fun h => by
        have : letE s a = a := by rw [letE_eq, if_neg (by rw [← hcb, h]; intro g; exact absurd g.2 (by decide))]
        have : y = a + 1 := by rw [hy]; unfold nxE; omega
        rw [this]
        exact wrapI (a + 1) (by omega)
      have hw1 : letC c = false → bytesPL w.data.toList = [PV.int IntKind.u8 c] := fun h => by
        have h6 : letE s a = a := by rw [letE_eq, if_neg (by rw [← hcb, h]; intro g; exact absurd g.2 (by decide))]
        have h7 : y = a + 1 := by rw [hy]; unfold nxE; omega
        obtain ⟨c', g3, g4⟩ := bt_drop0 s a hlt
        rw [hw, ← hy, h7, ext_list, g3, show a + 1 - a = 1 by omega, hcb, g4]
        rfl
      have hw2 : w.data.toList.length = w.size := str_len w
      have hwp : w.data.toList ≠ [] := fun h => by
        have : w.size = y - a := by rw [hw, ← hy, ByteArray.size_extract]; omega
        rw [h] at hw2
        simp at hw2
        omega
      have d8 : same (.str (mkS w.data.toList)) (.str w) = true := same_of rfl
      have hat1 : letC c = true → atE s a = 0 ∧ atA s a = y ∧ textD (atD s a) = w.data.toList ∧ isAtD (ndK (atX s a)) (ndN (atX s a)) (ndT (atX s a)) = true := fun h => by
        obtain ⟨g1, g2, g3, g4, g5⟩ := atD_at (hatm h)
        have h6 : nxE s a = letE s a := by have := letE_gt hlt (by rw [← hcb]; exact h); unfold nxE; omega
        have g3' : textD (atD s a) = w.data.toList := by rw [g3, hw, h6]
        have hl2 := congrArg List.length g3'
        rw [hw2] at hl2
        have : 0 < w.data.toList.length := List.length_pos_iff.2 hwp
        exact ⟨g1, by rw [g2, hy, h6], g3', isAtD_at g4 g5 (by show 0 < (textD (atD s a)).length; omega) (by show (textD (atD s a)).length ≤ _; omega)⟩
      cases D with
      | nil =>
        obtain rfl := hb0 rfl
        refine swp_st (st' := ⟨[(8, .ptr 0 0), (9, .ptr 1 0), (10, .bool false), (11, .int .u8 c)], ⟨[bB0, rP s a], []⟩⟩) (by rw [hc]; rfl) ?_
        refine SWP.runQ (SBp [(50, [(28, true)])] []) 100 50 hnt [8, 9, 10, 11] (e := .normal) (z := ⟨[(8, .ptr 0 0), (9, .ptr 1 0), (10, .bool false), (11, .int .u8 c)], ⟨[bB0, rP s a], []⟩⟩) (o := [(!c == (0 : Int), true), (true, true)]) (by kernel_rfl) (by ((repeat' (first | exact okO_nil | refine okN ?_ ?_)); all_goals first | assumption | rfl | exact same_of rfl | exact sameS_self _ | (simp only [decide_eq_true_eq, decide_eq_false_iff_not, Nat.ble_eq, Nat.beq_eq, beq_eq_false_iff_ne, beq_iff_eq, ne_eq] <;> omega))) (fun st hst => hK2 st (.norm [8, 9, 10, 11] ?_))
        rw [hst]
        clear hst hK2
        rw [if_neg (fun g => absurd g.1 (by decide))] at hD'
        refine Q.seq fun K3 hK3 => ?_
        have next : ∀ st (m2 : Nat) (r2 : List PV) (b2 : Bool) (D2 : List UInt8), D2 ≠ [] → r2 = bytesPL D2 → m2 = D2.length → D2 ++ bareL b2 (tkB s (skp s y)) = bareN s → nrm [8, 9, 10] st = ⟨[(8, .ptr 0 0), (9, .ptr 1 0), (10, .bool b2)], ⟨[bB m2, rP s y], [some (bR r2 m2)]⟩⟩ → K3 st := fun st m2 r2 b2 D2 h0 hr2 hm2 hD2 hst => hK3 st (.norm [8, 9, 10] (by
          rw [hst]
          exact SWP.runQ (SBp [] []) 100 50 hnt [8, 9, 10, 11] (e := .normal) (z := ⟨[(8, .ptr 0 0), (9, .ptr 1 0), (10, .bool b2), (11, .int .u8 (cA s (skp s y)))], ⟨[bB m2, rP s (skp s y)], [some (bR r2 m2)]⟩⟩) (o := [(decide (0 ≤ (y : Int) ∧ (y : Int) ≤ (s.size : Int)), true), (Nat.ble s.size 1099511627776, true)]) (by kernel_rfl) (by ((repeat' (first | exact okO_nil | refine okN ?_ ?_)); all_goals first | assumption | rfl | exact same_of rfl | exact sameS_self _ | (simp only [decide_eq_true_eq, decide_eq_false_iff_not, Nat.ble_eq, Nat.beq_eq, beq_eq_false_iff_ne, beq_iff_eq, ne_eq] <;> omega))) (fun st hst => ⟨⟨(skp s y, D2, b2), skp_le s y hy2, clean_skp s y, hD2, hin2, fun h => absurd h h0⟩, Nat.sub_lt_sub_left hlt (Nat.lt_of_lt_of_le hya (skp_ge s y)), by
            rw [hst, hr2, hm2]
            cases D2 with
            | nil => exact absurd rfl h0
            | cons z zs => rfl⟩)))
        cases hl : letC c with
        | false =>
          have d6 : (!letC c) = true := by rw [hl]; rfl
          rw [hl] at hD'
          exact SWP.runQ (SBp [(50, [(33, true)]), (17, [(14, true)])] []) 100 50 hnt [8, 9, 10] (e := .normal) (z := ⟨[(8, .ptr 0 0), (9, .ptr 1 0), (10, .bool false)], ⟨[bB 1, ⟨[.str s, .int .i64 (IntKind.wrap IntKind.i64 (Int.ofNat (a + 1)))], 87⟩], [some (bR [PV.int IntKind.u8 c] 1)]⟩⟩) (o := [(true, true), (decide (0 ≤ c ∧ c < 256), true), (!letC c, true), (true, true), (true, true), (true, true), (true, true)]) (by kernel_rfl) (by ((repeat' (first | exact okO_nil | refine okN ?_ ?_)); all_goals first | assumption | rfl | exact same_of rfl | exact sameS_self _ | (simp only [decide_eq_true_eq, decide_eq_false_iff_not, Nat.ble_eq, Nat.beq_eq, beq_eq_false_iff_ne, beq_iff_eq, ne_eq] <;> omega))) (fun st hst => next st 1 [PV.int IntKind.u8 c] false w.data.toList hwp (hw1 hl).symm (by have := congrArg List.length (hw1 hl); rw [bytesPL_length] at this; rw [this]; rfl) hD' (by rw [hst, wi hl]; rfl))
        | true =>
          have d6 : (!letC c) = false := by rw [hl]; rfl
          obtain ⟨e1, e2, e3, e4⟩ := hat1 hl
          have d7 : decide (atE s a = 0) = true := decide_eq_true e1
          rw [← e3] at d8
          have d9 : Nat.ble (0 + w.size) 140737488355328 = true := Nat.ble_eq_true_of_le (by omega)
          rw [hl] at hD'
          exact SWP.runQ (SBp [(50, [(33, false)]), (19, [(14, true)])] [(50, [(47, .str w)])]) 100 50 hnt [8, 9, 10] (e := .normal) (z := ⟨[(8, .ptr 0 0), (9, .ptr 1 0), (10, .bool true)], ⟨[bB (0 + w.size), rP s (atA s a)], [some (bR ([] ++ bytesPV w) (0 + w.size))]⟩⟩) (o := [(true, true), (decide (0 ≤ c ∧ c < 256), true), (!letC c, false), (false, false), (decide (0 ≤ (a : Int) ∧ (a : Int) ≤ (s.size : Int)), true), (decide (atE s a = 0), true), (Nat.ble s.size 1099511627776, true), (true, true), (isAtD (ndK (atX s a)) (ndN (atX s a)) (ndT (atX s a)), true), (same (.str (mkS (textD (atD s a)))) (.str w), true), (Nat.ble (0 + w.size) 140737488355328, true)]) (by kernel_rfl) (by ((repeat' (first | exact okO_nil | refine okN ?_ ?_)); all_goals first | assumption | rfl | exact same_of rfl | exact sameS_self _ | (simp only [decide_eq_true_eq, decide_eq_false_iff_not, Nat.ble_eq, Nat.beq_eq, beq_eq_false_iff_ne, beq_iff_eq, ne_eq] <;> omega))) (fun st hst => next st (0 + w.size) ([] ++ bytesPV w) true w.data.toList hwp rfl (by rw [hw2, Nat.zero_add]) hD' (by rw [hst, e2]))
      | cons x xs =>
        obtain ⟨m, hm⟩ : ∃ m, m = xs.length + 1 := ⟨_, rfl⟩
        obtain ⟨rc, hrc⟩ : ∃ m, m = bytesPL (x :: xs) := ⟨_, rfl⟩
        refine swp_st (st' := ⟨[(8, .ptr 0 0), (9, .ptr 1 0), (10, .bool b), (11, .int .u8 c)], ⟨[bB m, rP s a], [some (bR rc m)]⟩⟩) (by rw [hc, hm, hrc]; rfl) ?_
        have hxl : (x :: xs).length = m := hm.symm
        obtain ⟨D, hDx⟩ : ∃ D, D = x :: xs := ⟨_, rfl⟩
        have hDn : D ≠ [] := by rw [hDx]; exact List.cons_ne_nil _ _
        rw [← hDx] at hD' hrc hxl hdl
        refine SWP.runQ (SBp [(50, [(28, true)])] []) 100 50 hnt [8, 9, 10, 11] (e := .normal) (z := { t := [(8, PV.ptr 0 0), (9, PV.ptr 1 0), (10, PV.bool b), (11, PV.int IntKind.u8 c)], h := { bx := [{ cs := [PV.ptr 0 0, PV.own 0 m], ty := 84 }, { cs := [PV.str s, PV.int IntKind.i64 (Int.ofNat a)], ty := 87 }], rw := [some { cs := rc, n := m, ty := 5, sz := 1 }] } }) (o := [(!c == (0 : Int), true), (true, true)]) (by kernel_rfl) (by ((repeat' (first | exact okO_nil | refine okN ?_ ?_)); all_goals first | assumption | rfl | exact same_of rfl | exact sameS_self _ | (simp only [decide_eq_true_eq, decide_eq_false_iff_not, Nat.ble_eq, Nat.beq_eq, beq_eq_false_iff_ne, beq_iff_eq, ne_eq] <;> omega))) (fun st hst => hK2 st (.norm [8, 9, 10, 11] ?_))
        rw [hst]
        clear hst hK2
        refine Q.seq fun K3 hK3 => ?_
        have next : ∀ st (m2 : Nat) (r2 : List PV) (b2 : Bool) (D2 : List UInt8), D2 ≠ [] → r2 = bytesPL D2 → m2 = D2.length → D2 ++ bareL b2 (tkB s (skp s y)) = bareN s → nrm [8, 9, 10] st = ⟨[(8, .ptr 0 0), (9, .ptr 1 0), (10, .bool b2)], ⟨[bB m2, rP s y], [some (bR r2 m2)]⟩⟩ → K3 st := fun st m2 r2 b2 D2 h0 hr2 hm2 hD2 hst => hK3 st (.norm [8, 9, 10] (by
          rw [hst]
          exact SWP.runQ (SBp [] []) 100 50 hnt [8, 9, 10, 11] (e := .normal) (z := ⟨[(8, .ptr 0 0), (9, .ptr 1 0), (10, .bool b2), (11, .int .u8 (cA s (skp s y)))], ⟨[bB m2, rP s (skp s y)], [some (bR r2 m2)]⟩⟩) (o := [(decide (0 ≤ (y : Int) ∧ (y : Int) ≤ (s.size : Int)), true), (Nat.ble s.size 1099511627776, true)]) (by kernel_rfl) (by ((repeat' (first | exact okO_nil | refine okN ?_ ?_)); all_goals first | assumption | rfl | exact same_of rfl | exact sameS_self _ | (simp only [decide_eq_true_eq, decide_eq_false_iff_not, Nat.ble_eq, Nat.beq_eq, beq_eq_false_iff_ne, beq_iff_eq, ne_eq] <;> omega))) (fun st hst => ⟨⟨(skp s y, D2, b2), skp_le s y hy2, clean_skp s y, hD2, hin2, fun h => absurd h h0⟩, Nat.sub_lt_sub_left hlt (Nat.lt_of_lt_of_le hya (skp_ge s y)), by
            rw [hst, hr2, hm2]
            cases D2 with
            | nil => exact absurd rfl h0
            | cons z zs => rfl⟩)))
        cases hl : letC c with
        | false =>
          have d6 : (!letC c) = true := by rw [hl]; rfl
          rw [hl, if_neg (fun g => absurd g.2 (by decide))] at hD'
          have hw3 := congrArg List.length (hw1 hl)
          rw [bytesPL_length] at hw3
          have hw4 : w.data.toList.length = 1 := hw3
          have d9 : Nat.ble ((m + 1) * 1) 140737488355328 = true := Nat.ble_eq_true_of_le (by omega)
          have d10 : Nat.ble (m + 1) 9223372036854775807 = true := Nat.ble_eq_true_of_le (by omega)
          exact SWP.runQ (SBp [(50, [(33, true)]), (17, [(14, true)])] []) 100 50 hnt [8, 9, 10] (e := .normal) (z := ⟨[(8, .ptr 0 0), (9, .ptr 1 0), (10, .bool false)], ⟨[bB (m + 1), ⟨[.str s, .int .i64 (IntKind.wrap IntKind.i64 (Int.ofNat (a + 1)))], 87⟩], [some (bR (rc ++ [PV.int IntKind.u8 c]) (m + 1))]⟩⟩) (o := [(true, true), (decide (0 ≤ c ∧ c < 256), true), (!letC c, true), (true, true), (true, true), (Nat.ble ((m + 1) * 1) 140737488355328, true), (Nat.ble (m + 1) 9223372036854775807, true)]) (by kernel_rfl) (by ((repeat' (first | exact okO_nil | refine okN ?_ ?_)); all_goals first | assumption | rfl | exact same_of rfl | exact sameS_self _ | (simp only [decide_eq_true_eq, decide_eq_false_iff_not, Nat.ble_eq, Nat.beq_eq, beq_eq_false_iff_ne, beq_iff_eq, ne_eq] <;> omega))) (fun st hst => next st (m + 1) (rc ++ [PV.int IntKind.u8 c]) false (D ++ w.data.toList) (by simp [hDn]) (by rw [bytesPL_append, hw1 hl, hrc]) (by rw [List.length_append, hw4, hxl]) (by rw [List.append_assoc]; exact hD') (by rw [hst, wi hl]; rfl))
        | true =>
          have d6 : (!letC c) = false := by rw [hl]; rfl
          obtain ⟨e1, e2, e3, e4⟩ := hat1 hl
          have d7 : decide (atE s a = 0) = true := decide_eq_true e1
          rw [← e3] at d8
          cases b with
          | false =>
            have d9 : Nat.ble (m + w.size) 140737488355328 = true := Nat.ble_eq_true_of_le (by omega)
            rw [hl, if_neg (fun g => absurd g.1 (by decide))] at hD'
            exact SWP.runQ (SBp [(50, [(33, false)]), (19, [(14, true)])] [(50, [(47, .str w)])]) 100 50 hnt [8, 9, 10] (e := .normal) (z := ⟨[(8, .ptr 0 0), (9, .ptr 1 0), (10, .bool true)], ⟨[bB (m + w.size), rP s (atA s a)], [some (bR (rc ++ bytesPV w) (m + w.size))]⟩⟩) (o := [(true, true), (decide (0 ≤ c ∧ c < 256), true), (!letC c, false), (false, false), (decide (0 ≤ (a : Int) ∧ (a : Int) ≤ (s.size : Int)), true), (decide (atE s a = 0), true), (Nat.ble s.size 1099511627776, true), (true, true), (isAtD (ndK (atX s a)) (ndN (atX s a)) (ndT (atX s a)), true), (same (.str (mkS (textD (atD s a)))) (.str w), true), (Nat.ble (m + w.size) 140737488355328, true)]) (by kernel_rfl) (by ((repeat' (first | exact okO_nil | refine okN ?_ ?_)); all_goals first | assumption | rfl | exact same_of rfl | exact sameS_self _ | (simp only [decide_eq_true_eq, decide_eq_false_iff_not, Nat.ble_eq, Nat.beq_eq, beq_eq_false_iff_ne, beq_iff_eq, ne_eq] <;> omega))) (fun st hst => next st (m + w.size) (rc ++ bytesPV w) true (D ++ w.data.toList) (by simp [hDn]) (by rw [bytesPL_append, hrc]; rfl) (by rw [List.length_append, hw2, hxl]) (by rw [List.append_assoc]; exact hD') (by rw [hst, e2]))
          | true =>
            rw [hl, if_pos ⟨rfl, rfl⟩] at hD'
            have hdl2 := congrArg List.length hD'
            simp only [List.length_append, str_len, List.length_cons, List.length_nil] at hdl2
            have d9 : Nat.ble ((m + 1) * 1) 140737488355328 = true := Nat.ble_eq_true_of_le (by omega)
            have d10 : Nat.ble (m + 1) 9223372036854775807 = true := Nat.ble_eq_true_of_le (by omega)
            have d11 : Nat.ble (m + 1 + w.size) 140737488355328 = true := Nat.ble_eq_true_of_le (by omega)
            exact SWP.runQ (SBp [(50, [(33, false)]), (17, [(14, true)]), (19, [(14, true)])] [(50, [(47, .str w)])]) 100 50 hnt [8, 9, 10] (e := .normal) (z := ⟨[(8, .ptr 0 0), (9, .ptr 1 0), (10, .bool true)], ⟨[bB (m + 1 + w.size), rP s (atA s a)], [some (bR (rc ++ [PV.int IntKind.u8 (32 : Int)] ++ bytesPV w) (m + 1 + w.size))]⟩⟩) (o := [(true, true), (decide (0 ≤ c ∧ c < 256), true), (!letC c, false), (false, false), (true, true), (Nat.ble ((m + 1) * 1) 140737488355328, true), (Nat.ble (m + 1) 9223372036854775807, true), (decide (0 ≤ (a : Int) ∧ (a : Int) ≤ (s.size : Int)), true), (decide (atE s a = 0), true), (Nat.ble s.size 1099511627776, true), (true, true), (isAtD (ndK (atX s a)) (ndN (atX s a)) (ndT (atX s a)), true), (same (.str (mkS (textD (atD s a)))) (.str w), true), (Nat.ble (m + 1 + w.size) 140737488355328, true)]) (by kernel_rfl) (by ((repeat' (first | exact okO_nil | refine okN ?_ ?_)); all_goals first | assumption | rfl | exact same_of rfl | exact sameS_self _ | (simp only [decide_eq_true_eq, decide_eq_false_iff_not, Nat.ble_eq, Nat.beq_eq, beq_eq_false_iff_ne, beq_iff_eq, ne_eq] <;> omega))) (fun st hst => next st (m + 1 + w.size) (rc ++ [PV.int IntKind.u8 (32 : Int)] ++ bytesPV w) true (D ++ [32] ++ w.data.toList) (by simp [hDn]) (by rw [bytesPL_append, bytesPL_append, hrc]; rfl) (by rw [List.length_append, List.length_append, hw2, hxl]; rfl) (by rw [List.append_assoc, List.append_assoc]; exact hD') (by rw [hst, e2]))
    · have hc0 : c = 0 := by rw [hc]; exact if_neg (by omega)
      have d2 : (!c == (0 : Int)) = false := by rw [hc0]; rfl
      rw [tkB_out s a hge, bareL, List.append_nil] at hD
      cases D with
      | nil =>
        refine swp_st (st' := ⟨[(8, .ptr 0 0), (9, .ptr 1 0), (10, .bool b), (11, .int .u8 c)], ⟨[bB0, rP s a], []⟩⟩) (by rw [hc]; rfl) ?_
        refine SWP.runQ (SBp [(50, [(28, false)])] []) 100 50 hnt [8] (e := .exit 0) (z := { t := [(8, PV.ptr 0 0)], h := { bx := [{ cs := [PV.nilptr, PV.nil], ty := 84 }, { cs := [PV.str s, PV.int IntKind.i64 (Int.ofNat a)], ty := 87 }], rw := [] } }) (o := [(!c == (0 : Int), false), (false, false)]) (by kernel_rfl) (by ((repeat' (first | exact okO_nil | refine okN ?_ ?_)); all_goals first | assumption | rfl | exact same_of rfl | exact sameS_self _ | (simp only [decide_eq_true_eq, decide_eq_false_iff_not, Nat.ble_eq, Nat.beq_eq, beq_eq_false_iff_ne, beq_iff_eq, ne_eq] <;> omega))) (fun st hst => hK9 st (.norm [8] ?_))
        rw [hst]
        exact SWP.runQ (SBp [(14, [(7, true), (13, true)])] []) 100 50 hnt [2, 3, 4] (e := .ret) (z := { t := [(2, PV.str { data := #[] }), (3, PV.int IntKind.i64 (0 : Int)), (4, PV.int IntKind.i64 (0 : Int))], h := { bx := [{ cs := [PV.nilptr, PV.nil], ty := 84 }, { cs := [PV.str s, PV.int IntKind.i64 (Int.ofNat a)], ty := 87 }], rw := [] } }) (o := []) (by kernel_rfl) (by ((repeat' (first | exact okO_nil | refine okN ?_ ?_)); all_goals first | assumption | rfl | exact same_of rfl | exact sameS_self _ | (simp only [decide_eq_true_eq, decide_eq_false_iff_not, Nat.ble_eq, Nat.beq_eq, beq_eq_false_iff_ne, beq_iff_eq, ne_eq] <;> omega))) (fun st hst => fin st ⟨#[]⟩ 0 0 _ hst (by rw [hX, ← hD]; rfl) hA.symm he.symm)
      | cons x xs =>
        obtain ⟨m, hm⟩ : ∃ m, m = xs.length + 1 := ⟨_, rfl⟩
        obtain ⟨rc, hrc⟩ : ∃ m, m = bytesPL (x :: xs) := ⟨_, rfl⟩
        have hdl := congrArg List.length hD
        simp only [List.length_cons] at hdl
        refine swp_st (st' := ⟨[(8, .ptr 0 0), (9, .ptr 1 0), (10, .bool b), (11, .int .u8 c)], ⟨[bB m, rP s a], [some (bR rc m)]⟩⟩) (by rw [hc, hm, hrc]; rfl) ?_
        refine SWP.runQ (SBp [(50, [(28, false)])] []) 100 50 hnt [8] (e := .exit 0) (z := { t := [(8, PV.ptr 0 0)], h := { bx := [{ cs := [PV.ptr 0 0, PV.own 0 m], ty := 84 }, { cs := [PV.str s, PV.int IntKind.i64 (Int.ofNat a)], ty := 87 }], rw := [some { cs := rc, n := m, ty := 5, sz := 1 }] } }) (o := [(!c == (0 : Int), false), (false, false)]) (by kernel_rfl) (by ((repeat' (first | exact okO_nil | refine okN ?_ ?_)); all_goals first | assumption | rfl | exact same_of rfl | exact sameS_self _ | (simp only [decide_eq_true_eq, decide_eq_false_iff_not, Nat.ble_eq, Nat.beq_eq, beq_eq_false_iff_ne, beq_iff_eq, ne_eq] <;> omega))) (fun st hst => hK9 st (.norm [8] ?_))
        rw [hst]
        have f1 : Nat.ble 1 m = true := Nat.ble_eq_true_of_le (by omega)
        have f2 : Nat.beq m m = true := Nat.beq_refl m
        have f3 : Nat.beq (List.length rc) m = true := by rw [hrc, hm, Nat.beq_eq, bytesPL_length]; rfl
        have f4 : Nat.ble m 9223372036854775807 = true := Nat.ble_eq_true_of_le (by omega)
        have f5 : isBytes8 rc = true := by rw [hrc]; exact isBytes8_PL _
        exact SWP.runQ (SBp [(14, [(7, true), (13, true)])] []) 100 50 hnt [2, 3, 4] (e := .ret) (z := { t := [(2, PV.str (strOf rc)), (3, PV.int IntKind.i64 (0 : Int)), (4, PV.int IntKind.i64 (0 : Int))], h := { bx := [{ cs := [PV.ptr 0 0, PV.own 0 m], ty := 84 }, { cs := [PV.str s, PV.int IntKind.i64 (Int.ofNat a)], ty := 87 }], rw := [none] } }) (o := [(Nat.ble 1 m, true), (Nat.beq m m, true), (Nat.beq (List.length rc) m, true), (Nat.ble 1 m, true), (Nat.ble m 9223372036854775807, true), (isBytes8 rc, true)]) (by kernel_rfl) (by ((repeat' (first | exact okO_nil | refine okN ?_ ?_)); all_goals first | assumption | rfl | exact same_of rfl | exact sameS_self _ | (simp only [decide_eq_true_eq, decide_eq_false_iff_not, Nat.ble_eq, Nat.beq_eq, beq_eq_false_iff_ne, beq_iff_eq, ne_eq] <;> omega))) (fun st hst => fin st (strOf rc) 0 0 _ hst (by rw [hX, ← hD, hrc]; exact strOf_PV (mkS (x :: xs))) hA.symm he.symm)
  · have d1 : (!alE s == (0 : Int)) = true := by rw [beqF he]; rfl
    refine Q.seq fun K hK => ?_
    exact SWP.runQ (SBp [(50, [(19, true)])] []) 100 50 hnt [2, 3, 4] (e := .ret) (z := { t := [(2, PV.str { data := #[] }), (3, PV.int IntKind.i64 (alA s)), (4, PV.int IntKind.i64 (alE s))], h := { bx := [], rw := [] } }) (o := [(true, true), (!alE s == (0 : Int), true), (true, true)]) (by kernel_rfl) (by ((repeat' (first | exact okO_nil | refine okN ?_ ?_)); all_goals first | assumption | rfl | exact same_of rfl | exact sameS_self _ | (simp only [decide_eq_true_eq, decide_eq_false_iff_not, Nat.ble_eq, Nat.beq_eq, beq_eq_false_iff_ne, beq_iff_eq, ne_eq] <;> omega))) (fun st hst => fin st ⟨#[]⟩ (alA s) (alE s) _ hst (by unfold bareX; rw [if_neg he]) (by unfold bareA; rw [if_neg he]) rfl)
end Seat
end Go.Proofs.YtenpjkcclmmlhaaDoor
/- The document's Tokens. Printed by dev/tkr.py and dev/nfsub.py (this session's). -/
namespace Go.Proofs.YtenpjkcclmmlhaaDoor
open Go.AS Go.RowKit
set_option linter.unusedVariables false
set_option linter.unusedSimpArgs false
set_option maxRecDepth 100000
set_option maxHeartbeats 4000000
namespace Seat
def sR (rc : List PV) (m : Nat) : Row := ⟨rc, m, 9, 1⟩
def iR (rc : List PV) (m : Nat) : Row := ⟨rc, m, 3, 1⟩
def tkS (l : List (ByteArray × Nat)) : List PV := l.map fun x => .str x.1
def tkI (l : List (ByteArray × Nat)) : List PV := l.map fun x => .int .i64 ((x.2 : Nat) : Int)
theorem tkA_len (s : ByteArray) : ∀ k a, (tkA s k a).length ≤ k
  | 0, a => Nat.le_refl _
  | k + 1, a => by
    rw [tkA]
    split
    · have := tkA_len s k (skp s (nxE s a))
      simp only [List.length_cons]; omega
    · exact Nat.zero_le _
theorem tkO_len (s : ByteArray) (a : Nat) : (tkO s a).length ≤ s.size := by have := tkA_len s (s.size - a) a; unfold tkO; omega
theorem tokensR (s : ByteArray) (hs : s.size ≤ 1099511627776) : Pure G0 35 [.str s] (fun r => r = .tup [.slice (tkO s (skp s 0)).length (tkS (tkO s (skp s 0))), .slice (tkO s (skp s 0)).length (tkI (tkO s (skp s 0)))]) := by
  refine Fn.enterB Tryd.func35 Tryd.ntmps35 rfl (Nat.le_of_ble_eq_true rfl) fun C fr fp hnt hnb hp hfr hfp => ?_
  have hss : Nat.ble s.size 1099511627776 = true := Nat.ble_eq_true_of_le hs
  have hL := tkO_len s (skp s 0)
  refine Q.runSeq (SOn [] []) 100 75 hnt [0] (z := { t := [(0, PV.str s)], h := { bx := [], rw := [] } }) (o := []) (by kernel_rfl) (by ((repeat' (first | exact okO_nil | refine okN ?_ ?_)); all_goals first | assumption | rfl | exact same_of rfl | exact sameS_self _ | (simp only [decide_eq_true_eq, decide_eq_false_iff_not, Nat.ble_eq, Nat.beq_eq, beq_eq_false_iff_ne, beq_iff_eq, ne_eq] <;> omega))) ?_
  refine Q.runSeq (SOn [] []) 100 75 hnt [0, 4] (z := { t := [(0, PV.str s), (4, PV.ptr 0 0)], h := { bx := [{ cs := [PV.str s, PV.int IntKind.i64 (0 : Int), PV.int IntKind.i64 (0 : Int), PV.int IntKind.i64 (0 : Int)], ty := 97 }], rw := [] } }) (o := []) (by kernel_rfl) (by ((repeat' (first | exact okO_nil | refine okN ?_ ?_)); all_goals first | assumption | rfl | exact same_of rfl | exact sameS_self _ | (simp only [decide_eq_true_eq, decide_eq_false_iff_not, Nat.ble_eq, Nat.beq_eq, beq_eq_false_iff_ne, beq_iff_eq, ne_eq] <;> omega))) ?_
  refine Q.runSeq (SOn [] []) 100 75 hnt [0, 4, 5] (z := { t := [(0, PV.str s), (4, PV.ptr 0 0), (5, PV.nil)], h := { bx := [{ cs := [PV.str s, PV.int IntKind.i64 (0 : Int), PV.int IntKind.i64 (0 : Int), PV.int IntKind.i64 (0 : Int)], ty := 97 }], rw := [] } }) (o := []) (by kernel_rfl) (by ((repeat' (first | exact okO_nil | refine okN ?_ ?_)); all_goals first | assumption | rfl | exact same_of rfl | exact sameS_self _ | (simp only [decide_eq_true_eq, decide_eq_false_iff_not, Nat.ble_eq, Nat.beq_eq, beq_eq_false_iff_ne, beq_iff_eq, ne_eq] <;> omega))) ?_
  refine Q.runSeq (SOn [] []) 100 75 hnt [0, 4, 5, 6] (z := { t := [(0, PV.str s), (4, PV.ptr 0 0), (5, PV.nil), (6, PV.nil)], h := { bx := [{ cs := [PV.str s, PV.int IntKind.i64 (0 : Int), PV.int IntKind.i64 (0 : Int), PV.int IntKind.i64 (0 : Int)], ty := 97 }], rw := [] } }) (o := []) (by kernel_rfl) (by ((repeat' (first | exact okO_nil | refine okN ?_ ?_)); all_goals first | assumption | rfl | exact same_of rfl | exact sameS_self _ | (simp only [decide_eq_true_eq, decide_eq_false_iff_not, Nat.ble_eq, Nat.beq_eq, beq_eq_false_iff_ne, beq_iff_eq, ne_eq] <;> omega))) ?_
  refine SWP.adoptS 5 9 1 rfl ?_
  refine SWP.adoptS 6 3 1 rfl ?_
  refine SWP.norm [0, 4, 5, 6] ?_
  refine Q.seq fun K9 hK9 => ?_
  refine Q.runSeq (SOn [] []) 100 75 hnt [0, 4, 5, 6] (z := ⟨[(0, .str s), (4, .ptr 0 0), (5, .own 0 0), (6, .own 1 0)], ⟨[rB s (skp s 0) 0 0], [some (sR [] 0), some (iR [] 0)]⟩⟩) (o := [(true, true), (Nat.ble s.size 1099511627776, true)]) (by kernel_rfl) (by ((repeat' (first | exact okO_nil | refine okN ?_ ?_)); all_goals first | assumption | rfl | exact same_of rfl | exact sameS_self _ | (simp only [decide_eq_true_eq, decide_eq_false_iff_not, Nat.ble_eq, Nat.beq_eq, beq_eq_false_iff_ne, beq_iff_eq, ne_eq] <;> omega))) ?_
  refine Q.block ?_
  obtain ⟨q, hq⟩ : ∃ q, q = skp s 0 := ⟨_, rfl⟩
  have hq2 : q ≤ s.size := by rw [hq]; exact skp_le s 0 (Nat.zero_le _)
  rw [← hq] at hL
  have fin : ∀ st m rc ic bx rw', nrm [2, 3] st = ⟨[(2, .slice m rc), (3, .slice m ic)], ⟨bx, rw'⟩⟩ → m = (tkO s q).length → rc = tkS (tkO s q) → ic = tkI (tkO s q) → fr st := fun st m rc ic bx rw' hst g1 g2 g3 => hfr st [2, 3] (by
    rw [hst]
    exact ⟨0, .tup [.slice m rc, .slice m ic], Nat.le_refl _, Nat.zero_le _, rfl, rfl, rfl, rfl, _, rfl, by rw [g1, g2, g3, hq]⟩)
  rw [← hq]
  let T (a : Nat) (D : List (ByteArray × Nat)) : AS := ⟨[(0, .str s), (4, .ptr 0 0), (5, .own 0 D.length), (6, .own 1 D.length)], ⟨[rB s a 0 0], [some (sR (tkS D) D.length), some (iR (tkI D) D.length)]⟩⟩
  refine Q.loopI (σ := { x : Nat × List (ByteArray × Nat) // x.1 ≤ s.size ∧ x.2 ++ tkO s x.1 = tkO s q }) [0, 4, 5, 6] (fun x => T x.1.1 x.1.2) (fun x => s.size - x.1.1) ⟨(q, []), hq2, rfl⟩ rfl fun ⟨(a, D), ha, hD⟩ => ?_
  have ha : a ≤ s.size := ha
  have hD : D ++ tkO s a = tkO s q := hD
  obtain ⟨m, hm⟩ : ∃ m, m = D.length := ⟨_, rfl⟩
  obtain ⟨rc, hrc⟩ : ∃ m, m = tkS D := ⟨_, rfl⟩
  obtain ⟨ic, hic⟩ : ∃ m, m = tkI D := ⟨_, rfl⟩
  have hmL : m + (tkO s a).length ≤ 1099511627776 := by rw [hm, ← List.length_append, hD]; omega
  show SWP G0 C _ _ ⟨[(0, .str s), (4, .ptr 0 0), (5, .own 0 D.length), (6, .own 1 D.length)], ⟨[rB s a 0 0], [some (sR (tkS D) D.length), some (iR (tkI D) D.length)]⟩⟩
  refine swp_st (st' := ⟨[(0, .str s), (4, .ptr 0 0), (5, .own 0 m), (6, .own 1 m)], ⟨[rB s a 0 0], [some (sR rc m), some (iR ic m)]⟩⟩) (by rw [hm, hrc, hic]) ?_
  refine Q.seq fun K2 hK2 => ?_
  rcases Nat.lt_or_ge a s.size with hlt | hge
  · have d2 := lt_at hlt
    refine SWP.runQ (SOn [(75, [(19, true)])] []) 100 75 hnt [0, 4, 5, 6] (e := .normal) (z := { t := [(0, PV.str s), (4, PV.ptr 0 0), (5, PV.own 0 m), (6, PV.own 1 m)], h := { bx := [{ cs := [PV.str s, PV.int IntKind.i64 (Int.ofNat a), PV.int IntKind.i64 (0 : Int), PV.int IntKind.i64 (0 : Int)], ty := 97 }], rw := [some { cs := rc, n := m, ty := 9, sz := 1 }, some { cs := ic, n := m, ty := 3, sz := 1 }] } }) (o := [(decide ((↑a : Int) < (↑(ByteArray.size s) : Int)), true), (true, true)]) (by kernel_rfl) (by ((repeat' (first | exact okO_nil | refine okN ?_ ?_)); all_goals first | assumption | rfl | exact same_of rfl | exact sameS_self _ | (simp only [decide_eq_true_eq, decide_eq_false_iff_not, Nat.ble_eq, Nat.beq_eq, beq_eq_false_iff_ne, beq_iff_eq, ne_eq] <;> omega))) (fun st hst => hK2 st (.norm [0, 4, 5, 6] ?_))
    rw [hst]
    clear hst hK2
    refine Q.seq fun K3 hK3 => ?_
    refine Q.block ?_
    refine Q.runSeq (SOn [] []) 100 75 hnt [0, 4, 5, 6, 7] (z := { t := [(0, PV.str s), (4, PV.ptr 0 0), (5, PV.own 0 m), (6, PV.own 1 m), (7, PV.int IntKind.i64 (Int.ofNat a))], h := { bx := [{ cs := [PV.str s, PV.int IntKind.i64 (Int.ofNat a), PV.int IntKind.i64 (0 : Int), PV.int IntKind.i64 (0 : Int)], ty := 97 }], rw := [some { cs := rc, n := m, ty := 9, sz := 1 }, some { cs := ic, n := m, ty := 3, sz := 1 }] } }) (o := []) (by kernel_rfl) (by ((repeat' (first | exact okO_nil | refine okN ?_ ?_)); all_goals first | assumption | rfl | exact same_of rfl | exact sameS_self _ | (simp only [decide_eq_true_eq, decide_eq_false_iff_not, Nat.ble_eq, Nat.beq_eq, beq_eq_false_iff_ne, beq_iff_eq, ne_eq] <;> omega))) ?_
    refine Q.seq fun K4 hK4 => ?_
    have rest : ∀ st x, letE s a = x → nrm [0, 4, 5, 6, 7] st = ⟨[(0, .str s), (4, .ptr 0 0), (5, .own 0 m), (6, .own 1 m), (7, .int .i64 a)], ⟨[rB s x 0 0], [some (sR rc m), some (iR ic m)]⟩⟩ → K4 st := fun st x hx hst => hK4 st (.norm [0, 4, 5, 6, 7] (by
      rw [hst]
      clear hst hK4
      have h1 := letE_ge s a
      have h2 := letE_le s a ha
      have h3 := nxE_gt s a
      have h4 := nxE_le s a hlt
      have h5 : nxE s a = max x (a + 1) := by rw [← hx]; rfl
      obtain ⟨y, hy⟩ : ∃ y, y = nxE s a := ⟨_, rfl⟩
      obtain ⟨w, hw⟩ : ∃ w, w = s.extract a (nxE s a) := ⟨_, rfl⟩
      have hat := tkO_at s a hlt
      rw [← hy] at h3 h4 h5 hw hat
      rw [← hw] at hat
      rw [hat] at hD hmL
      simp only [List.length_cons] at hmL
      have ws : w.size ≤ 1099511627776 := by rw [hw, ByteArray.size_extract]; omega
      have wa : IntKind.wrap IntKind.i64 (Int.ofNat (a + 1)) = ((a + 1 : Nat) : Int) := wrapI (a + 1) (by omega)
      have wa2 : IntKind.wrap IntKind.i64 ((a : Int) + 1) = ((a + 1 : Nat) : Int) := wa
      have c1 : same (PV.int IntKind.i64 (if IntKind.wrap IntKind.i64 ((a : Int) + 1) > (x : Int) then IntKind.wrap IntKind.i64 (Int.ofNat (a + 1)) else Int.ofNat x)) (PV.int IntKind.i64 (Int.ofNat y)) = true := same_of (congrArg (PV.int .i64) (by
        rw [wa2, wa]
        show (if ((a + 1 : Nat) : Int) > (x : Int) then ((a + 1 : Nat) : Int) else (x : Int)) = (y : Int)
        split <;> omega))
      have c2 : decide (0 ≤ (a : Int) ∧ (a : Int) ≤ (y : Int) ∧ (y : Int) ≤ (s.size : Int)) = true := by rw [decide_eq_true_eq]; omega
      have c3 : same (PV.str (ByteArray.extract s (Int.toNat (Int.ofNat a)) (Int.toNat (Int.ofNat y)))) (PV.str w) = true := same_of (by rw [hw]; rfl)
      have c4 : Nat.ble ((m + 1) * 16) 140737488355328 = true := Nat.ble_eq_true_of_le (by omega)
      have c5 : Nat.ble (m + 1) 9223372036854775807 = true := Nat.ble_eq_true_of_le (by omega)
      have c6 : Nat.ble ((m + 1) * 8) 140737488355328 = true := Nat.ble_eq_true_of_le (by omega)
      refine SWP.runQ (SOn [(75, [(66, true), (68, true), (72, true)])] [(75, [(56, .int .i64 y), (66, .str w)])]) 100 75 hnt [0, 4, 5, 6] (e := .normal) (z := { t := [(0, PV.str s), (4, PV.ptr 0 0), (5, PV.own 0 (m + 1)), (6, PV.own 1 (m + 1))], h := { bx := [{ cs := [PV.str s, PV.int IntKind.i64 (Int.ofNat y), PV.int IntKind.i64 (0 : Int), PV.int IntKind.i64 (0 : Int)], ty := 97 }], rw := [some { cs := rc ++ [PV.str w], n := m + 1, ty := 9, sz := 1 }, some { cs := ic ++ [PV.int IntKind.i64 (Int.ofNat a)], n := m + 1, ty := 3, sz := 1 }] } }) (o := [(same (PV.int IntKind.i64 (if IntKind.wrap IntKind.i64 ((↑a : Int) + 1) > (↑x : Int) then IntKind.wrap IntKind.i64 (Int.ofNat (a + 1)) else Int.ofNat x)) (PV.int IntKind.i64 (Int.ofNat y)), true), (decide (0 ≤ (↑a : Int) ∧ (↑a : Int) ≤ (↑y : Int) ∧ (↑y : Int) ≤ (↑(ByteArray.size s) : Int)), true), (same (PV.str (ByteArray.extract s (Int.toNat (Int.ofNat a)) (Int.toNat (Int.ofNat y)))) (PV.str w), true), (true, true), (Nat.ble ((m + 1) * 16) 140737488355328, true), (Nat.ble (m + 1) 9223372036854775807, true), (true, true), (Nat.ble ((m + 1) * 8) 140737488355328, true), (Nat.ble (m + 1) 9223372036854775807, true)]) (by kernel_rfl) (by ((repeat' (first | exact okO_nil | refine okN ?_ ?_)); all_goals first | assumption | rfl | exact same_of rfl | exact sameS_self _ | (simp only [decide_eq_true_eq, decide_eq_false_iff_not, Nat.ble_eq, Nat.beq_eq, beq_eq_false_iff_ne, beq_iff_eq, ne_eq] <;> omega))) (fun st hst => hK3 st (.norm [0, 4, 5, 6] ?_))
      rw [hst]
      clear hst hK3
      obtain ⟨m2, hm2⟩ : ∃ m2, m2 = m + 1 := ⟨_, rfl⟩
      obtain ⟨r2, hr2⟩ : ∃ r2, r2 = rc ++ [PV.str w] := ⟨_, rfl⟩
      obtain ⟨i2, hi2⟩ : ∃ r2, r2 = ic ++ [PV.int IntKind.i64 (a : Int)] := ⟨_, rfl⟩
      refine swp_st (st' := ⟨[(0, .str s), (4, .ptr 0 0), (5, .own 0 m2), (6, .own 1 m2)], ⟨[rB s y 0 0], [some (sR r2 m2), some (iR i2 m2)]⟩⟩) (by rw [hm2, hr2, hi2]; rfl) ?_
      have g1 : m2 = (D ++ [(w, a)]).length := by rw [hm2, hm, List.length_append]; rfl
      have g2 : r2 = tkS (D ++ [(w, a)]) := by rw [hr2, hrc]; simp [tkS]
      have g3 : i2 = tkI (D ++ [(w, a)]) := by rw [hi2, hic]; simp [tkI]
      have hD2 : (D ++ [(w, a)]) ++ tkO s (skp s y) = tkO s q := by rw [List.append_assoc]; exact hD
      exact SWP.runQ (SOn [] []) 100 75 hnt [0, 4, 5, 6] (e := .normal) (z := ⟨[(0, .str s), (4, .ptr 0 0), (5, .own 0 m2), (6, .own 1 m2)], ⟨[rB s (skp s y) 0 0], [some (sR r2 m2), some (iR i2 m2)]⟩⟩) (o := [(true, true), (Nat.ble s.size 1099511627776, true)]) (by kernel_rfl) (by ((repeat' (first | exact okO_nil | refine okN ?_ ?_)); all_goals first | assumption | rfl | exact same_of rfl | exact sameS_self _ | (simp only [decide_eq_true_eq, decide_eq_false_iff_not, Nat.ble_eq, Nat.beq_eq, beq_eq_false_iff_ne, beq_iff_eq, ne_eq] <;> omega))) (fun st hst => ⟨⟨(skp s y, D ++ [(w, a)]), skp_le s y h4, hD2⟩, Nat.sub_lt_sub_left hlt (Nat.lt_of_lt_of_le h3 (skp_ge s y)), by rw [hst, g1, g2, g3]⟩)))
    let U (x : Nat) : AS := ⟨[(0, .str s), (4, .ptr 0 0), (5, .own 0 m), (6, .own 1 m), (7, .int .i64 a)], ⟨[rB s x 0 0], [some (sR rc m), some (iR ic m)]⟩⟩
    refine Q.block ?_
    refine Q.loopI (σ := { x : Nat // letE s x = letE s a }) [0, 4, 5, 6, 7] (fun x => U x.1) (fun x => s.size - x.1) ⟨a, rfl⟩ rfl fun ⟨x, hk⟩ => ?_
    show SWP G0 C _ _ ⟨[(0, .str s), (4, .ptr 0 0), (5, .own 0 m), (6, .own 1 m), (7, .int .i64 a)], ⟨[rB s x 0 0], [some (sR rc m), some (iR ic m)]⟩⟩
    have le := letE_eq s x
    rcases Nat.lt_or_ge x s.size with hlt | hge
    · have d1 := sameB (lt_at hlt)
      have d2 := in_at hlt
      have d3 : decide (0 ≤ bt s (x : Int) ∧ bt s (x : Int) < 256) = true := decide_eq_true (bt_in s x)
      have wi : IntKind.wrap IntKind.i64 (Int.ofNat (x + 1)) = ((x + 1 : Nat) : Int) := wrapI (x + 1) (by omega)
      by_cases hc : letC (bt s (x : Int)) = true
      · have d4 := sameB hc
        rw [if_pos ⟨hlt, hc⟩] at le
        exact SWP.runQ (SOn [(75, [(39, true)])] [(75, [(33, .bool true), (40, .bool true)])]) 100 75 hnt [0, 4, 5, 6, 7] (e := .normal) (z := { t := [(0, PV.str s), (4, PV.ptr 0 0), (5, PV.own 0 m), (6, PV.own 1 m), (7, PV.int IntKind.i64 (Int.ofNat a))], h := { bx := [{ cs := [PV.str s, PV.int IntKind.i64 (IntKind.wrap IntKind.i64 (Int.ofNat (x + 1))), PV.int IntKind.i64 (0 : Int), PV.int IntKind.i64 (0 : Int)], ty := 97 }], rw := [some { cs := rc, n := m, ty := 9, sz := 1 }, some { cs := ic, n := m, ty := 3, sz := 1 }] } }) (o := [(same (PV.bool (decide ((↑x : Int) < (↑(ByteArray.size s) : Int)))) (PV.bool true), true), (decide (0 ≤ (↑x : Int) ∧ (↑x : Int) < (↑(ByteArray.size s) : Int)), true), (true, true), (decide (0 ≤ bt s (↑x : Int) ∧ bt s (↑x : Int) < 256), true), (same (PV.bool (letC (bt s (Int.ofNat x)))) (PV.bool true), true)]) (by kernel_rfl) (by ((repeat' (first | exact okO_nil | refine okN ?_ ?_)); all_goals first | assumption | rfl | exact same_of rfl | exact sameS_self _ | (simp only [decide_eq_true_eq, decide_eq_false_iff_not, Nat.ble_eq, Nat.beq_eq, beq_eq_false_iff_ne, beq_iff_eq, ne_eq] <;> omega))) (fun st hst => ⟨⟨x + 1, le.symm.trans hk⟩, Nat.sub_lt_sub_left hlt (Nat.lt_succ_self x), by rw [hst, wi]; rfl⟩)
      · have d4 := sameB (Bool.not_eq_true _ ▸ hc : letC (bt s (x : Int)) = false)
        rw [if_neg (fun h => hc h.2)] at le
        exact SWP.runQ (SOn [(75, [(39, true)])] [(75, [(33, .bool true), (40, .bool false)])]) 100 75 hnt [0, 4, 5, 6, 7] (e := .exit 2) (z := { t := [(0, PV.str s), (4, PV.ptr 0 0), (5, PV.own 0 m), (6, PV.own 1 m), (7, PV.int IntKind.i64 (Int.ofNat a))], h := { bx := [{ cs := [PV.str s, PV.int IntKind.i64 (Int.ofNat x), PV.int IntKind.i64 (0 : Int), PV.int IntKind.i64 (0 : Int)], ty := 97 }], rw := [some { cs := rc, n := m, ty := 9, sz := 1 }, some { cs := ic, n := m, ty := 3, sz := 1 }] } }) (o := [(same (PV.bool (decide ((↑x : Int) < (↑(ByteArray.size s) : Int)))) (PV.bool true), true), (decide (0 ≤ (↑x : Int) ∧ (↑x : Int) < (↑(ByteArray.size s) : Int)), true), (true, true), (decide (0 ≤ bt s (↑x : Int) ∧ bt s (↑x : Int) < 256), true), (same (PV.bool (letC (bt s (Int.ofNat x)))) (PV.bool false), true)]) (by kernel_rfl) (by ((repeat' (first | exact okO_nil | refine okN ?_ ?_)); all_goals first | assumption | rfl | exact same_of rfl | exact sameS_self _ | (simp only [decide_eq_true_eq, decide_eq_false_iff_not, Nat.ble_eq, Nat.beq_eq, beq_eq_false_iff_ne, beq_iff_eq, ne_eq] <;> omega))) (fun st hst => rest st x (hk.symm.trans le) hst)
    · have d1 := sameB (ge_at hge)
      rw [if_neg (fun h => absurd h.1 (by omega))] at le
      exact SWP.runQ (SOn [] [(75, [(33, .bool false)])]) 100 75 hnt [0, 4, 5, 6, 7] (e := .exit 2) (z := { t := [(0, PV.str s), (4, PV.ptr 0 0), (5, PV.own 0 m), (6, PV.own 1 m), (7, PV.int IntKind.i64 (Int.ofNat a))], h := { bx := [{ cs := [PV.str s, PV.int IntKind.i64 (Int.ofNat x), PV.int IntKind.i64 (0 : Int), PV.int IntKind.i64 (0 : Int)], ty := 97 }], rw := [some { cs := rc, n := m, ty := 9, sz := 1 }, some { cs := ic, n := m, ty := 3, sz := 1 }] } }) (o := [(same (PV.bool (decide ((↑x : Int) < (↑(ByteArray.size s) : Int)))) (PV.bool false), true)]) (by kernel_rfl) (by ((repeat' (first | exact okO_nil | refine okN ?_ ?_)); all_goals first | assumption | rfl | exact same_of rfl | exact sameS_self _ | (simp only [decide_eq_true_eq, decide_eq_false_iff_not, Nat.ble_eq, Nat.beq_eq, beq_eq_false_iff_ne, beq_iff_eq, ne_eq] <;> omega))) (fun st hst => rest st x (hk.symm.trans le) hst)
  · have d2 := ge_at hge
    rw [tkO_out s a hge, List.append_nil] at hD
    refine SWP.runQ (SOn [(75, [(19, false)])] []) 100 75 hnt [5, 6] (e := .exit 0) (z := { t := [(5, PV.own 0 m), (6, PV.own 1 m)], h := { bx := [{ cs := [PV.str s, PV.int IntKind.i64 (Int.ofNat a), PV.int IntKind.i64 (0 : Int), PV.int IntKind.i64 (0 : Int)], ty := 97 }], rw := [some { cs := rc, n := m, ty := 9, sz := 1 }, some { cs := ic, n := m, ty := 3, sz := 1 }] } }) (o := [(decide ((↑a : Int) < (↑(ByteArray.size s) : Int)), false), (false, false)]) (by kernel_rfl) (by ((repeat' (first | exact okO_nil | refine okN ?_ ?_)); all_goals first | assumption | rfl | exact same_of rfl | exact sameS_self _ | (simp only [decide_eq_true_eq, decide_eq_false_iff_not, Nat.ble_eq, Nat.beq_eq, beq_eq_false_iff_ne, beq_iff_eq, ne_eq] <;> omega))) (fun st hst => hK9 st (.norm [5, 6] ?_))
    rw [hst]
    refine SWP.frz [0, 1] ?_
    refine SWP.norm [5, 6] ?_
    refine SWP.runQ (SOn [] []) 100 75 hnt [2, 3] (e := .ret) (z := ⟨[(2, .slice m rc), (3, .slice m ic)], ⟨[rB s a 0 0], [none, none]⟩⟩) (o := []) (by kernel_rfl) (by ((repeat' (first | exact okO_nil | refine okN ?_ ?_)); all_goals first | assumption | rfl | exact same_of rfl | exact sameS_self _ | (simp only [decide_eq_true_eq, decide_eq_false_iff_not, Nat.ble_eq, Nat.beq_eq, beq_eq_false_iff_ne, beq_iff_eq, ne_eq] <;> omega))) (fun st hst => fin st m rc ic _ _ hst (by rw [hm, hD]) (by rw [hrc, hD]) (by rw [hic, hD]))
end Seat
end Go.Proofs.YtenpjkcclmmlhaaDoor
/- The document's Bare. Printed by dev/brr.py and dev/nfsub.py (this session's). -/
namespace Go.Proofs.YtenpjkcclmmlhaaDoor
open Go.AS Go.RowKit
set_option linter.unusedVariables false
set_option linter.unusedSimpArgs false
set_option maxRecDepth 100000
set_option maxHeartbeats 4000000
namespace Seat
noncomputable def brS (f : Nat) (args : List PV) : Option (PV × Ob) := match f, args with
  | 49, [.str s] => some (.tup [.slice (alX s).len (alX s).cells, .int .i64 (alA s), .int .i64 (alE s)], [])
  | 35, [.str s] => some (.tup [.slice (tkO s (skp s 0)).length (tkS (tkO s (skp s 0))), .slice (tkO s (skp s 0)).length (tkI (tkO s (skp s 0)))], [(Nat.ble s.size 1099511627776, true)])
  | 56, [.int .u8 c] => some (.bool (letC c), [(decide (0 ≤ c ∧ c < 256), true)])
  | _, _ => none
theorem brS_ok (f : Nat) (args : List PV) (r : PV) (o : Ob) (h : brS f args = some (r, o)) (ho : ∀ p ∈ o, p.1 = p.2) (_ : pureL args = true) : Pure G0 f args (fun x => x = r) := by
  unfold brS at h
  split at h
  · cases h
    exact all_ok _
  · cases h
    exact tokensR _ (Nat.le_of_ble_eq_true (ho _ (List.mem_singleton.2 rfl)))
  · cases h; exact letter_ok _ (of_decide_eq_true (ho _ (List.mem_singleton.2 rfl)))
  · cases h
noncomputable def SBr (l : List (Nat × List (Nat × Bool))) (v : List (Nat × List (Nat × PV))) : Cfg G0 := { F := F, hF := hF, S := brS, hS := brS_ok, orc := orcM l, val := valM v }
theorem bareR (s : ByteArray) : Pure G0 34 [.str s] (fun r => r = .tup [.str (bareX s), .int .i64 (bareA s), .int .i64 (alE s)]) := by
  refine Fn.enterB Tryd.func34 Tryd.ntmps34 rfl (Nat.le_of_ble_eq_true rfl) fun C fr fp hnt hnb hp hfr hfp => ?_
  have fin : ∀ st u a e, nrm [2, 3, 4] st = ⟨[(2, .str u), (3, .int .i64 a), (4, .int .i64 e)], ⟨[], []⟩⟩ → u = bareX s → a = bareA s → e = alE s → fr st := fun st u a e hst g1 g2 g3 => hfr st [2, 3, 4] (by
    rw [hst]
    exact ⟨0, .tup [.str u, .int .i64 a, .int .i64 e], Nat.le_refl _, Nat.zero_le _, rfl, rfl, rfl, rfl, _, rfl, by rw [g1, g2, g3]⟩)
  refine Q.runSeq (SBr [] []) 100 61 hnt [0] (z := { t := [(0, PV.str s)], h := { bx := [], rw := [] } }) (o := []) (by kernel_rfl) (by ((repeat' (first | exact okO_nil | refine okN ?_ ?_)); all_goals first | assumption | rfl | exact same_of rfl | exact sameS_self _ | (simp only [decide_eq_true_eq, decide_eq_false_iff_not, Nat.ble_eq, Nat.beq_eq, beq_eq_false_iff_ne, beq_iff_eq, ne_eq] <;> omega))) ?_
  by_cases he : alE s = 0
  · have d1 : (!alE s == (0 : Int)) = false := by rw [he]; rfl
    have hsz := alE_size he
    have hss : Nat.ble s.size 1099511627776 = true := Nat.ble_eq_true_of_le (by omega)
    have hX : bareX s = mkB (bareN s) := by unfold bareX; rw [if_pos he, bareN_eq]
    have hA : bareA s = 0 := if_pos he
    have hlen := bareN_len s
    refine Q.runSeq (SBr [(61, [(19, false)])] []) 100 61 hnt [0] (z := { t := [(0, PV.str s)], h := { bx := [], rw := [] } }) (o := [(true, true), (!alE s == (0 : Int), false), (false, false)]) (by kernel_rfl) (by ((repeat' (first | exact okO_nil | refine okN ?_ ?_)); all_goals first | assumption | rfl | exact same_of rfl | exact sameS_self _ | (simp only [decide_eq_true_eq, decide_eq_false_iff_not, Nat.ble_eq, Nat.beq_eq, beq_eq_false_iff_ne, beq_iff_eq, ne_eq] <;> omega))) ?_
    obtain ⟨L, hL⟩ : ∃ L, L = tkB s (skp s 0) := ⟨_, rfl⟩
    have hN : bareN s = bareL (lastL L 0) (L.drop 0) := by rw [hL]; rfl
    have hpos : ∀ w ∈ L, 0 < w.size := by rw [hL]; exact tkB_pos s _ _ (Nat.le_refl _)
    have hm0 : (tkO s (skp s 0)).length = L.length := by rw [hL, tkB, List.length_map]
    have hc0 : tkS (tkO s (skp s 0)) = L.map PV.str := by rw [hL, tkB, tkS, List.map_map]; rfl
    have hLn := tkO_len s (skp s 0)
    rw [hm0] at hLn
    refine Q.runSeq (SBr [] []) 100 61 hnt [8] (z := ⟨[(8, .slice (tkO s (skp s 0)).length (tkS (tkO s (skp s 0))))], ⟨[], []⟩⟩) (o := [(true, true), (Nat.ble (ByteArray.size s) 1099511627776, true)]) (by kernel_rfl) (by ((repeat' (first | exact okO_nil | refine okN ?_ ?_)); all_goals first | assumption | rfl | exact same_of rfl | exact sameS_self _ | (simp only [decide_eq_true_eq, decide_eq_false_iff_not, Nat.ble_eq, Nat.beq_eq, beq_eq_false_iff_ne, beq_iff_eq, ne_eq] <;> omega))) ?_
    obtain ⟨m, hm⟩ : ∃ m, m = L.length := ⟨_, rfl⟩
    obtain ⟨cs, hcs⟩ : ∃ cs, cs = L.map PV.str := ⟨_, rfl⟩
    refine swp_st (st' := ⟨[(8, .slice m cs)], ⟨[], []⟩⟩) (by rw [hm, hcs, hm0, hc0]) ?_
    refine Q.runSeq (SBr [] []) 100 61 hnt [8, 10] (z := { t := [(8, PV.slice m cs), (10, PV.str { data := #[] })], h := { bx := [], rw := [] } }) (o := []) (by kernel_rfl) (by ((repeat' (first | exact okO_nil | refine okN ?_ ?_)); all_goals first | assumption | rfl | exact same_of rfl | exact sameS_self _ | (simp only [decide_eq_true_eq, decide_eq_false_iff_not, Nat.ble_eq, Nat.beq_eq, beq_eq_false_iff_ne, beq_iff_eq, ne_eq] <;> omega))) ?_
    refine Q.seq fun K9 hK9 => ?_
    refine Q.runSeq (SBr [] []) 100 61 hnt [8, 10, 11] (z := ⟨[(8, .slice m cs), (10, .str ⟨#[]⟩), (11, .int .i64 (0 : Nat))], ⟨[], []⟩⟩) (o := []) (by kernel_rfl) (by ((repeat' (first | exact okO_nil | refine okN ?_ ?_)); all_goals first | assumption | rfl | exact same_of rfl | exact sameS_self _ | (simp only [decide_eq_true_eq, decide_eq_false_iff_not, Nat.ble_eq, Nat.beq_eq, beq_eq_false_iff_ne, beq_iff_eq, ne_eq] <;> omega))) ?_
    refine Q.block ?_
    let T (j : Nat) (u : ByteArray) : AS := ⟨[(8, .slice m cs), (10, .str u), (11, .int .i64 j)], ⟨[], []⟩⟩
    refine Q.loopI (σ := { x : Nat × ByteArray // x.1 ≤ m ∧ x.2.data.toList ++ bareL (lastL L x.1) (L.drop x.1) = bareN s }) [8, 10, 11] (fun x => T x.1.1 x.1.2) (fun x => m - x.1.1) ⟨(0, ⟨#[]⟩), Nat.zero_le _, hN.symm⟩ rfl fun ⟨(j, u), hj, hu⟩ => ?_
    have hj : j ≤ m := hj
    have hu : u.data.toList ++ bareL (lastL L j) (L.drop j) = bareN s := hu
    show SWP G0 C _ _ ⟨[(8, .slice m cs), (10, .str u), (11, .int .i64 j)], ⟨[], []⟩⟩
    refine Q.seq fun K2 hK2 => ?_
    rcases Nat.lt_or_ge j m with hlt | hge
    · have d2 := lt_at hlt
      refine SWP.runQ (SBr [(61, [(30, true)])] []) 100 61 hnt [8, 10, 11] (e := .normal) (z := { t := [(8, PV.slice m cs), (10, PV.str u), (11, PV.int IntKind.i64 (Int.ofNat j))], h := { bx := [], rw := [] } }) (o := [(decide ((↑j : Int) < (↑m : Int)), true), (true, true)]) (by kernel_rfl) (by ((repeat' (first | exact okO_nil | refine okN ?_ ?_)); all_goals first | assumption | rfl | exact same_of rfl | exact sameS_self _ | (simp only [decide_eq_true_eq, decide_eq_false_iff_not, Nat.ble_eq, Nat.beq_eq, beq_eq_false_iff_ne, beq_iff_eq, ne_eq] <;> omega))) (fun st hst => hK2 st (.norm [8, 10, 11] ?_))
      rw [hst]
      clear hst hK2
      refine Q.seq fun K3 hK3 => ?_
      refine Q.block ?_
      obtain ⟨w, hw⟩ : ∃ w, w = L.getD j ⟨#[]⟩ := ⟨_, rfl⟩
      have hjL : j < L.length := by omega
      have hwm : L[j]? = some w := by rw [hw]; simp [List.getD, hjL]
      have hwp := hpos w (List.mem_of_getElem? hwm)
      have hbl := bareL_at hjL
      rw [← hw] at hbl
      rw [hbl] at hu
      have hul := congrArg List.length hu
      simp only [List.length_append, str_len] at hul
      have b0 : ∀ {k : Nat} {x : ByteArray}, L[k]? = some x → k < m → decide (0 ≤ (k : Int) ∧ (k : Int) < (m : Int)) = true ∧ decide (1 ≤ List.length (List.drop (Int.toNat (k : Int) * 1) cs)) = true ∧ same (List.headD (List.drop (Int.toNat (k : Int) * 1) cs) .junk) (.str x) = true := fun {k x} hx hk => by
        have hkc : cs[k]? = some (.str x) := by rw [hcs, List.getElem?_map, hx]; rfl
        have hk2 : k < cs.length := (List.getElem?_eq_some_iff.1 hkc).1
        have hdr : cs.drop k = .str x :: cs.drop (k + 1) := by rw [List.drop_eq_getElem_cons hk2, (List.getElem?_eq_some_iff.1 hkc).2]
        refine ⟨in_at hk, ?_, ?_⟩
        · rw [Int.toNat_natCast, Nat.mul_one, hdr]; simp
        · exact same_of (by rw [Int.toNat_natCast, Nat.mul_one, hdr]; rfl)
      obtain ⟨b1, b2, b3⟩ := b0 hwm hlt
      have b4 : decide ((0 : Int) ≤ 0 ∧ (0 : Int) < (w.size : Int)) = true := by rw [decide_eq_true_eq]; omega
      have b5 : decide (0 ≤ bt w (0 : Int) ∧ bt w (0 : Int) < 256) = true := decide_eq_true (bt_in w 0)
      have wj : IntKind.wrap IntKind.i64 (Int.ofNat (j + 1)) = ((j + 1 : Nat) : Int) := wrapI (j + 1) (by omega)
      have next : ∀ st u2, u2.data.toList ++ bareL (lastL L (j + 1)) (L.drop (j + 1)) = bareN s → nrm [8, 10, 11] st = ⟨[(8, .slice m cs), (10, .str u2), (11, .int .i64 (Int.ofNat j))], ⟨[], []⟩⟩ → K3 st := fun st u hu2 hst => hK3 st (.norm [8, 10, 11] (by
        rw [hst]
        exact SWP.runQ (SBr [] []) 100 61 hnt [8, 10, 11] (e := .normal) (z := { t := [(8, PV.slice m cs), (10, PV.str u), (11, PV.int IntKind.i64 (IntKind.wrap IntKind.i64 (Int.ofNat (j + 1))))], h := { bx := [], rw := [] } }) (o := []) (by kernel_rfl) (by ((repeat' (first | exact okO_nil | refine okN ?_ ?_)); all_goals first | assumption | rfl | exact same_of rfl | exact sameS_self _ | (simp only [decide_eq_true_eq, decide_eq_false_iff_not, Nat.ble_eq, Nat.beq_eq, beq_eq_false_iff_ne, beq_iff_eq, ne_eq] <;> omega))) (fun st hst => ⟨⟨(j + 1, u), hlt, hu2⟩, Nat.sub_lt_sub_left hlt (Nat.lt_succ_self j), by rw [hst, wj]⟩)))
      have b6 : Nat.ble (ByteArray.size u + ByteArray.size w) 9223372036854775807 = true := Nat.ble_eq_true_of_le (by omega)
      match j, hj, hlt, hu, hwm, hjL, b1, b2, b3, wj, next with
      | 0, hj, hlt, hu, hwm, hjL, b1, b2, b3, wj, next =>
        obtain ⟨j, hj0⟩ : ∃ j : Nat, j = 0 := ⟨_, rfl⟩
        rw [← hj0] at next b1 b2 b3 ⊢
        have g1 : same (PV.bool (decide (0 < (j : Int)))) (PV.bool false) = true := sameB (by rw [hj0]; rfl)
        rw [if_neg (by intro g; exact absurd g.1 (by show ¬ (lastL L 0 = true); rw [show lastL L 0 = false from rfl]; decide))] at hu
        exact SWP.runQ (SBr [(61, [(57, true), (58, true), (59, true)])] [(61, [(35, .bool false), (58, .str w)])]) 100 61 hnt [8, 10, 11] (e := .normal) (z := { t := [(8, PV.slice m cs), (10, PV.str (u ++ w)), (11, PV.int IntKind.i64 (Int.ofNat j))], h := { bx := [], rw := [] } }) (o := [(same (PV.bool (decide (0 < (j : Int)))) (PV.bool false), true), (decide (0 ≤ (j : Int) ∧ (j : Int) < (m : Int)), true), (decide (1 ≤ List.length (List.drop (Int.toNat (j : Int) * 1) cs)), true), (same (List.headD (List.drop (Int.toNat (j : Int) * 1) cs) .junk) (.str w), true), (Nat.ble (ByteArray.size u + ByteArray.size w) 9223372036854775807, true)]) (by kernel_rfl) (by ((repeat' (first | exact okO_nil | refine okN ?_ ?_)); all_goals first | assumption | rfl | exact same_of rfl | exact sameS_self _ | (simp only [decide_eq_true_eq, decide_eq_false_iff_not, Nat.ble_eq, Nat.beq_eq, beq_eq_false_iff_ne, beq_iff_eq, ne_eq] <;> omega))) (fun st hst => next st (u ++ w) (by rw [hj0, str_app, List.append_assoc]; exact hu) hst)
      | i + 1, hj, hlt, hu, hwm, hjL, b1, b2, b3, wj, next =>
        obtain ⟨v, hv⟩ : ∃ v, v = L.getD i ⟨#[]⟩ := ⟨_, rfl⟩
        have hvm : L[i]? = some v := by rw [hv]; simp [List.getD, show i < L.length by omega]
        have hvp := hpos v (List.mem_of_getElem? hvm)
        have hla : lastL L (i + 1) = letC (bt v 0) := by rw [hv]; rfl
        rw [hla] at hu
        obtain ⟨b7, b8, b9⟩ := b0 hvm (by omega)
        have b10 : decide ((0 : Int) ≤ 0 ∧ (0 : Int) < (v.size : Int)) = true := by rw [decide_eq_true_eq]; omega
        have b11 : decide (0 ≤ bt v (0 : Int) ∧ bt v (0 : Int) < 256) = true := decide_eq_true (bt_in v 0)
        obtain ⟨j, hj0⟩ : ∃ j : Nat, j = i + 1 := ⟨_, rfl⟩
        rw [← hj0] at next b1 b2 b3 ⊢
        have g1 : same (PV.bool (decide (0 < (j : Int)))) (PV.bool true) = true := sameB (decide_eq_true (by omega))
        have g2 : same (PV.int IntKind.i64 (IntKind.wrap IntKind.i64 (Int.ofNat j - (1 : Int)))) (PV.int IntKind.i64 (Int.ofNat i)) = true := same_of (congrArg (PV.int .i64) (by
          show IntKind.wrap IntKind.i64 ((j : Int) - 1) = (i : Int)
          rw [IntKind.wrap_i64]; omega))
        cases p1 : letC (bt v 0) with
        | false =>
          have g3 := sameB p1
          rw [if_neg (by rw [p1]; intro g; exact absurd g.1 (by decide))] at hu
          exact SWP.runQ (SBr [(61, [(39, true), (40, true), (41, true), (57, true), (58, true), (59, true)])] [(61, [(35, .bool true), (38, .int .i64 i), (40, .str v), (42, .bool false), (58, .str w)])]) 100 61 hnt [8, 10, 11] (e := .normal) (z := { t := [(8, PV.slice m cs), (10, PV.str (u ++ w)), (11, PV.int IntKind.i64 (Int.ofNat j))], h := { bx := [], rw := [] } }) (o := [(same (PV.bool (decide (0 < (j : Int)))) (PV.bool true), true), (same (PV.int IntKind.i64 (IntKind.wrap IntKind.i64 (Int.ofNat j - (1 : Int)))) (PV.int IntKind.i64 (Int.ofNat i)), true), (decide (0 ≤ (i : Int) ∧ (i : Int) < (m : Int)), true), (decide (1 ≤ List.length (List.drop (Int.toNat (i : Int) * 1) cs)), true), (same (List.headD (List.drop (Int.toNat (i : Int) * 1) cs) .junk) (.str v), true), (decide ((0 : Int) ≤ 0 ∧ (0 : Int) < (v.size : Int)), true), (true, true), (decide (0 ≤ bt v (0 : Int) ∧ bt v (0 : Int) < 256), true), (same (PV.bool (letC (bt v (0 : Int)))) (PV.bool false), true), (decide (0 ≤ (j : Int) ∧ (j : Int) < (m : Int)), true), (decide (1 ≤ List.length (List.drop (Int.toNat (j : Int) * 1) cs)), true), (same (List.headD (List.drop (Int.toNat (j : Int) * 1) cs) .junk) (.str w), true), (Nat.ble (ByteArray.size u + ByteArray.size w) 9223372036854775807, true)]) (by kernel_rfl) (by ((repeat' (first | exact okO_nil | refine okN ?_ ?_)); all_goals first | assumption | rfl | exact same_of rfl | exact sameS_self _ | (simp only [decide_eq_true_eq, decide_eq_false_iff_not, Nat.ble_eq, Nat.beq_eq, beq_eq_false_iff_ne, beq_iff_eq, ne_eq] <;> omega))) (fun st hst => next st (u ++ w) (by rw [hj0, str_app, List.append_assoc]; exact hu) hst)
        | true =>
          have g3 := sameB p1
          cases p2 : letC (bt w 0) with
          | false =>
            have g4 := sameB p2
            rw [if_neg (by rw [p2]; intro g; exact absurd g.2 (by decide))] at hu
            exact SWP.runQ (SBr [(61, [(39, true), (40, true), (41, true), (47, true), (48, true), (49, true), (57, true), (58, true), (59, true)])] [(61, [(35, .bool true), (38, .int .i64 i), (40, .str v), (42, .bool true), (48, .str w), (50, .bool false), (58, .str w)])]) 100 61 hnt [8, 10, 11] (e := .normal) (z := { t := [(8, PV.slice m cs), (10, PV.str (u ++ w)), (11, PV.int IntKind.i64 (Int.ofNat j))], h := { bx := [], rw := [] } }) (o := [(same (PV.bool (decide (0 < (j : Int)))) (PV.bool true), true), (same (PV.int IntKind.i64 (IntKind.wrap IntKind.i64 (Int.ofNat j - (1 : Int)))) (PV.int IntKind.i64 (Int.ofNat i)), true), (decide (0 ≤ (i : Int) ∧ (i : Int) < (m : Int)), true), (decide (1 ≤ List.length (List.drop (Int.toNat (i : Int) * 1) cs)), true), (same (List.headD (List.drop (Int.toNat (i : Int) * 1) cs) .junk) (.str v), true), (decide ((0 : Int) ≤ 0 ∧ (0 : Int) < (v.size : Int)), true), (true, true), (decide (0 ≤ bt v (0 : Int) ∧ bt v (0 : Int) < 256), true), (same (PV.bool (letC (bt v (0 : Int)))) (PV.bool true), true), (decide (0 ≤ (j : Int) ∧ (j : Int) < (m : Int)), true), (decide (1 ≤ List.length (List.drop (Int.toNat (j : Int) * 1) cs)), true), (same (List.headD (List.drop (Int.toNat (j : Int) * 1) cs) .junk) (.str w), true), (decide ((0 : Int) ≤ 0 ∧ (0 : Int) < (w.size : Int)), true), (true, true), (decide (0 ≤ bt w (0 : Int) ∧ bt w (0 : Int) < 256), true), (same (PV.bool (letC (bt w (0 : Int)))) (PV.bool false), true), (decide (0 ≤ (j : Int) ∧ (j : Int) < (m : Int)), true), (decide (1 ≤ List.length (List.drop (Int.toNat (j : Int) * 1) cs)), true), (same (List.headD (List.drop (Int.toNat (j : Int) * 1) cs) .junk) (.str w), true), (Nat.ble (ByteArray.size u + ByteArray.size w) 9223372036854775807, true)]) (by kernel_rfl) (by ((repeat' (first | exact okO_nil | refine okN ?_ ?_)); all_goals first | assumption | rfl | exact same_of rfl | exact sameS_self _ | (simp only [decide_eq_true_eq, decide_eq_false_iff_not, Nat.ble_eq, Nat.beq_eq, beq_eq_false_iff_ne, beq_iff_eq, ne_eq] <;> omega))) (fun st hst => next st (u ++ w) (by rw [hj0, str_app, List.append_assoc]; exact hu) hst)
          | true =>
            have g4 := sameB p2
            rw [if_pos ⟨p1, p2⟩] at hu
            have hul2 := congrArg List.length hu
            simp only [List.length_append, str_len, List.length_cons, List.length_nil] at hul2
            have b12 : Nat.ble (ByteArray.size u + 1) 9223372036854775807 = true := Nat.ble_eq_true_of_le (by omega)
            have hs1 : ByteArray.size (u ++ ⟨#[32]⟩) = u.size + 1 := by rw [ByteArray.size_append]; rfl
            have b13 : Nat.ble (ByteArray.size (u ++ ⟨#[32]⟩) + ByteArray.size w) 9223372036854775807 = true := Nat.ble_eq_true_of_le (by rw [hs1]; omega)
            exact SWP.runQ (SBr [(61, [(39, true), (40, true), (41, true), (47, true), (48, true), (49, true), (53, true), (57, true), (58, true), (59, true)])] [(61, [(35, .bool true), (38, .int .i64 i), (40, .str v), (42, .bool true), (48, .str w), (50, .bool true), (58, .str w)])]) 100 61 hnt [8, 10, 11] (e := .normal) (z := { t := [(8, PV.slice m cs), (10, PV.str (u ++ { data := #[32] } ++ w)), (11, PV.int IntKind.i64 (Int.ofNat j))], h := { bx := [], rw := [] } }) (o := [(same (PV.bool (decide (0 < (j : Int)))) (PV.bool true), true), (same (PV.int IntKind.i64 (IntKind.wrap IntKind.i64 (Int.ofNat j - (1 : Int)))) (PV.int IntKind.i64 (Int.ofNat i)), true), (decide (0 ≤ (i : Int) ∧ (i : Int) < (m : Int)), true), (decide (1 ≤ List.length (List.drop (Int.toNat (i : Int) * 1) cs)), true), (same (List.headD (List.drop (Int.toNat (i : Int) * 1) cs) .junk) (.str v), true), (decide ((0 : Int) ≤ 0 ∧ (0 : Int) < (v.size : Int)), true), (true, true), (decide (0 ≤ bt v (0 : Int) ∧ bt v (0 : Int) < 256), true), (same (PV.bool (letC (bt v (0 : Int)))) (PV.bool true), true), (decide (0 ≤ (j : Int) ∧ (j : Int) < (m : Int)), true), (decide (1 ≤ List.length (List.drop (Int.toNat (j : Int) * 1) cs)), true), (same (List.headD (List.drop (Int.toNat (j : Int) * 1) cs) .junk) (.str w), true), (decide ((0 : Int) ≤ 0 ∧ (0 : Int) < (w.size : Int)), true), (true, true), (decide (0 ≤ bt w (0 : Int) ∧ bt w (0 : Int) < 256), true), (same (PV.bool (letC (bt w (0 : Int)))) (PV.bool true), true), (Nat.ble (ByteArray.size u + 1) 9223372036854775807, true), (decide (0 ≤ (j : Int) ∧ (j : Int) < (m : Int)), true), (decide (1 ≤ List.length (List.drop (Int.toNat (j : Int) * 1) cs)), true), (same (List.headD (List.drop (Int.toNat (j : Int) * 1) cs) .junk) (.str w), true), (Nat.ble (ByteArray.size (u ++ ⟨#[32]⟩) + ByteArray.size w) 9223372036854775807, true)]) (by kernel_rfl) (by ((repeat' (first | exact okO_nil | refine okN ?_ ?_)); all_goals first | assumption | rfl | exact same_of rfl | exact sameS_self _ | (simp only [decide_eq_true_eq, decide_eq_false_iff_not, Nat.ble_eq, Nat.beq_eq, beq_eq_false_iff_ne, beq_iff_eq, ne_eq] <;> omega))) (fun st hst => next st (u ++ ⟨#[32]⟩ ++ w) (by rw [hj0, str_app, str_app, List.append_assoc, List.append_assoc]; exact hu) hst)
    · have d2 := ge_at hge
      rw [List.drop_of_length_le (by omega), bareL, List.append_nil] at hu
      refine SWP.runQ (SBr [(61, [(30, false)])] []) 100 61 hnt [10] (e := .exit 0) (z := { t := [(10, PV.str u)], h := { bx := [], rw := [] } }) (o := [(decide ((↑j : Int) < (↑m : Int)), false), (false, false)]) (by kernel_rfl) (by ((repeat' (first | exact okO_nil | refine okN ?_ ?_)); all_goals first | assumption | rfl | exact same_of rfl | exact sameS_self _ | (simp only [decide_eq_true_eq, decide_eq_false_iff_not, Nat.ble_eq, Nat.beq_eq, beq_eq_false_iff_ne, beq_iff_eq, ne_eq] <;> omega))) (fun st hst => hK9 st (.norm [10] ?_))
      rw [hst]
      exact SWP.runQ (SBr [] []) 100 61 hnt [2, 3, 4] (e := .ret) (z := { t := [(2, PV.str u), (3, PV.int IntKind.i64 (0 : Int)), (4, PV.int IntKind.i64 (0 : Int))], h := { bx := [], rw := [] } }) (o := []) (by kernel_rfl) (by ((repeat' (first | exact okO_nil | refine okN ?_ ?_)); all_goals first | assumption | rfl | exact same_of rfl | exact sameS_self _ | (simp only [decide_eq_true_eq, decide_eq_false_iff_not, Nat.ble_eq, Nat.beq_eq, beq_eq_false_iff_ne, beq_iff_eq, ne_eq] <;> omega))) (fun st hst => fin st u 0 0 hst (by rw [hX, ← hu]; exact (mkB_list u).symm) hA.symm he.symm)
  · have d1 : (!alE s == (0 : Int)) = true := by rw [beqF he]; rfl
    refine Q.seq fun K hK => ?_
    exact SWP.runQ (SBr [(61, [(19, true)])] []) 100 61 hnt [2, 3, 4] (e := .ret) (z := { t := [(2, PV.str { data := #[] }), (3, PV.int IntKind.i64 (alA s)), (4, PV.int IntKind.i64 (alE s))], h := { bx := [], rw := [] } }) (o := [(true, true), (!alE s == (0 : Int), true), (true, true)]) (by kernel_rfl) (by ((repeat' (first | exact okO_nil | refine okN ?_ ?_)); all_goals first | assumption | rfl | exact same_of rfl | exact sameS_self _ | (simp only [decide_eq_true_eq, decide_eq_false_iff_not, Nat.ble_eq, Nat.beq_eq, beq_eq_false_iff_ne, beq_iff_eq, ne_eq] <;> omega))) (fun st hst => fin st ⟨#[]⟩ (alA s) (alE s) hst (by unfold bareX; rw [if_neg he]) (by unfold bareA; rw [if_neg he]) rfl)
end Seat
end Go.Proofs.YtenpjkcclmmlhaaDoor
/- The reader's laws: the chapter's examples (alive). Printed by dev/alv.py and dev/nfsub.py (this session's). -/
namespace Go.Proofs.YtenpjkcclmmlhaaDoor
open Go.AS Go.RowKit
set_option linter.unusedVariables false
set_option linter.unusedSimpArgs false
set_option maxRecDepth 100000
set_option maxHeartbeats 4000000
namespace Seat
open Classical in
noncomputable def isSml (cs : List PV) : Bool := decide (∃ d : Dat, d.cells = cs ∧ Small d)
theorem isSml_at {d : Dat} (h : Small d) : isSml d.cells = true := by
  unfold isSml
  classical exact decide_eq_true ⟨d, rfl, h⟩
theorem isSml_of {cs : List PV} (h : isSml cs = true) : ∃ d : Dat, d.cells = cs ∧ Small d := by
  unfold isSml at h
  classical exact of_decide_eq_true h
noncomputable def wrBC (cs : List PV) : ByteArray := ofCells wrB ⟨#[]⟩ cs
noncomputable def wrEC (cs : List PV) : Int := ofCells wrE 0 cs
def ofA (s : ByteArray) : Int := (offR s [1, 1, 0]).1
def ofE (s : ByteArray) : Int := (offR s [1, 1, 0]).2
noncomputable def avS (f : Nat) (args : List PV) : Option (PV × Ob) := match f, args with
  | 15, [.str s] => some (.tup [.agg [.int .i64 (ndK (onX s)), .int .i64 (ndN (onX s)), .str (ndT (onX s)), .slice (Dats.len (Nds.dat (ndS (onX s)))) (Dats.cells (Nds.dat (ndS (onX s))))], .int .i64 (onA s), .int .i64 (onE s)], [])
  | 24, [.str s, .slice 3 [.int .i64 1, .int .i64 1, .int .i64 0]] => some (.tup [.int .i64 (ofA s), .int .i64 (ofE s)], [])
  | 20, [.agg cs] => some (.tup [.str (wrBC cs), .int .i64 (wrEC cs)], [(isSml cs, true)])
  | _, _ => none
theorem avS_ok (f : Nat) (args : List PV) (r : PV) (o : Ob) (h : avS f args = some (r, o)) (ho : ∀ p ∈ o, p.1 = p.2) (_ : pureL args = true) : Pure G0 f args (fun x => x = r) := by
  unfold avS at h
  split at h
  · cases h
    exact ReadP _
  · cases h
    exact offsetP _ [1, 1, 0] (by decide)
  · rename_i cs _
    cases h
    obtain ⟨d, rfl, h1⟩ := isSml_of (ho (isSml cs, true) (List.mem_singleton.2 rfl))
    unfold wrBC wrEC
    rw [ofCells_at, ofCells_at]
    exact writeP d h1.good h1.2.1 (by have := h1.2.2; omega)
  · cases h
noncomputable def SAv (l : List (Nat × List (Nat × Bool))) (v : List (Nat × List (Nat × PV))) : Cfg G0 := { F := F, hF := hF, S := avS, hS := avS_ok, orc := orcM l, val := valM v }
def xA : ByteArray := ⟨#[40, 97, 32, 39, 40, 49, 32, 98, 41, 41, 32, 59, 32, 99]⟩
def xB : ByteArray := ⟨#[40, 97, 32, 48, 49, 41]⟩
def xC : ByteArray := ⟨#[40, 97]⟩
def xD : ByteArray := ⟨#[97, 32, 98]⟩
def xW : ByteArray := ⟨#[40, 97, 32, 40, 113, 117, 111, 116, 101, 32, 40, 49, 32, 98, 41, 41, 41]⟩
def yA : Dat := .mk 2 0 ⟨#[97]⟩ .nil
def yK : Dats := .cons yA (.cons (.mk 3 0 ⟨#[]⟩ (.cons (.mk 2 0 ⟨#[113, 117, 111, 116, 101]⟩ .nil) (.cons (.mk 3 0 ⟨#[]⟩ (.cons (.mk 1 1 ⟨#[]⟩ .nil) (.cons (.mk 2 0 ⟨#[98]⟩ .nil) .nil))) .nil))) .nil)
def yD : Dat := .mk 3 0 ⟨#[]⟩ yK
theorem x1 : (onX xA).dat = yD ∧ onE xA = 0 := ⟨by kernel_rfl, by kernel_rfl⟩
theorem x2 : ofE xA = 0 ∧ ofA xA = 5 := ⟨by kernel_rfl, by kernel_rfl⟩
theorem x3 : onE xB = 4 ∧ onA xB = 3 := ⟨by kernel_rfl, by kernel_rfl⟩
theorem x4 : onE xC = 4 ∧ onA xC = 2 := ⟨by kernel_rfl, by kernel_rfl⟩
theorem x5 : onE xD = 4 ∧ onA xD = 2 := ⟨by kernel_rfl, by kernel_rfl⟩
theorem x6 : wrE yD = 0 ∧ wrB yD = xW := ⟨by kernel_rfl, by kernel_rfl⟩
theorem y_small : Small yD := by
  refine ⟨?_, ?_, Nat.le_of_ble_eq_true (by kernel_rfl)⟩
  · simp [yD, yK, yA, Dat.ok, Dats.ok, Dats.len]
  · simp [yD, yK, yA, Dat.rng, Dats.rng]
theorem bq {a b : Int} (h : a = b) : (a == b) = true := by rw [h]; exact beq_self_eq_true b
theorem alive_ok : Pure G0 18 [] (fun r => r = .bool true) := by
  have hc : ndJ (onX xA) = yD.cells := by rw [ndJ_eq, x1.1]
  have c1 := bq x1.2
  have c2 := bq x2.1
  have c3 := bq x2.2
  have c4 := bq x3.1
  have c5 := bq x3.2
  have c6 := bq x4.1
  have c7 := bq x4.2
  have c8 := bq x5.1
  have c9 := bq x5.2
  have d1 : isSml (ndJ (onX xA)) = true := by rw [hc]; exact isSml_at y_small
  have d2 : (wrEC (ndJ (onX xA)) == (0 : Int)) = true := by rw [hc]; unfold wrEC; rw [ofCells_at, x6.1]; rfl
  have d3 : (ByteArray.toList (wrBC (ndJ (onX xA))) == ByteArray.toList xW) = true := by rw [hc]; unfold wrBC; rw [ofCells_at, x6.2, beq_self_eq_true]
  refine Fn.enterB Tryd.func18 Tryd.ntmps18 rfl (Nat.le_of_ble_eq_true rfl) fun C fr fp hnt hnb hp hfr hfp => ?_
  refine SWP.runQ (SAv [(89, [(48, true), (51, true), (55, true), (59, true), (63, true), (67, true), (71, true), (75, true), (79, true), (83, true), (87, true)])] []) 100 89 hnt [0] (e := .ret) (z := ⟨[(0, .bool true)], ⟨[⟨ndJ (onX xA), 25⟩, ⟨ndJ (onX xB), 25⟩, ⟨ndJ (onX xC), 25⟩, ⟨ndJ (onX xD), 25⟩], []⟩⟩) (o := [(true, true), (true, true), (true, true), (true, true), (true, true), (true, true), (isSml (ndJ (onX xA)), true), (true, true), (true, true), (true, true), (true, true), (true, true), (true, true), (true, true), (true, true), (true, true), (wrEC (ndJ (onX xA)) == (0 : Int), true), (ByteArray.toList (wrBC (ndJ (onX xA))) == ByteArray.toList xW, true)]) (by kernel_rfl) (by ((repeat' (first | exact okO_nil | refine okN ?_ ?_)); all_goals first | assumption | rfl | exact same_of rfl | exact sameS_self _ | (simp only [decide_eq_true_eq, decide_eq_false_iff_not, Nat.ble_eq, Nat.beq_eq, beq_eq_false_iff_ne, beq_iff_eq, ne_eq] <;> omega))) (fun st hs => hfr st [0] ?_)
  rw [hs]
  exact ⟨0, .bool true, Nat.le_refl _, Nat.zero_le _, rfl, rfl, rfl, rfl, _, rfl, rfl⟩
/-- A string that is not much longer than may be read. -/
def shortS (s : ByteArray) : ByteArray := s.extract 0 (min s.size 20003)
theorem short_ok (s : ByteArray) (hs : s.size ≤ 9223372036854775807) : Pure G0 14 [.str s] (fun r => r = .str (shortS s)) := by
  have e : (if (20003 : Int) < (s.size : Int) then (20003 : Int) else (s.size : Int)) = ((min s.size 20003 : Nat) : Int) := by split <;> omega
  have d1 : decide ((0 : Int) ≤ 0 ∧ (0 : Int) ≤ (if (20003 : Int) < (s.size : Int) then (20003 : Int) else (s.size : Int)) ∧ (if (20003 : Int) < (s.size : Int) then (20003 : Int) else (s.size : Int)) ≤ (s.size : Int)) = true := by rw [e, decide_eq_true_eq]; omega
  refine Fn.enterB Tryd.func14 Tryd.ntmps14 rfl (Nat.le_of_ble_eq_true rfl) fun C fr fp hnt hnb hp hfr hfp => ?_
  refine SWP.runQ (SAv [(8, [(7, true)])] []) 100 8 hnt [2] (e := .ret) (z := ⟨[(2, .str (ByteArray.extract s 0 (Int.toNat (if (20003 : Int) < (s.size : Int) then (20003 : Int) else (s.size : Int)))))], ⟨[], []⟩⟩) (o := [(decide ((0 : Int) ≤ 0 ∧ (0 : Int) ≤ (if (20003 : Int) < (s.size : Int) then (20003 : Int) else (s.size : Int)) ∧ (if (20003 : Int) < (s.size : Int) then (20003 : Int) else (s.size : Int)) ≤ (s.size : Int)), true)]) (by kernel_rfl) (by ((repeat' (first | exact okO_nil | refine okN ?_ ?_)); all_goals first | assumption | rfl | exact same_of rfl | exact sameS_self _ | (simp only [decide_eq_true_eq, decide_eq_false_iff_not, Nat.ble_eq, Nat.beq_eq, beq_eq_false_iff_ne, beq_iff_eq, ne_eq] <;> omega))) (fun st hs => hfr st [2] ?_)
  rw [hs, e, Int.toNat_natCast]
  exact ⟨0, _, Nat.le_refl _, Nat.zero_le _, rfl, rfl, rfl, rfl, _, rfl, rfl⟩
end Seat
end Go.Proofs.YtenpjkcclmmlhaaDoor
/- The law of ReaderBare. Printed by dev/lwg.py and dev/nfsub.py (this session's). -/
namespace Go.Proofs.YtenpjkcclmmlhaaDoor
open Go.AS Go.RowKit
set_option linter.unusedVariables false
set_option linter.unusedSimpArgs false
set_option maxRecDepth 100000
set_option maxHeartbeats 4000000
namespace Seat
noncomputable def bwS (f : Nat) (args : List PV) : Option (PV × Ob) := match f, args with
  | 14, [.str s] => some (.str (shortS s), [(Nat.ble s.size 9223372036854775807, true)])
  | 33, [.str s] => some (.tup [.str (bareX s), .int .i64 (bareA s), .int .i64 (alE s)], [])
  | 34, [.str s] => some (.tup [.str (bareX s), .int .i64 (bareA s), .int .i64 (alE s)], [])
  | 18, [] => some (.bool true, [])
  | _, _ => none
theorem bwS_ok (f : Nat) (args : List PV) (r : PV) (o : Ob) (h : bwS f args = some (r, o)) (ho : ∀ p ∈ o, p.1 = p.2) (_ : pureL args = true) : Pure G0 f args (fun x => x = r) := by
  unfold bwS at h
  split at h
  · rename_i s _
    cases h
    exact short_ok s (Nat.le_of_ble_eq_true (ho _ (List.mem_singleton.2 rfl)))
  · cases h
    exact bareP _
  · cases h
    exact bareR _
  · cases h
    exact alive_ok
  · cases h
noncomputable def SBw (l : List (Nat × List (Nat × Bool))) (v : List (Nat × List (Nat × PV))) : Cfg G0 := { F := F, hF := hF, S := bwS, hS := bwS_ok, orc := orcM l, val := valM v }
theorem bare_law (s : ByteArray) (hs : s.size ≤ 9223372036854775807) : Pure G0 12 [.str s] (fun r => r = .bool true) := by
  have c0 : (ByteArray.toList (bareX (shortS s)) == ByteArray.toList (bareX (shortS s))) = true := beq_self_eq_true _
  have c1 : (bareA (shortS s) == bareA (shortS s)) = true := beq_self_eq_true _
  have c2 : (alE (shortS s) == alE (shortS s)) = true := beq_self_eq_true _
  have c3 : Nat.ble s.size 9223372036854775807 = true := Nat.ble_eq_true_of_le hs
  refine Fn.enterB Tryd.func12 Tryd.ntmps12 rfl (Nat.le_of_ble_eq_true rfl) fun C fr fp hnt hnb hp hfr hfp => ?_
  refine SWP.runQ (SBw [(40, [(26, true), (30, true), (35, true)])] []) 100 40 hnt [2] (e := .ret) (z := { t := [(2, PV.bool true)], h := { bx := [], rw := [] } }) (o := [(true, true), (Nat.ble s.size 9223372036854775807, true), (true, true), (true, true), (ByteArray.toList (bareX (shortS s)) == ByteArray.toList (bareX (shortS s)), true), (bareA (shortS s) == bareA (shortS s), true), (alE (shortS s) == alE (shortS s), true), (true, true)]) (by kernel_rfl) (by ((repeat' (first | exact okO_nil | refine okN ?_ ?_)); all_goals first | assumption | rfl | exact same_of rfl | exact sameS_self _ | (simp only [decide_eq_true_eq, decide_eq_false_iff_not, Nat.ble_eq, Nat.beq_eq, beq_eq_false_iff_ne, beq_iff_eq, ne_eq] <;> omega))) (fun st hs => hfr st [2] ?_)
  rw [hs]
  exact ⟨0, .bool true, Nat.le_refl _, Nat.zero_le _, rfl, rfl, rfl, rfl, _, rfl, rfl⟩
end Seat
end Go.Proofs.YtenpjkcclmmlhaaDoor
/- A world that holds the seat's tables: for the witnesses. Printed by gen.py (this session's). -/
namespace Go.Proofs.YtenpjkcclmmlhaaDoor
open Go.ChangeShapes Go.WideShapes Go.ChangeAt Go.RowKit
set_option linter.unusedVariables false
set_option maxRecDepth 100000
namespace Seat
def putG (h : Array Obj) (g : Nat) (cs : Array Value) : Array Obj := h.modify g fun
  | .cells _ t frozen => .cells cs t frozen
  | o => o
noncomputable def laidWorld (os : Os) : World :=
  let w0 := World.holding Tryd.prog os ⟨#[.cells #[.string ⟨#[118, 97, 108, 117, 101, 32, 111, 117, 116, 32, 111, 102, 32, 114, 97, 110, 103, 101]⟩] 156, .cells #[.string ⟨#[105, 110, 118, 97, 108, 105, 100, 32, 115, 121, 110, 116, 97, 120]⟩] 156], #[], []⟩
  { w0 with heap := putG (putG (putG (putG (putG (w0.heap) 4 #[.int .u8 0, .int .u8 1, .int .u8 28, .int .u8 2, .int .u8 29, .int .u8 14, .int .u8 24, .int .u8 3, .int .u8 30, .int .u8 22, .int .u8 20, .int .u8 15, .int .u8 25, .int .u8 17, .int .u8 4, .int .u8 8, .int .u8 31, .int .u8 27, .int .u8 13, .int .u8 23, .int .u8 21, .int .u8 19, .int .u8 16, .int .u8 7, .int .u8 26, .int .u8 12, .int .u8 18, .int .u8 6, .int .u8 11, .int .u8 5, .int .u8 10, .int .u8 9]) 5 #[.int .u8 0, .int .u8 1, .int .u8 56, .int .u8 2, .int .u8 57, .int .u8 49, .int .u8 28, .int .u8 3, .int .u8 61, .int .u8 58, .int .u8 42, .int .u8 50, .int .u8 38, .int .u8 29, .int .u8 17, .int .u8 4, .int .u8 62, .int .u8 47, .int .u8 59, .int .u8 36, .int .u8 45, .int .u8 43, .int .u8 51, .int .u8 22, .int .u8 53, .int .u8 39, .int .u8 33, .int .u8 30, .int .u8 24, .int .u8 18, .int .u8 12, .int .u8 5, .int .u8 63, .int .u8 55, .int .u8 48, .int .u8 27, .int .u8 60, .int .u8 41, .int .u8 37, .int .u8 16, .int .u8 46, .int .u8 35, .int .u8 44, .int .u8 21, .int .u8 52, .int .u8 32, .int .u8 23, .int .u8 11, .int .u8 54, .int .u8 26, .int .u8 40, .int .u8 15, .int .u8 34, .int .u8 20, .int .u8 31, .int .u8 10, .int .u8 25, .int .u8 14, .int .u8 19, .int .u8 9, .int .u8 13, .int .u8 8, .int .u8 7, .int .u8 6]) 1 #[.int .u64 1, .int .u64 10, .int .u64 100, .int .u64 1000, .int .u64 10000, .int .u64 100000, .int .u64 1000000, .int .u64 10000000, .int .u64 100000000, .int .u64 1000000000, .int .u64 10000000000, .int .u64 100000000000, .int .u64 1000000000000, .int .u64 10000000000000, .int .u64 100000000000000, .int .u64 1000000000000000, .int .u64 10000000000000000, .int .u64 100000000000000000, .int .u64 1000000000000000000, .int .u64 10000000000000000000]) 3 #[.iface 154 (.pointer (some ⟨(World.settled Tryd.prog os).heap.size + 0, 0, none⟩))]) 2 #[.iface 154 (.pointer (some ⟨(World.settled Tryd.prog os).heap.size + 1, 0, none⟩))] }
theorem laid_met (os : Os) (args : Array Value) : laidMet Tryd.prog Rows.readerReadsRow.laid ((laidWorld os).forCall (fun _ _ => 0) ⟨#[], args, []⟩).memory :=
  laidMet_of_run' 9 (by kernel_rfl) (by kernel_rfl)
theorem own : ownKnob Tryd.prog.godebug = none := by kernel_rfl
end Seat
end Go.Proofs.YtenpjkcclmmlhaaDoor
/- Abstract states (own engine), part 1: what is read of data that are kept; trees that are read. -/
namespace Go.AS
open Go.ChangeShapes Go.WideShapes Go.ChangeAt Go.RowKit
set_option linter.unusedVariables false
set_option linter.unusedSimpArgs false
section
variable {H : Type} {enc : TypeId × Value → H} {P : Program} {w w' : World} {base : Nat} {held : Bool}
/-- Types of numbers, truth, strings, and slices, structs of such. -/
structure Flat (P : Program) (S : TypeId → Prop) : Prop where
  at' : ∀ t, S t → P.underlying t = some .bool ∨ (∃ k, P.underlying t = some (.int k)) ∨ P.underlying t = some .string ∨ (∃ e, P.underlying t = some (.slice e) ∧ S e ∧ 0 < P.cellsOf e) ∨ (∃ fs, P.underlying t = some (.struct fs) ∧ ∀ f ∈ fs.toList, S f.type)
theorem cells?_move {a : Addr} {n : Nat} {cs : List Value} (hw : ∀ a v, w.cell? a = some v → w'.cell? a = some v) (h : w.cells? base a n = some cs) : w'.cells? 0 a n = some cs := by
  obtain ⟨_, hl, hc⟩ := World.cells?_some h
  unfold World.cells?
  rw [if_pos (Nat.zero_le _)]
  refine mapM_some_of_get _ _ (by simp [hl]) fun i x hx => ?_
  have hi : i < n := by have := (List.getElem?_eq_some_iff.1 hx).1; simpa using this
  rw [List.getElem?_range hi] at hx
  cases hx
  rw [← hc i hi]
  cases hv : w.cell? (a.add i) with
  | none => rw [hc i hi] at hv; rw [List.getElem?_eq_none_iff] at hv; omega
  | some v => exact hw _ _ hv
theorem trod_move {S : TypeId → Prop} (hS : Flat P S) (hw : ∀ a v, w.cell? a = some v → w'.cell? a = some v) (sp : Nat → Bool) : ∀ (m : Nat) (t : TypeId) (cs : List Value) (x : DataW H × List MemPlace), S t → DataW.trod enc P w base (fun _ => true) held m t cs = some x → (∀ q ∈ x.2, sp q.block = true) → DataW.trod enc P w' 0 sp held m t cs = some x := by
  intro m
  induction m with
  | zero => intro t cs x _ h; simp [DataW.trod] at h
  | succ m ih =>
    intro t cs x ht h hp
    rcases hS.at' t ht with hu | ⟨k, hu⟩ | hu | ⟨e, hu, he, hpos⟩ | ⟨fs, hu, hfs⟩
    · obtain ⟨b, rfl, rfl⟩ := DataW.trod_bool hu h
      unfold DataW.trod
      rw [hu]
    · obtain ⟨n, rfl, rfl, hwf⟩ := DataW.trod_int hu h
      exact trod_int_mk m hu hwf
    · obtain ⟨s, rfl, rfl, hs⟩ := DataW.trod_string hu h
      unfold DataW.trod
      rw [hu]
      simp [hs]
    · rcases DataW.trod_slice hu h with ⟨rfl, rfl⟩ | ⟨a, len, cap, elems, rest, n, hn, rfl, rfl, h1, h2, h3, h4, h5, h6, _⟩
      · unfold DataW.trod
        rw [hu]
        rfl
      · obtain rfl : m = n := by omega
        obtain ⟨h6, h7⟩ := h6 rfl
        have hin : ∀ y, y ∈ elems ∨ y ∈ rest → ∀ q ∈ y.2, sp q.block = true := fun y hy q hq => hp q (List.mem_append_right _ (List.mem_flatMap.2 ⟨y, List.mem_append.2 hy, hq⟩))
        have go : ∀ (i : Nat) (y : DataW H × List MemPlace), (w.cells? base (a.add (i * P.cellsOf e)) (P.cellsOf e)).bind (DataW.trod enc P w base (fun _ => true) held m e) = some y → (∀ q ∈ y.2, sp q.block = true) → (w'.cells? 0 (a.add (i * P.cellsOf e)) (P.cellsOf e)).bind (DataW.trod enc P w' 0 sp held m e) = some y := fun i y hy hq => by
          obtain ⟨cs, hcs, htr⟩ := Option.bind_eq_some_iff.1 hy
          rw [cells?_move hw hcs]
          exact ih e cs y he htr hq
        have e1 : (List.range len).mapM (fun i => (w'.cells? 0 (a.add (i * P.cellsOf e)) (P.cellsOf e)).bind (DataW.trod enc P w' 0 sp held m e)) = some elems := mapM_some_of_get _ _ (by simp [h4]) fun i y hy => by
          have hi : i < len := by have := (List.getElem?_eq_some_iff.1 hy).1; simpa using this
          rw [List.getElem?_range hi] at hy
          cases hy
          obtain ⟨z, hz⟩ : ∃ z, elems[i]? = some z := ⟨_, List.getElem?_eq_getElem (by omega)⟩
          rw [hz]
          exact go i z (by rw [h5 i hi, hz]) (hin z (.inl (List.mem_of_getElem? hz)))
        have e2 : (List.range (cap - len)).mapM (fun j => (w'.cells? 0 (a.add ((len + j) * P.cellsOf e)) (P.cellsOf e)).bind (DataW.trod enc P w' 0 sp held m e)) = some rest := mapM_some_of_get _ _ (by simp [h6]) fun i y hy => by
          have hi : i < cap - len := by have := (List.getElem?_eq_some_iff.1 hy).1; simpa using this
          rw [List.getElem?_range hi] at hy
          cases hy
          obtain ⟨z, hz⟩ : ∃ z, rest[i]? = some z := ⟨_, List.getElem?_eq_getElem (by omega)⟩
          rw [hz]
          exact go (len + i) z (by rw [h7 i hi, hz]) (hin z (.inr (List.mem_of_getElem? hz)))
        have e3 : (if sp a.block then (List.range (cap - len)).mapM (fun j => (w'.cells? 0 (a.add ((len + j) * P.cellsOf e)) (P.cellsOf e)).bind (DataW.trod enc P w' 0 sp held m e)) else some []) = some rest := by
          by_cases hz : (elems.length + rest.length) * P.cellsOf e = 0
          · have : rest = [] := by
              rcases Nat.mul_eq_zero.1 hz with h | h
              · exact List.eq_nil_of_length_eq_zero (by omega)
              · omega
            subst this
            split
            · exact e2
            · rfl
          · have : sp a.block = true := hp (.cell a.block (a.off + 0)) (List.mem_append_left _ (List.mem_map.2 ⟨0, List.mem_range.2 (by omega), rfl⟩))
            rw [if_pos this]
            exact e2
        unfold DataW.trod
        rw [hu]
        simp only [e1, e3, Option.bind_some, Option.map_some]
        rw [if_pos ⟨Nat.zero_le _, h2, h3⟩]
    · obtain ⟨xs, n, hn, rfl, hl, hlen, hf⟩ := DataW.trod_struct hu h
      obtain rfl : m = n := by omega
      refine trod_struct_mk hu hl (mapM_some_of_get _ _ (by simpa using hlen) fun i f hi => ?_)
      obtain ⟨y, hy⟩ : ∃ y, xs[i]? = some y := ⟨_, List.getElem?_eq_getElem (by have := (List.getElem?_eq_some_iff.1 hi).1; simp at this; omega)⟩
      rw [hy]
      exact ih f.type _ y (hfs f (List.mem_of_getElem? hi)) (by rw [hf i f (by simpa using hi), hy]) (fun q hq => hp q (List.mem_flatMap.2 ⟨y, List.mem_of_getElem? hy, hq⟩))
theorem cell_keep (hk : ∀ k, k < w.heap.size → w'.heap[k]? = w.heap[k]?) (a : Addr) (v : Value) (h : w.cell? a = some v) : w'.cell? a = some v := by
  rw [← h]
  have hb : a.block < w.heap.size := by
    rcases Nat.lt_or_ge a.block w.heap.size with h' | h'
    · exact h'
    · unfold World.cell? at h
      rw [show w.heap[a.block]? = none from Array.getElem?_eq_none h'] at h
      simp at h
  unfold World.cell?
  rw [hk _ hb]
theorem trodAll_move {S : TypeId → Prop} (hS : Flat P S) (hk : ∀ k, k < w.heap.size → w'.heap[k]? = w.heap[k]?) (sp : Nat → Bool) : ∀ (ts : List TypeId) (vs : List Value) (ds : List (DataW H)) (p : List MemPlace), (∀ t ∈ ts, S t) → DataW.TrodAll enc P w base (fun _ => true) held ts vs ds p → (∀ q ∈ p, sp q.block = true) → DataW.TrodAll enc P w' 0 sp held ts vs ds p
  | [], [], [], p, _, h, _ => h
  | t :: ts, v :: vs, d :: ds, p, ht, h, hp => by
    obtain ⟨p1, q1, ⟨m, h1⟩, h2, rfl⟩ := h
    exact ⟨p1, q1, ⟨m, trod_move hS (cell_keep hk) sp m t _ _ (ht t (by simp)) h1 fun q hq => hp q (List.mem_append_left _ hq)⟩, trodAll_move hS hk sp ts vs ds q1 (fun t h => ht t (by simp [h])) h2 (fun q hq => hp q (List.mem_append_right _ hq)), rfl⟩
  | [], _ :: _, _, _, _, h, _ => by simp [DataW.TrodAll] at h
  | [], [], _ :: _, _, _, h, _ => by simp [DataW.TrodAll] at h
  | _ :: _, [], _, _, _, h, _ => by simp [DataW.TrodAll] at h
  | _ :: _, _ :: _, [], _, _, h, _ => by simp [DataW.TrodAll] at h
/-- The type of trees. -/
structure DatT (P : Program) (tD tK : TypeId) : Prop where
  st : ∃ fs f0 f1 f2 f3, P.underlying tD = some (.struct fs) ∧ fs.toList = [f0, f1, f2, f3] ∧ f0.offset = 0 ∧ f1.offset = 1 ∧ f2.offset = 2 ∧ f3.offset = 3 ∧ P.underlying f0.type = some (.int .i64) ∧ P.underlying f1.type = some (.int .i64) ∧ P.underlying f2.type = some .string ∧ f3.type = tK ∧ P.cellsOf f0.type = 1 ∧ P.cellsOf f1.type = 1 ∧ P.cellsOf f2.type = 1 ∧ P.cellsOf f3.type = 1
  sl : P.underlying tK = some (.slice tD)
  sz : P.cellsOf tD = 4
/-- Elements that are trees. -/
theorem dats_row {tD : TypeId} {sp : Nat → Bool} {n : Nat} {a : Addr} (hsz : P.cellsOf tD = 4)
    (ih : ∀ cs d p, DataW.trod enc P w base sp held n tD cs = some (d, p) → ∃ D : Dat, D.ok ∧ IReps (old w) w D.cells cs ∧ allOne D.cells = true ∧ D.rng) : ∀ (len k : Nat),
    (∀ i, i < len → ∃ x, (w.cells? base (a.add ((k + i) * 4)) 4).bind (DataW.trod enc P w base sp held n tD) = some x) →
    ∃ (ks : Dats) (vs : List Value), ks.len = len ∧ ks.ok ∧ vs.length = len * 4 ∧ (∀ (j : Nat) (v : Value), vs[j]? = some v → w.cell? (a.add (k * 4 + j)) = some v) ∧ IReps (old w) w ks.cells vs ∧ allOne ks.cells = true ∧ (0 < vs.length → a.block < w.heap.size) ∧ ks.rng := by
  intro len
  induction len with
  | zero => intro k _; exact ⟨.nil, [], rfl, trivial, rfl, (fun j v h => by simp at h), .nil _ _, rfl, (fun h => by simp at h), trivial⟩
  | succ len ihl =>
    intro k h
    obtain ⟨⟨d, p⟩, hp⟩ := h 0 (by omega)
    obtain ⟨cs, hcs, htr⟩ := Option.bind_eq_some_iff.1 hp
    obtain ⟨hb, hlen, hcell⟩ := World.cells?_some hcs
    obtain ⟨D, hok, h1, h2, h9⟩ := ih cs d p htr
    obtain ⟨ks, vs, g0, g1, g2, g3, g4, g5, g6, g9⟩ := ihl (k + 1) (fun i hi => by
      have := h (i + 1) (by omega)
      rw [show k + (i + 1) = k + 1 + i from by omega] at this
      exact this)
    refine ⟨.cons D ks, cs ++ vs, by simp [Dats.len, g0], ⟨hok, g1⟩, by simp [hlen, g2]; omega, fun j v hv => ?_, h1.append g4, allOne_append h2 g5, fun _ => ?_, ⟨h9, g9⟩⟩
    · rcases Nat.lt_or_ge j cs.length with hlt | hge
      · rw [List.getElem?_append_left hlt] at hv
        have := hcell j (by omega)
        rw [add_of_add, Nat.add_zero] at this
        rw [this]; exact hv
      · rw [List.getElem?_append_right hge] at hv
        have := g3 _ v hv
        rw [← this]
        congr 2
        omega
    · have := World.cells?_block hcs (by omega)
      rw [block_of_add] at this
      exact this
/-- What is read of a tree's cells is a tree. -/
theorem trod_dat {tD tK : TypeId} (hT : DatT P tD tK) {sp : Nat → Bool} : ∀ (m : Nat), ∀ m', m' ≤ m → ∀ (cs : List Value) (d : DataW H) (p : List MemPlace), DataW.trod enc P w base sp held m' tD cs = some (d, p) → ∃ D : Dat, D.ok ∧ IReps (old w) w D.cells cs ∧ allOne D.cells = true ∧ D.rng := by
  obtain ⟨fs, f0, f1, f2, f3, hu, hfs, o0, o1, o2, o3, u0, u1, u2, rfl, c0, c1, c2, c3⟩ := hT.st
  intro m
  induction m with
  | zero => intro m' hm cs d p h; obtain rfl : m' = 0 := by omega
            simp [DataW.trod] at h
  | succ m ih =>
    intro m' hm cs d p h
    obtain ⟨xs, n, rfl, hx, hl, hlen, hf⟩ := DataW.trod_struct hu h
    have hsz := hT.sz
    have hcl : cs.length = 4 := by omega
    match cs, hcl with
    | [v0, v1, v2, v3], _ =>
      have e0 := hf 0 f0 (by rw [← Array.getElem?_toList, hfs]; rfl)
      have e1 := hf 1 f1 (by rw [← Array.getElem?_toList, hfs]; rfl)
      have e2 := hf 2 f2 (by rw [← Array.getElem?_toList, hfs]; rfl)
      have e3 := hf 3 f3 (by rw [← Array.getElem?_toList, hfs]; rfl)
      rw [o0, c0] at e0; rw [o1, c1] at e1; rw [o2, c2] at e2; rw [o3, c3] at e3
      simp only [List.drop_zero, List.drop_succ_cons, List.take_succ_cons, List.take_zero] at e0 e1 e2 e3
      have hxl : xs.length = 4 := by rw [hlen, ← Array.length_toList, hfs]; rfl
      match xs, hxl with
      | [x0, x1, x2, x3], _ =>
        simp only [List.getElem?_cons_zero, List.getElem?_cons_succ] at e0 e1 e2 e3
        obtain ⟨k, ek, _⟩ := DataW.trod_int u0 e0
        obtain ⟨z, ez, _, wz⟩ := DataW.trod_int u1 e1
        obtain ⟨s, es, _⟩ := DataW.trod_string u2 e2
        simp only [List.cons.injEq, and_true] at ek ez es
        subst ek ez es
        have fin : ∀ (ks : Dats), ks.len ≤ 9223372036854775807 → ks.ok → ks.rng → IRep (old w) w (.slice ks.len ks.cells) v3 → ∃ D : Dat, D.ok ∧ IReps (old w) w D.cells [.int .i64 k, .int .i64 z, .string s, v3] ∧ allOne D.cells = true ∧ D.rng := fun ks h1 h2 h9 h3 =>
          ⟨.mk k z s ks, ⟨h1, h2⟩, ⟨rfl, fun j x v hx hv => by
            match j with
            | 0 => simp [Dat.cells] at hx hv; subst hx; subst hv; exact .int _ _
            | 1 => simp [Dat.cells] at hx hv; subst hx; subst hv; exact .int _ _
            | 2 => simp [Dat.cells] at hx hv; subst hx; subst hv; exact .str _
            | 3 => simp [Dat.cells] at hx hv; subst hx; subst hv; exact h3
            | j + 4 => simp at hv⟩, rfl, bounds_i64 wz, h9⟩
        rcases DataW.trod_slice hT.sl e3 with ⟨hcs, _⟩ | ⟨a, len, cap, elems, rest, n', hn', hcs, _, h1, h2, h3, h4, h5, _⟩
        · simp only [List.cons.injEq, and_true] at hcs
          subst hcs
          exact fin .nil (by simp [Dats.len]) trivial trivial .slice0
        · simp only [List.cons.injEq, and_true] at hcs
          subst hcs
          obtain ⟨ks, vs, g0, g1, g2, g3, g4, g5, g6, g9⟩ := dats_row (a := a) hsz (ih n' (by omega)) len 0 (fun i hi => by
            have := h5 i hi
            rw [hsz] at this
            rw [Nat.zero_add]
            exact ⟨_, this.trans (List.getElem?_eq_getElem (by omega))⟩)
          unfold maxLen at h3
          refine fin ks (by omega) g1 g9 ?_
          rw [g0]
          exact .slice h2 g4.1 (fun h => g6 h) (fun j v hv => by have := g3 j v hv; rwa [Nat.zero_mul, Nat.zero_add] at this) (iones g4 g5) g4.2
end
end Go.AS
namespace Go.AS
open Go.RowKit
set_option linter.unusedVariables false
/-! Boxes under other numbers. -/
mutual
def PV.mv (f : Nat → Nat) : PV → PV
  | .ptr b o => .ptr (f b) o
  | .bsl b n m => .bsl (f b) n m
  | .func fn cs => .func fn (mvL f cs)
  | .agg cs => .agg (mvL f cs)
  | .tup cs => .tup (mvL f cs)
  | .iface t x => .iface t (x.mv f)
  | .int k n => .int k n
  | .bool b => .bool b
  | .str s => .str s
  | .slice n cs => .slice n cs
  | .nil => .nil
  | .own r n => .own r n
  | .rpos r n => .rpos r n
  | .epos cs => .epos cs
  | .nilptr => .nilptr
  | .nilfunc => .nilfunc
  | .niliface => .niliface
  | .junk => .junk
def mvL (f : Nat → Nat) : List PV → List PV
  | [] => []
  | x :: xs => x.mv f :: mvL f xs
end
theorem mvL_map (f : Nat → Nat) (l : List PV) : mvL f l = l.map (·.mv f) := by
  induction l with
  | nil => rfl
  | cons x xs ih => simp [mvL, ih]
theorem IRep.mv {im : Nat → Prop} {w : World} {f : Nat → Nat} {x : PV} {v : Value} (h : IRep im w x v) : IRep im w (x.mv f) v := by
  induction h with
  | int k n => exact .int k n
  | bool b => exact .bool b
  | str s => exact .str s
  | nil => exact .nil
  | slice0 => exact .slice0
  | slice hn hl hb hc h1 hr _ => exact .slice hn hl hb hc h1 hr
  | epos hl hb hc hr _ => exact .epos hl hb hc hr
  | nilptr => exact .nilptr
  | nilfunc => exact .nilfunc
  | niliface => exact .niliface
  | func fn => exact .func fn
  | iface t _ ih => exact .iface t ih
  | agg hl hr ih =>
    simp only [PV.mv, mvL_map]
    refine .agg (by simpa using hl) fun j x v hx hv => ?_
    rw [List.getElem?_map] at hx
    obtain ⟨y, hy, rfl⟩ := Option.map_eq_some_iff.1 hx
    exact ih j y v hy hv
  | tup hl hr ih =>
    simp only [PV.mv, mvL_map]
    refine .tup (by simpa using hl) fun j x v hx hv => ?_
    rw [List.getElem?_map] at hx
    obtain ⟨y, hy, rfl⟩ := Option.map_eq_some_iff.1 hx
    exact ih j y v hy hv
theorem VRep.mv {E E' : Env} {w : World} {f : Nat → Nat} {x : PV} {v : Value} (h : VRep E w x v) (hf : ∀ b, b < E.nb → f b < E'.nb ∧ E'.β (f b) = E.β b) (hr : E'.nr = E.nr) (hρ : E'.ρ = E.ρ) (hi : E'.im = E.im) : VRep E' w (x.mv f) v := by
  induction h with
  | imm h => exact .imm (by rw [hi]; exact h.mv)
  | own hr' he hn => exact .own (by rw [hr]; exact hr') (by rw [hρ]; exact he) hn
  | rpos hr' he => exact .rpos (by rw [hr]; exact hr') (by rw [hρ]; exact he)
  | ptr o hb =>
    obtain ⟨h1, h2⟩ := hf _ hb
    simp only [PV.mv]
    rw [← h2]
    exact .ptr o h1
  | bsl hb hn =>
    obtain ⟨h1, h2⟩ := hf _ hb
    simp only [PV.mv]
    rw [← h2]
    exact .bsl h1 hn
  | func hl _ ih =>
    simp only [PV.mv, mvL_map]
    refine .func (by simpa using hl) fun j x v hx hv => ?_
    rw [List.getElem?_map] at hx
    obtain ⟨y, hy, rfl⟩ := Option.map_eq_some_iff.1 hx
    exact ih j y v hy hv
  | agg hl _ ih =>
    simp only [PV.mv, mvL_map]
    refine .agg (by simpa using hl) fun j x v hx hv => ?_
    rw [List.getElem?_map] at hx
    obtain ⟨y, hy, rfl⟩ := Option.map_eq_some_iff.1 hx
    exact ih j y v hy hv
  | tup hl _ ih =>
    simp only [PV.mv, mvL_map]
    refine .tup (by simpa using hl) fun j x v hx hv => ?_
    rw [List.getElem?_map] at hx
    obtain ⟨y, hy, rfl⟩ := Option.map_eq_some_iff.1 hx
    exact ih j y v hy hv
  | iface t _ ih => exact .iface t ih
  | junk v => exact .junk v
/-- Two boxes changed about. -/
def swp (i j k : Nat) : Nat := match Nat.beq k i with
  | true => j
  | false => match Nat.beq k j with
    | true => i
    | false => k
theorem swp_eq (i j k : Nat) : swp i j k = if k = i then j else if k = j then i else k := by
  unfold swp
  by_cases h1 : k = i
  · subst h1; rw [if_pos rfl]; simp
  · have e1 : Nat.beq k i = false := by cases hb : Nat.beq k i with | false => rfl | true => exact absurd (Nat.eq_of_beq_eq_true hb) h1
    rw [if_neg h1, e1]
    by_cases h2 : k = j
    · subst h2; rw [if_pos rfl]; simp
    · have e2 : Nat.beq k j = false := by cases hb : Nat.beq k j with | false => rfl | true => exact absurd (Nat.eq_of_beq_eq_true hb) h2
      rw [if_neg h2, e2]
theorem swp_swp (i j k : Nat) : swp i j (swp i j k) = k := by
  simp only [swp_eq]
  repeat' split
  all_goals omega
/-- The state, boxes i and j changed about. -/
def AS.swap (i j : Nat) (s : AS) : AS := ⟨s.t.map fun p => (p.1, p.2.mv (swp i j)), ⟨(List.range s.h.bx.length).map fun k => match s.h.bx[swp i j k]? with
  | some b => ⟨mvL (swp i j) b.cs, b.ty⟩
  | none => ⟨[], 0⟩, s.h.rw⟩⟩
theorem lk_map (f : PV → PV) (hj : f .junk = .junk) (t : List (Nat × PV)) (k : Nat) : lk (t.map fun p => (p.1, f p.2)) k = f (lk t k) := by
  induction t with
  | nil => simp [lk, hj]
  | cons p t ih =>
    obtain ⟨q, x⟩ := p
    simp only [List.map_cons, lk]
    split
    · rfl
    · exact ih
section
variable {G : Prg} {C : Ctx} {Q : AEx → AS → Prop} {st : AS}
theorem Rel.swap {E : Env} {a : Act} {w : World} (hr : Rel G C E st a w) {i j : Nat} (hi : C.nb ≤ i) (hj : C.nb ≤ j) (hi2 : i < st.h.bx.length) (hj2 : j < st.h.bx.length) : Rel G C { E with β := fun k => E.β (swp i j k) } (st.swap i j) a w := by
  have hnb := hr.hp.nb
  have lt : ∀ k, k < E.nb → swp i j k < E.nb := fun k hk => by unfold swp; split <;> (try split) <;> omega
  have low : ∀ k, k < C.nb → swp i j k = k := fun k hk => by
    unfold swp
    split
    · rename_i h; have := Nat.eq_of_beq_eq_true h; omega
    · split
      · rename_i h; have := Nat.eq_of_beq_eq_true h; omega
      · rfl
  have high : ∀ k, C.nb ≤ k → C.nb ≤ swp i j k := fun k hk => by unfold swp; split <;> (try split) <;> omega
  have mv : ∀ x v, VRep E w x v → VRep { E with β := fun k => E.β (swp i j k) } w (x.mv (swp i j)) v := fun x v h => h.mv (fun b hb => ⟨lt b hb, by simp only [swp_swp]⟩) rfl rfl rfl
  refine ⟨hr.defers, hr.size, fun s => ?_, ⟨by simp [AS.swap, hnb], hr.hp.nr, hr.hp.lo, fun k b hb => ?_, hr.hp.row, fun p q hp hq he => ?_, hr.hp.rinj, fun p q r hp hq => hr.hp.brw _ q r (lt p hp) hq, hr.hp.im_lt, fun k p hp hk => hr.hp.im_b k _ (lt p hp) hk, hr.hp.im_r, hr.hp.gl⟩,
    hr.lo, hr.nb, fun k hk => ?_, fun k h1 h2 => hr.own _ (high k h1) (lt k h2), hr.up, hr.dn, hr.keep, hr.os, hr.tape, hr.out, hr.sz, hr.rows⟩
  · simp only [AS.swap]
    rw [lk_map (·.mv (swp i j)) rfl]
    exact mv _ _ (hr.fr s)
  · simp only [AS.swap, List.getElem?_map] at hb
    obtain ⟨k', hk', hb⟩ := Option.map_eq_some_iff.1 hb
    have hklt : k < st.h.bx.length := by have := (List.getElem?_eq_some_iff.1 hk').1; simpa using this
    rw [List.getElem?_range hklt] at hk'
    cases hk'
    have hs : swp i j k < st.h.bx.length := by have := lt k (by rw [hnb]; exact hklt); rwa [hnb] at this
    rw [List.getElem?_eq_getElem hs] at hb
    simp only [] at hb
    subst hb
    obtain ⟨vs, h1, h2⟩ := hr.hp.box _ _ (List.getElem?_eq_getElem hs)
    refine ⟨vs, h1, by simp only [mvL_map, List.length_map]; exact h2.1, fun q x v hx hv => ?_⟩
    simp only [mvL_map, List.getElem?_map] at hx
    obtain ⟨y, hy, rfl⟩ := Option.map_eq_some_iff.1 hx
    exact mv _ _ (h2.2 q y v hy hv)
  · have h1 := hr.hp.inj _ _ (lt p hp) (lt q hq) he
    have h2 := congrArg (swp i j) h1
    rwa [swp_swp, swp_swp] at h2
  · simp only []
    rw [low k hk]
    exact hr.β k hk
theorem SWP.swap {c : Code} (i j : Nat) (hi : C.nb ≤ i) (hj : C.nb ≤ j) (hi2 : i < st.h.bx.length) (hj2 : j < st.h.bx.length) (h : SWP G C c Q (st.swap i j)) : SWP G C c Q st := fun E a w hr =>
  h _ a w (hr.swap hi hj hi2 hj2)
end
section
variable {G : Prg} {C : Ctx} {Q : AEx → AS → Prop}
theorem fa_nil {α : Type} {p : α → Prop} : ∀ x ∈ ([] : List α), p x := fun _ h => by cases h
theorem fa_cons {α : Type} {p : α → Prop} {a : α} {l : List α} (h : p a) (t : ∀ x ∈ l, p x) : ∀ x ∈ a :: l, p x := List.forall_mem_cons.2 ⟨h, t⟩
/-- Two boxes came in one order or in the other. -/
theorem SWP.either {c : Code} {st z z' : AS} (i j : Nat) (two : st = z ∨ st = z') (hi : C.nb ≤ i) (hj : C.nb ≤ j) (hi2 : i < z'.h.bx.length) (hj2 : j < z'.h.bx.length) (hz : z'.swap i j = z) (h : SWP G C c Q z) : SWP G C c Q st := by
  rcases two with rfl | rfl
  · exact h
  · exact SWP.swap i j hi hj hi2 hj2 (by rw [hz]; exact h)
end
end Go.AS
/- The seat's types of data: what is read of them is kept; trees. -/
namespace Go.Proofs.YtenpjkcclmmlhaaDoor.Seat
open Go.ChangeShapes Go.WideShapes Go.ChangeAt Go.RowKit Go.AS
set_option linter.unusedVariables false
set_option maxRecDepth 100000
def flatT (t : TypeId) : Prop := t = 3 ∨ t = 2 ∨ t = 9 ∨ t = 23 ∨ t = 25
theorem flat : Flat Tryd.prog flatT := ⟨fun t ht => by
  rcases ht with rfl | rfl | rfl | rfl | rfl
  · exact .inr (.inl ⟨_, Tryd.underlying3⟩)
  · exact .inr (.inl ⟨_, Tryd.underlying2⟩)
  · exact .inr (.inr (.inl Tryd.underlying9))
  · exact .inr (.inr (.inr (.inl ⟨_, Tryd.underlying23, .inr (.inr (.inr (.inr rfl))), by rw [show Tryd.prog.cellsOf 25 = 4 by kernel_rfl]; exact Nat.le_of_ble_eq_true rfl⟩)))
  · refine .inr (.inr (.inr (.inr ⟨_, Tryd.underlying25, fun f hf => ?_⟩)))
    simp only [List.mem_cons, List.not_mem_nil, or_false] at hf
    rcases hf with rfl | rfl | rfl | rfl
    · exact .inl rfl
    · exact .inr (.inl rfl)
    · exact .inr (.inr (.inl rfl))
    · exact .inr (.inr (.inr (.inl rfl)))⟩
theorem datT : DatT Tryd.prog 25 23 :=
  ⟨⟨_, _, _, _, _, Tryd.underlying25, rfl, rfl, rfl, rfl, rfl, Tryd.underlying3, Tryd.underlying2, Tryd.underlying9, rfl, by kernel_rfl, by kernel_rfl, by kernel_rfl, by kernel_rfl⟩, Tryd.underlying23, by kernel_rfl⟩
/-- A datum that is handed in is a tree. -/
theorem open_dat {H : Type} {enc : TypeId × Value → H} {W : World} {base b0 : Nat} {sp : Nat → Bool} {held : Bool} {v : Value} {d : DataW H} {p : List MemPlace} (hv : Value.okWide Tryd.prog W .any base 25 v) (h : DataW.Trod enc Tryd.prog W b0 sp held 25 v d p) :
    ∃ D : Dat, D.ok ∧ IRep (old W) W (.agg D.cells) v ∧ D.rng := by
  unfold Value.okWide at hv
  rw [Tryd.underlying25] at hv
  obtain ⟨cs, rfl, _, _⟩ := hv
  obtain ⟨m, h⟩ := h
  obtain ⟨D, h1, h2, _, h3⟩ := trod_dat (enc := enc) (w := W) datT m m (Nat.le_refl _) _ _ _ h
  refine ⟨D, h1, ?_, h3⟩
  have : IRep (old W) W (.agg D.cells) (.agg cs.toList.toArray) := .agg h2.1 h2.2
  rwa [Array.toArray_toList] at this
end Go.Proofs.YtenpjkcclmmlhaaDoor.Seat
