/- Texts of this session, packed: Rp9, AlDef, AllK, Bare0, Bare1, Bare2, ReadK, BareP, BackK, AlK2, Blk0, Blk1, TokR, Loos, ListsK, Alv, LawH, Wit, Eng1K, FlatY. -/
import Derived.Test.YtenpjkcclmmlhaaDoorRa5
import Derived.Deep.DeepWitnessRowRef
import Derived.DataShut
import Derived.OpenShut
import Derived.ChangeSlices
import Derived.Deep.RegionHeld
namespace Go.Proofs.YtenpjkcclmmlhaaDoor
open Go.AS Go.RowKit
set_option linter.unusedVariables false
set_option linter.unusedSimpArgs false
set_option maxRecDepth 100000
set_option maxHeartbeats 4000000
namespace Seat
def rdZ (s : ByteArray) : Nat → Nat → Nds → Nds × RS
  | 0, a, l => (l, ⟨a, 0, 0⟩)
  | k + 1, a, l => if a < s.size then (if (rdD s 1000 a).2.e = 0 then rdZ s k (skp s (rdD s 1000 a).2.a) (l.snoc (rdD s 1000 a).1) else (l, (rdD s 1000 a).2)) else (l, ⟨a, 0, 0⟩)
def azR (s : ByteArray) : Nds × Int × Int := if (rdZ s (s.size + 1) (skp s 0) .nil).2.e = 0 then ((rdZ s (s.size + 1) (skp s 0) .nil).1, 0, 0) else (.nil, (rdZ s (s.size + 1) (skp s 0) .nil).2.b, (rdZ s (s.size + 1) (skp s 0) .nil).2.e)
theorem azR_eq (s : ByteArray) : azR s = (if (rdZ s (s.size + 1) (skp s 0) .nil).2.e = 0 then ((rdZ s (s.size + 1) (skp s 0) .nil).1, 0, 0) else (.nil, (rdZ s (s.size + 1) (skp s 0) .nil).2.b, (rdZ s (s.size + 1) (skp s 0) .nil).2.e) : Nds × Int × Int) := rfl
def azX (s : ByteArray) : Nds := (azR s).1
def azA (s : ByteArray) : Int := (azR s).2.1
def azE (s : ByteArray) : Int := (azR s).2.2
theorem alls_ok (s : ByteArray) (hs : s.size ≤ 1099511627776) : Pure G0 48 [.str s] (fun r => r = .tup [.slice (azX s).dat.len (azX s).dat.cells, .int .i64 (azA s), .int .i64 (azE s)]) := by
  refine Pure.nz ?_
  have hss : Nat.ble s.size 1099511627776 = true := Nat.ble_eq_true_of_le hs
  refine PCalls.deferQ (s1 := ⟨[(0, .str s), (2, .nil), (3, .ptr 0 0), (4, .ptr 1 0)], ⟨[iZ 0, eZ 0], []⟩⟩) (b1 := 0) (b2 := 1) Tryd.func48 Tryd.ntmps48 rfl (Nat.le_of_ble_eq_true rfl) (guardOk G0 rfl) Tryd.func67 (by kernel_rfl) rfl rfl rfl rfl rfl rfl rfl (by decide) rfl
    (fun C hC => SWP.normQ (SWP.runQ (SLg false [] []) 100 33 hC [0, 2, 3, 4] (e := .normal) (z := ⟨[(0, .str s), (2, PV.nil), (3, .ptr 0 0), (4, .ptr 1 0)], ⟨[⟨[.int .i64 (0 : Int)], 3⟩, ⟨[.int .i64 (0 : Int)], 26⟩], []⟩⟩) (o := []) (by kernel_rfl) (by ((repeat' (first | exact okO_nil | refine okN ?_ ?_)); all_goals first | assumption | rfl | exact same_of rfl | exact sameS_self _ | (simp only [decide_eq_true_eq, decide_eq_false_iff_not, Nat.ble_eq, Nat.beq_eq] <;> omega))) (fun st hst => ⟨[0, 2, 3, 4], rfl, hst⟩))) fun C fr fp hnt hnb hfr hfp => ?_
  have eq := azR_eq s
  have fin : ∀ st n cs a e bx rw', nrm [2, 3, 4] st = ⟨[(2, .slice n cs), (3, .ptr 0 0), (4, .ptr 1 0)], ⟨iZ a :: eZ e :: bx, rw'⟩⟩ → PV.nz (.slice n cs) = .slice (azX s).dat.len (azX s).dat.cells → azA s = a → azE s = e → fr st := fun st n cs a e bx rw' hst g1 g3 g4 => hfr st [2, 3, 4] (by
    rw [hst]
    refine ⟨0, .tup [.slice n cs, .int .i64 a, .int .i64 e], Nat.le_refl _, Nat.zero_le _, rfl, rfl, rfl, rfl, _, rfl, ?_⟩
    show PV.tup [PV.nz (.slice n cs), .int .i64 a, .int .i64 e] = _
    rw [g1, g3, g4])
  have pan : ∀ st (a e : Int) bx rw', nrm [2, 3, 4] st = ⟨[(2, .nil), (3, .ptr 0 0), (4, .ptr 1 0)], ⟨iZ 0 :: eZ 0 :: bx, rw'⟩⟩ → azR s = (.nil, a, e) → fp (faultV a e) st := fun st a e bx rw' hst h => hfp a e st [2, 3, 4] (.int .i64 0) (.int .i64 0) (by rw [hst]; rfl) (by rw [hst]; rfl) (by
    rw [hst]
    refine ⟨0, .tup [.nil, .int .i64 a, .int .i64 e], Nat.le_refl _, Nat.zero_le _, rfl, rfl, rfl, rfl, _, rfl, ?_⟩
    unfold azX azA azE
    rw [h]
    rfl)
  refine Q.runSeq (SLg false [] []) 100 33 hnt [0, 2, 3, 4, 5] (z := ⟨[(0, .str s), (2, PV.nil), (3, .ptr 0 0), (4, .ptr 1 0), (5, .ptr 2 0)], ⟨[⟨[.int .i64 (0 : Int)], 3⟩, ⟨[.int .i64 (0 : Int)], 26⟩, ⟨[.str s, .int .i64 (0 : Int)], 87⟩], []⟩⟩) (o := []) (by kernel_rfl) (by ((repeat' (first | exact okO_nil | refine okN ?_ ?_)); all_goals first | assumption | rfl | exact same_of rfl | exact sameS_self _ | (simp only [decide_eq_true_eq, decide_eq_false_iff_not, Nat.ble_eq, Nat.beq_eq] <;> omega))) ?_
  refine Q.runSeq (SLg false [] []) 100 33 hnt [0, 2, 3, 4, 5, 6] (z := ⟨[(0, .str s), (2, PV.nil), (3, .ptr 0 0), (4, .ptr 1 0), (5, .ptr 2 0), (6, PV.nil)], ⟨[⟨[.int .i64 (0 : Int)], 3⟩, ⟨[.int .i64 (0 : Int)], 26⟩, ⟨[.str s, .int .i64 (0 : Int)], 87⟩], []⟩⟩) (o := []) (by kernel_rfl) (by ((repeat' (first | exact okO_nil | refine okN ?_ ?_)); all_goals first | assumption | rfl | exact same_of rfl | exact sameS_self _ | (simp only [decide_eq_true_eq, decide_eq_false_iff_not, Nat.ble_eq, Nat.beq_eq] <;> omega))) ?_
  refine SWP.adoptS 6 25 4 rfl ?_
  refine SWP.norm [0, 2, 3, 4, 5, 6] ?_
  refine Q.seq fun K9 hK9 => ?_
  have dx0 : decide (0 ≤ ((0 : Nat) : Int) ∧ ((0 : Nat) : Int) ≤ (s.size : Int)) = true := by rw [decide_eq_true_eq]; omega
  refine Q.runSeq (SLg false [] []) 100 33 hnt [0, 2, 3, 4, 5, 6] (z := ⟨[(0, .str s), (2, .nil), (3, .ptr 0 0), (4, .ptr 1 0), (5, .ptr 2 0), (6, .own 0 0)], ⟨[iZ 0, eZ 0, rP s (skp s 0)], [some (jR [] 0)]⟩⟩) (o := [(decide (0 ≤ ((0 : Nat) : Int) ∧ ((0 : Nat) : Int) ≤ (s.size : Int)), true), (Nat.ble s.size 1099511627776, true)]) (by kernel_rfl) (by ((repeat' (first | exact okO_nil | refine okN ?_ ?_)); all_goals first | assumption | rfl | exact same_of rfl | exact sameS_self _ | (simp only [decide_eq_true_eq, decide_eq_false_iff_not, Nat.ble_eq, Nat.beq_eq] <;> omega))) ?_
  refine Q.block ?_
  obtain ⟨y, hy⟩ : ∃ y, y = skp s 0 := ⟨_, rfl⟩
  have hy2 : y ≤ s.size := by rw [hy]; exact skp_le s 0 (Nat.zero_le _)
  have hcl : skp s y = y := by rw [hy]; exact skp_skp s 0
  rw [← hy] at eq ⊢
  let T (x : Nat) (l : Nds) : AS := ⟨[(0, .str s), (2, .nil), (3, .ptr 0 0), (4, .ptr 1 0), (5, .ptr 2 0), (6, .own 0 l.len)], ⟨[iZ 0, eZ 0, rP s x], [some (jR l.dat.cells l.len)]⟩⟩
  refine Q.loopH (σ := { x : Nat × Nds × Nat // (x.1 ≤ s.size ∧ skp s x.1 = x.1) ∧ s.size + 1 - x.1 ≤ x.2.2 ∧ x.2.1.len + x.2.2 ≤ s.size + 1 ∧ rdZ s x.2.2 x.1 x.2.1 = rdZ s (s.size + 1) y .nil }) [0, 2, 3, 4, 5, 6] 3 (by rw [hnb]; exact Nat.le_of_ble_eq_true rfl) (fun x => T x.1.1 x.1.2.1) (fun x => x.1.2.2) ⟨(y, .nil, s.size + 1), ⟨hy2, hcl⟩, Nat.sub_le _ _, by simp [Nds.len], rfl⟩ (fun x => ⟨rfl, rfl, rfl⟩) ⟨[], rfl⟩ fun ⟨(x, l, k), hx0, hk, hlen, hrd⟩ => ?_
  have hx1 : x ≤ s.size ∧ skp s x = x := hx0
  have hx := hx1.1
  have hxx := hx1.2
  have hk : s.size + 1 - x ≤ k := hk
  have hlen : l.len + k ≤ s.size + 1 := hlen
  have hrd : rdZ s k x l = rdZ s (s.size + 1) y .nil := hrd
  rw [← hrd] at eq
  show SWP G0 C _ _ ⟨[(0, .str s), (2, .nil), (3, .ptr 0 0), (4, .ptr 1 0), (5, .ptr 2 0), (6, .own 0 l.len)], ⟨[iZ 0, eZ 0, rP s x], [some (jR l.dat.cells l.len)]⟩⟩
  obtain ⟨m, hm⟩ : ∃ m, m = l.len := ⟨_, rfl⟩
  obtain ⟨rc, hrc⟩ : ∃ rc, rc = l.dat.cells := ⟨_, rfl⟩
  refine swp_st (st' := ⟨[(0, .str s), (2, .nil), (3, .ptr 0 0), (4, .ptr 1 0), (5, .ptr 2 0), (6, .own 0 m)], ⟨[iZ 0, eZ 0, rP s x], [some (jR rc m)]⟩⟩) (by rw [hm, hrc]) ?_
  rw [← hm] at hlen
  obtain ⟨k, rfl⟩ : ∃ j, k = j + 1 := ⟨k - 1, by omega⟩
  have dx : decide (0 ≤ (x : Int) ∧ (x : Int) ≤ (s.size : Int)) = true := by rw [decide_eq_true_eq]; omega
  refine Q.seq fun K2 hK2 => ?_
  rcases Nat.lt_or_ge x s.size with hlt | hge
  · have d1 := lt_at hlt
    refine SWP.runQ (SLg false [(33, [(20, true)])] []) 100 33 hnt [0, 2, 3, 4, 5, 6] (e := .normal) (z := ⟨[(0, .str s), (2, PV.nil), (3, .ptr 0 0), (4, .ptr 1 0), (5, .ptr 2 0), (6, .own 0 m)], ⟨[⟨[.int .i64 (0 : Int)], 3⟩, ⟨[.int .i64 (0 : Int)], 26⟩, ⟨[.str s, .int .i64 (Int.ofNat x)], 87⟩], [some ⟨rc, m, 25, 4⟩]⟩⟩) (o := [(decide ((↑x : Int) < (↑(s.size) : Int)), true), (true, true)]) (by kernel_rfl) (by ((repeat' (first | exact okO_nil | refine okN ?_ ?_)); all_goals first | assumption | rfl | exact same_of rfl | exact sameS_self _ | (simp only [decide_eq_true_eq, decide_eq_false_iff_not, Nat.ble_eq, Nat.beq_eq] <;> omega))) (fun st hst => hK2 st (.norm [0, 2, 3, 4, 5, 6] ?_))
    rw [hst]
    clear hst hK2
    have hs2 := rdD_steps s 1000 x hx
    have hqx : qX s 1000 x = rdX s 1000 x := by unfold qX; rw [hxx]
    have hqa : qA s 1000 x = rdA s 1000 x := by unfold qA; rw [hxx]
    have hqe : qE s 1000 x = rdE s 1000 x := by unfold qE; rw [hxx]
    have hqf : qF s 1000 x = rdF s 1000 x := by unfold qF; rw [hxx]
    have g1 : (rdD s 1000 x).2 = ⟨rdA s 1000 x, rdE s 1000 x, rdF s 1000 x⟩ := rfl
    have g2 : (rdD s 1000 x).1 = rdX s 1000 x := rfl
    rw [rdZ, if_pos hlt] at hrd eq
    refine Q.seq fun K3 hK3 => ?_
    refine Q.block ?_
    by_cases he : rdE s 1000 x = 0
    · have de : decide (qE s 1000 (Int.toNat (x : Int)) = 0) = true := by rw [Int.toNat_natCast, hqe]; exact decide_eq_true he
      have hin := hs2.1.ok he
      have hadv : x < rdA s 1000 x := hs2.2 he
      have hin1 : rdA s 1000 x ≤ s.size := hin.1
      rw [if_pos (show (rdD s 1000 x).2.e = 0 from he), g1, g2] at hrd
      refine Q.runSeq (SLg false [] []) 100 33 hnt [0, 2, 3, 4, 5, 6, 7, 8] (z := ⟨[(0, .str s), (2, .nil), (3, .ptr 0 0), (4, .ptr 1 0), (5, .ptr 2 0), (6, .own 0 m), (7, .ptr 3 0), (8, .ptr 4 0)], ⟨[iZ 0, eZ 0, rP s (qA s 1000 x), ⟨ndJ (qX s 1000 x), 25⟩, ⟨ndP (qX s 1000 x), 64⟩], [some (jR rc m)]⟩⟩) (o := [(decide (0 ≤ (↑x : Int) ∧ (↑x : Int) ≤ (↑(s.size) : Int)), true), (true, true), (decide (qE s 1000 (Int.toNat (↑x : Int)) = 0), true), (Nat.ble (s.size) 1099511627776, true)]) (by kernel_rfl) (by ((repeat' (first | exact okO_nil | refine okN ?_ ?_)); all_goals first | assumption | rfl | exact same_of rfl | exact sameS_self _ | (simp only [decide_eq_true_eq, decide_eq_false_iff_not, Nat.ble_eq, Nat.beq_eq] <;> omega))) ?_
      obtain ⟨X, hX⟩ : ∃ X, X = qX s 1000 x := ⟨_, rfl⟩
      obtain ⟨p, hp'⟩ : ∃ X, X = qA s 1000 x := ⟨_, rfl⟩
      obtain ⟨xp, hxp⟩ : ∃ z, z = (ndS X).pl := ⟨_, rfl⟩
      refine swp_st (st' := ⟨[(0, .str s), (2, .nil), (3, .ptr 0 0), (4, .ptr 1 0), (5, .ptr 2 0), (6, .own 0 m), (7, .ptr 3 0), (8, .ptr 4 0)], ⟨[iZ 0, eZ 0, rP s p, ⟨ndJ X, 25⟩, ⟨[.int .i64 (ndA X), .slice (Nds.len (ndS X)) xp], 64⟩], [some (jR rc m)]⟩⟩) (by rw [hxp, hX, hp']; rfl) ?_
      rw [hqx] at hX
      rw [hqa] at hp'
      rw [← hX, ← hp'] at hrd
      rw [← hp'] at hin1 hadv
      have dp : decide (0 ≤ (p : Int) ∧ (p : Int) ≤ (s.size : Int)) = true := by rw [decide_eq_true_eq]; omega
      have g3 : m + 1 = (l.snoc X).len := by rw [Nds.snoc_len, hm]
      have g4 : rc ++ ndJ X = (l.snoc X).dat.cells := by rw [Nds.snoc_dc, hrc, ndJ_eq]
      have hpge := skp_ge s p
      refine SWP.runQ (SLg false [(33, [(31, true)])] []) 100 33 hnt [0, 2, 3, 4, 5, 6] (e := .normal) (z := ⟨[(0, .str s), (2, PV.nil), (3, .ptr 0 0), (4, .ptr 1 0), (5, .ptr 2 0), (6, .own 0 (m + 1))], ⟨[⟨[.int .i64 (0 : Int)], 3⟩, ⟨[.int .i64 (0 : Int)], 26⟩, ⟨[.str s, .int .i64 (Int.ofNat p)], 87⟩, ⟨[.int .i64 (ndK X), .int .i64 (ndN X), .str (ndT X), .slice (Dats.len (Nds.dat (ndS X))) (Dats.cells (Nds.dat (ndS X)))], 25⟩, ⟨[.int .i64 (ndA X), .slice (Nds.len (ndS X)) xp], 64⟩], [some ⟨rc ++ [.int .i64 (ndK X), .int .i64 (ndN X), .str (ndT X), .slice (Dats.len (Nds.dat (ndS X))) (Dats.cells (Nds.dat (ndS X)))], m + 1, 25, 4⟩]⟩⟩) (o := [(true, true), (Nat.ble ((m + 1) * 56) 140737488355328, true), (Nat.ble (m + 1) 9223372036854775807, true)]) (by kernel_rfl) (by ((repeat' (first | exact okO_nil | refine okN ?_ ?_)); all_goals first | assumption | rfl | exact same_of rfl | exact sameS_self _ | (simp only [decide_eq_true_eq, decide_eq_false_iff_not, Nat.ble_eq, Nat.beq_eq] <;> omega))) (fun st hst => hK3 st (.norm [0, 2, 3, 4, 5, 6] ?_))
      rw [hst]
      clear hst hK3
      obtain ⟨r2, hr2⟩ : ∃ r2, r2 = rc ++ ndJ X := ⟨_, rfl⟩
      refine swp_st (st' := ⟨[(0, .str s), (2, .nil), (3, .ptr 0 0), (4, .ptr 1 0), (5, .ptr 2 0), (6, .own 0 (m + 1))], ⟨[iZ 0, eZ 0, rP s p, ⟨ndJ X, 25⟩, ⟨[.int .i64 (ndA X), .slice (Nds.len (ndS X)) xp], 64⟩], [some (jR r2 (m + 1))]⟩⟩) (by rw [hr2]; rfl) ?_
      rw [g4] at hr2
      obtain ⟨m2, hm2⟩ : ∃ m2, m2 = m + 1 := ⟨_, rfl⟩
      rw [← hm2]
      rw [g3] at hm2
      have e2 : (⟨[(0, .str s), (2, .nil), (3, .ptr 0 0), (4, .ptr 1 0), (5, .ptr 2 0), (6, .own 0 m2)], ⟨[iZ 0, eZ 0, rP s (skp s p), ⟨ndJ X, 25⟩, ⟨[.int .i64 (ndA X), .slice (Nds.len (ndS X)) xp], 64⟩], [some (jR r2 m2)]⟩⟩ : AS) = ⟨[(0, .str s), (2, .nil), (3, .ptr 0 0), (4, .ptr 1 0), (5, .ptr 2 0), (6, .own 0 (l.snoc X).len)], ⟨[iZ 0, eZ 0, rP s (skp s p), ⟨ndJ X, 25⟩, ⟨[.int .i64 (ndA X), .slice (Nds.len (ndS X)) xp], 64⟩], [some (jR (l.snoc X).dat.cells (l.snoc X).len)]⟩⟩ := by rw [hm2, hr2]
      refine SWP.runQ (SLg false [] []) 100 33 hnt [0, 2, 3, 4, 5, 6] (e := .normal) (z := ⟨[(0, .str s), (2, .nil), (3, .ptr 0 0), (4, .ptr 1 0), (5, .ptr 2 0), (6, .own 0 m2)], ⟨[iZ 0, eZ 0, rP s (skp s p), ⟨ndJ X, 25⟩, ⟨[.int .i64 (ndA X), .slice (Nds.len (ndS X)) xp], 64⟩], [some (jR r2 m2)]⟩⟩) (o := [(decide (0 ≤ (↑p : Int) ∧ (↑p : Int) ≤ (↑(s.size) : Int)), true), (Nat.ble (s.size) 1099511627776, true)]) (by kernel_rfl) (by ((repeat' (first | exact okO_nil | refine okN ?_ ?_)); all_goals first | assumption | rfl | exact same_of rfl | exact sameS_self _ | (simp only [decide_eq_true_eq, decide_eq_false_iff_not, Nat.ble_eq, Nat.beq_eq] <;> omega))) (fun st hst => ⟨⟨(skp s p, l.snoc X, k), ⟨skp_le s p hin1, skp_skp s p⟩, by show s.size + 1 - skp s p ≤ k; omega, by show (l.snoc X).len + k ≤ _; rw [← g3]; omega, hrd⟩, Nat.lt_succ_self k, [⟨ndJ X, 25⟩, ⟨[.int .i64 (ndA X), .slice (Nds.len (ndS X)) xp], 64⟩], hst.trans (e2.trans rfl)⟩)
    · have de : decide (qE s 1000 (Int.toNat (x : Int)) = 0) = false := by rw [Int.toNat_natCast, hqe]; exact decide_eq_false he
      rw [if_neg (show ¬ (rdD s 1000 x).2.e = 0 from he)] at hrd eq
      rw [if_neg (show ¬ (l, (rdD s 1000 x).2).2.e = 0 from he)] at eq
      refine Q.seq fun K4 hK4 => ?_
      exact SWP.runQ (SLg true [] []) 100 33 hnt [2, 3, 4] (e := .panic (faultV (qF s 1000 x) (qE s 1000 x))) (z := ⟨[(2, PV.nil), (3, .ptr 0 0), (4, .ptr 1 0)], ⟨[⟨[.int .i64 (0 : Int)], 3⟩, ⟨[.int .i64 (0 : Int)], 26⟩, ⟨[.str s, .int .i64 (qF s 1000 (Int.toNat (Int.ofNat x)))], 87⟩], [some ⟨rc, m, 25, 4⟩]⟩⟩) (o := [(decide (0 ≤ (↑x : Int) ∧ (↑x : Int) ≤ (↑(s.size) : Int)), true), (true, true), (decide (qE s 1000 (Int.toNat (↑x : Int)) = 0), false), (Nat.ble (s.size) 1099511627776, true)]) (by kernel_rfl) (by ((repeat' (first | exact okO_nil | refine okN ?_ ?_)); all_goals first | assumption | rfl | exact same_of rfl | exact sameS_self _ | (simp only [decide_eq_true_eq, decide_eq_false_iff_not, Nat.ble_eq, Nat.beq_eq] <;> omega))) (fun st hst => pan st (qF s 1000 x) (qE s 1000 x) _ _ hst (by rw [eq, hqf, hqe]; rfl))
  · have d1 := ge_at hge
    have hz : rdZ s (k + 1) x l = (l, ⟨x, 0, 0⟩) := by rw [rdZ, if_neg (by omega)]
    rw [hz] at eq
    rw [if_pos (show (l, (⟨x, 0, 0⟩ : RS)).2.e = 0 from rfl)] at eq
    refine SWP.runQ (SLg false [(33, [(20, false)])] []) 100 33 hnt [0, 2, 3, 4, 5, 6] (e := .exit 0) (z := ⟨[(0, .str s), (2, PV.nil), (3, .ptr 0 0), (4, .ptr 1 0), (5, .ptr 2 0), (6, .own 0 m)], ⟨[⟨[.int .i64 (0 : Int)], 3⟩, ⟨[.int .i64 (0 : Int)], 26⟩, ⟨[.str s, .int .i64 (Int.ofNat x)], 87⟩], [some ⟨rc, m, 25, 4⟩]⟩⟩) (o := [(decide ((↑x : Int) < (↑(s.size) : Int)), false), (false, false)]) (by kernel_rfl) (by ((repeat' (first | exact okO_nil | refine okN ?_ ?_)); all_goals first | assumption | rfl | exact same_of rfl | exact sameS_self _ | (simp only [decide_eq_true_eq, decide_eq_false_iff_not, Nat.ble_eq, Nat.beq_eq] <;> omega))) (fun st hst => hK9 st (.norm [0, 2, 3, 4, 5, 6] ?_))
    rw [hst]
    refine SWP.frz [0] ?_
    exact SWP.runQ (SLg false [] []) 100 33 hnt [2, 3, 4] (e := .ret) (z := ⟨[(2, .slice m rc), (3, .ptr 0 0), (4, .ptr 1 0)], ⟨[⟨[.int .i64 (0 : Int)], 3⟩, ⟨[.int .i64 (0 : Int)], 26⟩, ⟨[.str s, .int .i64 (Int.ofNat x)], 87⟩], [none]⟩⟩) (o := []) (by kernel_rfl) (by ((repeat' (first | exact okO_nil | refine okN ?_ ?_)); all_goals first | assumption | rfl | exact same_of rfl | exact sameS_self _ | (simp only [decide_eq_true_eq, decide_eq_false_iff_not, Nat.ble_eq, Nat.beq_eq] <;> omega))) (fun st hst => fin st m rc 0 0 _ _ hst (by
      unfold azX
      rw [eq, hm, hrc, ← Nds.dat_len]
      simp only [PV.nz, Dats.nz]) (by unfold azA; rw [eq]) (by unfold azE; rw [eq]))
def alR (s : ByteArray) : Nds × Int × Int := if 20000 < s.size then (.nil, 0, 3) else azR s
theorem alR_eq (s : ByteArray) : alR s = (if 20000 < s.size then (.nil, 0, 3) else azR s : Nds × Int × Int) := rfl
def alX (s : ByteArray) : Nds := (alR s).1
def alA (s : ByteArray) : Int := (alR s).2.1
def alE (s : ByteArray) : Int := (alR s).2.2
def prA : Nat → List Tok → Dats → Option Dats
  | 0, _, _ => none
  | _ + 1, [], l => some l
  | k + 1, t :: r, l => match prD 1000 (t :: r) with
    | some (d, r') => prA k r' (Dats.snoc l d)
    | none => none
theorem toks_more {s : ByteArray} {x : Nat} (h : x < s.size) (hc : Clean s x) : ∃ t r, toks s x = t :: r := by
  cases hl : letC (bt s (x : Int)) with
  | true => exact ⟨_, _, toks_at_let h hc hl⟩
  | false =>
    obtain ⟨c, _, h2⟩ := toks_at h hc hl
    exact ⟨_, _, h2⟩
theorem prA_rd (s : ByteArray) : ∀ k k' x l, x ≤ s.size → Clean s x → s.size + 1 - x ≤ k → (toks s x).length + 1 ≤ k' →
    prA k' (toks s x) l.dat = if (rdZ s k x l).2.e = 0 then some (rdZ s k x l).1.dat else none := by
  intro k
  induction k with
  | zero => intro k' x l hx hc hk _; omega
  | succ k ihk =>
    intro k' x l hx hc hk hk'
    obtain ⟨k', rfl⟩ : ∃ j, k' = j + 1 := ⟨k' - 1, by omega⟩
    rcases Nat.lt_or_ge x s.size with hlt | hge
    · have hix := prD_rd s 1000 x hx hc
      have hsx := rdD_steps s 1000 x hx
      obtain ⟨t, r, ht⟩ := toks_more hlt hc
      have hz : rdZ s (k + 1) x l = if (rdD s 1000 x).2.e = 0 then rdZ s k (skp s (rdD s 1000 x).2.a) (l.snoc (rdD s 1000 x).1) else (l, (rdD s 1000 x).2) := by rw [rdZ, if_pos hlt]
      rw [hz]
      by_cases he : (rdD s 1000 x).2.e = 0
      · rw [if_pos he] at hix ⊢
        have h5 := toks_skp s _ (rdD s 1000 x).2.a (Nat.le_refl _)
        have h6 := prD_eats 1000 _ _ _ hix
        have h7 := skp_ge s (rdD s 1000 x).2.a
        have h3 := hsx.2 he
        have h4 := hsx.1.ok he
        rw [ht] at hix ⊢
        rw [prA, hix]
        simp only []
        rw [← Nds.dat_snoc, ← h5.1]
        exact ihk k' _ (l.snoc (rdD s 1000 x).1) (skp_le s _ h4.1) (clean_skp s _) (by omega) (by rw [h5.1]; omega)
      · rw [if_neg he] at hix ⊢
        rw [if_neg (show ¬ (l, (rdD s 1000 x).2).2.e = 0 from he)]
        rw [ht] at hix ⊢
        rw [prA, hix]
    · have hz : rdZ s (k + 1) x l = (l, ⟨x, 0, 0⟩) := by rw [rdZ, if_neg (by omega)]
      rw [hz, toks_out s x hge]; rfl
theorem al_toks (s : ByteArray) (hs : s.size ≤ 20000) : prA ((toks s 0).length + 1) (toks s 0) .nil = if alE s = 0 then some (alX s).dat else none := by
  have h5 := toks_skp s _ 0 (Nat.le_refl _)
  have key := prA_rd s (s.size + 1) ((toks s (skp s 0)).length + 1) (skp s 0) .nil (skp_le s 0 (Nat.zero_le _)) (clean_skp s 0) (by omega) (Nat.le_refl _)
  rw [h5.1] at key
  rw [show (Nds.nil).dat = Dats.nil from rfl] at key
  rw [key]
  have e : alR s = azR s := by rw [alR_eq, if_neg (by omega)]
  unfold alE alX
  rw [e]
  by_cases h : (rdZ s (s.size + 1) (skp s 0) .nil).2.e = 0
  · have z : azR s = ((rdZ s (s.size + 1) (skp s 0) .nil).1, 0, 0) := by rw [azR_eq, if_pos h]
    rw [z, if_pos h]
    exact (if_pos rfl).symm
  · have z : azR s = (.nil, (rdZ s (s.size + 1) (skp s 0) .nil).2.b, (rdZ s (s.size + 1) (skp s 0) .nil).2.e) := by rw [azR_eq, if_neg h]
    rw [z, if_neg h]
    exact (if_neg h).symm
theorem alE_size {s : ByteArray} (h : alE s = 0) : s.size ≤ 20000 := by
  unfold alE at h
  rw [alR_eq] at h
  split at h
  · exact absurd h n3
  · omega
theorem al_pr {s : ByteArray} (h : alE s = 0) : prA ((toks s 0).length + 1) (toks s 0) .nil = some (alX s).dat := by
  rw [al_toks s (alE_size h), if_pos h]
def okTok (w : Tok) : Prop := (letC (hd0 w) = true → (numV (mkB w)).2 = true ∨ symOk (mkB w) = true) ∧ (letC (hd0 w) = true ∨ hd0 w = 39 ∨ hd0 w = 40 ∨ hd0 w = 41)
def Tells (f : List Tok → Option (Dat × List Tok)) : Prop := ∀ ts d r, f ts = some (d, r) → ∃ us, ts = us ++ r ∧ ∀ w ∈ us, okTok w
theorem prL_okT {f : List Tok → Option (Dat × List Tok)} (hf : Tells f) : ∀ k ts l l' r, prL f k ts l = some (l', r) → ∃ us, ts = us ++ r ∧ ∀ w ∈ us, okTok w
  | 0, ts, l, l', r, h => by cases h
  | k + 1, [], l, l', r, h => by cases h
  | k + 1, t :: q, l, l', r, h => by
    rw [prL] at h
    split at h
    · rename_i h41
      cases h
      exact ⟨[t], rfl, fun w hw => by
        obtain rfl := List.mem_singleton.1 hw
        exact ⟨fun g => by rw [h41] at g; exact absurd g (by decide), .inr (.inr (.inr h41))⟩⟩
    · split at h
      · rename_i d r' hd
        obtain ⟨us, h1, h2⟩ := hf _ _ _ hd
        obtain ⟨vs, h3, h4⟩ := prL_okT hf k r' _ l' r h
        exact ⟨us ++ vs, by rw [h1, h3, List.append_assoc], fun w hw => (List.mem_append.1 hw).elim (h2 w) (h4 w)⟩
      · cases h
theorem prD_okT : ∀ n, Tells (prD n)
  | 0, ts, d, r, h => by cases h
  | n + 1, [], d, r, h => by cases h
  | n + 1, t :: q, d, r, h => by
    rw [prD] at h
    split at h
    · rename_i hl
      split at h
      · rename_i hn
        cases h
        exact ⟨[t], rfl, fun w hw => by obtain rfl := List.mem_singleton.1 hw; exact ⟨fun _ => .inl hn, .inl hl⟩⟩
      · split at h
        · rename_i hs
          cases h
          exact ⟨[t], rfl, fun w hw => by obtain rfl := List.mem_singleton.1 hw; exact ⟨fun _ => .inr hs, .inl hl⟩⟩
        · cases h
    · rename_i hl
      split at h
      · rename_i h39
        have ht : okTok t := ⟨fun g => absurd g hl, .inr (.inl h39)⟩
        split at h
        · cases h
        · split at h
          · rename_i x r' hx
            obtain ⟨us, h1, h2⟩ := prD_okT n _ _ _ hx
            cases h
            exact ⟨t :: us, by rw [h1]; rfl, fun w hw => (List.mem_cons.1 hw).elim (fun e => e ▸ ht) (h2 w)⟩
          · cases h
      · split at h
        · rename_i h40
          have ht : okTok t := ⟨fun g => absurd g hl, .inr (.inr (.inl h40))⟩
          split at h
          · rename_i x r' hx
            obtain ⟨us, h1, h2⟩ := prL_okT (prD_okT n) _ _ _ _ _ hx
            cases h
            exact ⟨t :: us, by rw [h1]; rfl, fun w hw => (List.mem_cons.1 hw).elim (fun e => e ▸ ht) (h2 w)⟩
          · cases h
        · cases h
theorem prA_okT : ∀ (k : Nat) (ts : List Tok) (l D : Dats), prA k ts l = some D → ∀ w ∈ ts, okTok w
  | 0, ts, l, D, h => by cases h
  | k + 1, [], l, D, h => fun w hw => by cases hw
  | k + 1, t :: q, l, D, h => by
    rw [prA] at h
    split at h
    · rename_i d r' hd
      obtain ⟨us, h1, h2⟩ := prD_okT 1000 _ _ _ hd
      have h3 := prA_okT k r' _ D h
      intro w hw
      rw [h1] at hw
      exact (List.mem_append.1 hw).elim (h2 w) (h3 w)
    · cases h
def bareB : Bool → List Tok → List UInt8
  | _, [] => []
  | b, w :: r => (if b = true ∧ letC (hd0 w) = true then [32] else []) ++ (w ++ bareB (letC (hd0 w)) r)
theorem bareB_len : ∀ (n : Nat) (l : List UInt8) (b : Bool), l.length ≤ n → (bareB b (tok l)).length ≤ 2 * l.length
  | n, [], b, _ => by rw [tok_nil]; exact Nat.le_refl _
  | 0, c :: r, b, h => by simp at h
  | n + 1, c :: r, b, h => by
    have hr : r.length ≤ n := by simpa using h
    have h1 := dropWhile_len nl10 r
    have h2 := dropWhile_len lle r
    rw [tok_cons]
    split
    · have := bareB_len n r b hr
      simp only [List.length_cons]; omega
    · split
      · have := bareB_len n (r.dropWhile nl10) b (by omega)
        simp only [List.length_cons]; omega
      · split
        · have := bareB_len n (r.dropWhile lle) (letC (hd0 (c :: r.takeWhile lle))) (by omega)
          have e : r.length = (r.takeWhile lle).length + (r.dropWhile lle).length := by rw [← List.length_append, List.takeWhile_append_dropWhile]
          rw [bareB]
          split <;> simp only [List.length_append, List.length_cons, List.length_nil] at this ⊢ <;> omega
        · have := bareB_len n r (letC (hd0 [c])) hr
          rw [bareB]
          split <;> simp only [List.length_append, List.length_cons, List.length_nil] at this ⊢ <;> omega
def nxE (s : ByteArray) (a : Nat) : Nat := max (letE s a) (a + 1)
def tkA (s : ByteArray) : Nat → Nat → List (ByteArray × Nat)
  | 0, _ => []
  | k + 1, a => if a < s.size then (s.extract a (nxE s a), a) :: tkA s k (skp s (nxE s a)) else []
theorem nxE_gt (s : ByteArray) (a : Nat) : a < nxE s a := by unfold nxE; omega
theorem nxE_le (s : ByteArray) (a : Nat) (h : a < s.size) : nxE s a ≤ s.size := by have := letE_le s a (by omega); unfold nxE; omega
theorem tkA_more (s : ByteArray) : ∀ (k m a : Nat), s.size - a ≤ k → k ≤ m → tkA s m a = tkA s k a
  | 0, m, a, h, _ => by
    cases m with
    | zero => rfl
    | succ m => exact if_neg (by omega)
  | k + 1, m, a, h, hm => by
    obtain ⟨m, rfl⟩ : ∃ j, m = j + 1 := ⟨m - 1, by omega⟩
    rw [tkA, tkA]
    split
    · have h1 := nxE_gt s a
      have h2 := skp_ge s (nxE s a)
      rw [tkA_more s k m (skp s (nxE s a)) (by omega) (by omega)]
    · rfl
def tkO (s : ByteArray) (a : Nat) : List (ByteArray × Nat) := tkA s (s.size - a) a
theorem tkO_out (s : ByteArray) (a : Nat) (h : s.size ≤ a) : tkO s a = [] := by unfold tkO; rw [show s.size - a = 0 by omega]; rfl
theorem tkO_at (s : ByteArray) (a : Nat) (h : a < s.size) : tkO s a = (s.extract a (nxE s a), a) :: tkO s (skp s (nxE s a)) := by
  unfold tkO
  obtain ⟨k, hk⟩ : ∃ k, s.size - a = k + 1 := ⟨s.size - a - 1, by omega⟩
  have h1 := nxE_gt s a
  have h2 := skp_ge s (nxE s a)
  rw [hk, tkA, if_pos h, tkA_more s (s.size - skp s (nxE s a)) k (skp s (nxE s a)) (Nat.le_refl _) (by omega)]
theorem tkO_toks (s : ByteArray) : ∀ (k a : Nat), s.size - a ≤ k → Clean s a → (tkO s a).map (fun x => x.1.data.toList) = toks s a
  | k, a, h, hc => by
    rcases Nat.lt_or_ge a s.size with hlt | hge
    · obtain ⟨k, rfl⟩ : ∃ j, k = j + 1 := ⟨k - 1, by omega⟩
      have h1 := nxE_gt s a
      have h2 := skp_ge s (nxE s a)
      rw [tkO_at s a hlt, List.map_cons, tkO_toks s k (skp s (nxE s a)) (by omega) (clean_skp s _), (toks_skp s _ (nxE s a) (Nat.le_refl _)).1]
      cases hl : letC (bt s (a : Int)) with
      | true =>
        have e : nxE s a = letE s a := by
          have : a + 1 ≤ letE s a := by rw [letE_eq, if_pos ⟨hlt, hl⟩]; exact letE_ge s (a + 1)
          unfold nxE; omega
        rw [e, toks_at_let hlt hc hl]
      | false =>
        have e : nxE s a = a + 1 := by
          have : letE s a = a := by rw [letE_eq, if_neg (by rw [hl]; intro g; exact absurd g.2 (by decide))]
          unfold nxE; omega
        obtain ⟨c, g1, g2⟩ := toks_at hlt hc hl
        obtain ⟨c', g3, g4⟩ := bt_drop0 s a hlt
        rw [e, g2]
        congr 1
        show (s.extract a (a + 1)).data.toList = [c]
        rw [ext_list, g3, show a + 1 - a = 1 by omega]
        rw [g1] at g4
        have : c = c' := by
          have : (c.toNat : Int) = c'.toNat := g4
          exact UInt8.toNat_inj.1 (by omega)
        rw [this]; rfl
    · rw [tkO_out s a hge, toks_out s a hge]; rfl
noncomputable def bareX (s : ByteArray) : ByteArray := if alE s = 0 then mkB (bareB false (toks s 0)) else ⟨#[]⟩
def bareL : Bool → List ByteArray → List UInt8
  | _, [] => []
  | b, w :: r => (if b = true ∧ letC (bt w 0) = true then [32] else []) ++ (w.data.toList ++ bareL (letC (bt w 0)) r)
def tkB (s : ByteArray) (a : Nat) : List ByteArray := (tkO s a).map (·.1)
theorem hd0_bt {w : ByteArray} (h : 0 < w.size) : hd0 w.data.toList = bt w 0 := by
  obtain ⟨c, h1, h2⟩ := bt_drop0 w 0 h
  rw [List.drop_zero] at h1
  rw [h1]
  exact h2.symm
theorem bareL_eq : ∀ (b : Bool) (l : List ByteArray), (∀ w ∈ l, 0 < w.size) → bareL b l = bareB b (l.map (·.data.toList))
  | b, [], _ => rfl
  | b, w :: r, h => by
    rw [bareL, List.map_cons, bareB, hd0_bt (h w (List.mem_cons_self ..)), bareL_eq _ r (fun x hx => h x (List.mem_cons_of_mem _ hx))]
theorem tkB_pos (s : ByteArray) : ∀ (k a : Nat), s.size - a ≤ k → ∀ w ∈ tkB s a, 0 < w.size
  | k, a, h, w, hw => by
    unfold tkB at hw
    rcases Nat.lt_or_ge a s.size with hlt | hge
    · obtain ⟨k, rfl⟩ : ∃ j, k = j + 1 := ⟨k - 1, by omega⟩
      have h1 := nxE_gt s a
      have h2 := skp_ge s (nxE s a)
      have h3 := nxE_le s a hlt
      rw [tkO_at s a hlt, List.map_cons] at hw
      rcases List.mem_cons.1 hw with rfl | hw
      · show 0 < (s.extract a (nxE s a)).size
        rw [ByteArray.size_extract]; omega
      · exact tkB_pos s k (skp s (nxE s a)) (by omega) w hw
    · rw [tkO_out s a hge] at hw
      cases hw
def bareN (s : ByteArray) : List UInt8 := bareL false (tkB s (skp s 0))
theorem bareN_eq (s : ByteArray) : bareN s = bareB false (toks s 0) := by
  unfold bareN
  rw [bareL_eq _ _ (tkB_pos s _ _ (Nat.le_refl _)), tkB, List.map_map]
  have := tkO_toks s _ (skp s 0) (Nat.le_refl _) (clean_skp s 0)
  rw [(toks_skp s _ 0 (Nat.le_refl _)).1] at this
  rw [← this]
  rfl
theorem bareN_len (s : ByteArray) : (bareN s).length ≤ 2 * s.size := by
  rw [bareN_eq]
  have h1 := bareB_len _ s.data.toList false (Nat.le_refl _)
  have h2 : toks s 0 = tok s.data.toList := by unfold toks; rw [List.drop_zero]
  rw [h2]
  have hlen : s.data.toList.length = s.size := Array.length_toList
  omega
def bareA (s : ByteArray) : Int := if alE s = 0 then 0 else alA s
def lastL (L : List ByteArray) : Nat → Bool
  | 0 => false
  | i + 1 => letC (bt (L.getD i ⟨#[]⟩) 0)
theorem str_app (u w : ByteArray) : (u ++ w).data.toList = u.data.toList ++ w.data.toList := by
  show (ByteArray.append u w).data.toList = _
  simp
theorem str_len (u : ByteArray) : u.data.toList.length = u.size := Array.length_toList
end Seat
end Go.Proofs.YtenpjkcclmmlhaaDoor
namespace Go.AS
theorem VReps.nzL {E : Env} {w : World} {xs : List PV} {vs : List Value} (h : VReps E w xs vs) : VReps E w (nzL xs) vs :=
  ⟨h.1.trans (nzL_len _).symm, nz_at (T := VRep E w) fun j x v hx hv => (h.2 j x v hx hv).nz⟩
theorem PCalls.nzA {G : Prg} {f : FuncId} {args : List PV} {bx : List Box} {R : Out → List Box → Prop} (h : PCalls G f (nzL args) bx R) : PCalls G f args bx R := fun E w vs hh hv => h E w vs hh hv.nzL
theorem Pure.nzA {G : Prg} {f : FuncId} {args : List PV} {R : PV → Prop} (h : Pure G f (nzL args) R) : Pure G f args R := PCalls.nzA h
end Go.AS
namespace Go.Proofs.YtenpjkcclmmlhaaDoor
open Go.AS Go.RowKit
set_option linter.unusedVariables false
set_option linter.unusedSimpArgs false
set_option maxRecDepth 100000
set_option maxHeartbeats 4000000
namespace Seat
theorem wrap_rngK (n : Int) : -9223372036854775808 ≤ IntKind.wrap IntKind.i64 n ∧ IntKind.wrap IntKind.i64 n ≤ 9223372036854775807 := by rw [IntKind.wrap_i64]; omega
theorem numT_rngK (t : ByteArray) (b : Bool) : -9223372036854775808 ≤ (numT t b).1 ∧ (numT t b).1 ≤ 9223372036854775807 := by
  unfold numT
  split
  · decide
  · split
    · decide
    · split
      · exact wrap_rngK _
      · exact wrap_rngK _
theorem numV_rngK (w : ByteArray) : -9223372036854775808 ≤ (numV w).1 ∧ (numV w).1 ≤ 9223372036854775807 := by
  unfold numV
  split
  · exact numT_rngK _ _
  · exact numT_rngK _ _
theorem itoa_num {w : ByteArray} (h : (numV w).2 = true) : Go.Lib.itoa (numV w).1 = w.data.toList := by
  have hq := num_A w (numV w).1 (by rw [← h])
  obtain ⟨x, hx⟩ : ∃ x, x = (numV w).1 := ⟨_, rfl⟩
  rw [← hx] at hq ⊢
  unfold numQ at hq
  split at hq
  · rename_i v hv
    obtain ⟨rfl, h2⟩ := Prod.mk.inj hq
    rw [bl_eq, bl_eq, toList_mk] at h2
    exact eq_of_beq h2
  · cases hq
  · cases hq
def atD (s : ByteArray) (a : Nat) : Dat := .mk (ndK (atX s a)) (ndN (atX s a)) (ndT (atX s a)) .nil
theorem atD_at {s : ByteArray} {a : Nat} (h : (numV (s.extract a (letE s a))).2 = true ∨ symOk (s.extract a (letE s a)) = true) : atE s a = 0 ∧ atA s a = letE s a ∧ textD (atD s a) = (s.extract a (letE s a)).data.toList ∧ (atD s a).ok ∧ (atD s a).rng := by
  unfold atD atE atA atX atomR
  obtain ⟨w, hw⟩ : ∃ w, w = s.extract a (letE s a) := ⟨_, rfl⟩
  rw [← hw] at h ⊢
  by_cases h1 : (numV w).2 = true
  · rw [if_pos h1]
    refine ⟨rfl, rfl, ?_, ⟨by simp [Dats.len], trivial⟩, ⟨numV_rngK w, trivial⟩⟩
    show textD (.mk 1 (numV w).1 ⟨#[]⟩ .nil) = _
    rw [textD, if_pos rfl, itoa_num h1]
  · have h2 : symOk w = true := h.resolve_left h1
    rw [if_neg h1, if_pos h2]
    refine ⟨rfl, rfl, ?_, ⟨by simp [Dats.len], trivial⟩, ⟨(show (-9223372036854775808 : Int) ≤ 0 ∧ (0 : Int) ≤ 9223372036854775807 by decide), trivial⟩⟩
    show textD (.mk 2 0 w .nil) = _
    rw [textD, if_neg (by decide), if_pos rfl]
theorem ok_atoms {s : ByteArray} (he : alE s = 0) : ∀ w ∈ toks s 0, okTok w := prA_okT _ _ _ _ (al_pr he)
theorem atom_right {s : ByteArray} (he : alE s = 0) {a : Nat} (ha : a < s.size) (hm : s.extract a (nxE s a) ∈ tkB s (skp s 0)) (hl : letC (bt s (a : Int)) = true) : (numV (s.extract a (letE s a))).2 = true ∨ symOk (s.extract a (letE s a)) = true := by
  have hgt := letE_gt ha hl
  have e : nxE s a = letE s a := by unfold nxE; omega
  rw [e] at hm
  have hle := letE_le s a (by omega)
  have hpos : 0 < (s.extract a (letE s a)).size := by rw [ByteArray.size_extract]; omega
  have key := tkO_toks s _ (skp s 0) (Nat.le_refl _) (clean_skp s 0)
  rw [(toks_skp s _ 0 (Nat.le_refl _)).1] at key
  have hin : (s.extract a (letE s a)).data.toList ∈ toks s 0 := by
    rw [← key]
    obtain ⟨x, hx, hx2⟩ := List.mem_map.1 hm
    exact List.mem_map.2 ⟨x, hx, by rw [← hx2]⟩
  have := (ok_atoms he _ hin).1
  have hb : letC (hd0 (s.extract a (letE s a)).data.toList) = true := by
    have hlist : (s.extract a (letE s a)).data.toList = (s.data.toList.drop a).take (letE s a - a) := ext_list s a (letE s a)
    obtain ⟨c, h1, h2⟩ := bt_drop0 s a ha
    rw [hlist, h1]
    obtain ⟨k, hk⟩ : ∃ k, letE s a - a = k + 1 := ⟨letE s a - a - 1, by omega⟩
    rw [hk, List.take_succ_cons]
    show letC (c.toNat : Int) = true
    rw [← h2]; exact hl
  have h3 := this hb
  rw [show mkB (s.extract a (letE s a)).data.toList = s.extract a (letE s a) from mkB_list _] at h3
  exact h3
theorem sign_right {s : ByteArray} (he : alE s = 0) {a : Nat} (ha : a < s.size) (hm : s.extract a (nxE s a) ∈ tkB s (skp s 0)) : letC (bt s (a : Int)) = true ∨ bt s (a : Int) = 39 ∨ bt s (a : Int) = 40 ∨ bt s (a : Int) = 41 := by
  have h1 := nxE_gt s a
  have key := tkO_toks s _ (skp s 0) (Nat.le_refl _) (clean_skp s 0)
  rw [(toks_skp s _ 0 (Nat.le_refl _)).1] at key
  have hin : (s.extract a (nxE s a)).data.toList ∈ toks s 0 := by
    rw [← key]
    obtain ⟨x, hx, hx2⟩ := List.mem_map.1 hm
    exact List.mem_map.2 ⟨x, hx, by rw [← hx2]⟩
  have := (ok_atoms he _ hin).2
  have hb : hd0 (s.extract a (nxE s a)).data.toList = bt s (a : Int) := by
    have hlist : (s.extract a (nxE s a)).data.toList = (s.data.toList.drop a).take (nxE s a - a) := ext_list s a (nxE s a)
    obtain ⟨c, h1, h2⟩ := bt_drop0 s a ha
    rw [hlist, h1]
    obtain ⟨k, hk⟩ : ∃ k, nxE s a - a = k + 1 := ⟨nxE s a - a - 1, by omega⟩
    rw [hk, List.take_succ_cons]
    exact h2.symm
  rw [hb] at this
  exact this
noncomputable def rkS (f : Nat) (args : List PV) : Option (PV × Ob) := match f, args with
  | 48, [.str s] => some (.tup [.slice (azX s).dat.len (azX s).dat.cells, .int .i64 (azA s), .int .i64 (azE s)], [(Nat.ble s.size 1099511627776, true)])
  | _, _ => none
theorem rkS_ok (f : Nat) (args : List PV) (r : PV) (o : Ob) (h : rkS f args = some (r, o)) (ho : ∀ p ∈ o, p.1 = p.2) (_ : pureL args = true) : Pure G0 f args (fun x => x = r) := by
  unfold rkS at h
  split at h
  · rename_i s _
    cases h
    exact alls_ok s (Nat.le_of_ble_eq_true (ho _ (List.mem_singleton.2 rfl)))
  · cases h
noncomputable def SRkk (l : List (Nat × List (Nat × Bool))) (v : List (Nat × List (Nat × PV))) : Cfg G0 := { F := F, hF := hF, S := rkS, hS := rkS_ok, orc := orcM l, val := valM v }
theorem readAllP (s : ByteArray) : Pure G0 30 [.str s] (fun r => r = .tup [.slice (alX s).dat.len (alX s).dat.cells, .int .i64 (alA s), .int .i64 (alE s)]) := by
  refine Pure.nz ?_
  refine Fn.enterB Tryd.func30 Tryd.ntmps30 rfl (Nat.le_of_ble_eq_true rfl) fun C fr fp hnt hnb hp hfr hfp => ?_
  by_cases hb : 20000 < s.size
  · have d1 : decide (20000 < (s.size : Int)) = true := by rw [decide_eq_true_eq]; omega
    exact SWP.runQ (SRkk [(13, [(7, true)])] []) 100 13 hnt [2, 3, 4] (e := .ret) (z := ⟨[(2, PV.nil), (3, .int .i64 (0 : Int)), (4, .int .i64 (3 : Int))], ⟨[], []⟩⟩) (o := [(decide (20000 < (↑(s.size) : Int)), true), (true, true)]) (by kernel_rfl) (by ((repeat' (first | exact okO_nil | refine okN ?_ ?_)); all_goals first | assumption | rfl | exact same_of rfl | exact sameS_self _ | (simp only [decide_eq_true_eq, decide_eq_false_iff_not, Nat.ble_eq, Nat.beq_eq] <;> omega))) (fun st hst => hfr st [2, 3, 4] (by
      rw [hst]
      refine ⟨0, .tup [.nil, .int .i64 0, .int .i64 3], Nat.le_refl _, Nat.zero_le _, rfl, rfl, rfl, rfl, _, rfl, ?_⟩
      unfold alX alA alE
      rw [alR_eq, if_pos hb]; rfl))
  · have d1 : decide (20000 < (s.size : Int)) = false := by rw [decide_eq_false_iff_not]; omega
    have d2 : Nat.ble s.size 1099511627776 = true := by rw [Nat.ble_eq]; omega
    exact SWP.runQ (SRkk [(13, [(7, false)])] []) 100 13 hnt [2, 3, 4] (e := .ret) (z := ⟨[(2, .slice (Dats.len (Nds.dat (azX s))) (Dats.cells (Nds.dat (azX s)))), (3, .int .i64 (Prod.fst (Prod.snd (if RS.e (Prod.snd (rdZ s (s.size + 1) (skp s 0) Nds.nil)) = 0 then ((rdZ s (s.size + 1) (skp s 0) Nds.nil).1, (0 : Int), (0 : Int)) else (Nds.nil, RS.b (Prod.snd (rdZ s (s.size + 1) (skp s 0) Nds.nil)), RS.e (Prod.snd (rdZ s (s.size + 1) (skp s 0) Nds.nil))))))), (4, .int .i64 (Prod.snd (Prod.snd (if RS.e (Prod.snd (rdZ s (s.size + 1) (skp s 0) Nds.nil)) = 0 then ((rdZ s (s.size + 1) (skp s 0) Nds.nil).1, (0 : Int), (0 : Int)) else (Nds.nil, RS.b (Prod.snd (rdZ s (s.size + 1) (skp s 0) Nds.nil)), RS.e (Prod.snd (rdZ s (s.size + 1) (skp s 0) Nds.nil)))))))], ⟨[], []⟩⟩) (o := [(decide (20000 < (↑(s.size) : Int)), false), (false, false), (true, true), (Nat.ble (s.size) 1099511627776, true)]) (by kernel_rfl) (by ((repeat' (first | exact okO_nil | refine okN ?_ ?_)); all_goals first | assumption | rfl | exact same_of rfl | exact sameS_self _ | (simp only [decide_eq_true_eq, decide_eq_false_iff_not, Nat.ble_eq, Nat.beq_eq] <;> omega))) (fun st hst => hfr st [2, 3, 4] (by
      rw [hst]
      refine ⟨0, .tup [.slice (azX s).dat.len (azX s).dat.cells, .int .i64 (azA s), .int .i64 (azE s)], Nat.le_refl _, Nat.zero_le _, rfl, rfl, rfl, rfl, _, rfl, ?_⟩
      show PV.tup [.slice (azX s).dat.len (nzL (azX s).dat.cells), .int .i64 (azA s), .int .i64 (azE s)] = _
      unfold alX alA alE
      rw [alR_eq, if_neg hb, Dats.nz]; rfl))
open Classical in
noncomputable def isAtD (k n : Int) (t : ByteArray) : Bool := decide ((Dat.mk k n t .nil).ok ∧ (Dat.mk k n t .nil).rng ∧ 0 < (textD (.mk k n t .nil)).length ∧ (textD (.mk k n t .nil)).length ≤ 140737488355328)
theorem isAtD_of {k n : Int} {t : ByteArray} (h : isAtD k n t = true) : (Dat.mk k n t .nil).ok ∧ (Dat.mk k n t .nil).rng ∧ 0 < (textD (.mk k n t .nil)).length ∧ (textD (.mk k n t .nil)).length ≤ 140737488355328 := by
  unfold isAtD at h
  classical exact of_decide_eq_true h
theorem isAtD_at {k n : Int} {t : ByteArray} (h1 : (Dat.mk k n t .nil).ok) (h2 : (Dat.mk k n t .nil).rng) (h3 : 0 < (textD (.mk k n t .nil)).length) (h4 : (textD (.mk k n t .nil)).length ≤ 140737488355328) : isAtD k n t = true := by
  unfold isAtD
  classical exact decide_eq_true ⟨h1, h2, h3, h4⟩
noncomputable def bpS (f : Nat) (args : List PV) : Option (PV × Ob) := match f, args with
  | 30, [.str s] => some (.tup [.slice (alX s).dat.len (alX s).dat.cells, .int .i64 (alA s), .int .i64 (alE s)], [])
  | 51, [.int .u8 c] => some (.bool (letC c), [(decide (0 ≤ c ∧ c < 256), true)])
  | 42, [.agg [.int .i64 k, .int .i64 n, .str t, .nil]] => some (.str (mkS (textD (.mk k n t .nil))), [(isAtD k n t, true)])
  | _, _ => none
theorem bpS_ok (f : Nat) (args : List PV) (r : PV) (o : Ob) (h : bpS f args = some (r, o)) (ho : ∀ p ∈ o, p.1 = p.2) (_ : pureL args = true) : Pure G0 f args (fun x => x = r) := by
  unfold bpS at h
  split at h
  · cases h
    exact readAllP _
  · cases h; exact isAtom_ok _ (of_decide_eq_true (ho _ (List.mem_singleton.2 rfl)))
  · rename_i k n t _
    cases h
    obtain ⟨h1, h2, h3, h4⟩ := isAtD_of (ho _ (List.mem_singleton.2 rfl))
    exact Pure.nzA (text_prog (.mk k n t .nil) h1 h2 h3 h4)
  · cases h
noncomputable def SBp (l : List (Nat × List (Nat × Bool))) (v : List (Nat × List (Nat × PV))) : Cfg G0 := { F := F, hF := hF, S := bpS, hS := bpS_ok, B := pdB false 0, hB := pdB_ok (fun h => by cases h), V := ccV, hV := ccV_ok, hp := hpB, D := hpB, orc := orcM l, val := valM v }
def cA (s : ByteArray) (a : Nat) : Int := if a < s.size then bt s (a : Int) else 0
def bpT (s : ByteArray) (a : Nat) (b : Bool) : List UInt8 → AS
  | [] => ⟨[(8, .ptr 0 0), (9, .ptr 1 0), (10, .bool b), (11, .int .u8 (cA s a))], ⟨[bB0, rP s a], []⟩⟩
  | x :: xs => ⟨[(8, .ptr 0 0), (9, .ptr 1 0), (10, .bool b), (11, .int .u8 (cA s a))], ⟨[bB (xs.length + 1), rP s a], [some (bR (bytesPL (x :: xs)) (xs.length + 1))]⟩⟩
theorem bt_ext {s : ByteArray} {a : Nat} (ha : a < s.size) : bt (s.extract a (nxE s a)) 0 = bt s (a : Int) := by
  have h1 := nxE_gt s a
  have h3 := nxE_le s a ha
  rw [← hd0_bt (by rw [ByteArray.size_extract]; omega)]
  have hlist : (s.extract a (nxE s a)).data.toList = (s.data.toList.drop a).take (nxE s a - a) := ext_list s a (nxE s a)
  obtain ⟨c, h1, h2⟩ := bt_drop0 s a ha
  rw [hlist, h1]
  obtain ⟨k, hk⟩ : ∃ k, nxE s a - a = k + 1 := ⟨nxE s a - a - 1, by omega⟩
  rw [hk, List.take_succ_cons]
  exact h2.symm
theorem tkB_at (s : ByteArray) (a : Nat) (h : a < s.size) : tkB s a = s.extract a (nxE s a) :: tkB s (skp s (nxE s a)) := by unfold tkB; rw [tkO_at s a h]; rfl
theorem tkB_out (s : ByteArray) (a : Nat) (h : s.size ≤ a) : tkB s a = [] := by unfold tkB; rw [tkO_out s a h]; rfl
theorem bareP (s : ByteArray) : Pure G0 33 [.str s] (fun r => r = .tup [.str (bareX s), .int .i64 (bareA s), .int .i64 (alE s)]) := by
  refine Fn.enterB Tryd.func33 Tryd.ntmps33 rfl (Nat.le_of_ble_eq_true rfl) fun C fr fp hnt hnb hp hfr hfp => ?_
  have fin : ∀ st u a e H, nrm [2, 3, 4] st = ⟨[(2, .str u), (3, .int .i64 a), (4, .int .i64 e)], H⟩ → u = bareX s → a = bareA s → e = alE s → fr st := fun st u a e H hst g1 g2 g3 => hfr st [2, 3, 4] (by
    rw [hst]
    exact ⟨0, .tup [.str u, .int .i64 a, .int .i64 e], Nat.le_refl _, Nat.zero_le _, rfl, rfl, rfl, rfl, _, rfl, by rw [g1, g2, g3]⟩)
  refine Q.runSeq (SBp [] []) 100 50 hnt [0] (z := ⟨[(0, .str s)], ⟨[], []⟩⟩) (o := []) (by kernel_rfl) (by ((repeat' (first | exact okO_nil | refine okN ?_ ?_)); all_goals first | assumption | rfl | exact same_of rfl | exact sameS_self _ | (simp only [decide_eq_true_eq, decide_eq_false_iff_not, Nat.ble_eq, Nat.beq_eq] <;> omega))) ?_
  by_cases he : alE s = 0
  · have d1 : (!alE s == (0 : Int)) = false := by rw [he]; rfl
    have hsz := alE_size he
    have hss : Nat.ble s.size 1099511627776 = true := Nat.ble_eq_true_of_le (by omega)
    have hX : bareX s = mkB (bareN s) := by unfold bareX; rw [if_pos he, bareN_eq]
    have hA : bareA s = 0 := if_pos he
    have hlen := bareN_len s
    refine Q.runSeq (SBp [(50, [(19, false)])] []) 100 50 hnt [0] (z := ⟨[(0, .str s)], ⟨[], []⟩⟩) (o := [(true, true), (!alE s == (0 : Int), false), (false, false)]) (by kernel_rfl) (by ((repeat' (first | exact okO_nil | refine okN ?_ ?_)); all_goals first | assumption | rfl | exact same_of rfl | exact sameS_self _ | (simp only [decide_eq_true_eq, decide_eq_false_iff_not, Nat.ble_eq, Nat.beq_eq] <;> omega))) ?_
    refine Q.runSeq (SBp [] []) 100 50 hnt [0, 8] (z := ⟨[(0, .str s), (8, .ptr 0 0)], ⟨[⟨[PV.nilptr, PV.nil], 84⟩], []⟩⟩) (o := []) (by kernel_rfl) (by ((repeat' (first | exact okO_nil | refine okN ?_ ?_)); all_goals first | assumption | rfl | exact same_of rfl | exact sameS_self _ | (simp only [decide_eq_true_eq, decide_eq_false_iff_not, Nat.ble_eq, Nat.beq_eq] <;> omega))) ?_
    refine Q.runSeq (SBp [] []) 100 50 hnt [8, 9] (z := ⟨[(8, .ptr 0 0), (9, .ptr 1 0)], ⟨[⟨[PV.nilptr, PV.nil], 84⟩, ⟨[.str s, .int .i64 (0 : Int)], 87⟩], []⟩⟩) (o := []) (by kernel_rfl) (by ((repeat' (first | exact okO_nil | refine okN ?_ ?_)); all_goals first | assumption | rfl | exact same_of rfl | exact sameS_self _ | (simp only [decide_eq_true_eq, decide_eq_false_iff_not, Nat.ble_eq, Nat.beq_eq] <;> omega))) ?_
    refine Q.runSeq (SBp [] []) 100 50 hnt [8, 9, 10] (z := ⟨[(8, .ptr 0 0), (9, .ptr 1 0), (10, .bool false)], ⟨[⟨[PV.nilptr, PV.nil], 84⟩, ⟨[.str s, .int .i64 (0 : Int)], 87⟩], []⟩⟩) (o := []) (by kernel_rfl) (by ((repeat' (first | exact okO_nil | refine okN ?_ ?_)); all_goals first | assumption | rfl | exact same_of rfl | exact sameS_self _ | (simp only [decide_eq_true_eq, decide_eq_false_iff_not, Nat.ble_eq, Nat.beq_eq] <;> omega))) ?_
    refine Q.seq fun K9 hK9 => ?_
    refine Q.runSeq (SBp [] []) 100 50 hnt [8, 9, 10, 11] (z := ⟨[(8, .ptr 0 0), (9, .ptr 1 0), (10, .bool false), (11, .int .u8 (cA s (skp s 0)))], ⟨[bB0, rP s (skp s 0)], []⟩⟩) (o := [(true, true), (Nat.ble (s.size) 1099511627776, true)]) (by kernel_rfl) (by ((repeat' (first | exact okO_nil | refine okN ?_ ?_)); all_goals first | assumption | rfl | exact same_of rfl | exact sameS_self _ | (simp only [decide_eq_true_eq, decide_eq_false_iff_not, Nat.ble_eq, Nat.beq_eq] <;> omega))) ?_
    refine Q.block ?_
    obtain ⟨q, hq⟩ : ∃ q, q = skp s 0 := ⟨_, rfl⟩
    have hq2 : q ≤ s.size := by rw [hq]; exact skp_le s 0 (Nat.zero_le _)
    have hq3 : Clean s q := by rw [hq]; exact clean_skp s 0
    have hN : bareN s = bareL false (tkB s q) := by rw [hq]; rfl
    have hright : ∀ {a : Nat}, a < s.size → s.extract a (nxE s a) ∈ tkB s q → _ := fun {a} ha hm => sign_right he ha (by rw [hq] at hm; exact hm)
    have hatom : ∀ {a : Nat}, a < s.size → s.extract a (nxE s a) ∈ tkB s q → letC (bt s (a : Int)) = true → _ := fun {a} ha hm hl => atom_right he ha (by rw [hq] at hm; exact hm) hl
    rw [← hq]
    refine Q.loopI (σ := { x : Nat × List UInt8 × Bool // x.1 ≤ s.size ∧ Clean s x.1 ∧ x.2.1 ++ bareL x.2.2 (tkB s x.1) = bareN s ∧ (∀ w ∈ tkB s x.1, w ∈ tkB s q) ∧ (x.2.1 = [] → x.2.2 = false) }) [8, 9, 10, 11] (fun x => bpT s x.1.1 x.1.2.2 x.1.2.1) (fun x => s.size - x.1.1) ⟨(q, [], false), hq2, hq3, hN.symm, fun w h => h, fun _ => rfl⟩ rfl fun ⟨(a, D, b), ha, hcl, hD, hin, hb0⟩ => ?_
    have ha : a ≤ s.size := ha
    have hcl : Clean s a := hcl
    have hD : D ++ bareL b (tkB s a) = bareN s := hD
    have hin : ∀ w ∈ tkB s a, w ∈ tkB s q := hin
    have hb0 : D = [] → b = false := hb0
    show SWP G0 C _ _ (bpT s a b D)
    obtain ⟨c, hc⟩ : ∃ c, c = cA s a := ⟨_, rfl⟩
    refine Q.seq fun K2 hK2 => ?_
    rcases Nat.lt_or_ge a s.size with hlt | hge
    · have hcb : c = bt s (a : Int) := by rw [hc]; exact if_pos hlt
      have hat := tkB_at s a hlt
      have hm : s.extract a (nxE s a) ∈ tkB s q := hin _ (by rw [hat]; exact List.mem_cons_self ..)
      have hsg := hright hlt hm
      have hatm := hatom hlt hm
      have hbe := bt_ext hlt
      have h3 := nxE_gt s a
      have h4 := nxE_le s a hlt
      rw [← hcb] at hsg hatm hbe
      have hc0 : ¬ c = 0 := by
        intro h
        rw [h] at hsg
        rcases hsg with g | g | g | g
        · exact absurd g (by decide)
        · exact absurd g (by decide)
        · exact absurd g (by decide)
        · exact absurd g (by decide)
      have d2 : (!c == (0 : Int)) = true := by rw [beqF hc0]; rfl
      have d3 : decide (0 ≤ c ∧ c < 256) = true := by rw [hcb]; exact decide_eq_true (bt_in s a)
      have d4 : decide (0 ≤ (a : Int) ∧ (a : Int) ≤ (s.size : Int)) = true := by rw [decide_eq_true_eq]; omega
      obtain ⟨y, hy⟩ : ∃ y, y = nxE s a := ⟨_, rfl⟩
      obtain ⟨w, hw⟩ : ∃ w, w = s.extract a (nxE s a) := ⟨_, rfl⟩
      have hin2 : ∀ x ∈ tkB s (skp s y), x ∈ tkB s q := fun x hx => hin x (by rw [hat, ← hy]; exact List.mem_cons_of_mem _ hx)
      rw [← hw, ← hy] at hat
      rw [← hw] at hbe
      have hD' : D ++ ((if b = true ∧ letC c = true then [32] else []) ++ (w.data.toList ++ bareL (letC c) (tkB s (skp s y)))) = bareN s := by rw [← hD, hat, bareL, hbe]
      have hdl := congrArg List.length hD'
      simp only [List.length_append, str_len] at hdl
      have d5 : decide (0 ≤ (y : Int) ∧ (y : Int) ≤ (s.size : Int)) = true := by rw [decide_eq_true_eq]; omega
      have hy2 : y ≤ s.size := by omega
      have hya : a < y := by omega
      have wi : letC c = false → IntKind.wrap IntKind.i64 (Int.ofNat (a + 1)) = ((y : Nat) : Int) := fun h => by
        have : letE s a = a := by rw [letE_eq, if_neg (by rw [← hcb, h]; intro g; exact absurd g.2 (by decide))]
        have : y = a + 1 := by rw [hy]; unfold nxE; omega
        rw [this]
        exact wrapI (a + 1) (by omega)
      have hw1 : letC c = false → bytesPL w.data.toList = [PV.int IntKind.u8 c] := fun h => by
        have h6 : letE s a = a := by rw [letE_eq, if_neg (by rw [← hcb, h]; intro g; exact absurd g.2 (by decide))]
        have h7 : y = a + 1 := by rw [hy]; unfold nxE; omega
        obtain ⟨c', g3, g4⟩ := bt_drop0 s a hlt
        rw [hw, ← hy, h7, ext_list, g3, show a + 1 - a = 1 by omega, hcb, g4]
        rfl
      have hw2 : w.data.toList.length = w.size := str_len w
      have hwp : w.data.toList ≠ [] := fun h => by
        have : w.size = y - a := by rw [hw, ← hy, ByteArray.size_extract]; omega
        rw [h] at hw2
        simp at hw2
        omega
      have d8 : same (.str (mkS w.data.toList)) (.str w) = true := same_of rfl
      have hat1 : letC c = true → atE s a = 0 ∧ atA s a = y ∧ textD (atD s a) = w.data.toList ∧ isAtD (ndK (atX s a)) (ndN (atX s a)) (ndT (atX s a)) = true := fun h => by
        obtain ⟨g1, g2, g3, g4, g5⟩ := atD_at (hatm h)
        have h6 : nxE s a = letE s a := by have := letE_gt hlt (by rw [← hcb]; exact h); unfold nxE; omega
        have g3' : textD (atD s a) = w.data.toList := by rw [g3, hw, h6]
        have hl2 := congrArg List.length g3'
        rw [hw2] at hl2
        have : 0 < w.data.toList.length := List.length_pos_iff.2 hwp
        exact ⟨g1, by rw [g2, hy, h6], g3', isAtD_at g4 g5 (by show 0 < (textD (atD s a)).length; omega) (by show (textD (atD s a)).length ≤ _; omega)⟩
      cases D with
      | nil =>
        obtain rfl := hb0 rfl
        refine swp_st (st' := ⟨[(8, .ptr 0 0), (9, .ptr 1 0), (10, .bool false), (11, .int .u8 c)], ⟨[bB0, rP s a], []⟩⟩) (by rw [hc]; rfl) ?_
        refine SWP.runQ (SBp [(50, [(28, true)])] []) 100 50 hnt [8, 9, 10, 11] (e := .normal) (z := ⟨[(8, .ptr 0 0), (9, .ptr 1 0), (10, .bool false), (11, .int .u8 c)], ⟨[bB0, rP s a], []⟩⟩) (o := [(!c == (0 : Int), true), (true, true)]) (by kernel_rfl) (by ((repeat' (first | exact okO_nil | refine okN ?_ ?_)); all_goals first | assumption | rfl | exact same_of rfl | exact sameS_self _ | (simp only [decide_eq_true_eq, decide_eq_false_iff_not, Nat.ble_eq, Nat.beq_eq] <;> omega))) (fun st hst => hK2 st (.norm [8, 9, 10, 11] ?_))
        rw [hst]
        clear hst hK2
        rw [if_neg (fun g => absurd g.1 (by decide))] at hD'
        refine Q.seq fun K3 hK3 => ?_
        have next : ∀ st (m2 : Nat) (r2 : List PV) (b2 : Bool) (D2 : List UInt8), D2 ≠ [] → r2 = bytesPL D2 → m2 = D2.length → D2 ++ bareL b2 (tkB s (skp s y)) = bareN s → nrm [8, 9, 10] st = ⟨[(8, .ptr 0 0), (9, .ptr 1 0), (10, .bool b2)], ⟨[bB m2, rP s y], [some (bR r2 m2)]⟩⟩ → K3 st := fun st m2 r2 b2 D2 h0 hr2 hm2 hD2 hst => hK3 st (.norm [8, 9, 10] (by
          rw [hst]
          exact SWP.runQ (SBp [] []) 100 50 hnt [8, 9, 10, 11] (e := .normal) (z := ⟨[(8, .ptr 0 0), (9, .ptr 1 0), (10, .bool b2), (11, .int .u8 (cA s (skp s y)))], ⟨[bB m2, rP s (skp s y)], [some (bR r2 m2)]⟩⟩) (o := [(decide (0 ≤ (y : Int) ∧ (y : Int) ≤ (s.size : Int)), true), (Nat.ble s.size 1099511627776, true)]) (by kernel_rfl) (by ((repeat' (first | exact okO_nil | refine okN ?_ ?_)); all_goals first | assumption | rfl | exact same_of rfl | exact sameS_self _ | (simp only [decide_eq_true_eq, decide_eq_false_iff_not, Nat.ble_eq, Nat.beq_eq] <;> omega))) (fun st hst => ⟨⟨(skp s y, D2, b2), skp_le s y hy2, clean_skp s y, hD2, hin2, fun h => absurd h h0⟩, Nat.sub_lt_sub_left hlt (Nat.lt_of_lt_of_le hya (skp_ge s y)), by
            rw [hst, hr2, hm2]
            cases D2 with
            | nil => exact absurd rfl h0
            | cons z zs => rfl⟩)))
        cases hl : letC c with
        | false =>
          have d6 : (!letC c) = true := by rw [hl]; rfl
          rw [hl] at hD'
          exact SWP.runQ (SBp [(50, [(33, true)]), (17, [(14, true)])] []) 100 50 hnt [8, 9, 10] (e := .normal) (z := ⟨[(8, .ptr 0 0), (9, .ptr 1 0), (10, .bool false)], ⟨[bB 1, ⟨[.str s, .int .i64 (IntKind.wrap IntKind.i64 (Int.ofNat (a + 1)))], 87⟩], [some (bR [PV.int IntKind.u8 c] 1)]⟩⟩) (o := [(true, true), (decide (0 ≤ c ∧ c < 256), true), (!letC c, true), (true, true), (true, true), (true, true), (true, true)]) (by kernel_rfl) (by ((repeat' (first | exact okO_nil | refine okN ?_ ?_)); all_goals first | assumption | rfl | exact same_of rfl | exact sameS_self _ | (simp only [decide_eq_true_eq, decide_eq_false_iff_not, Nat.ble_eq, Nat.beq_eq] <;> omega))) (fun st hst => next st 1 [PV.int IntKind.u8 c] false w.data.toList hwp (hw1 hl).symm (by have := congrArg List.length (hw1 hl); rw [bytesPL_length] at this; rw [this]; rfl) hD' (by rw [hst, wi hl]; rfl))
        | true =>
          have d6 : (!letC c) = false := by rw [hl]; rfl
          obtain ⟨e1, e2, e3, e4⟩ := hat1 hl
          have d7 : decide (atE s a = 0) = true := decide_eq_true e1
          rw [← e3] at d8
          have d9 : Nat.ble (0 + w.size) 140737488355328 = true := Nat.ble_eq_true_of_le (by omega)
          rw [hl] at hD'
          exact SWP.runQ (SBp [(50, [(33, false)]), (19, [(14, true)])] [(50, [(47, .str w)])]) 100 50 hnt [8, 9, 10] (e := .normal) (z := ⟨[(8, .ptr 0 0), (9, .ptr 1 0), (10, .bool true)], ⟨[bB (0 + w.size), rP s (atA s a)], [some (bR ([] ++ bytesPV w) (0 + w.size))]⟩⟩) (o := [(true, true), (decide (0 ≤ c ∧ c < 256), true), (!letC c, false), (false, false), (decide (0 ≤ (a : Int) ∧ (a : Int) ≤ (s.size : Int)), true), (decide (atE s a = 0), true), (Nat.ble s.size 1099511627776, true), (true, true), (isAtD (ndK (atX s a)) (ndN (atX s a)) (ndT (atX s a)), true), (same (.str (mkS (textD (atD s a)))) (.str w), true), (Nat.ble (0 + w.size) 140737488355328, true)]) (by kernel_rfl) (by ((repeat' (first | exact okO_nil | refine okN ?_ ?_)); all_goals first | assumption | rfl | exact same_of rfl | exact sameS_self _ | (simp only [decide_eq_true_eq, decide_eq_false_iff_not, Nat.ble_eq, Nat.beq_eq] <;> omega))) (fun st hst => next st (0 + w.size) ([] ++ bytesPV w) true w.data.toList hwp rfl (by rw [hw2, Nat.zero_add]) hD' (by rw [hst, e2]))
      | cons x xs =>
        obtain ⟨m, hm⟩ : ∃ m, m = xs.length + 1 := ⟨_, rfl⟩
        obtain ⟨rc, hrc⟩ : ∃ m, m = bytesPL (x :: xs) := ⟨_, rfl⟩
        refine swp_st (st' := ⟨[(8, .ptr 0 0), (9, .ptr 1 0), (10, .bool b), (11, .int .u8 c)], ⟨[bB m, rP s a], [some (bR rc m)]⟩⟩) (by rw [hc, hm, hrc]; rfl) ?_
        have hxl : (x :: xs).length = m := hm.symm
        obtain ⟨D, hDx⟩ : ∃ D, D = x :: xs := ⟨_, rfl⟩
        have hDn : D ≠ [] := by rw [hDx]; exact List.cons_ne_nil _ _
        rw [← hDx] at hD' hrc hxl hdl
        refine SWP.runQ (SBp [(50, [(28, true)])] []) 100 50 hnt [8, 9, 10, 11] (e := .normal) (z := ⟨[(8, .ptr 0 0), (9, .ptr 1 0), (10, .bool b), (11, PV.int IntKind.u8 c)], ⟨[⟨[.ptr 0 0, .own 0 m], 84⟩, ⟨[.str s, .int .i64 (Int.ofNat a)], 87⟩], [some ⟨rc, m, 5, 1⟩]⟩⟩) (o := [(!c == (0 : Int), true), (true, true)]) (by kernel_rfl) (by ((repeat' (first | exact okO_nil | refine okN ?_ ?_)); all_goals first | assumption | rfl | exact same_of rfl | exact sameS_self _ | (simp only [decide_eq_true_eq, decide_eq_false_iff_not, Nat.ble_eq, Nat.beq_eq] <;> omega))) (fun st hst => hK2 st (.norm [8, 9, 10, 11] ?_))
        rw [hst]
        clear hst hK2
        refine Q.seq fun K3 hK3 => ?_
        have next : ∀ st (m2 : Nat) (r2 : List PV) (b2 : Bool) (D2 : List UInt8), D2 ≠ [] → r2 = bytesPL D2 → m2 = D2.length → D2 ++ bareL b2 (tkB s (skp s y)) = bareN s → nrm [8, 9, 10] st = ⟨[(8, .ptr 0 0), (9, .ptr 1 0), (10, .bool b2)], ⟨[bB m2, rP s y], [some (bR r2 m2)]⟩⟩ → K3 st := fun st m2 r2 b2 D2 h0 hr2 hm2 hD2 hst => hK3 st (.norm [8, 9, 10] (by
          rw [hst]
          exact SWP.runQ (SBp [] []) 100 50 hnt [8, 9, 10, 11] (e := .normal) (z := ⟨[(8, .ptr 0 0), (9, .ptr 1 0), (10, .bool b2), (11, .int .u8 (cA s (skp s y)))], ⟨[bB m2, rP s (skp s y)], [some (bR r2 m2)]⟩⟩) (o := [(decide (0 ≤ (y : Int) ∧ (y : Int) ≤ (s.size : Int)), true), (Nat.ble s.size 1099511627776, true)]) (by kernel_rfl) (by ((repeat' (first | exact okO_nil | refine okN ?_ ?_)); all_goals first | assumption | rfl | exact same_of rfl | exact sameS_self _ | (simp only [decide_eq_true_eq, decide_eq_false_iff_not, Nat.ble_eq, Nat.beq_eq] <;> omega))) (fun st hst => ⟨⟨(skp s y, D2, b2), skp_le s y hy2, clean_skp s y, hD2, hin2, fun h => absurd h h0⟩, Nat.sub_lt_sub_left hlt (Nat.lt_of_lt_of_le hya (skp_ge s y)), by
            rw [hst, hr2, hm2]
            cases D2 with
            | nil => exact absurd rfl h0
            | cons z zs => rfl⟩)))
        cases hl : letC c with
        | false =>
          have d6 : (!letC c) = true := by rw [hl]; rfl
          rw [hl, if_neg (fun g => absurd g.2 (by decide))] at hD'
          have hw3 := congrArg List.length (hw1 hl)
          rw [bytesPL_length] at hw3
          have hw4 : w.data.toList.length = 1 := hw3
          have d9 : Nat.ble ((m + 1) * 1) 140737488355328 = true := Nat.ble_eq_true_of_le (by omega)
          have d10 : Nat.ble (m + 1) 9223372036854775807 = true := Nat.ble_eq_true_of_le (by omega)
          exact SWP.runQ (SBp [(50, [(33, true)]), (17, [(14, true)])] []) 100 50 hnt [8, 9, 10] (e := .normal) (z := ⟨[(8, .ptr 0 0), (9, .ptr 1 0), (10, .bool false)], ⟨[bB (m + 1), ⟨[.str s, .int .i64 (IntKind.wrap IntKind.i64 (Int.ofNat (a + 1)))], 87⟩], [some (bR (rc ++ [PV.int IntKind.u8 c]) (m + 1))]⟩⟩) (o := [(true, true), (decide (0 ≤ c ∧ c < 256), true), (!letC c, true), (true, true), (true, true), (Nat.ble ((m + 1) * 1) 140737488355328, true), (Nat.ble (m + 1) 9223372036854775807, true)]) (by kernel_rfl) (by ((repeat' (first | exact okO_nil | refine okN ?_ ?_)); all_goals first | assumption | rfl | exact same_of rfl | exact sameS_self _ | (simp only [decide_eq_true_eq, decide_eq_false_iff_not, Nat.ble_eq, Nat.beq_eq] <;> omega))) (fun st hst => next st (m + 1) (rc ++ [PV.int IntKind.u8 c]) false (D ++ w.data.toList) (by simp [hDn]) (by rw [bytesPL_append, hw1 hl, hrc]) (by rw [List.length_append, hw4, hxl]) (by rw [List.append_assoc]; exact hD') (by rw [hst, wi hl]; rfl))
        | true =>
          have d6 : (!letC c) = false := by rw [hl]; rfl
          obtain ⟨e1, e2, e3, e4⟩ := hat1 hl
          have d7 : decide (atE s a = 0) = true := decide_eq_true e1
          rw [← e3] at d8
          cases b with
          | false =>
            have d9 : Nat.ble (m + w.size) 140737488355328 = true := Nat.ble_eq_true_of_le (by omega)
            rw [hl, if_neg (fun g => absurd g.1 (by decide))] at hD'
            exact SWP.runQ (SBp [(50, [(33, false)]), (19, [(14, true)])] [(50, [(47, .str w)])]) 100 50 hnt [8, 9, 10] (e := .normal) (z := ⟨[(8, .ptr 0 0), (9, .ptr 1 0), (10, .bool true)], ⟨[bB (m + w.size), rP s (atA s a)], [some (bR (rc ++ bytesPV w) (m + w.size))]⟩⟩) (o := [(true, true), (decide (0 ≤ c ∧ c < 256), true), (!letC c, false), (false, false), (decide (0 ≤ (a : Int) ∧ (a : Int) ≤ (s.size : Int)), true), (decide (atE s a = 0), true), (Nat.ble s.size 1099511627776, true), (true, true), (isAtD (ndK (atX s a)) (ndN (atX s a)) (ndT (atX s a)), true), (same (.str (mkS (textD (atD s a)))) (.str w), true), (Nat.ble (m + w.size) 140737488355328, true)]) (by kernel_rfl) (by ((repeat' (first | exact okO_nil | refine okN ?_ ?_)); all_goals first | assumption | rfl | exact same_of rfl | exact sameS_self _ | (simp only [decide_eq_true_eq, decide_eq_false_iff_not, Nat.ble_eq, Nat.beq_eq] <;> omega))) (fun st hst => next st (m + w.size) (rc ++ bytesPV w) true (D ++ w.data.toList) (by simp [hDn]) (by rw [bytesPL_append, hrc]; rfl) (by rw [List.length_append, hw2, hxl]) (by rw [List.append_assoc]; exact hD') (by rw [hst, e2]))
          | true =>
            rw [hl, if_pos ⟨rfl, rfl⟩] at hD'
            have hdl2 := congrArg List.length hD'
            simp only [List.length_append, str_len, List.length_cons, List.length_nil] at hdl2
            have d9 : Nat.ble ((m + 1) * 1) 140737488355328 = true := Nat.ble_eq_true_of_le (by omega)
            have d10 : Nat.ble (m + 1) 9223372036854775807 = true := Nat.ble_eq_true_of_le (by omega)
            have d11 : Nat.ble (m + 1 + w.size) 140737488355328 = true := Nat.ble_eq_true_of_le (by omega)
            exact SWP.runQ (SBp [(50, [(33, false)]), (17, [(14, true)]), (19, [(14, true)])] [(50, [(47, .str w)])]) 100 50 hnt [8, 9, 10] (e := .normal) (z := ⟨[(8, .ptr 0 0), (9, .ptr 1 0), (10, .bool true)], ⟨[bB (m + 1 + w.size), rP s (atA s a)], [some (bR (rc ++ [PV.int IntKind.u8 (32 : Int)] ++ bytesPV w) (m + 1 + w.size))]⟩⟩) (o := [(true, true), (decide (0 ≤ c ∧ c < 256), true), (!letC c, false), (false, false), (true, true), (Nat.ble ((m + 1) * 1) 140737488355328, true), (Nat.ble (m + 1) 9223372036854775807, true), (decide (0 ≤ (a : Int) ∧ (a : Int) ≤ (s.size : Int)), true), (decide (atE s a = 0), true), (Nat.ble s.size 1099511627776, true), (true, true), (isAtD (ndK (atX s a)) (ndN (atX s a)) (ndT (atX s a)), true), (same (.str (mkS (textD (atD s a)))) (.str w), true), (Nat.ble (m + 1 + w.size) 140737488355328, true)]) (by kernel_rfl) (by ((repeat' (first | exact okO_nil | refine okN ?_ ?_)); all_goals first | assumption | rfl | exact same_of rfl | exact sameS_self _ | (simp only [decide_eq_true_eq, decide_eq_false_iff_not, Nat.ble_eq, Nat.beq_eq] <;> omega))) (fun st hst => next st (m + 1 + w.size) (rc ++ [PV.int IntKind.u8 (32 : Int)] ++ bytesPV w) true (D ++ [32] ++ w.data.toList) (by simp [hDn]) (by rw [bytesPL_append, bytesPL_append, hrc]; rfl) (by rw [List.length_append, List.length_append, hw2, hxl]; rfl) (by rw [List.append_assoc, List.append_assoc]; exact hD') (by rw [hst, e2]))
    · have hc0 : c = 0 := by rw [hc]; exact if_neg (by omega)
      have d2 : (!c == (0 : Int)) = false := by rw [hc0]; rfl
      rw [tkB_out s a hge, bareL, List.append_nil] at hD
      cases D with
      | nil =>
        refine swp_st (st' := ⟨[(8, .ptr 0 0), (9, .ptr 1 0), (10, .bool b), (11, .int .u8 c)], ⟨[bB0, rP s a], []⟩⟩) (by rw [hc]; rfl) ?_
        refine SWP.runQ (SBp [(50, [(28, false)])] []) 100 50 hnt [8] (e := .exit 0) (z := ⟨[(8, .ptr 0 0)], ⟨[⟨[PV.nilptr, PV.nil], 84⟩, ⟨[.str s, .int .i64 (Int.ofNat a)], 87⟩], []⟩⟩) (o := [(!c == (0 : Int), false), (false, false)]) (by kernel_rfl) (by ((repeat' (first | exact okO_nil | refine okN ?_ ?_)); all_goals first | assumption | rfl | exact same_of rfl | exact sameS_self _ | (simp only [decide_eq_true_eq, decide_eq_false_iff_not, Nat.ble_eq, Nat.beq_eq] <;> omega))) (fun st hst => hK9 st (.norm [8] ?_))
        rw [hst]
        exact SWP.runQ (SBp [(14, [(7, true), (13, true)])] []) 100 50 hnt [2, 3, 4] (e := .ret) (z := ⟨[(2, .str ⟨#[]⟩), (3, .int .i64 (0 : Int)), (4, .int .i64 (0 : Int))], ⟨[⟨[PV.nilptr, PV.nil], 84⟩, ⟨[.str s, .int .i64 (Int.ofNat a)], 87⟩], []⟩⟩) (o := []) (by kernel_rfl) (by ((repeat' (first | exact okO_nil | refine okN ?_ ?_)); all_goals first | assumption | rfl | exact same_of rfl | exact sameS_self _ | (simp only [decide_eq_true_eq, decide_eq_false_iff_not, Nat.ble_eq, Nat.beq_eq] <;> omega))) (fun st hst => fin st ⟨#[]⟩ 0 0 _ hst (by rw [hX, ← hD]; rfl) hA.symm he.symm)
      | cons x xs =>
        obtain ⟨m, hm⟩ : ∃ m, m = xs.length + 1 := ⟨_, rfl⟩
        obtain ⟨rc, hrc⟩ : ∃ m, m = bytesPL (x :: xs) := ⟨_, rfl⟩
        have hdl := congrArg List.length hD
        simp only [List.length_cons] at hdl
        refine swp_st (st' := ⟨[(8, .ptr 0 0), (9, .ptr 1 0), (10, .bool b), (11, .int .u8 c)], ⟨[bB m, rP s a], [some (bR rc m)]⟩⟩) (by rw [hc, hm, hrc]; rfl) ?_
        refine SWP.runQ (SBp [(50, [(28, false)])] []) 100 50 hnt [8] (e := .exit 0) (z := ⟨[(8, .ptr 0 0)], ⟨[⟨[.ptr 0 0, .own 0 m], 84⟩, ⟨[.str s, .int .i64 (Int.ofNat a)], 87⟩], [some ⟨rc, m, 5, 1⟩]⟩⟩) (o := [(!c == (0 : Int), false), (false, false)]) (by kernel_rfl) (by ((repeat' (first | exact okO_nil | refine okN ?_ ?_)); all_goals first | assumption | rfl | exact same_of rfl | exact sameS_self _ | (simp only [decide_eq_true_eq, decide_eq_false_iff_not, Nat.ble_eq, Nat.beq_eq] <;> omega))) (fun st hst => hK9 st (.norm [8] ?_))
        rw [hst]
        have f1 : Nat.ble 1 m = true := Nat.ble_eq_true_of_le (by omega)
        have f2 : Nat.beq m m = true := Nat.beq_refl m
        have f3 : Nat.beq (rc.length) m = true := by rw [hrc, hm, Nat.beq_eq, bytesPL_length]; rfl
        have f4 : Nat.ble m 9223372036854775807 = true := Nat.ble_eq_true_of_le (by omega)
        have f5 : isBytes8 rc = true := by rw [hrc]; exact isBytes8_PL _
        exact SWP.runQ (SBp [(14, [(7, true), (13, true)])] []) 100 50 hnt [2, 3, 4] (e := .ret) (z := ⟨[(2, .str (strOf rc)), (3, .int .i64 (0 : Int)), (4, .int .i64 (0 : Int))], ⟨[⟨[.ptr 0 0, .own 0 m], 84⟩, ⟨[.str s, .int .i64 (Int.ofNat a)], 87⟩], [none]⟩⟩) (o := [(Nat.ble 1 m, true), (Nat.beq m m, true), (Nat.beq (rc.length) m, true), (Nat.ble 1 m, true), (Nat.ble m 9223372036854775807, true), (isBytes8 rc, true)]) (by kernel_rfl) (by ((repeat' (first | exact okO_nil | refine okN ?_ ?_)); all_goals first | assumption | rfl | exact same_of rfl | exact sameS_self _ | (simp only [decide_eq_true_eq, decide_eq_false_iff_not, Nat.ble_eq, Nat.beq_eq] <;> omega))) (fun st hst => fin st (strOf rc) 0 0 _ hst (by rw [hX, ← hD, hrc]; exact strOf_PV (mkS (x :: xs))) hA.symm he.symm)
  · have d1 : (!alE s == (0 : Int)) = true := by rw [beqF he]; rfl
    refine Q.seq fun K hK => ?_
    exact SWP.runQ (SBp [(50, [(19, true)])] []) 100 50 hnt [2, 3, 4] (e := .ret) (z := ⟨[(2, .str ⟨#[]⟩), (3, .int .i64 (alA s)), (4, .int .i64 (alE s))], ⟨[], []⟩⟩) (o := [(true, true), (!alE s == (0 : Int), true), (true, true)]) (by kernel_rfl) (by ((repeat' (first | exact okO_nil | refine okN ?_ ?_)); all_goals first | assumption | rfl | exact same_of rfl | exact sameS_self _ | (simp only [decide_eq_true_eq, decide_eq_false_iff_not, Nat.ble_eq, Nat.beq_eq] <;> omega))) (fun st hst => fin st ⟨#[]⟩ (alA s) (alE s) _ hst (by unfold bareX; rw [if_neg he]) (by unfold bareA; rw [if_neg he]) rfl)
theorem let_clean {c : UInt8} (h : lle c = true) : lbl c = false ∧ c.toNat ≠ 59 := by
  have key : ∀ k : Nat, letC (k : Int) = true → blank (k : Int) = false ∧ k ≠ 59 := by
    intro k hk
    have hb : blank (k : Int) = true → letC (k : Int) = false := by
      intro hb
      unfold blank at hb
      simp only [Bool.or_eq_true, beq_iff_eq] at hb
      rcases hb with ((hb | hb) | hb) | hb <;> rw [hb] <;> decide
    refine ⟨?_, fun h9 => ?_⟩
    · cases hq : blank (k : Int) with
      | false => rfl
      | true => rw [hb hq] at hk; cases hk
    · rw [h9] at hk; exact absurd hk (by decide)
  exact key c.toNat h
theorem takeW_app {α : Type} (p : α → Bool) : ∀ (w r : List α), (∀ x ∈ w, p x = true) → (∀ x ∈ r.head?, p x = false) → (w ++ r).takeWhile p = w ∧ (w ++ r).dropWhile p = r
  | [], [], _, _ => ⟨rfl, rfl⟩
  | [], y :: r, _, h => by
    have := h y rfl
    simp [List.takeWhile_cons, List.dropWhile_cons, this]
  | x :: w, r, hw, h => by
    have hx := hw x (List.mem_cons_self ..)
    obtain ⟨h1, h2⟩ := takeW_app p w r (fun y hy => hw y (List.mem_cons_of_mem _ hy)) h
    exact ⟨by rw [List.cons_append, List.takeWhile_cons, if_pos hx, h1], by rw [List.cons_append, List.dropWhile_cons, if_pos hx, h2]⟩
theorem tok_atom (w r : List UInt8) (h0 : w ≠ []) (hw : ∀ x ∈ w, lle x = true) (hr : ∀ x ∈ r.head?, lle x = false) : tok (w ++ r) = w :: tok r := by
  cases w with
  | nil => exact absurd rfl h0
  | cons c w =>
    have hc := hw c (List.mem_cons_self ..)
    obtain ⟨g1, g2⟩ := let_clean hc
    obtain ⟨h1, h2⟩ := takeW_app lle w r (fun y hy => hw y (List.mem_cons_of_mem _ hy)) hr
    rw [List.cons_append, tok_cons, if_neg (by rw [g1]; decide), if_neg g2, if_pos hc, h1, h2]
theorem tok_sign (c : UInt8) (r : List UInt8) (h1 : lbl c = false) (h2 : c.toNat ≠ 59) (h3 : lle c = false) : tok (c :: r) = [c] :: tok r := by
  rw [tok_cons, if_neg (by rw [h1]; decide), if_neg h2, if_neg (by rw [h3]; decide)]
theorem tok_blank (r : List UInt8) : tok (32 :: r) = tok r := by rw [tok_cons, if_pos (by decide)]
theorem hd_let {w : Tok} (h0 : w ≠ []) (hw : ∀ x ∈ w, lle x = true) : letC (hd0 w) = true := by
  cases w with
  | nil => exact absurd rfl h0
  | cons c w => exact hw c (List.mem_cons_self ..)
theorem prA_more : ∀ (k m : Nat) (ts : List Tok) (l D : Dats), prA k ts l = some D → k ≤ m → prA m ts l = some D
  | 0, m, ts, l, D, h, _ => by cases h
  | k + 1, m, [], l, D, h, hm => by
    obtain ⟨m, rfl⟩ : ∃ j, m = j + 1 := ⟨m - 1, by omega⟩
    exact h
  | k + 1, m, t :: r, l, D, h, hm => by
    obtain ⟨m, rfl⟩ : ∃ j, m = j + 1 := ⟨m - 1, by omega⟩
    rw [prA] at h ⊢
    split at h
    · rename_i d r' hd
      exact prA_more k m r' _ D h (by omega)
    · cases h
theorem prA_fuel : ∀ (k : Nat) (ts : List Tok) (l D : Dats), prA k ts l = some D → prA (ts.length + 1) ts l = some D
  | 0, ts, l, D, h => by cases h
  | k + 1, [], l, D, h => h
  | k + 1, t :: r, l, D, h => by
    rw [prA] at h
    rw [List.length_cons, prA]
    split at h
    · rename_i d r' hd
      have he := prD_eats 1000 _ _ _ hd
      exact prA_more _ _ _ _ _ (prA_fuel k r' _ D h) (by simp at he; omega)
    · cases h
theorem al_of (s : ByteArray) (hs : s.size ≤ 20000) (k : Nat) (D : Dats) (h : prA k (toks s 0) .nil = some D) : alE s = 0 ∧ (alX s).dat = D := by
  have h1 := prA_fuel k _ _ _ h
  rw [al_toks s hs] at h1
  split at h1
  · rename_i he
    exact ⟨he, Option.some.inj h1⟩
  · cases h1
def tokOk (w : Tok) : Prop := (w ≠ [] ∧ ∀ x ∈ w, lle x = true) ∨ ∃ c, w = [c] ∧ lbl c = false ∧ c.toNat ≠ 59 ∧ lle c = false
theorem takeW_all {α : Type} (p : α → Bool) : ∀ l : List α, ∀ x ∈ l.takeWhile p, p x = true
  | [], x, h => by cases h
  | c :: r, x, h => by
    rw [List.takeWhile_cons] at h
    split at h
    · rename_i hc
      rcases List.mem_cons.1 h with rfl | h
      · exact hc
      · exact takeW_all p r x h
    · cases h
theorem tok_all : ∀ (n : Nat) (l : List UInt8), l.length ≤ n → ∀ w ∈ tok l, tokOk w
  | n, [], _, w, hw => by rw [tok_nil] at hw; cases hw
  | 0, c :: r, h, w, hw => by simp at h
  | n + 1, c :: r, h, w, hw => by
    have hr : r.length ≤ n := by simpa using h
    have h1 := dropWhile_len nl10 r
    have h2 := dropWhile_len lle r
    rw [tok_cons] at hw
    split at hw
    · exact tok_all n r hr w hw
    · rename_i hb
      split at hw
      · exact tok_all n _ (by omega) w hw
      · rename_i h59
        split at hw
        · rename_i hl
          rcases List.mem_cons.1 hw with rfl | hw
          · exact .inl ⟨List.cons_ne_nil _ _, fun x hx => by
              rcases List.mem_cons.1 hx with rfl | hx
              · exact hl
              · exact takeW_all lle r x hx⟩
          · exact tok_all n _ (by omega) w hw
        · rename_i hl
          rcases List.mem_cons.1 hw with rfl | hw
          · exact .inr ⟨c, rfl, by simpa using hb, h59, by simpa using hl⟩
          · exact tok_all n r hr w hw
def Sep (p : List UInt8) : Prop := (∀ r, tok (p ++ r) = tok r) ∧ ∀ x ∈ p.head?, lle x = false
def joinT : List (List UInt8 × Tok) → List UInt8 → List UInt8
  | [], e => e
  | x :: r, e => x.1 ++ (x.2 ++ joinT r e)
def adjT : Bool → List (List UInt8 × Tok) → Prop
  | _, [] => True
  | b, x :: r => (b = true → letC (hd0 x.2) = true → x.1 ≠ []) ∧ adjT (letC (hd0 x.2)) r
theorem tokOk_head {w : Tok} (h : tokOk w) (hl : letC (hd0 w) = false) : ∀ x ∈ (w.head?), lle x = false := by
  rcases h with ⟨h0, h1⟩ | ⟨c, rfl, _, _, h3⟩
  · cases w with
    | nil => exact absurd rfl h0
    | cons c r =>
      have := h1 c (List.mem_cons_self ..)
      have hc : letC (c.toNat : Int) = false := hl
      exact absurd this (by rw [show lle c = letC (c.toNat : Int) from rfl, hc]; decide)
  · intro x hx
    simp only [List.head?_cons, Option.mem_def, Option.some.injEq] at hx
    rw [← hx]; exact h3
theorem join_head : ∀ (xs : List (List UInt8 × Tok)) (e : List UInt8), (∀ x ∈ xs, Sep x.1 ∧ tokOk x.2) → adjT true xs → Sep e → ∀ x ∈ (joinT xs e).head?, lle x = false
  | [], e, _, _, he => he.2
  | y :: r, e, hx, ha, he => by
    obtain ⟨hs, ht⟩ := hx y (List.mem_cons_self ..)
    rw [joinT]
    cases hp : y.1 with
    | cons c p =>
      intro x hx
      exact hs.2 x (by rw [hp]; exact hx)
    | nil =>
      have hl : letC (hd0 y.2) = false := by
        cases hl : letC (hd0 y.2) with
        | false => rfl
        | true => exact absurd hp (ha.1 rfl hl)
      intro x hx
      refine tokOk_head ht hl x ?_
      cases hw : y.2 with
      | nil => rcases ht with ⟨h0, _⟩ | ⟨c, h0, _⟩ <;> simp [hw] at h0
      | cons c w => rw [hw] at hx; exact hx
theorem tok_join : ∀ (xs : List (List UInt8 × Tok)) (b : Bool) (e : List UInt8), (∀ x ∈ xs, Sep x.1 ∧ tokOk x.2) → adjT b xs → Sep e → tok (joinT xs e) = xs.map (·.2)
  | [], b, e, _, _, he => by
    have := he.1 []
    rw [List.append_nil, tok_nil] at this
    exact this
  | y :: r, b, e, hx, ha, he => by
    obtain ⟨hs, ht⟩ := hx y (List.mem_cons_self ..)
    have hx2 : ∀ x ∈ r, Sep x.1 ∧ tokOk x.2 := fun x h => hx x (List.mem_cons_of_mem _ h)
    have ih := tok_join r (letC (hd0 y.2)) e hx2 ha.2 he
    rw [joinT, hs.1, List.map_cons, ← ih]
    rcases ht with ⟨h0, h1⟩ | ⟨c, h0, h1, h2, h3⟩
    · have hl : letC (hd0 y.2) = true := hd_let h0 h1
      exact tok_atom y.2 (joinT r e) h0 h1 (join_head r e hx2 (by have := ha.2; rwa [hl] at this) he)
    · rw [h0]
      exact tok_sign c (joinT r e) h1 h2 h3
theorem sep_nil : Sep [] := ⟨fun r => rfl, fun x h => by cases h⟩
theorem sep_blank : Sep [32] := ⟨fun r => tok_blank r, fun x h => by simp at h; rw [← h]; decide⟩
def bareJ : Bool → List Tok → List (List UInt8 × Tok)
  | _, [] => []
  | b, w :: r => ((if b = true ∧ letC (hd0 w) = true then [32] else []), w) :: bareJ (letC (hd0 w)) r
theorem bareJ_join : ∀ (b : Bool) (ts : List Tok), joinT (bareJ b ts) [] = bareB b ts
  | b, [] => rfl
  | b, w :: r => by rw [bareJ, joinT, bareB, bareJ_join _ r]
theorem bareJ_map : ∀ (b : Bool) (ts : List Tok), (bareJ b ts).map (·.2) = ts
  | b, [] => rfl
  | b, w :: r => by rw [bareJ, List.map_cons, bareJ_map _ r]
theorem bareJ_adj : ∀ (b : Bool) (ts : List Tok), adjT b (bareJ b ts)
  | b, [] => trivial
  | b, w :: r => ⟨fun h1 h2 => by show (if b = true ∧ letC (hd0 w) = true then [32] else []) ≠ []; rw [if_pos ⟨h1, h2⟩]; exact List.cons_ne_nil _ _, bareJ_adj _ r⟩
theorem bareJ_sep : ∀ (b : Bool) (ts : List Tok), (∀ w ∈ ts, tokOk w) → ∀ x ∈ bareJ b ts, Sep x.1 ∧ tokOk x.2
  | b, [], _, x, hx => by cases hx
  | b, w :: r, h, x, hx => by
    rcases List.mem_cons.1 hx with rfl | hx
    · refine ⟨?_, h w (List.mem_cons_self ..)⟩
      show Sep (if b = true ∧ letC (hd0 w) = true then [32] else [])
      split
      · exact sep_blank
      · exact sep_nil
    · exact bareJ_sep _ r (fun y hy => h y (List.mem_cons_of_mem _ hy)) x hx
theorem tok_bare (b : Bool) (ts : List Tok) (h : ∀ w ∈ ts, tokOk w) : tok (bareB b ts) = ts := by
  rw [← bareJ_join, tok_join _ b [] (bareJ_sep b ts h) (bareJ_adj b ts) sep_nil, bareJ_map]
theorem toks_bare (s : ByteArray) : toks (mkB (bareN s)) 0 = toks s 0 := by
  have h1 : ∀ x : ByteArray, toks x 0 = tok x.data.toList := fun x => by unfold toks; rw [List.drop_zero]
  rw [h1, bareN_eq, show (mkB (bareB false (toks s 0))).data.toList = bareB false (toks s 0) by simp [mkB]]
  exact tok_bare false _ (by rw [h1]; exact tok_all _ _ (Nat.le_refl _))
def lsW : Nat → List UInt8
  | 0 => []
  | 1 => [32]
  | 2 => [10]
  | 3 => [9, 13]
  | 4 => [32, 59, 32, 97, 32, 40, 32, 39, 32, 98, 10]
  | 5 => [59, 10]
  | _ => [32, 32, 10, 32, 32]
theorem tok_bl {c : UInt8} (h : lbl c = true) (r : List UInt8) : tok (c :: r) = tok r := by rw [tok_cons, if_pos h]
theorem tok_rem (p r : List UInt8) (h : ∀ x ∈ p, nl10 x = true) : tok (59 :: (p ++ 10 :: r)) = tok r := by
  have hd : (p ++ 10 :: r).dropWhile nl10 = 10 :: r := by
    induction p with
    | nil => rfl
    | cons c p ih => rw [List.cons_append, List.dropWhile_cons, if_pos (h c (List.mem_cons_self ..))]; exact ih fun x hx => h x (List.mem_cons_of_mem _ hx)
  rw [tok_cons, if_neg (by decide), if_pos (by decide), hd]
  exact tok_bl (by decide) r
theorem lsW_sep : ∀ k, Sep (lsW k)
  | 0 => sep_nil
  | 1 => sep_blank
  | 2 => ⟨fun r => tok_bl (by decide) r, fun x h => by simp [lsW] at h; rw [← h]; decide⟩
  | 3 => ⟨fun r => (tok_bl (by decide) _).trans (tok_bl (by decide) r), fun x h => by simp [lsW] at h; rw [← h]; decide⟩
  | 4 => ⟨fun r => (tok_bl (by decide) _).trans (tok_rem [32, 97, 32, 40, 32, 39, 32, 98] r (by decide)), fun x h => by simp [lsW] at h; rw [← h]; decide⟩
  | 5 => ⟨fun r => tok_rem [] r (by decide), fun x h => by simp [lsW] at h; rw [← h]; decide⟩
  | k + 6 => ⟨fun r => (tok_bl (by decide) _).trans ((tok_bl (by decide) _).trans ((tok_bl (by decide) _).trans ((tok_bl (by decide) _).trans (tok_bl (by decide) r)))), fun x h => by simp [lsW] at h; rw [← h]; decide⟩
def lsK (ys : List Nat) (j : Nat) : Nat := if j < ys.length then ys.getD j 0 % 7 else 0
def kL (L : List ByteArray) (ys : List Nat) (j : Nat) : Nat := if lsK ys j = 0 ∧ lastL L j = true ∧ letC (bt (L.getD j ⟨#[]⟩) 0) = true then 1 else lsK ys j
def lsB (L : List ByteArray) (ys : List Nat) : Nat → List UInt8
  | 0 => []
  | j + 1 => lsB L ys j ++ (lsW (kL L ys j) ++ (L.getD j ⟨#[]⟩).data.toList)
def lsE (L : List ByteArray) (ys : List Nat) : List UInt8 := if 0 < L.length ∧ L.length < ys.length then lsW (ys.getD L.length 0 % 7) else []
def looB (L : List ByteArray) (ys : List Nat) : List UInt8 := lsB L ys L.length ++ lsE L ys
theorem lsB_mono (L : List ByteArray) (ys : List Nat) : ∀ (c j : Nat), (lsB L ys j).length ≤ (lsB L ys (j + c)).length
  | 0, j => Nat.le_refl _
  | c + 1, j => by
    have := lsB_mono L ys c j
    rw [show j + (c + 1) = (j + c) + 1 by omega, lsB, List.length_append]
    omega
def lsJ (L : List ByteArray) (ys : List Nat) : Nat → Nat → List (List UInt8 × Tok)
  | 0, _ => []
  | c + 1, j => (lsW (kL L ys j), (L.getD j ⟨#[]⟩).data.toList) :: lsJ L ys c (j + 1)
theorem lsJ_join (L : List ByteArray) (ys : List Nat) (e : List UInt8) : ∀ (c j : Nat), lsB L ys j ++ joinT (lsJ L ys c j) e = lsB L ys (j + c) ++ e
  | 0, j => rfl
  | c + 1, j => by
    have := lsJ_join L ys e c (j + 1)
    rw [show j + (c + 1) = j + 1 + c by omega, ← this, lsJ, joinT, lsB, List.append_assoc, List.append_assoc]
theorem lsW_ne {k : Nat} (h : k ≠ 0) : lsW k ≠ [] := by
  match k, h with
  | 1, _ => exact List.cons_ne_nil _ _
  | 2, _ => exact List.cons_ne_nil _ _
  | 3, _ => exact List.cons_ne_nil _ _
  | 4, _ => exact List.cons_ne_nil _ _
  | 5, _ => exact List.cons_ne_nil _ _
  | k + 6, _ => exact List.cons_ne_nil _ _
theorem lsW_len (k : Nat) : (lsW k).length ≤ 11 := by
  match k with
  | 0 => decide
  | 1 => decide
  | 2 => decide
  | 3 => decide
  | 4 => decide
  | 5 => decide
  | k + 6 => exact Nat.le_of_ble_eq_true rfl
theorem kL_ne {L : List ByteArray} {ys : List Nat} {j : Nat} (h1 : lastL L j = true) (h2 : letC (bt (L.getD j ⟨#[]⟩) 0) = true) : kL L ys j ≠ 0 := by
  unfold kL
  split
  · decide
  · rename_i h
    exact fun g => h ⟨g, h1, h2⟩
theorem getD_pos {L : List ByteArray} (hp : ∀ w ∈ L, 0 < w.size) {j : Nat} (h : j < L.length) : L.getD j ⟨#[]⟩ ∈ L ∧ 0 < (L.getD j ⟨#[]⟩).size := by
  have e : L.getD j ⟨#[]⟩ = L[j] := by simp [List.getD, h]
  rw [e]
  exact ⟨List.getElem_mem h, hp _ (List.getElem_mem h)⟩
theorem lsJ_adj {L : List ByteArray} (ys : List Nat) (hp : ∀ w ∈ L, 0 < w.size) : ∀ (c j : Nat), j + c ≤ L.length → adjT (lastL L j) (lsJ L ys c j)
  | 0, j, _ => trivial
  | c + 1, j, h => by
    have hw := getD_pos hp (j := j) (by omega)
    have e := hd0_bt hw.2
    refine ⟨fun h1 h2 => lsW_ne (kL_ne h1 (by rw [← e]; exact h2)), ?_⟩
    have := lsJ_adj ys hp c (j + 1) (by omega)
    rw [lastL, ← e] at this
    exact this
theorem lsJ_sep {L : List ByteArray} (ys : List Nat) (ho : ∀ w ∈ L, tokOk w.data.toList) (hp : ∀ w ∈ L, 0 < w.size) : ∀ (c j : Nat), j + c ≤ L.length → ∀ x ∈ lsJ L ys c j, Sep x.1 ∧ tokOk x.2
  | 0, j, _, x, hx => by cases hx
  | c + 1, j, h, x, hx => by
    rcases List.mem_cons.1 hx with rfl | hx
    · exact ⟨lsW_sep _, ho _ (getD_pos hp (j := j) (by omega)).1⟩
    · exact lsJ_sep ys ho hp c (j + 1) (by omega) x hx
theorem lsJ_map (L : List ByteArray) (ys : List Nat) : ∀ (c j : Nat), j + c = L.length → (lsJ L ys c j).map (·.2) = (L.drop j).map (·.data.toList)
  | 0, j, h => by rw [List.drop_of_length_le (by omega)]; rfl
  | c + 1, j, h => by
    have hj : j < L.length := by omega
    have e : L.getD j ⟨#[]⟩ = L[j] := by simp [List.getD, hj]
    rw [lsJ, List.map_cons, lsJ_map L ys c (j + 1) (by omega), List.drop_eq_getElem_cons hj, List.map_cons, e]
theorem lsE_sep (L : List ByteArray) (ys : List Nat) : Sep (lsE L ys) := by
  unfold lsE
  split
  · exact lsW_sep _
  · exact sep_nil
theorem tok_loo {L : List ByteArray} (ys : List Nat) (ho : ∀ w ∈ L, tokOk w.data.toList) (hp : ∀ w ∈ L, 0 < w.size) : tok (looB L ys) = L.map (·.data.toList) := by
  have h1 := lsJ_join L ys (lsE L ys) L.length 0
  rw [Nat.zero_add] at h1
  have h2 : joinT (lsJ L ys L.length 0) (lsE L ys) = looB L ys := h1
  rw [← h2, tok_join _ (lastL L 0) _ (lsJ_sep ys ho hp _ _ (by omega)) (lsJ_adj ys hp _ _ (by omega)) (lsE_sep L ys), lsJ_map L ys _ _ (by omega)]
  rfl
def sumS : List ByteArray → Nat
  | [] => 0
  | w :: r => w.size + sumS r
theorem sumS_at : ∀ (L : List ByteArray) (j : Nat), j < L.length → sumS (L.drop j) = (L.getD j ⟨#[]⟩).size + sumS (L.drop (j + 1)) := fun L j h => by
  have e : L.getD j ⟨#[]⟩ = L[j] := by simp [List.getD, h]
  rw [List.drop_eq_getElem_cons h, e]; rfl
theorem lsB_len (L : List ByteArray) (ys : List Nat) : ∀ j, j ≤ L.length → (lsB L ys j).length + sumS (L.drop j) ≤ 11 * j + sumS L
  | 0, _ => by simp [lsB]
  | j + 1, h => by
    have h1 := lsB_len L ys j (by omega)
    have h2 := sumS_at L j (by omega)
    have h3 := lsW_len (kL L ys j)
    rw [lsB, List.length_append, List.length_append, str_len]
    omega
theorem tkB_sum (s : ByteArray) : ∀ (k a : Nat), s.size - a ≤ k → sumS (tkB s a) ≤ s.size - a
  | k, a, h => by
    rcases Nat.lt_or_ge a s.size with hlt | hge
    · obtain ⟨k, rfl⟩ : ∃ j, k = j + 1 := ⟨k - 1, by omega⟩
      have h1 := nxE_gt s a
      have h2 := skp_ge s (nxE s a)
      have h3 := nxE_le s a hlt
      have := tkB_sum s k (skp s (nxE s a)) (by omega)
      have h5 : tkB s a = s.extract a (nxE s a) :: tkB s (skp s (nxE s a)) := by unfold tkB; rw [tkO_at s a hlt]; rfl
      rw [h5, sumS, ByteArray.size_extract]
      omega
    · have h5 : tkB s a = [] := by unfold tkB; rw [tkO_out s a hge]; rfl
      rw [h5]; exact Nat.zero_le _
theorem tkB_ok (s : ByteArray) : ∀ w ∈ tkB s (skp s 0), tokOk w.data.toList := fun w hw => by
  have key := tkO_toks s _ (skp s 0) (Nat.le_refl _) (clean_skp s 0)
  rw [(toks_skp s _ 0 (Nat.le_refl _)).1] at key
  have h1 : toks s 0 = tok s.data.toList := by unfold toks; rw [List.drop_zero]
  obtain ⟨x, hx, hx2⟩ := List.mem_map.1 hw
  have : w.data.toList ∈ toks s 0 := by rw [← key]; exact List.mem_map.2 ⟨x, hx, by rw [← hx2]⟩
  rw [h1] at this
  exact tok_all _ _ (Nat.le_refl _) _ this
theorem toks_loo (s : ByteArray) (ys : List Nat) : toks (mkB (looB (tkB s (skp s 0)) ys)) 0 = toks s 0 := by
  have key := tkO_toks s _ (skp s 0) (Nat.le_refl _) (clean_skp s 0)
  rw [(toks_skp s _ 0 (Nat.le_refl _)).1] at key
  have h1 : ∀ x : ByteArray, toks x 0 = tok x.data.toList := fun x => by unfold toks; rw [List.drop_zero]
  rw [h1, show (mkB (looB (tkB s (skp s 0)) ys)).data.toList = looB (tkB s (skp s 0)) ys by simp [mkB], tok_loo ys (tkB_ok s) (tkB_pos s _ _ (Nat.le_refl _)), ← key, tkB, List.map_map]
  rfl
theorem loo_len (s : ByteArray) (ys : List Nat) (hs : s.size ≤ 1000) : (lsB (tkB s (skp s 0)) ys (tkB s (skp s 0)).length).length ≤ 12000 ∧ (looB (tkB s (skp s 0)) ys).length ≤ 20000 := by
  obtain ⟨L, hL⟩ : ∃ L, L = tkB s (skp s 0) := ⟨_, rfl⟩
  have h1 := tkB_sum s _ (skp s 0) (Nat.le_refl _)
  have hn : (tkB s (skp s 0)).length ≤ s.size := by
    have h : ∀ k a, (tkA s k a).length ≤ k := fun k => by
      induction k with
      | zero => intro a; exact Nat.le_refl _
      | succ k ih =>
        intro a
        rw [tkA]
        split
        · have := ih (skp s (nxE s a)); simp only [List.length_cons]; omega
        · exact Nat.zero_le _
    have := h (s.size - skp s 0) (skp s 0)
    unfold tkB tkO
    rw [List.length_map]
    omega
  rw [← hL] at h1 hn ⊢
  have h2 := lsB_len L ys L.length (Nat.le_refl _)
  have h3 : (lsE L ys).length ≤ 11 := by
    unfold lsE
    split
    · exact lsW_len _
    · exact Nat.zero_le _
  refine ⟨by omega, ?_⟩
  unfold looB
  rw [List.length_append]
  omega
def sR (rc : List PV) (m : Nat) : Row := ⟨rc, m, 9, 1⟩
def iR (rc : List PV) (m : Nat) : Row := ⟨rc, m, 3, 1⟩
def tkS (l : List (ByteArray × Nat)) : List PV := l.map fun x => .str x.1
def tkI (l : List (ByteArray × Nat)) : List PV := l.map fun x => .int .i64 ((x.2 : Nat) : Int)
theorem tkA_len (s : ByteArray) : ∀ k a, (tkA s k a).length ≤ k
  | 0, a => Nat.le_refl _
  | k + 1, a => by
    rw [tkA]
    split
    · have := tkA_len s k (skp s (nxE s a))
      simp only [List.length_cons]; omega
    · exact Nat.zero_le _
theorem tkO_len (s : ByteArray) (a : Nat) : (tkO s a).length ≤ s.size := by have := tkA_len s (s.size - a) a; unfold tkO; omega
theorem tokensR (s : ByteArray) (hs : s.size ≤ 1099511627776) : Pure G0 35 [.str s] (fun r => r = .tup [.slice (tkO s (skp s 0)).length (tkS (tkO s (skp s 0))), .slice (tkO s (skp s 0)).length (tkI (tkO s (skp s 0)))]) := by
  refine Fn.enterB Tryd.func35 Tryd.ntmps35 rfl (Nat.le_of_ble_eq_true rfl) fun C fr fp hnt hnb hp hfr hfp => ?_
  have hss : Nat.ble s.size 1099511627776 = true := Nat.ble_eq_true_of_le hs
  have hL := tkO_len s (skp s 0)
  refine Q.runSeq (SOn [] []) 100 75 hnt [0] (z := ⟨[(0, .str s)], ⟨[], []⟩⟩) (o := []) (by kernel_rfl) (by ((repeat' (first | exact okO_nil | refine okN ?_ ?_)); all_goals first | assumption | rfl | exact same_of rfl | exact sameS_self _ | (simp only [decide_eq_true_eq, decide_eq_false_iff_not, Nat.ble_eq, Nat.beq_eq] <;> omega))) ?_
  refine Q.runSeq (SOn [] []) 100 75 hnt [0, 4] (z := ⟨[(0, .str s), (4, .ptr 0 0)], ⟨[⟨[.str s, .int .i64 (0 : Int), .int .i64 (0 : Int), .int .i64 (0 : Int)], 97⟩], []⟩⟩) (o := []) (by kernel_rfl) (by ((repeat' (first | exact okO_nil | refine okN ?_ ?_)); all_goals first | assumption | rfl | exact same_of rfl | exact sameS_self _ | (simp only [decide_eq_true_eq, decide_eq_false_iff_not, Nat.ble_eq, Nat.beq_eq] <;> omega))) ?_
  refine Q.runSeq (SOn [] []) 100 75 hnt [0, 4, 5] (z := ⟨[(0, .str s), (4, .ptr 0 0), (5, PV.nil)], ⟨[⟨[.str s, .int .i64 (0 : Int), .int .i64 (0 : Int), .int .i64 (0 : Int)], 97⟩], []⟩⟩) (o := []) (by kernel_rfl) (by ((repeat' (first | exact okO_nil | refine okN ?_ ?_)); all_goals first | assumption | rfl | exact same_of rfl | exact sameS_self _ | (simp only [decide_eq_true_eq, decide_eq_false_iff_not, Nat.ble_eq, Nat.beq_eq] <;> omega))) ?_
  refine Q.runSeq (SOn [] []) 100 75 hnt [0, 4, 5, 6] (z := ⟨[(0, .str s), (4, .ptr 0 0), (5, PV.nil), (6, PV.nil)], ⟨[⟨[.str s, .int .i64 (0 : Int), .int .i64 (0 : Int), .int .i64 (0 : Int)], 97⟩], []⟩⟩) (o := []) (by kernel_rfl) (by ((repeat' (first | exact okO_nil | refine okN ?_ ?_)); all_goals first | assumption | rfl | exact same_of rfl | exact sameS_self _ | (simp only [decide_eq_true_eq, decide_eq_false_iff_not, Nat.ble_eq, Nat.beq_eq] <;> omega))) ?_
  refine SWP.adoptS 5 9 1 rfl ?_
  refine SWP.adoptS 6 3 1 rfl ?_
  refine SWP.norm [0, 4, 5, 6] ?_
  refine Q.seq fun K9 hK9 => ?_
  refine Q.runSeq (SOn [] []) 100 75 hnt [0, 4, 5, 6] (z := ⟨[(0, .str s), (4, .ptr 0 0), (5, .own 0 0), (6, .own 1 0)], ⟨[rB s (skp s 0) 0 0], [some (sR [] 0), some (iR [] 0)]⟩⟩) (o := [(true, true), (Nat.ble s.size 1099511627776, true)]) (by kernel_rfl) (by ((repeat' (first | exact okO_nil | refine okN ?_ ?_)); all_goals first | assumption | rfl | exact same_of rfl | exact sameS_self _ | (simp only [decide_eq_true_eq, decide_eq_false_iff_not, Nat.ble_eq, Nat.beq_eq] <;> omega))) ?_
  refine Q.block ?_
  obtain ⟨q, hq⟩ : ∃ q, q = skp s 0 := ⟨_, rfl⟩
  have hq2 : q ≤ s.size := by rw [hq]; exact skp_le s 0 (Nat.zero_le _)
  rw [← hq] at hL
  have fin : ∀ st m rc ic bx rw', nrm [2, 3] st = ⟨[(2, .slice m rc), (3, .slice m ic)], ⟨bx, rw'⟩⟩ → m = (tkO s q).length → rc = tkS (tkO s q) → ic = tkI (tkO s q) → fr st := fun st m rc ic bx rw' hst g1 g2 g3 => hfr st [2, 3] (by
    rw [hst]
    exact ⟨0, .tup [.slice m rc, .slice m ic], Nat.le_refl _, Nat.zero_le _, rfl, rfl, rfl, rfl, _, rfl, by rw [g1, g2, g3, hq]⟩)
  rw [← hq]
  let T (a : Nat) (D : List (ByteArray × Nat)) : AS := ⟨[(0, .str s), (4, .ptr 0 0), (5, .own 0 D.length), (6, .own 1 D.length)], ⟨[rB s a 0 0], [some (sR (tkS D) D.length), some (iR (tkI D) D.length)]⟩⟩
  refine Q.loopI (σ := { x : Nat × List (ByteArray × Nat) // x.1 ≤ s.size ∧ x.2 ++ tkO s x.1 = tkO s q }) [0, 4, 5, 6] (fun x => T x.1.1 x.1.2) (fun x => s.size - x.1.1) ⟨(q, []), hq2, rfl⟩ rfl fun ⟨(a, D), ha, hD⟩ => ?_
  have ha : a ≤ s.size := ha
  have hD : D ++ tkO s a = tkO s q := hD
  obtain ⟨m, hm⟩ : ∃ m, m = D.length := ⟨_, rfl⟩
  obtain ⟨rc, hrc⟩ : ∃ m, m = tkS D := ⟨_, rfl⟩
  obtain ⟨ic, hic⟩ : ∃ m, m = tkI D := ⟨_, rfl⟩
  have hmL : m + (tkO s a).length ≤ 1099511627776 := by rw [hm, ← List.length_append, hD]; omega
  show SWP G0 C _ _ ⟨[(0, .str s), (4, .ptr 0 0), (5, .own 0 D.length), (6, .own 1 D.length)], ⟨[rB s a 0 0], [some (sR (tkS D) D.length), some (iR (tkI D) D.length)]⟩⟩
  refine swp_st (st' := ⟨[(0, .str s), (4, .ptr 0 0), (5, .own 0 m), (6, .own 1 m)], ⟨[rB s a 0 0], [some (sR rc m), some (iR ic m)]⟩⟩) (by rw [hm, hrc, hic]) ?_
  refine Q.seq fun K2 hK2 => ?_
  rcases Nat.lt_or_ge a s.size with hlt | hge
  · have d2 := lt_at hlt
    refine SWP.runQ (SOn [(75, [(19, true)])] []) 100 75 hnt [0, 4, 5, 6] (e := .normal) (z := ⟨[(0, .str s), (4, .ptr 0 0), (5, .own 0 m), (6, .own 1 m)], ⟨[⟨[.str s, .int .i64 (Int.ofNat a), .int .i64 (0 : Int), .int .i64 (0 : Int)], 97⟩], [some ⟨rc, m, 9, 1⟩, some ⟨ic, m, 3, 1⟩]⟩⟩) (o := [(decide ((↑a : Int) < (↑(s.size) : Int)), true), (true, true)]) (by kernel_rfl) (by ((repeat' (first | exact okO_nil | refine okN ?_ ?_)); all_goals first | assumption | rfl | exact same_of rfl | exact sameS_self _ | (simp only [decide_eq_true_eq, decide_eq_false_iff_not, Nat.ble_eq, Nat.beq_eq] <;> omega))) (fun st hst => hK2 st (.norm [0, 4, 5, 6] ?_))
    rw [hst]
    clear hst hK2
    refine Q.seq fun K3 hK3 => ?_
    refine Q.block ?_
    refine Q.runSeq (SOn [] []) 100 75 hnt [0, 4, 5, 6, 7] (z := ⟨[(0, .str s), (4, .ptr 0 0), (5, .own 0 m), (6, .own 1 m), (7, .int .i64 (Int.ofNat a))], ⟨[⟨[.str s, .int .i64 (Int.ofNat a), .int .i64 (0 : Int), .int .i64 (0 : Int)], 97⟩], [some ⟨rc, m, 9, 1⟩, some ⟨ic, m, 3, 1⟩]⟩⟩) (o := []) (by kernel_rfl) (by ((repeat' (first | exact okO_nil | refine okN ?_ ?_)); all_goals first | assumption | rfl | exact same_of rfl | exact sameS_self _ | (simp only [decide_eq_true_eq, decide_eq_false_iff_not, Nat.ble_eq, Nat.beq_eq] <;> omega))) ?_
    refine Q.seq fun K4 hK4 => ?_
    have rest : ∀ st x, letE s a = x → nrm [0, 4, 5, 6, 7] st = ⟨[(0, .str s), (4, .ptr 0 0), (5, .own 0 m), (6, .own 1 m), (7, .int .i64 a)], ⟨[rB s x 0 0], [some (sR rc m), some (iR ic m)]⟩⟩ → K4 st := fun st x hx hst => hK4 st (.norm [0, 4, 5, 6, 7] (by
      rw [hst]
      clear hst hK4
      have h1 := letE_ge s a
      have h2 := letE_le s a ha
      have h3 := nxE_gt s a
      have h4 := nxE_le s a hlt
      have h5 : nxE s a = max x (a + 1) := by rw [← hx]; rfl
      obtain ⟨y, hy⟩ : ∃ y, y = nxE s a := ⟨_, rfl⟩
      obtain ⟨w, hw⟩ : ∃ w, w = s.extract a (nxE s a) := ⟨_, rfl⟩
      have hat := tkO_at s a hlt
      rw [← hy] at h3 h4 h5 hw hat
      rw [← hw] at hat
      rw [hat] at hD hmL
      simp only [List.length_cons] at hmL
      have ws : w.size ≤ 1099511627776 := by rw [hw, ByteArray.size_extract]; omega
      have wa : IntKind.wrap IntKind.i64 (Int.ofNat (a + 1)) = ((a + 1 : Nat) : Int) := wrapI (a + 1) (by omega)
      have wa2 : IntKind.wrap IntKind.i64 ((a : Int) + 1) = ((a + 1 : Nat) : Int) := wa
      have c1 : same (PV.int IntKind.i64 (if IntKind.wrap IntKind.i64 ((a : Int) + 1) > (x : Int) then IntKind.wrap IntKind.i64 (Int.ofNat (a + 1)) else Int.ofNat x)) (PV.int IntKind.i64 (Int.ofNat y)) = true := same_of (congrArg (PV.int .i64) (by
        rw [wa2, wa]
        show (if ((a + 1 : Nat) : Int) > (x : Int) then ((a + 1 : Nat) : Int) else (x : Int)) = (y : Int)
        split <;> omega))
      have c2 : decide (0 ≤ (a : Int) ∧ (a : Int) ≤ (y : Int) ∧ (y : Int) ≤ (s.size : Int)) = true := by rw [decide_eq_true_eq]; omega
      have c3 : same (PV.str (ByteArray.extract s (Int.toNat (Int.ofNat a)) (Int.toNat (Int.ofNat y)))) (PV.str w) = true := same_of (by rw [hw]; rfl)
      have c4 : Nat.ble ((m + 1) * 16) 140737488355328 = true := Nat.ble_eq_true_of_le (by omega)
      have c5 : Nat.ble (m + 1) 9223372036854775807 = true := Nat.ble_eq_true_of_le (by omega)
      have c6 : Nat.ble ((m + 1) * 8) 140737488355328 = true := Nat.ble_eq_true_of_le (by omega)
      refine SWP.runQ (SOn [(75, [(66, true), (68, true), (72, true)])] [(75, [(56, .int .i64 y), (66, .str w)])]) 100 75 hnt [0, 4, 5, 6] (e := .normal) (z := ⟨[(0, .str s), (4, .ptr 0 0), (5, .own 0 (m + 1)), (6, .own 1 (m + 1))], ⟨[⟨[.str s, .int .i64 (Int.ofNat y), .int .i64 (0 : Int), .int .i64 (0 : Int)], 97⟩], [some ⟨rc ++ [.str w], m + 1, 9, 1⟩, some ⟨ic ++ [.int .i64 (Int.ofNat a)], m + 1, 3, 1⟩]⟩⟩) (o := [(same (.int .i64 (if IntKind.wrap IntKind.i64 ((↑a : Int) + 1) > (↑x : Int) then IntKind.wrap IntKind.i64 (Int.ofNat (a + 1)) else Int.ofNat x)) (.int .i64 (Int.ofNat y)), true), (decide (0 ≤ (↑a : Int) ∧ (↑a : Int) ≤ (↑y : Int) ∧ (↑y : Int) ≤ (↑(s.size) : Int)), true), (same (.str (ByteArray.extract s (Int.toNat (Int.ofNat a)) (Int.toNat (Int.ofNat y)))) (.str w), true), (true, true), (Nat.ble ((m + 1) * 16) 140737488355328, true), (Nat.ble (m + 1) 9223372036854775807, true), (true, true), (Nat.ble ((m + 1) * 8) 140737488355328, true), (Nat.ble (m + 1) 9223372036854775807, true)]) (by kernel_rfl) (by ((repeat' (first | exact okO_nil | refine okN ?_ ?_)); all_goals first | assumption | rfl | exact same_of rfl | exact sameS_self _ | (simp only [decide_eq_true_eq, decide_eq_false_iff_not, Nat.ble_eq, Nat.beq_eq] <;> omega))) (fun st hst => hK3 st (.norm [0, 4, 5, 6] ?_))
      rw [hst]
      clear hst hK3
      obtain ⟨m2, hm2⟩ : ∃ m2, m2 = m + 1 := ⟨_, rfl⟩
      obtain ⟨r2, hr2⟩ : ∃ r2, r2 = rc ++ [PV.str w] := ⟨_, rfl⟩
      obtain ⟨i2, hi2⟩ : ∃ r2, r2 = ic ++ [PV.int IntKind.i64 (a : Int)] := ⟨_, rfl⟩
      refine swp_st (st' := ⟨[(0, .str s), (4, .ptr 0 0), (5, .own 0 m2), (6, .own 1 m2)], ⟨[rB s y 0 0], [some (sR r2 m2), some (iR i2 m2)]⟩⟩) (by rw [hm2, hr2, hi2]; rfl) ?_
      have g1 : m2 = (D ++ [(w, a)]).length := by rw [hm2, hm, List.length_append]; rfl
      have g2 : r2 = tkS (D ++ [(w, a)]) := by rw [hr2, hrc]; simp [tkS]
      have g3 : i2 = tkI (D ++ [(w, a)]) := by rw [hi2, hic]; simp [tkI]
      have hD2 : (D ++ [(w, a)]) ++ tkO s (skp s y) = tkO s q := by rw [List.append_assoc]; exact hD
      exact SWP.runQ (SOn [] []) 100 75 hnt [0, 4, 5, 6] (e := .normal) (z := ⟨[(0, .str s), (4, .ptr 0 0), (5, .own 0 m2), (6, .own 1 m2)], ⟨[rB s (skp s y) 0 0], [some (sR r2 m2), some (iR i2 m2)]⟩⟩) (o := [(true, true), (Nat.ble s.size 1099511627776, true)]) (by kernel_rfl) (by ((repeat' (first | exact okO_nil | refine okN ?_ ?_)); all_goals first | assumption | rfl | exact same_of rfl | exact sameS_self _ | (simp only [decide_eq_true_eq, decide_eq_false_iff_not, Nat.ble_eq, Nat.beq_eq] <;> omega))) (fun st hst => ⟨⟨(skp s y, D ++ [(w, a)]), skp_le s y h4, hD2⟩, Nat.sub_lt_sub_left hlt (Nat.lt_of_lt_of_le h3 (skp_ge s y)), by rw [hst, g1, g2, g3]⟩)))
    let U (x : Nat) : AS := ⟨[(0, .str s), (4, .ptr 0 0), (5, .own 0 m), (6, .own 1 m), (7, .int .i64 a)], ⟨[rB s x 0 0], [some (sR rc m), some (iR ic m)]⟩⟩
    refine Q.block ?_
    refine Q.loopI (σ := { x : Nat // letE s x = letE s a }) [0, 4, 5, 6, 7] (fun x => U x.1) (fun x => s.size - x.1) ⟨a, rfl⟩ rfl fun ⟨x, hk⟩ => ?_
    show SWP G0 C _ _ ⟨[(0, .str s), (4, .ptr 0 0), (5, .own 0 m), (6, .own 1 m), (7, .int .i64 a)], ⟨[rB s x 0 0], [some (sR rc m), some (iR ic m)]⟩⟩
    have le := letE_eq s x
    rcases Nat.lt_or_ge x s.size with hlt | hge
    · have d1 := sameB (lt_at hlt)
      have d2 := in_at hlt
      have d3 : decide (0 ≤ bt s (x : Int) ∧ bt s (x : Int) < 256) = true := decide_eq_true (bt_in s x)
      have wi : IntKind.wrap IntKind.i64 (Int.ofNat (x + 1)) = ((x + 1 : Nat) : Int) := wrapI (x + 1) (by omega)
      by_cases hc : letC (bt s (x : Int)) = true
      · have d4 := sameB hc
        rw [if_pos ⟨hlt, hc⟩] at le
        exact SWP.runQ (SOn [(75, [(39, true)])] [(75, [(33, .bool true), (40, .bool true)])]) 100 75 hnt [0, 4, 5, 6, 7] (e := .normal) (z := ⟨[(0, .str s), (4, .ptr 0 0), (5, .own 0 m), (6, .own 1 m), (7, .int .i64 (Int.ofNat a))], ⟨[⟨[.str s, .int .i64 (IntKind.wrap IntKind.i64 (Int.ofNat (x + 1))), .int .i64 (0 : Int), .int .i64 (0 : Int)], 97⟩], [some ⟨rc, m, 9, 1⟩, some ⟨ic, m, 3, 1⟩]⟩⟩) (o := [(same (.bool (decide ((↑x : Int) < (↑(s.size) : Int)))) (.bool true), true), (decide (0 ≤ (↑x : Int) ∧ (↑x : Int) < (↑(s.size) : Int)), true), (true, true), (decide (0 ≤ bt s (↑x : Int) ∧ bt s (↑x : Int) < 256), true), (same (.bool (letC (bt s (Int.ofNat x)))) (.bool true), true)]) (by kernel_rfl) (by ((repeat' (first | exact okO_nil | refine okN ?_ ?_)); all_goals first | assumption | rfl | exact same_of rfl | exact sameS_self _ | (simp only [decide_eq_true_eq, decide_eq_false_iff_not, Nat.ble_eq, Nat.beq_eq] <;> omega))) (fun st hst => ⟨⟨x + 1, le.symm.trans hk⟩, Nat.sub_lt_sub_left hlt (Nat.lt_succ_self x), by rw [hst, wi]; rfl⟩)
      · have d4 := sameB (Bool.not_eq_true _ ▸ hc : letC (bt s (x : Int)) = false)
        rw [if_neg (fun h => hc h.2)] at le
        exact SWP.runQ (SOn [(75, [(39, true)])] [(75, [(33, .bool true), (40, .bool false)])]) 100 75 hnt [0, 4, 5, 6, 7] (e := .exit 2) (z := ⟨[(0, .str s), (4, .ptr 0 0), (5, .own 0 m), (6, .own 1 m), (7, .int .i64 (Int.ofNat a))], ⟨[⟨[.str s, .int .i64 (Int.ofNat x), .int .i64 (0 : Int), .int .i64 (0 : Int)], 97⟩], [some ⟨rc, m, 9, 1⟩, some ⟨ic, m, 3, 1⟩]⟩⟩) (o := [(same (.bool (decide ((↑x : Int) < (↑(s.size) : Int)))) (.bool true), true), (decide (0 ≤ (↑x : Int) ∧ (↑x : Int) < (↑(s.size) : Int)), true), (true, true), (decide (0 ≤ bt s (↑x : Int) ∧ bt s (↑x : Int) < 256), true), (same (.bool (letC (bt s (Int.ofNat x)))) (.bool false), true)]) (by kernel_rfl) (by ((repeat' (first | exact okO_nil | refine okN ?_ ?_)); all_goals first | assumption | rfl | exact same_of rfl | exact sameS_self _ | (simp only [decide_eq_true_eq, decide_eq_false_iff_not, Nat.ble_eq, Nat.beq_eq] <;> omega))) (fun st hst => rest st x (hk.symm.trans le) hst)
    · have d1 := sameB (ge_at hge)
      rw [if_neg (fun h => absurd h.1 (by omega))] at le
      exact SWP.runQ (SOn [] [(75, [(33, .bool false)])]) 100 75 hnt [0, 4, 5, 6, 7] (e := .exit 2) (z := ⟨[(0, .str s), (4, .ptr 0 0), (5, .own 0 m), (6, .own 1 m), (7, .int .i64 (Int.ofNat a))], ⟨[⟨[.str s, .int .i64 (Int.ofNat x), .int .i64 (0 : Int), .int .i64 (0 : Int)], 97⟩], [some ⟨rc, m, 9, 1⟩, some ⟨ic, m, 3, 1⟩]⟩⟩) (o := [(same (.bool (decide ((↑x : Int) < (↑(s.size) : Int)))) (.bool false), true)]) (by kernel_rfl) (by ((repeat' (first | exact okO_nil | refine okN ?_ ?_)); all_goals first | assumption | rfl | exact same_of rfl | exact sameS_self _ | (simp only [decide_eq_true_eq, decide_eq_false_iff_not, Nat.ble_eq, Nat.beq_eq] <;> omega))) (fun st hst => rest st x (hk.symm.trans le) hst)
  · have d2 := ge_at hge
    rw [tkO_out s a hge, List.append_nil] at hD
    refine SWP.runQ (SOn [(75, [(19, false)])] []) 100 75 hnt [5, 6] (e := .exit 0) (z := ⟨[(5, .own 0 m), (6, .own 1 m)], ⟨[⟨[.str s, .int .i64 (Int.ofNat a), .int .i64 (0 : Int), .int .i64 (0 : Int)], 97⟩], [some ⟨rc, m, 9, 1⟩, some ⟨ic, m, 3, 1⟩]⟩⟩) (o := [(decide ((↑a : Int) < (↑(s.size) : Int)), false), (false, false)]) (by kernel_rfl) (by ((repeat' (first | exact okO_nil | refine okN ?_ ?_)); all_goals first | assumption | rfl | exact same_of rfl | exact sameS_self _ | (simp only [decide_eq_true_eq, decide_eq_false_iff_not, Nat.ble_eq, Nat.beq_eq] <;> omega))) (fun st hst => hK9 st (.norm [5, 6] ?_))
    rw [hst]
    refine SWP.frz [0, 1] ?_
    refine SWP.norm [5, 6] ?_
    refine SWP.runQ (SOn [] []) 100 75 hnt [2, 3] (e := .ret) (z := ⟨[(2, .slice m rc), (3, .slice m ic)], ⟨[rB s a 0 0], [none, none]⟩⟩) (o := []) (by kernel_rfl) (by ((repeat' (first | exact okO_nil | refine okN ?_ ?_)); all_goals first | assumption | rfl | exact same_of rfl | exact sameS_self _ | (simp only [decide_eq_true_eq, decide_eq_false_iff_not, Nat.ble_eq, Nat.beq_eq] <;> omega))) (fun st hst => fin st m rc ic _ _ hst (by rw [hm, hD]) (by rw [hrc, hD]) (by rw [hic, hD]))
noncomputable def lsS (f : Nat) (args : List PV) : Option (PV × Ob) := match f, args with
  | 56, [.int .u8 c] => some (.bool (letC c), [(decide (0 ≤ c ∧ c < 256), true)])
  | _, _ => none
theorem lsS_ok (f : Nat) (args : List PV) (r : PV) (o : Ob) (h : lsS f args = some (r, o)) (ho : ∀ p ∈ o, p.1 = p.2) (_ : pureL args = true) : Pure G0 f args (fun x => x = r) := by
  unfold lsS at h
  split at h
  · cases h; exact letter_ok _ (of_decide_eq_true (ho _ (List.mem_singleton.2 rfl)))
  · cases h
noncomputable def SLs (l : List (Nat × List (Nat × Bool))) (v : List (Nat × List (Nat × PV))) : Cfg G0 := { F := F, hF := hF, S := lsS, hS := lsS_ok, orc := orcM l, val := valM v }
def lsA (m n j k : Nat) (cs ds ws : List PV) (u : ByteArray) : AS := ⟨[(0, .slice m cs), (1, .slice n ds), (5, .slice 7 ws), (6, .str u), (7, .int .i64 j), (8, .int .i64 k)], ⟨[], []⟩⟩
def lsWs : List ByteArray := [⟨#[]⟩, ⟨#[32]⟩, ⟨#[10]⟩, ⟨#[9, 13]⟩, ⟨#[32, 59, 32, 97, 32, 40, 32, 39, 32, 98, 10]⟩, ⟨#[59, 10]⟩, ⟨#[32, 32, 10, 32, 32]⟩]
theorem lsWs_at {k : Nat} (h : k < 7) : ∃ p : ByteArray, lsWs[k]? = some p ∧ p.data.toList = lsW k := by
  match k, h with
  | 0, _ => exact ⟨_, rfl, rfl⟩
  | 1, _ => exact ⟨_, rfl, rfl⟩
  | 2, _ => exact ⟨_, rfl, rfl⟩
  | 3, _ => exact ⟨_, rfl, rfl⟩
  | 4, _ => exact ⟨_, rfl, rfl⟩
  | 5, _ => exact ⟨_, rfl, rfl⟩
  | 6, _ => exact ⟨_, rfl, rfl⟩
theorem ld_facts {cs : List PV} {k m : Nat} {x : PV} (hx : cs[k]? = some x) (hk : k < m) : decide (0 ≤ (k : Int) ∧ (k : Int) < (m : Int)) = true ∧ decide (1 ≤ List.length (List.drop (Int.toNat (k : Int) * 1) cs)) = true ∧ same (List.headD (List.drop (Int.toNat (k : Int) * 1) cs) .junk) x = true := by
  have hk2 : k < cs.length := (List.getElem?_eq_some_iff.1 hx).1
  have hdr : cs.drop k = x :: cs.drop (k + 1) := by rw [List.drop_eq_getElem_cons hk2, (List.getElem?_eq_some_iff.1 hx).2]
  refine ⟨in_at hk, ?_, ?_⟩
  · rw [Int.toNat_natCast, Nat.mul_one, hdr]; simp
  · exact same_of (by rw [Int.toNat_natCast, Nat.mul_one, hdr]; rfl)
theorem rem7 (x : Nat) (h : x < 256) : Int.tmod (IntKind.wrap IntKind.i64 (Int.ofNat x)) (7 : Int) = ((x % 7 : Nat) : Int) := by
  rw [wrapI x (by omega)]
  rfl
theorem loosely_ok (L : List ByteArray) (ys : List Nat) (hpos : ∀ w ∈ L, 0 < w.size) (hys : ∀ x ∈ ys, x < 256) (hL : L.length ≤ 1099511627776) (hlen : (lsB L ys L.length).length ≤ 1099511627776) :
    Pure G0 36 [.slice L.length (L.map .str), .slice ys.length (ys.map fun x => .int .u8 ((x : Nat) : Int))] (fun r => r = .str (mkB (looB L ys))) := by
  refine Fn.enterB Tryd.func36 Tryd.ntmps36 rfl (Nat.le_of_ble_eq_true rfl) fun C fr fp hnt hnb hp hfr hfp => ?_
  have fin : ∀ st (u : ByteArray) H, nrm [4] st = ⟨[(4, .str u)], H⟩ → u.data.toList = looB L ys → fr st := fun st u H hst h => hfr st [4] (by
    rw [hst]
    exact ⟨0, .str u, Nat.le_refl _, Nat.zero_le _, rfl, rfl, rfl, rfl, _, rfl, by rw [← h, mkB_list]⟩)
  obtain ⟨m, hm⟩ : ∃ m, m = L.length := ⟨_, rfl⟩
  obtain ⟨n, hn⟩ : ∃ m, m = ys.length := ⟨_, rfl⟩
  obtain ⟨cs, hcs⟩ : ∃ m, m = L.map PV.str := ⟨_, rfl⟩
  obtain ⟨ds, hds⟩ : ∃ m, m = ys.map fun x => PV.int .u8 ((x : Nat) : Int) := ⟨_, rfl⟩
  obtain ⟨ws, hws⟩ : ∃ m, m = lsWs.map PV.str := ⟨_, rfl⟩
  rw [← hm, ← hn, ← hcs, ← hds]
  refine Q.runSeq (SLs [] []) 100 87 hnt [0, 1] (z := ⟨[(0, .slice m cs), (1, .slice n ds)], ⟨[], []⟩⟩) (o := []) (by kernel_rfl) (by ((repeat' (first | exact okO_nil | refine okN ?_ ?_)); all_goals first | assumption | rfl | exact same_of rfl | exact sameS_self _ | (simp only [decide_eq_true_eq, decide_eq_false_iff_not, Nat.ble_eq, Nat.beq_eq] <;> omega))) ?_
  refine Q.runSeq (SLs [] []) 100 87 hnt [0, 1, 5] (z := ⟨[(0, .slice m cs), (1, .slice n ds), (5, .slice 7 (lsWs.map PV.str))], ⟨[], []⟩⟩) (o := []) (by kernel_rfl) (by ((repeat' (first | exact okO_nil | refine okN ?_ ?_)); all_goals first | assumption | rfl | exact same_of rfl | exact sameS_self _ | (simp only [decide_eq_true_eq, decide_eq_false_iff_not, Nat.ble_eq, Nat.beq_eq] <;> omega))) ?_
  rw [← hws]
  refine Q.runSeq (SLs [] []) 100 87 hnt [0, 1, 5, 6] (z := ⟨[(0, .slice m cs), (1, .slice n ds), (5, .slice 7 ws), (6, .str ⟨#[]⟩)], ⟨[], []⟩⟩) (o := []) (by kernel_rfl) (by ((repeat' (first | exact okO_nil | refine okN ?_ ?_)); all_goals first | assumption | rfl | exact same_of rfl | exact sameS_self _ | (simp only [decide_eq_true_eq, decide_eq_false_iff_not, Nat.ble_eq, Nat.beq_eq] <;> omega))) ?_
  refine Q.seq fun K9 hK9 => ?_
  refine Q.runSeq (SLs [] []) 100 87 hnt [0, 1, 5, 6, 7] (z := ⟨[(0, .slice m cs), (1, .slice n ds), (5, .slice 7 ws), (6, .str ⟨#[]⟩), (7, .int .i64 (0 : Nat))], ⟨[], []⟩⟩) (o := []) (by kernel_rfl) (by ((repeat' (first | exact okO_nil | refine okN ?_ ?_)); all_goals first | assumption | rfl | exact same_of rfl | exact sameS_self _ | (simp only [decide_eq_true_eq, decide_eq_false_iff_not, Nat.ble_eq, Nat.beq_eq] <;> omega))) ?_
  refine Q.block ?_
  have wsat : ∀ {k : Nat}, k < 7 → ∃ p : ByteArray, ws[k]? = some (.str p) ∧ p.data.toList = lsW k := fun {k} hk => by
    obtain ⟨p, h1, h2⟩ := lsWs_at hk
    exact ⟨p, by rw [hws, List.getElem?_map, h1]; rfl, h2⟩
  have dsat : ∀ {j : Nat}, j < n → ∃ x : Nat, ds[j]? = some (.int .u8 (x : Int)) ∧ ys.getD j 0 = x ∧ x < 256 := fun {j} hj => by
    have h1 : j < ys.length := by omega
    refine ⟨ys[j], by rw [hds, List.getElem?_map, List.getElem?_eq_getElem h1]; rfl, by simp [List.getD, h1], hys _ (List.getElem_mem h1)⟩
  let T (j : Nat) (u : ByteArray) : AS := ⟨[(0, .slice m cs), (1, .slice n ds), (5, .slice 7 ws), (6, .str u), (7, .int .i64 j)], ⟨[], []⟩⟩
  refine Q.loopI (σ := { x : Nat × ByteArray // x.1 ≤ m ∧ x.2.data.toList = lsB L ys x.1 }) [0, 1, 5, 6, 7] (fun x => T x.1.1 x.1.2) (fun x => m - x.1.1) ⟨(0, ⟨#[]⟩), Nat.zero_le _, rfl⟩ rfl fun ⟨(j, u), hj, hu⟩ => ?_
  have hj : j ≤ m := hj
  have hu : u.data.toList = lsB L ys j := hu
  show SWP G0 C _ _ ⟨[(0, .slice m cs), (1, .slice n ds), (5, .slice 7 ws), (6, .str u), (7, .int .i64 j)], ⟨[], []⟩⟩
  refine Q.seq fun K2 hK2 => ?_
  have hus : u.size = (lsB L ys j).length := by rw [← hu]; exact (str_len u).symm
  rcases Nat.lt_or_ge j m with hlt | hge
  · have d2 := lt_at hlt
    refine SWP.runQ (SLs [(87, [(13, true)])] []) 100 87 hnt [0, 1, 5, 6, 7] (e := .normal) (z := ⟨[(0, .slice m cs), (1, .slice n ds), (5, .slice 7 ws), (6, .str u), (7, .int .i64 j)], ⟨[], []⟩⟩) (o := [(decide ((↑j : Int) < (↑m : Int)), true), (true, true)]) (by kernel_rfl) (by ((repeat' (first | exact okO_nil | refine okN ?_ ?_)); all_goals first | assumption | rfl | exact same_of rfl | exact sameS_self _ | (simp only [decide_eq_true_eq, decide_eq_false_iff_not, Nat.ble_eq, Nat.beq_eq] <;> omega))) (fun st hst => hK2 st (.norm [0, 1, 5, 6, 7] ?_))
    rw [hst]
    clear hst hK2
    refine Q.seq fun K3 hK3 => ?_
    refine Q.block ?_
    refine Q.runSeq (SLs [] []) 100 87 hnt [0, 1, 5, 6, 7, 8] (z := ⟨[(0, .slice m cs), (1, .slice n ds), (5, .slice 7 ws), (6, .str u), (7, .int .i64 j), (8, .int .i64 (0 : Int))], ⟨[], []⟩⟩) (o := []) (by kernel_rfl) (by ((repeat' (first | exact okO_nil | refine okN ?_ ?_)); all_goals first | assumption | rfl | exact same_of rfl | exact sameS_self _ | (simp only [decide_eq_true_eq, decide_eq_false_iff_not, Nat.ble_eq, Nat.beq_eq] <;> omega))) ?_
    obtain ⟨w, hw⟩ : ∃ w, w = L.getD j ⟨#[]⟩ := ⟨_, rfl⟩
    have hjL : j < L.length := by omega
    have hwm : L[j]? = some w := by rw [hw]; simp [List.getD, hjL]
    have hwc : cs[j]? = some (.str w) := by rw [hcs, List.getElem?_map, hwm]; rfl
    have hwp := hpos w (List.mem_of_getElem? hwm)
    obtain ⟨b1, b2, b3⟩ := ld_facts hwc hlt
    have b4 : decide ((0 : Int) ≤ 0 ∧ (0 : Int) < (w.size : Int)) = true := by rw [decide_eq_true_eq]; omega
    have b5 : decide (0 ≤ bt w (0 : Int) ∧ bt w (0 : Int) < 256) = true := decide_eq_true (bt_in w 0)
    have wj : IntKind.wrap IntKind.i64 (Int.ofNat (j + 1)) = ((j + 1 : Nat) : Int) := wrapI (j + 1) (by omega)
    have hstep : lsB L ys (j + 1) = lsB L ys j ++ (lsW (kL L ys j) ++ w.data.toList) := by rw [lsB, hw]
    have hmono := lsB_mono L ys (L.length - (j + 1)) (j + 1)
    rw [show j + 1 + (L.length - (j + 1)) = L.length by omega, hstep, List.length_append, List.length_append, str_len] at hmono
    refine Q.seq fun K4 hK4 => ?_
    have mid : ∀ (k : Nat) st, k < 7 → k = lsK ys j → nrm [0, 1, 5, 6, 7, 8] st = lsA m n j k cs ds ws u → K4 st := fun k st hk7 hkk hst => hK4 st (.norm [0, 1, 5, 6, 7, 8] (by
      rw [hst]
      clear hst hK4
      refine Q.seq fun K5 hK5 => ?_
      have go : ∀ (k : Nat) st, k < 7 → k = kL L ys j → nrm [0, 1, 5, 6, 7, 8] st = lsA m n j k cs ds ws u → K5 st := fun k st hk7 hkk hst => hK5 st (.norm [0, 1, 5, 6, 7, 8] (by
          rw [hst]
          obtain ⟨p, hp1, hp2⟩ := wsat hk7
          have hps : p.size = (lsW (kL L ys j)).length := by rw [← hkk, ← hp2]; exact (str_len p).symm
          obtain ⟨f1, f2, f3⟩ := ld_facts hp1 hk7
          have f4 : Nat.ble (u.size + p.size) 9223372036854775807 = true := Nat.ble_eq_true_of_le (by omega)
          have f5 : ByteArray.size (u ++ p) = u.size + p.size := ByteArray.size_append
          have f6 : Nat.ble (ByteArray.size (u ++ p) + w.size) 9223372036854775807 = true := Nat.ble_eq_true_of_le (by omega)
          refine SWP.runLQ (SLs [(87, [(54, true), (55, true), (56, true), (59, true), (60, true), (61, true)])] [(87, [(55, .str p), (60, .str w)])]) 100 87 hnt [0, 1, 5, 6, 7] (l := List.replicate 1 { t := [(0, PV.slice m cs), (1, PV.slice n ds), (5, PV.slice 7 ws), (6, PV.str (u ++ p ++ w)), (7, PV.int IntKind.i64 (Int.ofNat j))], h := { bx := [], rw := [] } }) (o := [(decide (0 ≤ (k : Int) ∧ (k : Int) < ((7 : Nat) : Int)), true), (decide (1 ≤ List.length (List.drop (Int.toNat (k : Int) * 1) ws)), true), (same (List.headD (List.drop (Int.toNat (k : Int) * 1) ws) .junk) (.str p), true), (Nat.ble (u.size + p.size) 9223372036854775807, true), (decide (0 ≤ (j : Int) ∧ (j : Int) < (m : Int)), true), (decide (1 ≤ List.length (List.drop (Int.toNat (j : Int) * 1) cs)), true), (same (List.headD (List.drop (Int.toNat (j : Int) * 1) cs) .junk) (.str w), true), (Nat.ble (ByteArray.size (u ++ p) + w.size) 9223372036854775807, true)]) (by kernel_rfl) (by ((repeat' (first | exact okO_nil | refine okN ?_ ?_)); all_goals first | assumption | rfl | exact same_of rfl | exact sameS_self _ | (simp only [decide_eq_true_eq, decide_eq_false_iff_not, Nat.ble_eq, Nat.beq_eq] <;> omega))) (fun st hst => hK3 st (.norm [0, 1, 5, 6, 7] ?_))
          rw [List.eq_of_mem_replicate hst]
          obtain ⟨u2, hu2⟩ : ∃ x, x = u ++ p ++ w := ⟨_, rfl⟩
          have hu3 : u2.data.toList = lsB L ys (j + 1) := by rw [hu2, str_app, str_app, hstep, hu, hp2, hkk, List.append_assoc]
          rw [← hu2]
          exact SWP.runQ (SLs [] []) 100 87 hnt [0, 1, 5, 6, 7] (e := .normal) (z := ⟨[(0, .slice m cs), (1, .slice n ds), (5, .slice 7 ws), (6, .str u2), (7, .int .i64 (IntKind.wrap IntKind.i64 (Int.ofNat (j + 1))))], ⟨[], []⟩⟩) (o := []) (by kernel_rfl) (by ((repeat' (first | exact okO_nil | refine okN ?_ ?_)); all_goals first | assumption | rfl | exact same_of rfl | exact sameS_self _ | (simp only [decide_eq_true_eq, decide_eq_false_iff_not, Nat.ble_eq, Nat.beq_eq] <;> omega))) (fun st hst => ⟨⟨(j + 1, u2), hlt, hu3⟩, Nat.sub_lt_sub_left hlt (Nat.lt_succ_self j), by rw [hst, wj]⟩)))
      clear hK5
      rcases Nat.eq_zero_or_pos j with hj0 | hj0
      · have hk : k = kL L ys j := by unfold kL; rw [if_neg (by intro g; rw [hj0] at g; exact absurd g.2.1 (by show ¬ (false = true); decide))]; exact hkk
        have g1 : same (PV.bool (decide (0 < (j : Int)))) (PV.bool false) = true := sameB (by rw [hj0]; rfl)
        exact SWP.runQ (SLs [] [(87, [(30, .bool false)])]) 100 87 hnt [0, 1, 5, 6, 7, 8] (e := .normal) (z := lsA m n j k cs ds ws u) (o := [(same (.bool (decide (0 < (j : Int)))) (.bool false), true)]) (by kernel_rfl) (by ((repeat' (first | exact okO_nil | refine okN ?_ ?_)); all_goals first | assumption | rfl | exact same_of rfl | exact sameS_self _ | (simp only [decide_eq_true_eq, decide_eq_false_iff_not, Nat.ble_eq, Nat.beq_eq] <;> omega))) (fun st hst => go k st hk7 hk hst)
      · obtain ⟨i, hj0⟩ : ∃ i, j = i + 1 := ⟨j - 1, by omega⟩
        obtain ⟨v, hv⟩ : ∃ v, v = L.getD i ⟨#[]⟩ := ⟨_, rfl⟩
        have hvm : L[i]? = some v := by rw [hv]; simp [List.getD, show i < L.length by omega]
        have hvc : cs[i]? = some (.str v) := by rw [hcs, List.getElem?_map, hvm]; rfl
        have hvp := hpos v (List.mem_of_getElem? hvm)
        have hla : lastL L j = letC (bt v 0) := by rw [hj0, hv]; rfl
        obtain ⟨b7, b8, b9⟩ := ld_facts hvc (show i < m by omega)
        have b10 : decide ((0 : Int) ≤ 0 ∧ (0 : Int) < (v.size : Int)) = true := by rw [decide_eq_true_eq]; omega
        have b11 : decide (0 ≤ bt v (0 : Int) ∧ bt v (0 : Int) < 256) = true := decide_eq_true (bt_in v 0)
        have hkL : kL L ys j = if k = 0 ∧ letC (bt v 0) = true ∧ letC (bt w 0) = true then 1 else k := by unfold kL; rw [← hkk, hla, ← hw]
        have g1 : same (PV.bool (decide (0 < (j : Int)))) (PV.bool true) = true := sameB (decide_eq_true (by omega))
        have g2 : same (PV.int IntKind.i64 (IntKind.wrap IntKind.i64 (Int.ofNat j - (1 : Int)))) (PV.int IntKind.i64 (Int.ofNat i)) = true := same_of (congrArg (PV.int .i64) (by
          show IntKind.wrap IntKind.i64 ((j : Int) - 1) = (i : Int)
          rw [IntKind.wrap_i64]; omega))
        by_cases hk0 : k = 0
        · have g3 : same (PV.bool (Int.ofNat k == (0 : Int))) (PV.bool true) = true := sameB (by rw [hk0]; rfl)
          cases p1 : letC (bt v 0) with
          | false =>
            have g4 := sameB p1
            exact SWP.runQ (SLs [(87, [(38, true), (39, true), (40, true)])] [(87, [(30, .bool true), (34, .bool true), (37, .int .i64 i), (39, .str v), (43, .bool false)])]) 100 87 hnt [0, 1, 5, 6, 7, 8] (e := .normal) (z := lsA m n j k cs ds ws u) (o := [(same (.bool (decide (0 < (j : Int)))) (.bool true), true), (same (.bool (Int.ofNat k == (0 : Int))) (.bool true), true), (same (.int .i64 (IntKind.wrap IntKind.i64 (Int.ofNat j - (1 : Int)))) (.int .i64 (Int.ofNat i)), true), (decide (0 ≤ (i : Int) ∧ (i : Int) < (m : Int)), true), (decide (1 ≤ List.length (List.drop (Int.toNat (i : Int) * 1) cs)), true), (same (List.headD (List.drop (Int.toNat (i : Int) * 1) cs) .junk) (.str v), true), (decide ((0 : Int) ≤ 0 ∧ (0 : Int) < (v.size : Int)), true), (true, true), (decide (0 ≤ bt v (0 : Int) ∧ bt v (0 : Int) < 256), true), (same (.bool (letC (bt v (0 : Int)))) (.bool false), true)]) (by kernel_rfl) (by ((repeat' (first | exact okO_nil | refine okN ?_ ?_)); all_goals first | assumption | rfl | exact same_of rfl | exact sameS_self _ | (simp only [decide_eq_true_eq, decide_eq_false_iff_not, Nat.ble_eq, Nat.beq_eq] <;> omega))) (fun st hst => go k st hk7 (by rw [hkL, if_neg (by rw [p1]; intro g; exact absurd g.2.1 (by decide))]) hst)
          | true =>
            have g4 := sameB p1
            cases p2 : letC (bt w 0) with
            | false =>
              have g5 := sameB p2
              exact SWP.runQ (SLs [(87, [(38, true), (39, true), (40, true), (46, true), (47, true), (48, true)])] [(87, [(30, .bool true), (34, .bool true), (37, .int .i64 i), (39, .str v), (43, .bool true), (47, .str w), (50, .bool false)])]) 100 87 hnt [0, 1, 5, 6, 7, 8] (e := .normal) (z := lsA m n j k cs ds ws u) (o := [(same (.bool (decide (0 < (j : Int)))) (.bool true), true), (same (.bool (Int.ofNat k == (0 : Int))) (.bool true), true), (same (.int .i64 (IntKind.wrap IntKind.i64 (Int.ofNat j - (1 : Int)))) (.int .i64 (Int.ofNat i)), true), (decide (0 ≤ (i : Int) ∧ (i : Int) < (m : Int)), true), (decide (1 ≤ List.length (List.drop (Int.toNat (i : Int) * 1) cs)), true), (same (List.headD (List.drop (Int.toNat (i : Int) * 1) cs) .junk) (.str v), true), (decide ((0 : Int) ≤ 0 ∧ (0 : Int) < (v.size : Int)), true), (true, true), (decide (0 ≤ bt v (0 : Int) ∧ bt v (0 : Int) < 256), true), (same (.bool (letC (bt v (0 : Int)))) (.bool true), true), (decide (0 ≤ (j : Int) ∧ (j : Int) < (m : Int)), true), (decide (1 ≤ List.length (List.drop (Int.toNat (j : Int) * 1) cs)), true), (same (List.headD (List.drop (Int.toNat (j : Int) * 1) cs) .junk) (.str w), true), (decide ((0 : Int) ≤ 0 ∧ (0 : Int) < (w.size : Int)), true), (true, true), (decide (0 ≤ bt w (0 : Int) ∧ bt w (0 : Int) < 256), true), (same (.bool (letC (bt w (0 : Int)))) (.bool false), true)]) (by kernel_rfl) (by ((repeat' (first | exact okO_nil | refine okN ?_ ?_)); all_goals first | assumption | rfl | exact same_of rfl | exact sameS_self _ | (simp only [decide_eq_true_eq, decide_eq_false_iff_not, Nat.ble_eq, Nat.beq_eq] <;> omega))) (fun st hst => go k st hk7 (by rw [hkL, if_neg (by rw [p2]; intro g; exact absurd g.2.2 (by decide))]) hst)
            | true =>
              have g5 := sameB p2
              exact SWP.runQ (SLs [(87, [(38, true), (39, true), (40, true), (46, true), (47, true), (48, true)])] [(87, [(30, .bool true), (34, .bool true), (37, .int .i64 i), (39, .str v), (43, .bool true), (47, .str w), (50, .bool true)])]) 100 87 hnt [0, 1, 5, 6, 7, 8] (e := .normal) (z := lsA m n j 1 cs ds ws u) (o := [(same (.bool (decide (0 < (j : Int)))) (.bool true), true), (same (.bool (Int.ofNat k == (0 : Int))) (.bool true), true), (same (.int .i64 (IntKind.wrap IntKind.i64 (Int.ofNat j - (1 : Int)))) (.int .i64 (Int.ofNat i)), true), (decide (0 ≤ (i : Int) ∧ (i : Int) < (m : Int)), true), (decide (1 ≤ List.length (List.drop (Int.toNat (i : Int) * 1) cs)), true), (same (List.headD (List.drop (Int.toNat (i : Int) * 1) cs) .junk) (.str v), true), (decide ((0 : Int) ≤ 0 ∧ (0 : Int) < (v.size : Int)), true), (true, true), (decide (0 ≤ bt v (0 : Int) ∧ bt v (0 : Int) < 256), true), (same (.bool (letC (bt v (0 : Int)))) (.bool true), true), (decide (0 ≤ (j : Int) ∧ (j : Int) < (m : Int)), true), (decide (1 ≤ List.length (List.drop (Int.toNat (j : Int) * 1) cs)), true), (same (List.headD (List.drop (Int.toNat (j : Int) * 1) cs) .junk) (.str w), true), (decide ((0 : Int) ≤ 0 ∧ (0 : Int) < (w.size : Int)), true), (true, true), (decide (0 ≤ bt w (0 : Int) ∧ bt w (0 : Int) < 256), true), (same (.bool (letC (bt w (0 : Int)))) (.bool true), true)]) (by kernel_rfl) (by ((repeat' (first | exact okO_nil | refine okN ?_ ?_)); all_goals first | assumption | rfl | exact same_of rfl | exact sameS_self _ | (simp only [decide_eq_true_eq, decide_eq_false_iff_not, Nat.ble_eq, Nat.beq_eq] <;> omega))) (fun st hst => go 1 st (by decide) (by rw [hkL, if_pos ⟨hk0, p1, p2⟩]) hst)
        · have g3 : same (PV.bool (Int.ofNat k == (0 : Int))) (PV.bool false) = true := sameB (beqF (by show ¬ (k : Int) = 0; omega))
          exact SWP.runQ (SLs [] [(87, [(30, .bool true), (34, .bool false)])]) 100 87 hnt [0, 1, 5, 6, 7, 8] (e := .normal) (z := lsA m n j k cs ds ws u) (o := [(same (.bool (decide (0 < (j : Int)))) (.bool true), true), (same (.bool (Int.ofNat k == (0 : Int))) (.bool false), true)]) (by kernel_rfl) (by ((repeat' (first | exact okO_nil | refine okN ?_ ?_)); all_goals first | assumption | rfl | exact same_of rfl | exact sameS_self _ | (simp only [decide_eq_true_eq, decide_eq_false_iff_not, Nat.ble_eq, Nat.beq_eq] <;> omega))) (fun st hst => go k st hk7 (by rw [hkL, if_neg (fun g => hk0 g.1)]) hst)))
    rcases Nat.lt_or_ge j n with hjn | hjn
    · have d3 := lt_at hjn
      obtain ⟨x, hx1, hx2, hx3⟩ := dsat hjn
      obtain ⟨q1, q2, q3⟩ := ld_facts hx1 hjn
      obtain ⟨k, hk⟩ : ∃ k, k = x % 7 := ⟨_, rfl⟩
      have q4 : same (PV.int IntKind.i64 (Int.tmod (IntKind.wrap IntKind.i64 (Int.ofNat x)) (7 : Int))) (PV.int IntKind.i64 (Int.ofNat k)) = true := same_of (congrArg (PV.int .i64) (by rw [rem7 x hx3, hk]; rfl))
      exact SWP.runQ (SLs [(87, [(19, true), (22, true), (23, true), (27, true)])] [(87, [(23, .int .u8 x), (27, .int .i64 k)])]) 100 87 hnt [0, 1, 5, 6, 7, 8] (e := .normal) (z := lsA m n j k cs ds ws u) (o := [(decide ((j : Int) < (n : Int)), true), (true, true), (decide (0 ≤ (j : Int) ∧ (j : Int) < (n : Int)), true), (decide (1 ≤ List.length (List.drop (Int.toNat (j : Int) * 1) ds)), true), (same (List.headD (List.drop (Int.toNat (j : Int) * 1) ds) .junk) (.int .u8 (Int.ofNat x)), true), (false, false), (same (.int .i64 (Int.tmod (IntKind.wrap IntKind.i64 (Int.ofNat x)) (7 : Int))) (.int .i64 (Int.ofNat k)), true)]) (by kernel_rfl) (by ((repeat' (first | exact okO_nil | refine okN ?_ ?_)); all_goals first | assumption | rfl | exact same_of rfl | exact sameS_self _ | (simp only [decide_eq_true_eq, decide_eq_false_iff_not, Nat.ble_eq, Nat.beq_eq] <;> omega))) (fun st hst => mid k st (by omega) (by unfold lsK; rw [if_pos (by omega), hx2, hk]) hst)
    · have d3 := ge_at hjn
      exact SWP.runQ (SLs [(87, [(19, false)])] []) 100 87 hnt [0, 1, 5, 6, 7, 8] (e := .normal) (z := ⟨[(0, .slice m cs), (1, .slice n ds), (5, .slice 7 ws), (6, .str u), (7, .int .i64 j), (8, .int .i64 (0 : Int))], ⟨[], []⟩⟩) (o := [(decide ((↑j : Int) < (↑n : Int)), false), (false, false)]) (by kernel_rfl) (by ((repeat' (first | exact okO_nil | refine okN ?_ ?_)); all_goals first | assumption | rfl | exact same_of rfl | exact sameS_self _ | (simp only [decide_eq_true_eq, decide_eq_false_iff_not, Nat.ble_eq, Nat.beq_eq] <;> omega))) (fun st hst => mid 0 st (by decide) (by unfold lsK; rw [if_neg (by omega)]) hst)
  · have d2 := ge_at hge
    have hjm : j = L.length := by omega
    rw [hjm] at hu hus
    refine SWP.runQ (SLs [(87, [(13, false)])] []) 100 87 hnt [0, 1, 5, 6] (e := .exit 0) (z := ⟨[(0, .slice m cs), (1, .slice n ds), (5, .slice 7 ws), (6, .str u)], ⟨[], []⟩⟩) (o := [(decide ((↑j : Int) < (↑m : Int)), false), (false, false)]) (by kernel_rfl) (by ((repeat' (first | exact okO_nil | refine okN ?_ ?_)); all_goals first | assumption | rfl | exact same_of rfl | exact sameS_self _ | (simp only [decide_eq_true_eq, decide_eq_false_iff_not, Nat.ble_eq, Nat.beq_eq] <;> omega))) (fun st hst => hK9 st (.norm [0, 1, 5, 6] ?_))
    rw [hst]
    clear hst hK9
    refine Q.seq fun K5 hK5 => ?_
    have go : ∀ (u : ByteArray) st, u.data.toList = looB L ys → nrm [6] st = ⟨[(6, .str u)], ⟨[], []⟩⟩ → K5 st := fun u st h1 h2 => hK5 st (.norm [6] (by
      rw [h2]
      exact SWP.runQ (SLs [] []) 100 87 hnt [4] (e := .ret) (z := ⟨[(4, .str u)], ⟨[], []⟩⟩) (o := []) (by kernel_rfl) (by ((repeat' (first | exact okO_nil | refine okN ?_ ?_)); all_goals first | assumption | rfl | exact same_of rfl | exact sameS_self _ | (simp only [decide_eq_true_eq, decide_eq_false_iff_not, Nat.ble_eq, Nat.beq_eq] <;> omega))) (fun st hst => fin st u _ hst h1)))
    by_cases hm0 : 0 < m
    · have e1 : same (PV.bool (decide (0 < (m : Int)))) (PV.bool true) = true := sameB (decide_eq_true (by omega))
      rcases Nat.lt_or_ge m n with hmn | hmn
      · have e2 : same (PV.bool (decide ((m : Int) < (n : Int)))) (PV.bool true) = true := sameB (lt_at hmn)
        obtain ⟨x, hx1, hx2, hx3⟩ := dsat hmn
        obtain ⟨q1, q2, q3⟩ := ld_facts hx1 hmn
        obtain ⟨k, hk⟩ : ∃ k, k = x % 7 := ⟨_, rfl⟩
        have q4 : same (PV.int IntKind.i64 (Int.tmod (IntKind.wrap IntKind.i64 (Int.ofNat x)) (7 : Int))) (PV.int IntKind.i64 (Int.ofNat k)) = true := same_of (congrArg (PV.int .i64) (by rw [rem7 x hx3, hk]; rfl))
        obtain ⟨p, hp1, hp2⟩ := wsat (show k < 7 by omega)
        obtain ⟨f1, f2, f3⟩ := ld_facts hp1 (show k < 7 by omega)
        have hps : p.size ≤ 11 := by rw [← str_len p, hp2]; exact lsW_len k
        have f4 : Nat.ble (u.size + p.size) 9223372036854775807 = true := Nat.ble_eq_true_of_le (by omega)
        exact SWP.runQ (SLs [(87, [(77, true), (78, true), (82, true), (83, true), (84, true), (85, true)])] [(87, [(65, .bool true), (71, .bool true), (78, .int .u8 x), (82, .int .i64 k), (84, .str p)])]) 100 87 hnt [6] (e := .normal) (z := ⟨[(6, .str (u ++ p))], ⟨[], []⟩⟩) (o := [(same (.bool (decide (0 < (m : Int)))) (.bool true), true), (same (.bool (decide ((m : Int) < (n : Int)))) (.bool true), true), (decide (0 ≤ (m : Int) ∧ (m : Int) < (n : Int)), true), (decide (1 ≤ List.length (List.drop (Int.toNat (m : Int) * 1) ds)), true), (same (List.headD (List.drop (Int.toNat (m : Int) * 1) ds) .junk) (.int .u8 (Int.ofNat x)), true), (false, false), (same (.int .i64 (Int.tmod (IntKind.wrap IntKind.i64 (Int.ofNat x)) (7 : Int))) (.int .i64 (Int.ofNat k)), true), (decide (0 ≤ (k : Int) ∧ (k : Int) < ((7 : Nat) : Int)), true), (decide (1 ≤ List.length (List.drop (Int.toNat (k : Int) * 1) ws)), true), (same (List.headD (List.drop (Int.toNat (k : Int) * 1) ws) .junk) (.str p), true), (Nat.ble (u.size + p.size) 9223372036854775807, true)]) (by kernel_rfl) (by ((repeat' (first | exact okO_nil | refine okN ?_ ?_)); all_goals first | assumption | rfl | exact same_of rfl | exact sameS_self _ | (simp only [decide_eq_true_eq, decide_eq_false_iff_not, Nat.ble_eq, Nat.beq_eq] <;> omega))) (fun st hst => go (u ++ p) st (by unfold looB lsE; rw [if_pos (by omega), str_app, hu, hp2, ← hm, hx2, hk]) hst)
      · have e2 : same (PV.bool (decide ((m : Int) < (n : Int)))) (PV.bool false) = true := sameB (ge_at hmn)
        exact SWP.runQ (SLs [] [(87, [(65, .bool true), (71, .bool false)])]) 100 87 hnt [6] (e := .normal) (z := ⟨[(6, .str u)], ⟨[], []⟩⟩) (o := [(same (.bool (decide (0 < (m : Int)))) (.bool true), true), (same (.bool (decide ((m : Int) < (n : Int)))) (.bool false), true)]) (by kernel_rfl) (by ((repeat' (first | exact okO_nil | refine okN ?_ ?_)); all_goals first | assumption | rfl | exact same_of rfl | exact sameS_self _ | (simp only [decide_eq_true_eq, decide_eq_false_iff_not, Nat.ble_eq, Nat.beq_eq] <;> omega))) (fun st hst => go u st (by unfold looB lsE; rw [if_neg (by omega), hu, List.append_nil]) hst)
    · have e1 : same (PV.bool (decide (0 < (m : Int)))) (PV.bool false) = true := sameB (decide_eq_false (by omega))
      exact SWP.runQ (SLs [] [(87, [(65, .bool false)])]) 100 87 hnt [6] (e := .normal) (z := ⟨[(6, .str u)], ⟨[], []⟩⟩) (o := [(same (.bool (decide (0 < (m : Int)))) (.bool false), true)]) (by kernel_rfl) (by ((repeat' (first | exact okO_nil | refine okN ?_ ?_)); all_goals first | assumption | rfl | exact same_of rfl | exact sameS_self _ | (simp only [decide_eq_true_eq, decide_eq_false_iff_not, Nat.ble_eq, Nat.beq_eq] <;> omega))) (fun st hst => go u st (by unfold looB lsE; rw [if_neg (by omega), hu, List.append_nil]) hst)
noncomputable def eqC (cs ds : List PV) : Bool := ofCells (fun d => ofCells (fun e => eqD d e) false ds) false cs
theorem eqC_at (d e : Dat) : eqC d.cells e.cells = eqD d e := by unfold eqC; rw [ofCells_at, ofCells_at]
noncomputable def rbS (f : Nat) (args : List PV) : Option (PV × Ob) := match f, args with
  | 17, [.agg cs, .agg ds] => some (.bool (eqC cs ds), [(isOk cs, true), (isOk ds, true)])
  | _, _ => none
theorem rbS_ok (f : Nat) (args : List PV) (r : PV) (o : Ob) (h : rbS f args = some (r, o)) (ho : ∀ p ∈ o, p.1 = p.2) (_ : pureL args = true) : Pure G0 f args (fun x => x = r) := by
  unfold rbS at h
  split at h
  · rename_i cs ds _
    cases h
    obtain ⟨d, rfl, h1⟩ := isOk_of (ho (isOk cs, true) (by simp))
    obtain ⟨e, rfl, h2⟩ := isOk_of (ho (isOk ds, true) (by simp))
    rw [eqC_at]
    exact same_ok d e h1 h2
  · cases h
noncomputable def SRb (l : List (Nat × List (Nat × Bool))) (v : List (Nat × List (Nat × PV))) : Cfg G0 := { F := F, hF := hF, S := rbS, hS := rbS_ok, orc := orcM l, val := valM v }
mutual
theorem eqD_self : ∀ d : Dat, eqD d d = true
  | .mk k n s ks => by simp [eqD, eqL_self ks]
theorem eqL_self : ∀ ks : Dats, eqL ks ks = true
  | .nil => rfl
  | .cons d ds => by simp [eqL, eqD_self d, eqL_self ds]
end
mutual
theorem Nd.dat_ok : ∀ x : Nd, x.ok → x.dat.ok
  | .mk k n t ks a, h => ⟨by rw [Nds.dat_len]; have : ks.len ≤ 1099511627777 := h.1; omega, Nds.dat_ok ks h.2⟩
theorem Nds.dat_ok : ∀ x : Nds, x.ok → x.dat.ok
  | .nil, _ => trivial
  | .cons d ds, h => ⟨Nd.dat_ok d h.1, Nds.dat_ok ds h.2⟩
end
theorem rdZ_ok {s : ByteArray} (hs : s.size ≤ 1099511627776) : ∀ k a l, l.ok → (rdZ s k a l).1.ok
  | 0, a, l, h => h
  | k + 1, a, l, h => by
    rw [rdZ]
    split
    · split
      · exact rdZ_ok hs k _ _ (Nds.snoc_ok l _ h (rdD_ok s hs 1000 a))
      · exact h
    · exact h
theorem rdZ_len {s : ByteArray} : ∀ k a l, (rdZ s k a l).1.len ≤ l.len + k
  | 0, a, l => Nat.le_refl _
  | k + 1, a, l => by
    rw [rdZ]
    split
    · split
      · have := rdZ_len (s := s) k (skp s (rdD s 1000 a).2.a) (l.snoc (rdD s 1000 a).1)
        rw [Nds.snoc_len] at this
        omega
      · show l.len ≤ _; omega
    · show l.len ≤ _; omega
theorem alX_ok (s : ByteArray) : (alX s).ok ∧ (alX s).len ≤ 20001 := by
  unfold alX
  rw [alR_eq]
  split
  · exact ⟨trivial, by simp [Nds.len]⟩
  · rw [azR_eq]
    split
    · have := rdZ_len (s := s) (s.size + 1) (skp s 0) .nil
      simp only [Nds.len] at this
      exact ⟨rdZ_ok (by omega) _ _ _ trivial, by show (rdZ s (s.size + 1) (skp s 0) .nil).1.len ≤ _; omega⟩
    · exact ⟨trivial, by simp [Nds.len]⟩
theorem alX_okL (s : ByteArray) : isOkL (alX s).dat.len (alX s).dat.cells = true := by
  obtain ⟨h1, h2⟩ := alX_ok s
  exact isOkL_at (by rw [Nds.dat_len]; omega) (Nds.dat_ok _ h1)
theorem lists_same (ks : Dats) (hok : ks.ok) (hl : ks.len ≤ 9223372036854775807) : Pure G0 32 [.slice ks.len ks.cells, .slice ks.len ks.cells] (fun r => r = .bool true) := by
  refine Fn.enterB Tryd.func32 Tryd.ntmps32 rfl (Nat.le_of_ble_eq_true rfl) fun C fr fp hnt hnb hp hfr hfp => ?_
  have d0 : (!(ks.len : Int) == (ks.len : Int)) = false := by rw [beq_self_eq_true]; rfl
  refine Q.runSeq (SRb [] []) 100 27 hnt [0, 1] (z := ⟨[(0, .slice ks.len ks.cells), (1, .slice ks.len ks.cells)], ⟨[], []⟩⟩) (o := []) (by kernel_rfl) (by ((repeat' (first | exact okO_nil | refine okN ?_ ?_)); all_goals first | assumption | rfl | exact same_of rfl | exact sameS_self _ | (simp only [decide_eq_true_eq, decide_eq_false_iff_not, Nat.ble_eq, Nat.beq_eq] <;> omega))) ?_
  refine Q.runSeq (SRb [(27, [(10, false)])] []) 100 27 hnt [0, 1] (z := ⟨[(0, .slice ks.len ks.cells), (1, .slice ks.len ks.cells)], ⟨[], []⟩⟩) (o := [(!Int.ofNat (Dats.len ks) == Int.ofNat (Dats.len ks), false), (false, false)]) (by kernel_rfl) (by ((repeat' (first | exact okO_nil | refine okN ?_ ?_)); all_goals first | assumption | rfl | exact same_of rfl | exact sameS_self _ | (simp only [decide_eq_true_eq, decide_eq_false_iff_not, Nat.ble_eq, Nat.beq_eq] <;> omega))) ?_
  refine Q.seq fun K hK => ?_
  refine Q.runSeq (SRb [] []) 100 27 hnt [0, 1, 5] (z := ⟨[(0, .slice ks.len ks.cells), (1, .slice ks.len ks.cells), (5, .int .i64 (0 : Nat))], ⟨[], []⟩⟩) (o := []) (by kernel_rfl) (by ((repeat' (first | exact okO_nil | refine okN ?_ ?_)); all_goals first | assumption | rfl | exact same_of rfl | exact sameS_self _ | (simp only [decide_eq_true_eq, decide_eq_false_iff_not, Nat.ble_eq, Nat.beq_eq] <;> omega))) ?_
  refine Q.block ?_
  let T (j : Nat) : AS := ⟨[(0, .slice ks.len ks.cells), (1, .slice ks.len ks.cells), (5, .int .i64 j)], ⟨[], []⟩⟩
  refine Q.loopI (σ := { j : Nat // j ≤ ks.len }) [0, 1, 5] (fun j => T j.1) (fun j => ks.len - j.1) ⟨0, Nat.zero_le _⟩ rfl fun ⟨j, hj⟩ => ?_
  show SWP G0 C _ _ ⟨[(0, .slice ks.len ks.cells), (1, .slice ks.len ks.cells), (5, .int .i64 j)], ⟨[], []⟩⟩
  refine Q.seq fun K2 hK2 => ?_
  rcases Nat.lt_or_ge j ks.len with hlt | hge
  · have d1 := lt_at hlt
    have d2 := in_at hlt
    refine SWP.runQ (SRb [(27, [(14, true)])] []) 100 27 hnt [0, 1, 5] (e := .normal) (z := ⟨[(0, .slice ks.len ks.cells), (1, .slice ks.len ks.cells), (5, .int .i64 (Int.ofNat j))], ⟨[], []⟩⟩) (o := [(decide ((↑j : Int) < (↑(Dats.len ks) : Int)), true), (true, true)]) (by kernel_rfl) (by ((repeat' (first | exact okO_nil | refine okN ?_ ?_)); all_goals first | assumption | rfl | exact same_of rfl | exact sameS_self _ | (simp only [decide_eq_true_eq, decide_eq_false_iff_not, Nat.ble_eq, Nat.beq_eq] <;> omega))) (fun st hst => hK2 st (.norm [0, 1, 5] ?_))
    rw [hst]
    rcases hget : ks.get j with ⟨k', n', s', ks'⟩
    have hoj := Dats.get_ok ks j hlt hok
    rw [hget] at hoj
    have d4 : decide (TD.size d25 ≤ List.length (List.drop (Int.toNat (j : Int) * TD.size d25) (Dats.cells ks))) = true := kid_len hlt
    have d5 := kid_same' hlt hget
    have d6 : isOk [PV.int IntKind.i64 k', PV.int IntKind.i64 n', PV.str s', PV.slice (Dats.len ks') (Dats.cells ks')] = true := isOk_at (d := .mk k' n' s' ks') hoj
    have d7 : same (PV.bool (eqC [PV.int IntKind.i64 k', PV.int IntKind.i64 n', PV.str s', PV.slice (Dats.len ks') (Dats.cells ks')] [PV.int IntKind.i64 k', PV.int IntKind.i64 n', PV.str s', PV.slice (Dats.len ks') (Dats.cells ks')])) (PV.bool true) = true := sameB ((eqC_at (.mk k' n' s' ks') (.mk k' n' s' ks')).trans (eqD_self _))
    refine Q.seq fun K3 hK3 => ?_
    refine Q.block ?_
    refine Q.seq fun K4 hK4 => ?_
    refine SWP.runLQ (SRb [(27, [(19, true), (20, true), (23, true), (24, true)])] [(27, [(20, .agg [.int .i64 k', .int .i64 n', .str s', .slice ks'.len ks'.cells]), (24, .agg [.int .i64 k', .int .i64 n', .str s', .slice ks'.len ks'.cells]), (25, .bool true)])]) 100 27 hnt [0, 1, 5, 26] (l := List.replicate 1 { t := [(0, PV.slice (Dats.len ks) (Dats.cells ks)), (1, PV.slice (Dats.len ks) (Dats.cells ks)), (5, PV.int IntKind.i64 (Int.ofNat j)), (26, PV.bool false)], h := { bx := [], rw := [] } }) (o := [(decide (0 ≤ (↑j : Int) ∧ (↑j : Int) < (↑(ks.len) : Int)), true), (decide (TD.size d25 ≤ List.length (List.drop (Int.toNat (↑j : Int) * TD.size d25) (ks.cells))), true), (same (PV.agg (List.take 4 (List.drop (Int.toNat (Int.ofNat j) * 4) (ks.cells)))) (PV.agg [PV.int IntKind.i64 k', PV.int IntKind.i64 n', PV.str s', PV.slice (ks'.len) (ks'.cells)]), true), (decide (0 ≤ (↑j : Int) ∧ (↑j : Int) < (↑(ks.len) : Int)), true), (decide (TD.size d25 ≤ List.length (List.drop (Int.toNat (↑j : Int) * TD.size d25) (ks.cells))), true), (same (PV.agg (List.take 4 (List.drop (Int.toNat (Int.ofNat j) * 4) (ks.cells)))) (PV.agg [PV.int IntKind.i64 k', PV.int IntKind.i64 n', PV.str s', PV.slice (ks'.len) (ks'.cells)]), true), (true, true), (isOk [PV.int IntKind.i64 k', PV.int IntKind.i64 n', PV.str s', PV.slice (ks'.len) (ks'.cells)], true), (isOk [PV.int IntKind.i64 k', PV.int IntKind.i64 n', PV.str s', PV.slice (ks'.len) (ks'.cells)], true), (same (.bool (eqC [PV.int IntKind.i64 k', PV.int IntKind.i64 n', PV.str s', PV.slice (ks'.len) (ks'.cells)] [PV.int IntKind.i64 k', PV.int IntKind.i64 n', PV.str s', PV.slice (ks'.len) (ks'.cells)])) (.bool true), true)]) (by kernel_rfl) (by ((repeat' (first | exact okO_nil | refine okN ?_ ?_)); all_goals first | assumption | rfl | exact same_of rfl | exact sameS_self _ | (simp only [decide_eq_true_eq, decide_eq_false_iff_not, Nat.ble_eq, Nat.beq_eq] <;> omega))) (fun st hst => hK4 st (.norm [0, 1, 5, 26] ?_))
    rw [List.eq_of_mem_replicate hst]
    refine Q.cond (b := false) rfl (fun h => by cases h) (fun _ => ?_)
    refine .skip (hK3 _ (.norm [0, 1, 5] ?_))
    have wj : IntKind.wrap IntKind.i64 (Int.ofNat (j + 1)) = ((j + 1 : Nat) : Int) := wrapI (j + 1) (by omega)
    exact SWP.runQ (SRb [] []) 100 27 hnt [0, 1, 5] (e := .normal) (z := ⟨[(0, .slice ks.len ks.cells), (1, .slice ks.len ks.cells), (5, .int .i64 (IntKind.wrap IntKind.i64 (Int.ofNat (j + 1))))], ⟨[], []⟩⟩) (o := []) (by kernel_rfl) (by ((repeat' (first | exact okO_nil | refine okN ?_ ?_)); all_goals first | assumption | rfl | exact same_of rfl | exact sameS_self _ | (simp only [decide_eq_true_eq, decide_eq_false_iff_not, Nat.ble_eq, Nat.beq_eq] <;> omega))) (fun st hst => ⟨⟨j + 1, hlt⟩, Nat.sub_lt_sub_left hlt (Nat.lt_succ_self j), by rw [hst, wj]⟩)
  · have d1 := ge_at hge
    refine SWP.runQ (SRb [(27, [(14, false)])] []) 100 27 hnt [0] (e := .exit 0) (z := ⟨[(0, .slice ks.len ks.cells)], ⟨[], []⟩⟩) (o := [(decide ((↑j : Int) < (↑(Dats.len ks) : Int)), false), (false, false)]) (by kernel_rfl) (by ((repeat' (first | exact okO_nil | refine okN ?_ ?_)); all_goals first | assumption | rfl | exact same_of rfl | exact sameS_self _ | (simp only [decide_eq_true_eq, decide_eq_false_iff_not, Nat.ble_eq, Nat.beq_eq] <;> omega))) (fun st hst => hK st (.norm [] ?_))
    have e : nrm [] st = ⟨[], ⟨[], []⟩⟩ := by
      have : st.h = ⟨[], []⟩ := congrArg AS.h hst
      unfold nrm; rw [this]; rfl
    rw [e]
    exact SWP.runQ (SRb [] []) 100 27 hnt [4] (e := .ret) (z := ⟨[(4, .bool true)], ⟨[], []⟩⟩) (o := []) (by kernel_rfl) (by ((repeat' (first | exact okO_nil | refine okN ?_ ?_)); all_goals first | assumption | rfl | exact same_of rfl | exact sameS_self _ | (simp only [decide_eq_true_eq, decide_eq_false_iff_not, Nat.ble_eq, Nat.beq_eq] <;> omega))) (fun st hst => hfr st [4] (by
      rw [hst]
      exact ⟨0, .bool true, Nat.le_refl _, Nat.zero_le _, rfl, rfl, rfl, rfl, _, rfl, rfl⟩))
open Classical in
noncomputable def isSml (cs : List PV) : Bool := decide (∃ d : Dat, d.cells = cs ∧ Small d)
theorem isSml_at {d : Dat} (h : Small d) : isSml d.cells = true := by
  unfold isSml
  classical exact decide_eq_true ⟨d, rfl, h⟩
theorem isSml_of {cs : List PV} (h : isSml cs = true) : ∃ d : Dat, d.cells = cs ∧ Small d := by
  unfold isSml at h
  classical exact of_decide_eq_true h
noncomputable def wrBC (cs : List PV) : ByteArray := ofCells wrB ⟨#[]⟩ cs
noncomputable def wrEC (cs : List PV) : Int := ofCells wrE 0 cs
def ofA (s : ByteArray) : Int := (offR s [1, 1, 0]).1
def ofE (s : ByteArray) : Int := (offR s [1, 1, 0]).2
noncomputable def avS (f : Nat) (args : List PV) : Option (PV × Ob) := match f, args with
  | 15, [.str s] => some (.tup [.agg [.int .i64 (ndK (onX s)), .int .i64 (ndN (onX s)), .str (ndT (onX s)), .slice (Dats.len (Nds.dat (ndS (onX s)))) (Dats.cells (Nds.dat (ndS (onX s))))], .int .i64 (onA s), .int .i64 (onE s)], [])
  | 24, [.str s, .slice 3 [.int .i64 1, .int .i64 1, .int .i64 0]] => some (.tup [.int .i64 (ofA s), .int .i64 (ofE s)], [])
  | 20, [.agg cs] => some (.tup [.str (wrBC cs), .int .i64 (wrEC cs)], [(isSml cs, true)])
  | _, _ => none
theorem avS_ok (f : Nat) (args : List PV) (r : PV) (o : Ob) (h : avS f args = some (r, o)) (ho : ∀ p ∈ o, p.1 = p.2) (_ : pureL args = true) : Pure G0 f args (fun x => x = r) := by
  unfold avS at h
  split at h
  · cases h
    exact ReadP _
  · cases h
    exact offsetP _ [1, 1, 0] (by decide)
  · rename_i cs _
    cases h
    obtain ⟨d, rfl, h1⟩ := isSml_of (ho (isSml cs, true) (List.mem_singleton.2 rfl))
    unfold wrBC wrEC
    rw [ofCells_at, ofCells_at]
    exact writeP d h1.good h1.2.1 (by have := h1.2.2; omega)
  · cases h
noncomputable def SAv (l : List (Nat × List (Nat × Bool))) (v : List (Nat × List (Nat × PV))) : Cfg G0 := { F := F, hF := hF, S := avS, hS := avS_ok, orc := orcM l, val := valM v }
def xA : ByteArray := ⟨#[40, 97, 32, 39, 40, 49, 32, 98, 41, 41, 32, 59, 32, 99]⟩
def xB : ByteArray := ⟨#[40, 97, 32, 48, 49, 41]⟩
def xC : ByteArray := ⟨#[40, 97]⟩
def xD : ByteArray := ⟨#[97, 32, 98]⟩
def xW : ByteArray := ⟨#[40, 97, 32, 40, 113, 117, 111, 116, 101, 32, 40, 49, 32, 98, 41, 41, 41]⟩
def yA : Dat := .mk 2 0 ⟨#[97]⟩ .nil
def yK : Dats := .cons yA (.cons (.mk 3 0 ⟨#[]⟩ (.cons (.mk 2 0 ⟨#[113, 117, 111, 116, 101]⟩ .nil) (.cons (.mk 3 0 ⟨#[]⟩ (.cons (.mk 1 1 ⟨#[]⟩ .nil) (.cons (.mk 2 0 ⟨#[98]⟩ .nil) .nil))) .nil))) .nil)
def yD : Dat := .mk 3 0 ⟨#[]⟩ yK
theorem x1 : (onX xA).dat = yD ∧ onE xA = 0 := ⟨by kernel_rfl, by kernel_rfl⟩
theorem x2 : ofE xA = 0 ∧ ofA xA = 5 := ⟨by kernel_rfl, by kernel_rfl⟩
theorem x3 : onE xB = 4 ∧ onA xB = 3 := ⟨by kernel_rfl, by kernel_rfl⟩
theorem x4 : onE xC = 4 ∧ onA xC = 2 := ⟨by kernel_rfl, by kernel_rfl⟩
theorem x5 : onE xD = 4 ∧ onA xD = 2 := ⟨by kernel_rfl, by kernel_rfl⟩
theorem x6 : wrE yD = 0 ∧ wrB yD = xW := ⟨by kernel_rfl, by kernel_rfl⟩
theorem y_small : Small yD := by
  refine ⟨?_, ?_, Nat.le_of_ble_eq_true (by kernel_rfl)⟩
  · simp [yD, yK, yA, Dat.ok, Dats.ok, Dats.len]
  · simp [yD, yK, yA, Dat.rng, Dats.rng]
theorem bq {a b : Int} (h : a = b) : (a == b) = true := by rw [h]; exact beq_self_eq_true b
theorem alive_ok : Pure G0 18 [] (fun r => r = .bool true) := by
  have hc : ndJ (onX xA) = yD.cells := by rw [ndJ_eq, x1.1]
  have c1 := bq x1.2
  have c2 := bq x2.1
  have c3 := bq x2.2
  have c4 := bq x3.1
  have c5 := bq x3.2
  have c6 := bq x4.1
  have c7 := bq x4.2
  have c8 := bq x5.1
  have c9 := bq x5.2
  have d1 : isSml (ndJ (onX xA)) = true := by rw [hc]; exact isSml_at y_small
  have d2 : (wrEC (ndJ (onX xA)) == (0 : Int)) = true := by rw [hc]; unfold wrEC; rw [ofCells_at, x6.1]; rfl
  have d3 : (ByteArray.toList (wrBC (ndJ (onX xA))) == ByteArray.toList xW) = true := by rw [hc]; unfold wrBC; rw [ofCells_at, x6.2, beq_self_eq_true]
  refine Fn.enterB Tryd.func18 Tryd.ntmps18 rfl (Nat.le_of_ble_eq_true rfl) fun C fr fp hnt hnb hp hfr hfp => ?_
  refine SWP.runQ (SAv [(89, [(48, true), (51, true), (55, true), (59, true), (63, true), (67, true), (71, true), (75, true), (79, true), (83, true), (87, true)])] []) 100 89 hnt [0] (e := .ret) (z := ⟨[(0, .bool true)], ⟨[⟨ndJ (onX xA), 25⟩, ⟨ndJ (onX xB), 25⟩, ⟨ndJ (onX xC), 25⟩, ⟨ndJ (onX xD), 25⟩], []⟩⟩) (o := [(true, true), (true, true), (true, true), (true, true), (true, true), (true, true), (isSml (ndJ (onX xA)), true), (true, true), (true, true), (true, true), (true, true), (true, true), (true, true), (true, true), (true, true), (true, true), (wrEC (ndJ (onX xA)) == (0 : Int), true), (ByteArray.toList (wrBC (ndJ (onX xA))) == ByteArray.toList xW, true)]) (by kernel_rfl) (by ((repeat' (first | exact okO_nil | refine okN ?_ ?_)); all_goals first | assumption | rfl | exact same_of rfl | exact sameS_self _ | (simp only [decide_eq_true_eq, decide_eq_false_iff_not, Nat.ble_eq, Nat.beq_eq] <;> omega))) (fun st hs => hfr st [0] ?_)
  rw [hs]
  exact ⟨0, .bool true, Nat.le_refl _, Nat.zero_le _, rfl, rfl, rfl, rfl, _, rfl, rfl⟩
def shortS (s : ByteArray) : ByteArray := s.extract 0 (min s.size 20003)
theorem short_ok (s : ByteArray) (hs : s.size ≤ 9223372036854775807) : Pure G0 14 [.str s] (fun r => r = .str (shortS s)) := by
  have e : (if (20003 : Int) < (s.size : Int) then (20003 : Int) else (s.size : Int)) = ((min s.size 20003 : Nat) : Int) := by split <;> omega
  have d1 : decide ((0 : Int) ≤ 0 ∧ (0 : Int) ≤ (if (20003 : Int) < (s.size : Int) then (20003 : Int) else (s.size : Int)) ∧ (if (20003 : Int) < (s.size : Int) then (20003 : Int) else (s.size : Int)) ≤ (s.size : Int)) = true := by rw [e, decide_eq_true_eq]; omega
  refine Fn.enterB Tryd.func14 Tryd.ntmps14 rfl (Nat.le_of_ble_eq_true rfl) fun C fr fp hnt hnb hp hfr hfp => ?_
  refine SWP.runQ (SAv [(8, [(7, true)])] []) 100 8 hnt [2] (e := .ret) (z := ⟨[(2, .str (ByteArray.extract s 0 (Int.toNat (if (20003 : Int) < (s.size : Int) then (20003 : Int) else (s.size : Int)))))], ⟨[], []⟩⟩) (o := [(decide ((0 : Int) ≤ 0 ∧ (0 : Int) ≤ (if (20003 : Int) < (s.size : Int) then (20003 : Int) else (s.size : Int)) ∧ (if (20003 : Int) < (s.size : Int) then (20003 : Int) else (s.size : Int)) ≤ (s.size : Int)), true)]) (by kernel_rfl) (by ((repeat' (first | exact okO_nil | refine okN ?_ ?_)); all_goals first | assumption | rfl | exact same_of rfl | exact sameS_self _ | (simp only [decide_eq_true_eq, decide_eq_false_iff_not, Nat.ble_eq, Nat.beq_eq] <;> omega))) (fun st hs => hfr st [2] ?_)
  rw [hs, e, Int.toNat_natCast]
  exact ⟨0, _, Nat.le_refl _, Nat.zero_le _, rfl, rfl, rfl, rfl, _, rfl, rfl⟩
def unS : PV → ByteArray
  | .str s => s
  | _ => ⟨#[]⟩
def unN : PV → Nat
  | .int _ n => n.toNat
  | _ => 0
def looV (cs ds : List PV) : ByteArray := mkB (looB (cs.map unS) (ds.map unN))
def LooP (m : Nat) (cs : List PV) (n : Nat) (ds : List PV) : Prop := ∃ L ys, cs = L.map PV.str ∧ m = L.length ∧ (ds = ys.map fun x => PV.int .u8 ((x : Nat) : Int)) ∧ n = ys.length ∧ (∀ w ∈ L, 0 < w.size) ∧ (∀ x ∈ ys, x < 256) ∧ L.length ≤ 1099511627776 ∧ (lsB L ys L.length).length ≤ 1099511627776
open Classical in
noncomputable def isLoo (m : Nat) (cs : List PV) (n : Nat) (ds : List PV) : Bool := decide (LooP m cs n ds)
theorem isLoo_of {m : Nat} {cs : List PV} {n : Nat} {ds : List PV} (h : isLoo m cs n ds = true) : LooP m cs n ds := by
  unfold isLoo at h
  classical exact of_decide_eq_true h
theorem isLoo_at {L : List ByteArray} {ys : List Nat} (h1 : ∀ w ∈ L, 0 < w.size) (h2 : ∀ x ∈ ys, x < 256) (h3 : L.length ≤ 1099511627776) (h4 : (lsB L ys L.length).length ≤ 1099511627776) : isLoo L.length (L.map PV.str) ys.length (ys.map fun x => PV.int .u8 ((x : Nat) : Int)) = true := by
  unfold isLoo
  classical exact decide_eq_true ⟨L, ys, rfl, rfl, rfl, rfl, h1, h2, h3, h4⟩
theorem looV_at (L : List ByteArray) (ys : List Nat) : looV (L.map PV.str) (ys.map fun x => PV.int .u8 ((x : Nat) : Int)) = mkB (looB L ys) := by
  unfold looV
  rw [List.map_map, List.map_map, show (unS ∘ PV.str) = id from rfl, List.map_id, show (unN ∘ fun x : Nat => PV.int .u8 ((x : Nat) : Int)) = id from rfl, List.map_id]
noncomputable def lhS (f : Nat) (args : List PV) : Option (PV × Ob) := match f, args with
  | 30, [.str s] => some (.tup [.slice (alX s).dat.len (alX s).dat.cells, .int .i64 (alA s), .int .i64 (alE s)], [])
  | 35, [.str s] => some (.tup [.slice (tkO s (skp s 0)).length (tkS (tkO s (skp s 0))), .slice (tkO s (skp s 0)).length (tkI (tkO s (skp s 0)))], [(Nat.ble s.size 1099511627776, true)])
  | 36, [.slice m cs, .slice n ds] => some (.str (looV cs ds), [(isLoo m cs n ds, true)])
  | 33, [.str s] => some (.tup [.str (bareX s), .int .i64 (bareA s), .int .i64 (alE s)], [])
  | 32, [.slice n cs, .slice m ds] => some (.bool true, [(same (.slice n cs) (.slice m ds), true), (isOkL n cs, true)])
  | 18, [] => some (.bool true, [])
  | _, _ => none
theorem lhS_ok (f : Nat) (args : List PV) (r : PV) (o : Ob) (h : lhS f args = some (r, o)) (ho : ∀ p ∈ o, p.1 = p.2) (_ : pureL args = true) : Pure G0 f args (fun x => x = r) := by
  unfold lhS at h
  split at h
  · cases h
    exact readAllP _
  · cases h
    exact tokensR _ (Nat.le_of_ble_eq_true (ho _ (List.mem_singleton.2 rfl)))
  · rename_i m cs n ds _
    cases h
    obtain ⟨L, ys, rfl, rfl, rfl, rfl, h1, h2, h3, h4⟩ := isLoo_of (ho _ (List.mem_singleton.2 rfl))
    rw [looV_at]
    exact loosely_ok L ys h1 h2 h3 h4
  · cases h
    exact bareP _
  · rename_i n cs m ds _
    cases h
    have h1 := of_same (ho (same (.slice n cs) (.slice m ds), true) (by simp))
    have h2 := ho (isOkL n cs, true) (by simp)
    cases h1
    obtain ⟨ks, rfl, rfl, g1, g2⟩ := isOkL_of h2
    exact lists_same ks g2 g1
  · cases h
    exact alive_ok
  · cases h
noncomputable def SLh (l : List (Nat × List (Nat × Bool))) (v : List (Nat × List (Nat × PV))) : Cfg G0 := { F := F, hF := hF, S := lhS, hS := lhS_ok, orc := orcM l, val := valM v }
theorem al_toks_eq {s t : ByteArray} (h : toks s 0 = toks t 0) (hs : s.size ≤ 20000) (he : alE t = 0) : alE s = 0 ∧ (alX s).dat = (alX t).dat ∧ bareX s = bareX t := by
  have h1 := al_pr he
  rw [← h] at h1
  obtain ⟨g1, g2⟩ := al_of s hs _ _ h1
  refine ⟨g1, g2, ?_⟩
  unfold bareX
  rw [if_pos g1, if_pos he, h]
theorem cutK (s : ByteArray) : (if (1000 : Int) < (s.size : Int) then (1000 : Int) else (s.size : Int)) = ((min s.size 1000 : Nat) : Int) := by split <;> omega
theorem blanks_law (s : ByteArray) (hs : s.size ≤ 9223372036854775807) (ys : List Nat) (hys : ∀ x ∈ ys, x < 256) : Pure G0 13 [.str s, .slice ys.length (ys.map fun x => .int .u8 ((x : Nat) : Int))] (fun r => r = .bool true) := by
  obtain ⟨t, ht⟩ : ∃ a, a = s.extract 0 (min s.size 1000) := ⟨_, rfl⟩
  have hts : t.size ≤ 1000 := by rw [ht, ByteArray.size_extract]; omega
  have e1 := cutK s
  have d1 : decide ((0 : Int) ≤ ((0 : Nat) : Int) ∧ (((0 : Nat) : Int) ≤ (if (1000 : Int) < (s.size : Int) then (1000 : Int) else (s.size : Int))) ∧ (if (1000 : Int) < (s.size : Int) then (1000 : Int) else (s.size : Int)) ≤ (s.size : Int)) = true := by rw [e1, decide_eq_true_eq]; omega
  have d3 : same (PV.str (ByteArray.extract s 0 (Int.toNat (if (1000 : Int) < (s.size : Int) then (1000 : Int) else (s.size : Int))))) (PV.str t) = true := same_of (by rw [e1, Int.toNat_natCast, ht])
  obtain ⟨n, hn⟩ : ∃ n, n = ys.length := ⟨_, rfl⟩
  obtain ⟨ds, hds⟩ : ∃ n, n = ys.map fun x => PV.int .u8 ((x : Nat) : Int) := ⟨_, rfl⟩
  rw [← hn, ← hds]
  refine Fn.enterB Tryd.func13 Tryd.ntmps13 rfl (Nat.le_of_ble_eq_true rfl) fun C fr fp hnt hnb hp hfr hfp => ?_
  have fin : ∀ st H, nrm [4] st = ⟨[(4, .bool true)], H⟩ → fr st := fun st H hst => hfr st [4] (by
    rw [hst]
    exact ⟨0, .bool true, Nat.le_refl _, Nat.zero_le _, rfl, rfl, rfl, rfl, _, rfl, rfl⟩)
  refine Q.runSeq (SLh [] []) 100 102 hnt [0, 1] (z := ⟨[(0, .str s), (1, .slice n ds)], ⟨[], []⟩⟩) (o := []) (by kernel_rfl) (by ((repeat' (first | exact okO_nil | refine okN ?_ ?_)); all_goals first | assumption | rfl | exact same_of rfl | exact sameS_self _ | (simp only [decide_eq_true_eq, decide_eq_false_iff_not, Nat.ble_eq, Nat.beq_eq] <;> omega))) ?_
  refine Q.runSeq (SLh [(102, [(27, true)])] [(102, [(27, .str t)])]) 100 102 hnt [1, 5] (z := ⟨[(1, .slice n ds), (5, .str t)], ⟨[], []⟩⟩) (o := [(decide ((0 : Int) ≤ ((0 : Nat) : Int) ∧ (((0 : Nat) : Int) ≤ (if (1000 : Int) < (s.size : Int) then (1000 : Int) else (s.size : Int))) ∧ (if (1000 : Int) < (s.size : Int) then (1000 : Int) else (s.size : Int)) ≤ (s.size : Int)), true), (same (.str (ByteArray.extract s 0 (Int.toNat (if (1000 : Int) < (s.size : Int) then (1000 : Int) else (s.size : Int))))) (.str t), true)]) (by kernel_rfl) (by ((repeat' (first | exact okO_nil | refine okN ?_ ?_)); all_goals first | assumption | rfl | exact same_of rfl | exact sameS_self _ | (simp only [decide_eq_true_eq, decide_eq_false_iff_not, Nat.ble_eq, Nat.beq_eq] <;> omega))) ?_
  clear d1 d3 e1
  refine Q.runSeq (SLh [] []) 100 102 hnt [1, 5, 6, 8] (z := ⟨[(1, .slice n ds), (5, .str t), (6, .slice (alX t).dat.len (alX t).dat.cells), (8, .int .i64 (alE t))], ⟨[], []⟩⟩) (o := [(true, true)]) (by kernel_rfl) (by ((repeat' (first | exact okO_nil | refine okN ?_ ?_)); all_goals first | assumption | rfl | exact same_of rfl | exact sameS_self _ | (simp only [decide_eq_true_eq, decide_eq_false_iff_not, Nat.ble_eq, Nat.beq_eq] <;> omega))) ?_
  by_cases he : alE t = 0
  · have c1 : (!alE t == (0 : Int)) = false := by rw [he]; rfl
    refine Q.runSeq (SLh [(102, [(35, false)])] []) 100 102 hnt [1, 5, 6] (z := ⟨[(1, .slice n ds), (5, .str t), (6, .slice (alX t).dat.len (alX t).dat.cells)], ⟨[], []⟩⟩) (o := [(!alE t == (0 : Int), false), (false, false)]) (by kernel_rfl) (by ((repeat' (first | exact okO_nil | refine okN ?_ ?_)); all_goals first | assumption | rfl | exact same_of rfl | exact sameS_self _ | (simp only [decide_eq_true_eq, decide_eq_false_iff_not, Nat.ble_eq, Nat.beq_eq] <;> omega))) ?_
    obtain ⟨y, hy⟩ : ∃ y, y = mkB (looB (tkB t (skp t 0)) ys) := ⟨_, rfl⟩
    have hyl := loo_len t ys hts
    have hty : toks y 0 = toks t 0 := by rw [hy]; exact toks_loo t ys
    have hysz : y.size ≤ 20000 := by rw [hy, ← str_len]; simpa [mkB] using hyl.2
    obtain ⟨y1, y2, y3⟩ := al_toks_eq hty hysz he
    have hX : bareX t = mkB (bareN t) := by unfold bareX; rw [if_pos he, bareN_eq]
    have hbt : toks (bareX t) 0 = toks t 0 := by rw [hX]; exact toks_bare t
    have hbs : (bareX t).size ≤ 20000 := by
      have := bareN_len t
      rw [hX, ← str_len]
      have h : (mkB (bareN t)).data.toList.length = (bareN t).length := by simp [mkB]
      omega
    obtain ⟨z1, z2, z3⟩ := al_toks_eq hbt hbs he
    have hm0 : (tkO t (skp t 0)).length = (tkB t (skp t 0)).length := by rw [tkB, List.length_map]
    have hc0 : tkS (tkO t (skp t 0)) = (tkB t (skp t 0)).map PV.str := by rw [tkB, tkS, List.map_map]; rfl
    have f1 : Nat.ble t.size 1099511627776 = true := Nat.ble_eq_true_of_le (by omega)
    have hml := tkO_len t (skp t 0)
    have f2 : isLoo (tkO t (skp t 0)).length (tkS (tkO t (skp t 0))) n ds = true := by rw [hm0, hc0, hn, hds]; exact isLoo_at (tkB_pos t _ _ (Nat.le_refl _)) hys (by omega) (by omega)
    have f3 : same (.str (looV (tkS (tkO t (skp t 0))) ds)) (.str y) = true := same_of (by rw [hc0, hds, looV_at, hy])
    have f4 : (alE y == (0 : Int)) = true := beqT y1
    have f5 : (alE t == (0 : Int)) = true := beqT he
    have f6 : (alE (bareX t) == (0 : Int)) = true := beqT z1
    have f7 : same (.slice (alX t).dat.len (alX t).dat.cells) (.slice (alX y).dat.len (alX y).dat.cells) = true := same_of (by rw [y2])
    have f8 : same (.slice (alX t).dat.len (alX t).dat.cells) (.slice (alX (bareX t)).dat.len (alX (bareX t)).dat.cells) = true := same_of (by rw [z2])
    have f9 : isOkL (alX t).dat.len (alX t).dat.cells = true := alX_okL t
    have f10 : (ByteArray.toList (bareX t) == ByteArray.toList (bareX y)) = true := by rw [y3]; exact beq_self_eq_true _
    exact SWP.runQ (SLh [(102, [(71, true), (74, true), (78, true), (82, true), (97, true)])] [(102, [(45, .str y), (65, .str y)])]) 100 102 hnt [4] (e := .ret) (z := ⟨[(4, .bool true)], ⟨[], []⟩⟩) (o := [(true, true), (Nat.ble t.size 1099511627776, true), (true, true), (isLoo (tkO t (skp t 0)).length (tkS (tkO t (skp t 0))) n ds, true), (same (.str (looV (tkS (tkO t (skp t 0))) ds)) (.str y), true), (true, true), (true, true), (true, true), (true, true), (isLoo (tkO t (skp t 0)).length (tkS (tkO t (skp t 0))) n ds, true), (same (.str (looV (tkS (tkO t (skp t 0))) ds)) (.str y), true), (true, true), (alE y == (0 : Int), true), (alE t == (0 : Int), true), (alE (bareX t) == (0 : Int), true), (alE y == (0 : Int), true), (true, true), (same (.slice (alX t).dat.len (alX t).dat.cells) (.slice (alX y).dat.len (alX y).dat.cells), true), (isOkL (alX t).dat.len (alX t).dat.cells, true), (true, true), (same (.slice (alX t).dat.len (alX t).dat.cells) (.slice (alX (bareX t)).dat.len (alX (bareX t)).dat.cells), true), (isOkL (alX t).dat.len (alX t).dat.cells, true), (ByteArray.toList (bareX t) == ByteArray.toList (bareX y), true), (true, true)]) (by kernel_rfl) (by ((repeat' (first | exact okO_nil | refine okN ?_ ?_)); all_goals first | assumption | rfl | exact same_of rfl | exact sameS_self _ | (simp only [decide_eq_true_eq, decide_eq_false_iff_not, Nat.ble_eq, Nat.beq_eq] <;> omega))) (fun st hst => fin st _ hst)
  · have c1 : (!alE t == (0 : Int)) = true := by rw [beqF he]; rfl
    refine Q.seq fun K hK => ?_
    exact SWP.runQ (SLh [(102, [(35, true)])] []) 100 102 hnt [4] (e := .ret) (z := ⟨[(4, .bool true)], ⟨[], []⟩⟩) (o := [(!alE t == (0 : Int), true), (true, true), (true, true)]) (by kernel_rfl) (by ((repeat' (first | exact okO_nil | refine okN ?_ ?_)); all_goals first | assumption | rfl | exact same_of rfl | exact sameS_self _ | (simp only [decide_eq_true_eq, decide_eq_false_iff_not, Nat.ble_eq, Nat.beq_eq] <;> omega))) (fun st hst => fin st _ hst)
end Seat
end Go.Proofs.YtenpjkcclmmlhaaDoor
namespace Go.Proofs.YtenpjkcclmmlhaaDoor
open Go.ChangeShapes Go.WideShapes Go.ChangeAt Go.RowKit
set_option linter.unusedVariables false
set_option maxRecDepth 100000
namespace Seat
def putG (h : Array Obj) (g : Nat) (cs : Array Value) : Array Obj := h.modify g fun
  | .cells _ t frozen => .cells cs t frozen
  | o => o
noncomputable def laidWorld (os : Os) : World :=
  let w0 := World.holding Tryd.prog os ⟨#[.cells #[.string ⟨#[118, 97, 108, 117, 101, 32, 111, 117, 116, 32, 111, 102, 32, 114, 97, 110, 103, 101]⟩] 156, .cells #[.string ⟨#[105, 110, 118, 97, 108, 105, 100, 32, 115, 121, 110, 116, 97, 120]⟩] 156], #[], []⟩
  { w0 with heap := putG (putG (putG (putG (putG (w0.heap) 4 #[.int .u8 0, .int .u8 1, .int .u8 28, .int .u8 2, .int .u8 29, .int .u8 14, .int .u8 24, .int .u8 3, .int .u8 30, .int .u8 22, .int .u8 20, .int .u8 15, .int .u8 25, .int .u8 17, .int .u8 4, .int .u8 8, .int .u8 31, .int .u8 27, .int .u8 13, .int .u8 23, .int .u8 21, .int .u8 19, .int .u8 16, .int .u8 7, .int .u8 26, .int .u8 12, .int .u8 18, .int .u8 6, .int .u8 11, .int .u8 5, .int .u8 10, .int .u8 9]) 5 #[.int .u8 0, .int .u8 1, .int .u8 56, .int .u8 2, .int .u8 57, .int .u8 49, .int .u8 28, .int .u8 3, .int .u8 61, .int .u8 58, .int .u8 42, .int .u8 50, .int .u8 38, .int .u8 29, .int .u8 17, .int .u8 4, .int .u8 62, .int .u8 47, .int .u8 59, .int .u8 36, .int .u8 45, .int .u8 43, .int .u8 51, .int .u8 22, .int .u8 53, .int .u8 39, .int .u8 33, .int .u8 30, .int .u8 24, .int .u8 18, .int .u8 12, .int .u8 5, .int .u8 63, .int .u8 55, .int .u8 48, .int .u8 27, .int .u8 60, .int .u8 41, .int .u8 37, .int .u8 16, .int .u8 46, .int .u8 35, .int .u8 44, .int .u8 21, .int .u8 52, .int .u8 32, .int .u8 23, .int .u8 11, .int .u8 54, .int .u8 26, .int .u8 40, .int .u8 15, .int .u8 34, .int .u8 20, .int .u8 31, .int .u8 10, .int .u8 25, .int .u8 14, .int .u8 19, .int .u8 9, .int .u8 13, .int .u8 8, .int .u8 7, .int .u8 6]) 1 #[.int .u64 1, .int .u64 10, .int .u64 100, .int .u64 1000, .int .u64 10000, .int .u64 100000, .int .u64 1000000, .int .u64 10000000, .int .u64 100000000, .int .u64 1000000000, .int .u64 10000000000, .int .u64 100000000000, .int .u64 1000000000000, .int .u64 10000000000000, .int .u64 100000000000000, .int .u64 1000000000000000, .int .u64 10000000000000000, .int .u64 100000000000000000, .int .u64 1000000000000000000, .int .u64 10000000000000000000]) 3 #[.iface 154 (.pointer (some ⟨(World.settled Tryd.prog os).heap.size + 0, 0, none⟩))]) 2 #[.iface 154 (.pointer (some ⟨(World.settled Tryd.prog os).heap.size + 1, 0, none⟩))] }
theorem laid_met (os : Os) (args : Array Value) : laidMet Tryd.prog Rows.readerReadsRow.laid ((laidWorld os).forCall (fun _ _ => 0) ⟨#[], args, []⟩).memory :=
  laidMet_of_run' 9 (by kernel_rfl) (by kernel_rfl)
theorem own : ownKnob Tryd.prog.godebug = none := by kernel_rfl
end Seat
end Go.Proofs.YtenpjkcclmmlhaaDoor
namespace Go.AS
open Go.ChangeShapes Go.WideShapes Go.ChangeAt Go.RowKit
set_option linter.unusedVariables false
set_option linter.unusedSimpArgs false
section
variable {H : Type} {enc : TypeId × Value → H} {P : Program} {w w' : World} {base : Nat} {held : Bool}
structure Flat (P : Program) (S : TypeId → Prop) : Prop where
  at' : ∀ t, S t → P.underlying t = some .bool ∨ (∃ k, P.underlying t = some (.int k)) ∨ P.underlying t = some .string ∨ (∃ e, P.underlying t = some (.slice e) ∧ S e ∧ 0 < P.cellsOf e) ∨ (∃ fs, P.underlying t = some (.struct fs) ∧ ∀ f ∈ fs.toList, S f.type)
theorem cells?_move {a : Addr} {n : Nat} {cs : List Value} (hw : ∀ a v, w.cell? a = some v → w'.cell? a = some v) (h : w.cells? base a n = some cs) : w'.cells? 0 a n = some cs := by
  obtain ⟨_, hl, hc⟩ := World.cells?_some h
  unfold World.cells?
  rw [if_pos (Nat.zero_le _)]
  refine mapM_some_of_get _ _ (by simp [hl]) fun i x hx => ?_
  have hi : i < n := by have := (List.getElem?_eq_some_iff.1 hx).1; simpa using this
  rw [List.getElem?_range hi] at hx
  cases hx
  rw [← hc i hi]
  cases hv : w.cell? (a.add i) with
  | none => rw [hc i hi] at hv; rw [List.getElem?_eq_none_iff] at hv; omega
  | some v => exact hw _ _ hv
theorem trod_move {S : TypeId → Prop} (hS : Flat P S) (hw : ∀ a v, w.cell? a = some v → w'.cell? a = some v) (sp : Nat → Bool) : ∀ (m : Nat) (t : TypeId) (cs : List Value) (x : DataW H × List MemPlace), S t → DataW.trod enc P w base (fun _ => true) held m t cs = some x → (∀ q ∈ x.2, sp q.block = true) → DataW.trod enc P w' 0 sp held m t cs = some x := by
  intro m
  induction m with
  | zero => intro t cs x _ h; simp [DataW.trod] at h
  | succ m ih =>
    intro t cs x ht h hp
    rcases hS.at' t ht with hu | ⟨k, hu⟩ | hu | ⟨e, hu, he, hpos⟩ | ⟨fs, hu, hfs⟩
    · obtain ⟨b, rfl, rfl⟩ := DataW.trod_bool hu h
      unfold DataW.trod
      rw [hu]
    · obtain ⟨n, rfl, rfl, hwf⟩ := DataW.trod_int hu h
      exact trod_int_mk m hu hwf
    · obtain ⟨s, rfl, rfl, hs⟩ := DataW.trod_string hu h
      unfold DataW.trod
      rw [hu]
      simp [hs]
    · rcases DataW.trod_slice hu h with ⟨rfl, rfl⟩ | ⟨a, len, cap, elems, rest, n, hn, rfl, rfl, h1, h2, h3, h4, h5, h6, _⟩
      · unfold DataW.trod
        rw [hu]
        rfl
      · obtain rfl : m = n := by omega
        obtain ⟨h6, h7⟩ := h6 rfl
        have hin : ∀ y, y ∈ elems ∨ y ∈ rest → ∀ q ∈ y.2, sp q.block = true := fun y hy q hq => hp q (List.mem_append_right _ (List.mem_flatMap.2 ⟨y, List.mem_append.2 hy, hq⟩))
        have go : ∀ (i : Nat) (y : DataW H × List MemPlace), (w.cells? base (a.add (i * P.cellsOf e)) (P.cellsOf e)).bind (DataW.trod enc P w base (fun _ => true) held m e) = some y → (∀ q ∈ y.2, sp q.block = true) → (w'.cells? 0 (a.add (i * P.cellsOf e)) (P.cellsOf e)).bind (DataW.trod enc P w' 0 sp held m e) = some y := fun i y hy hq => by
          obtain ⟨cs, hcs, htr⟩ := Option.bind_eq_some_iff.1 hy
          rw [cells?_move hw hcs]
          exact ih e cs y he htr hq
        have e1 : (List.range len).mapM (fun i => (w'.cells? 0 (a.add (i * P.cellsOf e)) (P.cellsOf e)).bind (DataW.trod enc P w' 0 sp held m e)) = some elems := mapM_some_of_get _ _ (by simp [h4]) fun i y hy => by
          have hi : i < len := by have := (List.getElem?_eq_some_iff.1 hy).1; simpa using this
          rw [List.getElem?_range hi] at hy
          cases hy
          obtain ⟨z, hz⟩ : ∃ z, elems[i]? = some z := ⟨_, List.getElem?_eq_getElem (by omega)⟩
          rw [hz]
          exact go i z (by rw [h5 i hi, hz]) (hin z (.inl (List.mem_of_getElem? hz)))
        have e2 : (List.range (cap - len)).mapM (fun j => (w'.cells? 0 (a.add ((len + j) * P.cellsOf e)) (P.cellsOf e)).bind (DataW.trod enc P w' 0 sp held m e)) = some rest := mapM_some_of_get _ _ (by simp [h6]) fun i y hy => by
          have hi : i < cap - len := by have := (List.getElem?_eq_some_iff.1 hy).1; simpa using this
          rw [List.getElem?_range hi] at hy
          cases hy
          obtain ⟨z, hz⟩ : ∃ z, rest[i]? = some z := ⟨_, List.getElem?_eq_getElem (by omega)⟩
          rw [hz]
          exact go (len + i) z (by rw [h7 i hi, hz]) (hin z (.inr (List.mem_of_getElem? hz)))
        have e3 : (if sp a.block then (List.range (cap - len)).mapM (fun j => (w'.cells? 0 (a.add ((len + j) * P.cellsOf e)) (P.cellsOf e)).bind (DataW.trod enc P w' 0 sp held m e)) else some []) = some rest := by
          by_cases hz : (elems.length + rest.length) * P.cellsOf e = 0
          · have : rest = [] := by
              rcases Nat.mul_eq_zero.1 hz with h | h
              · exact List.eq_nil_of_length_eq_zero (by omega)
              · omega
            subst this
            split
            · exact e2
            · rfl
          · have : sp a.block = true := hp (.cell a.block (a.off + 0)) (List.mem_append_left _ (List.mem_map.2 ⟨0, List.mem_range.2 (by omega), rfl⟩))
            rw [if_pos this]
            exact e2
        unfold DataW.trod
        rw [hu]
        simp only [e1, e3, Option.bind_some, Option.map_some]
        rw [if_pos ⟨Nat.zero_le _, h2, h3⟩]
    · obtain ⟨xs, n, hn, rfl, hl, hlen, hf⟩ := DataW.trod_struct hu h
      obtain rfl : m = n := by omega
      refine trod_struct_mk hu hl (mapM_some_of_get _ _ (by simpa using hlen) fun i f hi => ?_)
      obtain ⟨y, hy⟩ : ∃ y, xs[i]? = some y := ⟨_, List.getElem?_eq_getElem (by have := (List.getElem?_eq_some_iff.1 hi).1; simp at this; omega)⟩
      rw [hy]
      exact ih f.type _ y (hfs f (List.mem_of_getElem? hi)) (by rw [hf i f (by simpa using hi), hy]) (fun q hq => hp q (List.mem_flatMap.2 ⟨y, List.mem_of_getElem? hy, hq⟩))
theorem cell_keep (hk : ∀ k, k < w.heap.size → w'.heap[k]? = w.heap[k]?) (a : Addr) (v : Value) (h : w.cell? a = some v) : w'.cell? a = some v := by
  rw [← h]
  have hb : a.block < w.heap.size := by
    rcases Nat.lt_or_ge a.block w.heap.size with h' | h'
    · exact h'
    · unfold World.cell? at h
      rw [show w.heap[a.block]? = none from Array.getElem?_eq_none h'] at h
      simp at h
  unfold World.cell?
  rw [hk _ hb]
theorem trodAll_move {S : TypeId → Prop} (hS : Flat P S) (hk : ∀ k, k < w.heap.size → w'.heap[k]? = w.heap[k]?) (sp : Nat → Bool) : ∀ (ts : List TypeId) (vs : List Value) (ds : List (DataW H)) (p : List MemPlace), (∀ t ∈ ts, S t) → DataW.TrodAll enc P w base (fun _ => true) held ts vs ds p → (∀ q ∈ p, sp q.block = true) → DataW.TrodAll enc P w' 0 sp held ts vs ds p
  | [], [], [], p, _, h, _ => h
  | t :: ts, v :: vs, d :: ds, p, ht, h, hp => by
    obtain ⟨p1, q1, ⟨m, h1⟩, h2, rfl⟩ := h
    exact ⟨p1, q1, ⟨m, trod_move hS (cell_keep hk) sp m t _ _ (ht t (by simp)) h1 fun q hq => hp q (List.mem_append_left _ hq)⟩, trodAll_move hS hk sp ts vs ds q1 (fun t h => ht t (by simp [h])) h2 (fun q hq => hp q (List.mem_append_right _ hq)), rfl⟩
  | [], _ :: _, _, _, _, h, _ => by simp [DataW.TrodAll] at h
  | [], [], _ :: _, _, _, h, _ => by simp [DataW.TrodAll] at h
  | _ :: _, [], _, _, _, h, _ => by simp [DataW.TrodAll] at h
  | _ :: _, _ :: _, [], _, _, h, _ => by simp [DataW.TrodAll] at h
end
end Go.AS
namespace Go.Proofs.YtenpjkcclmmlhaaDoor.Seat
open Go Go.ChangeShapes Go.WideShapes Go.ChangeAt Go.RowKit Go.AS
set_option linter.unusedVariables false
set_option maxRecDepth 100000
def flatYT (t : TypeId) : Prop := t = 5 ∨ t = 9 ∨ t = 56
theorem flatY : Flat Tryd.prog flatYT := ⟨fun t ht => by
  rcases ht with rfl | rfl | rfl
  · exact .inr (.inl ⟨_, Tryd.underlying5⟩)
  · exact .inr (.inr (.inl Tryd.underlying9))
  · exact .inr (.inr (.inr (.inl ⟨_, Tryd.underlying56, .inl rfl, by rw [show Tryd.prog.cellsOf 5 = 1 by kernel_rfl]; exact Nat.le_of_ble_eq_true rfl⟩)))⟩
theorem open_bytes {H : Type} {enc : TypeId × Value → H} {W : World} {base b0 : Nat} {sp : Nat → Bool} {held : Bool} {v : Value} {d : DataW H} {p : List MemPlace} (hv : Value.okWide Tryd.prog W .any base 56 v) (h : DataW.Trod enc Tryd.prog W b0 sp held 56 v d p) :
    ∃ l : List Nat, (∀ x ∈ l, x < 256) ∧ l.length ≤ 9223372036854775807 ∧ IRep (old W) W (.slice l.length (l.map fun x => .int .u8 ((x : Nat) : Int))) v := by
  obtain ⟨sa, sl, sc, rfl⟩ := okWide_slice Tryd.underlying56 hv
  obtain ⟨m, h⟩ := h
  rcases Go.ChangeShapes.open_ints Tryd.underlying56 Tryd.underlying5 (by kernel_rfl) h with ⟨hcs, _⟩ | ⟨a, len, cap, zs, hcs, h1, h2, h3, h4, h5, h6, h7⟩
  · simp only [Value.cells, List.cons.injEq, and_true] at hcs
    rw [hcs]
    exact ⟨[], by simp, Nat.zero_le _, IRep.slice0⟩
  · simp only [Value.cells, List.cons.injEq, and_true] at hcs
    rw [hcs]
    have hz : len ≤ zs.length := by
      rw [h4]
      cases sp a.block
      · exact Nat.le_refl _
      · exact h2
    have hl : (zs.take len).length = len := by simp [hz]
    have hr : ∀ n ∈ zs, 0 ≤ n ∧ n < 256 := fun n hn => by
      have := h7 n hn
      simp only [Lit.wf, Bool.and_eq_true, decide_eq_true_eq] at this
      have e0 : IntKind.u8.min = 0 := rfl
      have e1 : IntKind.u8.max = 255 := rfl
      rw [e0, e1] at this
      omega
    have hcell : ∀ (j : Nat) (v : Value), ((zs.take len).map (Value.int .u8))[j]? = some v → W.cell? (a.add j) = some v := fun j v hj => by
      rw [List.getElem?_map, Option.map_eq_some_iff] at hj
      obtain ⟨z, hj, rfl⟩ := hj
      have hlt : j < len := by have := (List.getElem?_eq_some_iff.1 hj).1; omega
      rw [List.getElem?_take_of_lt hlt] at hj
      rw [h6 j (by omega), List.getD_eq_getElem?_getD, hj]
      rfl
    have hln : ((zs.take len).map Int.toNat).length = len := by rw [List.length_map, hl]
    refine ⟨(zs.take len).map Int.toNat, fun x hx => ?_, by rw [hln]; unfold maxLen at h3; omega, ?_⟩
    · obtain ⟨z, hz1, rfl⟩ := List.mem_map.1 hx
      have := hr z (List.mem_of_mem_take hz1)
      omega
    rw [hln]
    refine .slice (vs := (zs.take len).map (Value.int .u8)) h2 (by simp) (fun h => ?_) hcell (fun u hu => ?_) (fun j x v hx hv => ?_)
    · obtain ⟨u, hu⟩ : ∃ u, ((zs.take len).map (Value.int .u8))[0]? = some u := ⟨_, List.getElem?_eq_getElem h⟩
      exact World.block_lt_of_cell? W _ (hcell 0 u hu)
    · obtain ⟨z, _, rfl⟩ := List.mem_map.1 hu
      rfl
    · rw [List.map_map, List.getElem?_map, Option.map_eq_some_iff] at hx
      rw [List.getElem?_map, Option.map_eq_some_iff] at hv
      obtain ⟨z, hz1, rfl⟩ := hx
      obtain ⟨z', hz2, rfl⟩ := hv
      rw [hz1] at hz2
      cases hz2
      have h9 := hr z (List.mem_of_mem_take (List.mem_of_getElem? hz1))
      show IRep (old W) W (.int .u8 ((z.toNat : Nat) : Int)) (.int .u8 z)
      rw [Int.toNat_of_nonneg h9.1]
      exact .int _ _
end Go.Proofs.YtenpjkcclmmlhaaDoor.Seat
