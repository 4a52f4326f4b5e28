/- Texts of this session, packed: Rp1, Rp2, Read2, Read3, Rp3, Read4, Read5, Rp4, NumQ, NumR, Eng3, Nz, Tok0. -/
import Derived.Test.YtenpjkcclmmlhaaDoorRa3
import Derived.Lib.IndexBytes
import Derived.Lib.ParseIntBTie
import Derived.Defers
import Derived.Recover
/- The program's reader: skip. Printed by dev/rp1.py and dev/nfsub.py (this session's). -/
namespace Go.Proofs.YtenpjkcclmmlhaaDoor
open Go.AS Go.RowKit
set_option linter.unusedVariables false
set_option linter.unusedSimpArgs false
set_option maxRecDepth 100000
set_option maxHeartbeats 4000000
namespace Seat
def rP (s : ByteArray) (a : Nat) : Box := ⟨[.str s, .int .i64 a], 87⟩
def ixB (t : ByteArray) : Int := Go.Lib.indexByte t.data.toList 10
def ixS (f : Nat) (args : List PV) : Option (PV × Ob) := match f, args with
  | 71, [.str t, .int .u8 10] => some (.int .i64 (ixB t), [])
  | _, _ => none
theorem ixS_ok (f : Nat) (args : List PV) (r : PV) (o : Ob) (h : ixS f args = some (r, o)) (ho : ∀ p ∈ o, p.1 = p.2) (_ : pureL args = true) : Pure G0 f args (fun x => x = r) := by
  unfold ixS at h
  split at h
  · cases h
    exact indexByteP _
  · cases h
noncomputable def SPk (l : List (Nat × List (Nat × Bool))) (v : List (Nat × List (Nat × PV))) : Cfg G0 := { F := F, hF := hF, S := ixS, hS := ixS_ok, orc := orcM l, val := valM v }
theorem idx_drop (s : ByteArray) : ∀ k x, s.size - x ≤ k → Go.Lib.indexByte (s.data.toList.drop x) 10 = if remE s x < s.size then ((remE s x - x : Nat) : Int) else -1 := by
  have hlen : s.data.toList.length = s.size := Array.length_toList
  intro k
  induction k with
  | zero =>
    intro x h
    have hr : remE s x = x := by rw [remE_eq, if_neg (fun g => absurd g.1 (by omega))]
    rw [List.drop_of_length_le (by omega), hr, if_neg (by omega)]
    rfl
  | succ k ih =>
    intro x h
    rcases Nat.lt_or_ge x s.size with hx | hx
    · rw [List.drop_eq_getElem_cons (by omega), Go.Lib.indexByte, ih (x + 1) (by omega)]
      have hb : bt s (x : Int) = ((s.data.toList[x]'(by omega)).toNat : Int) := by
        unfold bt
        rw [dif_pos (by rw [Int.toNat_natCast]; exact hx)]
        rfl
      have hge := remE_ge s (x + 1)
      by_cases h10 : s.data.toList[x]'(by omega) = 10
      · have hr : remE s x = x := by rw [remE_eq, if_neg (fun g => g.2 (by rw [hb, h10]; rfl))]
        rw [hr, h10, if_pos (by decide), if_pos hx, Nat.sub_self]; rfl
      · have hr : remE s x = remE s (x + 1) := by
          rw [remE_eq s x, if_pos ⟨hx, fun g => h10 (by
            rw [hb] at g
            have : (s.data.toList[x]'(by omega)).toNat = 10 := by omega
            exact UInt8.toNat_inj.1 this)⟩]
        rw [hr, if_neg (by simpa using h10)]
        by_cases hq : remE s (x + 1) < s.size
        · rw [if_pos hq, if_pos hq, if_neg (by simp <;> omega)]; omega
        · rw [if_neg hq, if_neg hq]; rfl
    · have hr : remE s x = x := by rw [remE_eq, if_neg (fun g => absurd g.1 (by omega))]
      rw [List.drop_of_length_le (by omega), hr, if_neg (by omega)]
      rfl
theorem ixB_at (s : ByteArray) (x : Nat) (h : x ≤ s.size) : ixB (s.extract x s.size) = if remE s x < s.size then ((remE s x - x : Nat) : Int) else -1 := by
  unfold ixB
  rw [Go.Lib.extract_to_end]
  exact idx_drop s _ x (Nat.le_refl _)
theorem skipP_ok (s : ByteArray) (hs : s.size ≤ 1099511627776) (a : Nat) : PCalls G0 69 [.ptr 0 0] [rP s a] (fun o b' => o = .ret (.tup []) ∧ b' = [rP s (skp s a)]) := by
  refine Fn.enterN Tryd.func69 Tryd.ntmps69 rfl (Nat.le_of_ble_eq_true rfl) fun C fr fp hnt hp hfr hfp => ?_
  have fin : ∀ st x, skp s x = x → skp s x = skp s a → nrm [] st = ⟨[], ⟨[rP s x], []⟩⟩ → fr st := fun st x h1 h2 hst => hfr st [] (by
    rw [hst, ← h2.symm.trans h1]
    exact ⟨1, .tup [], Nat.le_refl _, Nat.le_refl _, rfl, rfl, rfl, rfl, rfl⟩)
  let T (x : Nat) : AS := ⟨[(0, .ptr 0 0)], ⟨[rP s x], []⟩⟩
  refine Q.block ?_
  refine Q.loopI (σ := { x : Nat // skp s x = skp s a }) [0] (fun x => T x.1) (fun x => s.size - x.1) ⟨a, rfl⟩ rfl fun ⟨x, hk⟩ => ?_
  show SWP G0 C _ _ ⟨[(0, .ptr 0 0)], ⟨[rP s x], []⟩⟩
  rcases Nat.lt_or_ge x s.size with hlt | hge
  · have d1 := lt_at hlt
    have d2 := in_at hlt
    have wi : IntKind.wrap IntKind.i64 (Int.ofNat (x + 1)) = ((x + 1 : Nat) : Int) := wrapI (x + 1) (by omega)
    have sk := skp_eq s x
    rw [if_pos hlt] at sk
    have bl : blank (bt s (x : Int)) = true → ∀ st, nrm [0] st = ⟨[(0, .ptr 0 0)], ⟨[⟨[.str s, .int .i64 (IntKind.wrap IntKind.i64 (Int.ofNat (x + 1)))], 87⟩], []⟩⟩ → ∃ y : { x : Nat // skp s x = skp s a }, s.size - y.1 < s.size - x ∧ nrm [0] st = T y.1 := fun hb st hst =>
      ⟨⟨x + 1, by rw [← hk, sk, if_pos hb]⟩, Nat.sub_lt_sub_left hlt (Nat.lt_succ_self x), by rw [hst, wi]; rfl⟩
    by_cases c32 : bt s (x : Int) = 32
    · have e1 := beqT c32
      exact SWP.runQ (SPk [(66, [(12, true), (21, true), (23, true)])] []) 100 66 hnt [0] (e := .normal) (z := { t := [(0, PV.ptr 0 0)], h := { bx := [{ cs := [PV.str s, PV.int IntKind.i64 (IntKind.wrap IntKind.i64 (Int.ofNat (x + 1)))], ty := 87 }], rw := [] } }) (o := [(decide ((↑x : Int) < (↑(ByteArray.size s) : Int)), true), (decide (0 ≤ (↑x : Int) ∧ (↑x : Int) < (↑(ByteArray.size s) : Int)), true), (bt s (Int.ofNat x) == (32 : Int), true)]) (by kernel_rfl) (by ((repeat' (first | exact okO_nil | refine okN ?_ ?_)); all_goals first | assumption | rfl | exact same_of rfl | exact sameS_self _ | (simp only [decide_eq_true_eq, decide_eq_false_iff_not, Nat.ble_eq, Nat.beq_eq, beq_eq_false_iff_ne, beq_iff_eq, ne_eq] <;> omega))) (bl (by rw [c32]; rfl))
    have e1 := beqF c32
    by_cases c9 : bt s (x : Int) = 9
    · have e2 := beqT c9
      exact SWP.runQ (SPk [(66, [(12, true), (21, true), (23, false), (24, true)])] []) 100 66 hnt [0] (e := .normal) (z := { t := [(0, PV.ptr 0 0)], h := { bx := [{ cs := [PV.str s, PV.int IntKind.i64 (IntKind.wrap IntKind.i64 (Int.ofNat (x + 1)))], ty := 87 }], rw := [] } }) (o := [(decide ((↑x : Int) < (↑(ByteArray.size s) : Int)), true), (decide (0 ≤ (↑x : Int) ∧ (↑x : Int) < (↑(ByteArray.size s) : Int)), true), (bt s (Int.ofNat x) == (32 : Int), false), (bt s (Int.ofNat x) == (9 : Int), true)]) (by kernel_rfl) (by ((repeat' (first | exact okO_nil | refine okN ?_ ?_)); all_goals first | assumption | rfl | exact same_of rfl | exact sameS_self _ | (simp only [decide_eq_true_eq, decide_eq_false_iff_not, Nat.ble_eq, Nat.beq_eq, beq_eq_false_iff_ne, beq_iff_eq, ne_eq] <;> omega))) (bl (by rw [c9]; rfl))
    have e2 := beqF c9
    by_cases c10 : bt s (x : Int) = 10
    · have e3 := beqT c10
      exact SWP.runQ (SPk [(66, [(12, true), (21, true), (23, false), (24, false), (25, true)])] []) 100 66 hnt [0] (e := .normal) (z := { t := [(0, PV.ptr 0 0)], h := { bx := [{ cs := [PV.str s, PV.int IntKind.i64 (IntKind.wrap IntKind.i64 (Int.ofNat (x + 1)))], ty := 87 }], rw := [] } }) (o := [(decide ((↑x : Int) < (↑(ByteArray.size s) : Int)), true), (decide (0 ≤ (↑x : Int) ∧ (↑x : Int) < (↑(ByteArray.size s) : Int)), true), (bt s (Int.ofNat x) == (32 : Int), false), (bt s (Int.ofNat x) == (9 : Int), false), (bt s (Int.ofNat x) == (10 : Int), true)]) (by kernel_rfl) (by ((repeat' (first | exact okO_nil | refine okN ?_ ?_)); all_goals first | assumption | rfl | exact same_of rfl | exact sameS_self _ | (simp only [decide_eq_true_eq, decide_eq_false_iff_not, Nat.ble_eq, Nat.beq_eq, beq_eq_false_iff_ne, beq_iff_eq, ne_eq] <;> omega))) (bl (by rw [c10]; rfl))
    have e3 := beqF c10
    by_cases c13 : bt s (x : Int) = 13
    · have e4 := beqT c13
      exact SWP.runQ (SPk [(66, [(12, true), (21, true), (23, false), (24, false), (25, false), (26, true)])] []) 100 66 hnt [0] (e := .normal) (z := { t := [(0, PV.ptr 0 0)], h := { bx := [{ cs := [PV.str s, PV.int IntKind.i64 (IntKind.wrap IntKind.i64 (Int.ofNat (x + 1)))], ty := 87 }], rw := [] } }) (o := [(decide ((↑x : Int) < (↑(ByteArray.size s) : Int)), true), (decide (0 ≤ (↑x : Int) ∧ (↑x : Int) < (↑(ByteArray.size s) : Int)), true), (bt s (Int.ofNat x) == (32 : Int), false), (bt s (Int.ofNat x) == (9 : Int), false), (bt s (Int.ofNat x) == (10 : Int), false), (bt s (Int.ofNat x) == (13 : Int), true)]) (by kernel_rfl) (by ((repeat' (first | exact okO_nil | refine okN ?_ ?_)); all_goals first | assumption | rfl | exact same_of rfl | exact sameS_self _ | (simp only [decide_eq_true_eq, decide_eq_false_iff_not, Nat.ble_eq, Nat.beq_eq, beq_eq_false_iff_ne, beq_iff_eq, ne_eq] <;> omega))) (bl (by rw [c13]; rfl))
    have e4 := beqF c13
    have nb : ¬ blank (bt s (x : Int)) = true := by simp [blank, c32, c9, c10, c13]
    rw [if_neg nb] at sk
    by_cases c59 : bt s (x : Int) = 59
    · have e5 := beqT c59
      rw [if_pos c59] at sk
      have hx : ixB (ByteArray.extract s (Int.toNat (x : Int)) (Int.toNat (s.size : Int))) = _ := ixB_at s x (Nat.le_of_lt hlt)
      have hg := remE_59 hlt c59
      have hl := remE_le s x (Nat.le_of_lt hlt)
      have out : ∀ st, nrm [0] st = T (remE s x) → ∃ z : { x : Nat // skp s x = skp s a }, s.size - z.1 < s.size - x ∧ nrm [0] st = T z.1 := fun st hst => ⟨⟨remE s x, by rw [← hk, sk]⟩, by show s.size - remE s x < _; omega, hst⟩
      by_cases hr : remE s x < s.size
      · rw [if_pos hr] at hx
        have d3 : decide (ixB (ByteArray.extract s (Int.toNat (x : Int)) (Int.toNat (s.size : Int))) < 0) = false := by rw [hx]; exact decide_eq_false (by omega)
        have w2 : IntKind.wrap IntKind.i64 (Int.ofNat x + ixB (ByteArray.extract s (Int.toNat (x : Int)) (Int.toNat (s.size : Int)))) = (remE s x : Int) := by
          rw [hx, IntKind.wrap_i64, Int.ofNat_eq_natCast]; omega
        exact SWP.runQ (SPk [(66, [(12, true), (21, true), (23, false), (24, false), (25, false), (26, false), (35, true), (44, true), (47, false)])] []) 100 66 hnt [0] (e := .normal) (z := { t := [(0, PV.ptr 0 0)], h := { bx := [{ cs := [PV.str s, PV.int IntKind.i64 (IntKind.wrap IntKind.i64 (Int.ofNat x + Lib.indexByte (Array.toList (ByteArray.data (ByteArray.extract s (Int.toNat (↑x : Int)) (Int.toNat (↑(ByteArray.size s) : Int))))) 10))], ty := 87 }], rw := [] } }) (o := [(decide ((↑x : Int) < (↑(ByteArray.size s) : Int)), true), (decide (0 ≤ (↑x : Int) ∧ (↑x : Int) < (↑(ByteArray.size s) : Int)), true), (bt s (Int.ofNat x) == (32 : Int), false), (bt s (Int.ofNat x) == (9 : Int), false), (bt s (Int.ofNat x) == (10 : Int), false), (bt s (Int.ofNat x) == (13 : Int), false), (bt s (Int.ofNat x) == (59 : Int), true), (decide (0 ≤ (↑x : Int) ∧ (↑x : Int) ≤ (↑(ByteArray.size s) : Int) ∧ (↑(ByteArray.size s) : Int) ≤ (↑(ByteArray.size s) : Int)), true), (true, true), (decide (ixB (ByteArray.extract s (Int.toNat (↑x : Int)) (Int.toNat (↑(ByteArray.size s) : Int))) < 0), false), (false, false)]) (by kernel_rfl) (by ((repeat' (first | exact okO_nil | refine okN ?_ ?_)); all_goals first | assumption | rfl | exact same_of rfl | exact sameS_self _ | (simp only [decide_eq_true_eq, decide_eq_false_iff_not, Nat.ble_eq, Nat.beq_eq, beq_eq_false_iff_ne, beq_iff_eq, ne_eq] <;> omega))) (fun st hst => out st (by rw [hst]; exact congrArg (fun z => (⟨[(0, PV.ptr 0 0)], ⟨[⟨[.str s, .int .i64 z], 87⟩], []⟩⟩ : AS)) w2))
      · rw [if_neg hr] at hx
        have d3 : decide (ixB (ByteArray.extract s (Int.toNat (x : Int)) (Int.toNat (s.size : Int))) < 0) = true := by rw [hx]; rfl
        have w2 : IntKind.wrap IntKind.i64 (Int.ofNat x + IntKind.wrap IntKind.i64 (Int.ofNat s.size - Int.ofNat x)) = (remE s x : Int) := by
          rw [IntKind.wrap_i64, IntKind.wrap_i64, Int.ofNat_eq_natCast, Int.ofNat_eq_natCast]; omega
        exact SWP.runQ (SPk [(66, [(12, true), (21, true), (23, false), (24, false), (25, false), (26, false), (35, true), (44, true), (47, true)])] []) 100 66 hnt [0] (e := .normal) (z := { t := [(0, PV.ptr 0 0)], h := { bx := [{ cs := [PV.str s, PV.int IntKind.i64 (IntKind.wrap IntKind.i64 (Int.ofNat x + IntKind.wrap IntKind.i64 (Int.ofNat (ByteArray.size s) - Int.ofNat x)))], ty := 87 }], rw := [] } }) (o := [(decide ((↑x : Int) < (↑(ByteArray.size s) : Int)), true), (decide (0 ≤ (↑x : Int) ∧ (↑x : Int) < (↑(ByteArray.size s) : Int)), true), (bt s (Int.ofNat x) == (32 : Int), false), (bt s (Int.ofNat x) == (9 : Int), false), (bt s (Int.ofNat x) == (10 : Int), false), (bt s (Int.ofNat x) == (13 : Int), false), (bt s (Int.ofNat x) == (59 : Int), true), (decide (0 ≤ (↑x : Int) ∧ (↑x : Int) ≤ (↑(ByteArray.size s) : Int) ∧ (↑(ByteArray.size s) : Int) ≤ (↑(ByteArray.size s) : Int)), true), (true, true), (decide (ixB (ByteArray.extract s (Int.toNat (↑x : Int)) (Int.toNat (↑(ByteArray.size s) : Int))) < 0), true), (true, true)]) (by kernel_rfl) (by ((repeat' (first | exact okO_nil | refine okN ?_ ?_)); all_goals first | assumption | rfl | exact same_of rfl | exact sameS_self _ | (simp only [decide_eq_true_eq, decide_eq_false_iff_not, Nat.ble_eq, Nat.beq_eq, beq_eq_false_iff_ne, beq_iff_eq, ne_eq] <;> omega))) (fun st hst => out st (by rw [hst]; exact congrArg (fun z => (⟨[(0, PV.ptr 0 0)], ⟨[⟨[.str s, .int .i64 z], 87⟩], []⟩⟩ : AS)) w2))
    · have e5 := beqF c59
      rw [if_neg c59] at sk
      exact SWP.runQ (SPk [(66, [(12, true), (21, true), (23, false), (24, false), (25, false), (26, false), (35, false)])] []) 100 66 hnt [] (e := .ret) (z := { t := [], h := { bx := [{ cs := [PV.str s, PV.int IntKind.i64 (Int.ofNat x)], ty := 87 }], rw := [] } }) (o := [(decide ((↑x : Int) < (↑(ByteArray.size s) : Int)), true), (decide (0 ≤ (↑x : Int) ∧ (↑x : Int) < (↑(ByteArray.size s) : Int)), true), (bt s (Int.ofNat x) == (32 : Int), false), (bt s (Int.ofNat x) == (9 : Int), false), (bt s (Int.ofNat x) == (10 : Int), false), (bt s (Int.ofNat x) == (13 : Int), false), (bt s (Int.ofNat x) == (59 : Int), false)]) (by kernel_rfl) (by ((repeat' (first | exact okO_nil | refine okN ?_ ?_)); all_goals first | assumption | rfl | exact same_of rfl | exact sameS_self _ | (simp only [decide_eq_true_eq, decide_eq_false_iff_not, Nat.ble_eq, Nat.beq_eq, beq_eq_false_iff_ne, beq_iff_eq, ne_eq] <;> omega))) (fun st hst => fin st x sk hk hst)
  · have d1 := ge_at hge
    exact SWP.runQ (SPk [(66, [(12, false)])] []) 100 66 hnt [] (e := .exit 0) (z := { t := [], h := { bx := [{ cs := [PV.str s, PV.int IntKind.i64 (Int.ofNat x)], ty := 87 }], rw := [] } }) (o := [(decide ((↑x : Int) < (↑(ByteArray.size s) : Int)), false)]) (by kernel_rfl) (by ((repeat' (first | exact okO_nil | refine okN ?_ ?_)); all_goals first | assumption | rfl | exact same_of rfl | exact sameS_self _ | (simp only [decide_eq_true_eq, decide_eq_false_iff_not, Nat.ble_eq, Nat.beq_eq, beq_eq_false_iff_ne, beq_iff_eq, ne_eq] <;> omega))) (fun st hst => fin st x (skp_out s x hge) hk hst)
end Seat
end Go.Proofs.YtenpjkcclmmlhaaDoor
/- The program's reader: next. -/
namespace Go.Proofs.YtenpjkcclmmlhaaDoor
open Go.AS Go.RowKit
set_option linter.unusedVariables false
set_option linter.unusedSimpArgs false
set_option maxRecDepth 100000
set_option maxHeartbeats 4000000
namespace Seat
def skB (f : Nat) (args : List PV) (x : Box) : Option (PV × Box × Ob) := match f, args, x with
  | 69, [.ptr 0 0], ⟨[.str s, .int .i64 a], ty⟩ => match Nat.beq ty 87 with
    | true => some (.tup [], rP s (skp s a.toNat), [(decide (0 ≤ a), true), (Nat.ble s.size 1099511627776, true)])
    | false => none
  | _, _, _ => none
theorem skB_ok : ∀ f xs x r x' o, skB f xs x = some (r, x', o) → (∀ p ∈ o, p.1 = p.2) → PCalls G0 f xs [x] (fun o' b' => o' = .ret r ∧ b' = [x']) ∧ r.sc 0 = true ∧ scL 0 x.cs = true ∧ scL 0 x'.cs = true := by
  intro f args x r b o h ho
  unfold skB at h
  split at h
  · rename_i s a ty
    split at h
    · rename_i hc
      cases h
      simp only [Nat.beq_eq] at hc
      subst hc
      have h1 : 0 ≤ a := of_decide_eq_true (ho (decide (0 ≤ a), true) (by simp))
      have h2 : s.size ≤ 1099511627776 := Nat.le_of_ble_eq_true (ho (Nat.ble s.size 1099511627776, true) (by simp))
      have key := skipP_ok s h2 a.toNat
      unfold rP at key
      rw [Int.toNat_of_nonneg h1] at key
      exact ⟨key, rfl, rfl, rfl⟩
    · cases h
  · cases h
noncomputable def SPn (l : List (Nat × List (Nat × Bool))) (v : List (Nat × List (Nat × PV))) : Cfg G0 := { F := F, hF := hF, S := fun _ _ => none, hS := (fun _ _ _ _ h => by cases h), B := skB, hB := skB_ok, orc := orcM l, val := valM v }
/-- The next byte that is no blank; 0 at the end. -/
def nxt (s : ByteArray) (a : Nat) : Int := if skp s a < s.size then bt s (skp s a : Int) else 0
theorem nextP_ok (s : ByteArray) (hs : s.size ≤ 1099511627776) (a : Nat) (ha : a ≤ s.size) : PCalls G0 50 [.ptr 0 0] [rP s a] (fun o b' => o = .ret (.int .u8 (nxt s a)) ∧ b' = [rP s (skp s a)]) := by
  refine Fn.enterN Tryd.func50 Tryd.ntmps50 rfl (Nat.le_of_ble_eq_true rfl) fun C fr fp hnt hp hfr hfp => ?_
  have hle := skp_le s a ha
  have s1 : Nat.ble s.size 1099511627776 = true := Nat.ble_eq_true_of_le hs
  rcases Nat.lt_or_ge (skp s a) s.size with hlt | hge
  · have d1 : (((skp s a : Nat) : Int) == ((s.size : Nat) : Int)) = false := beqF (by omega)
    have d2 := in_at hlt
    have e1 : nxt s a = bt s (skp s a : Int) := if_pos hlt
    exact SWP.runQ (SPn [(24, [(14, false), (23, true)])] []) 100 24 hnt [2] (e := .ret) (z := { t := [(2, PV.int IntKind.u8 (bt s (Int.ofNat (skp s (Int.toNat (Int.ofNat a))))))], h := { bx := [{ cs := [PV.str s, PV.int IntKind.i64 (Int.ofNat (skp s (Int.toNat (Int.ofNat a))))], ty := 87 }], rw := [] } }) (o := [(true, true), (Nat.ble (ByteArray.size s) 1099511627776, true), (Int.ofNat (skp s (Int.toNat (Int.ofNat a))) == Int.ofNat (ByteArray.size s), false), (decide (0 ≤ (↑(skp s (Int.toNat (↑a : Int))) : Int) ∧ (↑(skp s (Int.toNat (↑a : Int))) : Int) < (↑(ByteArray.size s) : Int)), true)]) (by kernel_rfl) (by ((repeat' (first | exact okO_nil | refine okN ?_ ?_)); all_goals first | assumption | rfl | exact same_of rfl | exact sameS_self _ | (simp only [decide_eq_true_eq, decide_eq_false_iff_not, Nat.ble_eq, Nat.beq_eq, beq_eq_false_iff_ne, beq_iff_eq, ne_eq] <;> omega))) (fun st hst => hfr st [2] (by
      rw [hst, e1]
      exact ⟨1, _, Nat.le_refl _, Nat.le_refl _, rfl, rfl, rfl, rfl, rfl⟩))
  · have d1 : (((skp s a : Nat) : Int) == ((s.size : Nat) : Int)) = true := beqT (by omega)
    have e1 : nxt s a = 0 := if_neg (by omega)
    exact SWP.runQ (SPn [(24, [(14, true)])] []) 100 24 hnt [2] (e := .ret) (z := { t := [(2, PV.int IntKind.u8 (0 : Int))], h := { bx := [{ cs := [PV.str s, PV.int IntKind.i64 (Int.ofNat (skp s (Int.toNat (Int.ofNat a))))], ty := 87 }], rw := [] } }) (o := [(true, true), (Nat.ble (ByteArray.size s) 1099511627776, true), (Int.ofNat (skp s (Int.toNat (Int.ofNat a))) == Int.ofNat (ByteArray.size s), true)]) (by kernel_rfl) (by ((repeat' (first | exact okO_nil | refine okN ?_ ?_)); all_goals first | assumption | rfl | exact same_of rfl | exact sameS_self _ | (simp only [decide_eq_true_eq, decide_eq_false_iff_not, Nat.ble_eq, Nat.beq_eq, beq_eq_false_iff_ne, beq_iff_eq, ne_eq] <;> omega))) (fun st hst => hfr st [2] (by
      rw [hst, e1]
      exact ⟨1, _, Nat.le_refl _, Nat.le_refl _, rfl, rfl, rfl, rfl, rfl⟩))
end Seat
end Go.Proofs.YtenpjkcclmmlhaaDoor
/- The document's reader: numbers. Printed by dev/rd2.py and dev/nfsub.py (this session's). -/
namespace Go.Proofs.YtenpjkcclmmlhaaDoor
open Go.AS Go.RowKit
set_option linter.unusedVariables false
set_option linter.unusedSimpArgs false
set_option maxRecDepth 100000
set_option maxHeartbeats 4000000
namespace Seat
theorem emp (s : ByteArray) {b : Bool} (h : decide (s.size = 0) = b) : (ByteArray.toList s == []) = b := by
  rw [← h]
  by_cases h : s.size = 0 <;> simp [str_nil, h]
theorem wrapU (x : Int) (h0 : 0 ≤ x) (h : x ≤ 18446744073709551615) : IntKind.wrap IntKind.u64 x = x := by rw [IntKind.wrap_u64]; omega
theorem wrapIU (x : Int) : IntKind.wrap IntKind.i64 (IntKind.wrap IntKind.u64 x) = IntKind.wrap IntKind.i64 x := by rw [IntKind.wrap_u64, IntKind.wrap_i64, IntKind.wrap_i64]; omega
theorem quoF (n c : Nat) (hc : c ≤ 9) : IntKind.wrap IntKind.u64 (Int.tdiv (IntKind.wrap IntKind.u64 (9223372036854775808 - (c : Int))) 10) < (n : Int) ↔ 9223372036854775808 < 10 * n + c := by
  rw [wrapU (9223372036854775808 - (c : Int)) (by omega) (by omega), Int.tdiv_eq_ediv_of_nonneg (by omega), wrapU _ (by omega) (by omega)]
  omega
theorem decN (n : Nat) : decide ((n : Int) < 9223372036854775808) = decide (n < 9223372036854775808) := decide_eq_decide.2 (by omega)
theorem number_ok (w : ByteArray) (hw : w.size ≤ 1099511627776) : Pure G0 91 [.str w] (fun r => r = .tup [.int .i64 (numV w).1, .bool (numV w).2]) := by
  refine Fn.enterB Tryd.func91 Tryd.ntmps91 rfl (Nat.le_of_ble_eq_true rfl) fun C fr fp hnt hnb hp hfr hfp => ?_
  have fin : ∀ st p, p = numV w → nrm [2, 3] st = ⟨[(2, .int .i64 p.1), (3, .bool p.2)], ⟨[], []⟩⟩ → fr st := fun st p h hst => hfr st [2, 3] (by
    rw [hst, h]
    exact ⟨0, .tup [.int .i64 (numV w).1, .bool (numV w).2], Nat.le_refl _, Nat.zero_le _, rfl, rfl, rfl, rfl, _, rfl, rfl⟩)
  refine Q.runSeq (SRk [] []) 100 74 hnt [0, 2, 3] (z := { t := [(0, PV.str w), (2, PV.int IntKind.i64 (0 : Int)), (3, PV.bool false)], h := { bx := [], rw := [] } }) (o := []) (by kernel_rfl) (by ((repeat' (first | exact okO_nil | refine okN ?_ ?_)); all_goals first | assumption | rfl | exact same_of rfl | exact sameS_self _ | (simp only [decide_eq_true_eq, decide_eq_false_iff_not, Nat.ble_eq, Nat.beq_eq, beq_eq_false_iff_ne, beq_iff_eq, ne_eq] <;> omega))) ?_
  refine Q.runSeq (SRk [] []) 100 74 hnt [4, 5] (z := { t := [(4, PV.str w), (5, PV.bool false)], h := { bx := [], rw := [] } }) (o := []) (by kernel_rfl) (by ((repeat' (first | exact okO_nil | refine okN ?_ ?_)); all_goals first | assumption | rfl | exact same_of rfl | exact sameS_self _ | (simp only [decide_eq_true_eq, decide_eq_false_iff_not, Nat.ble_eq, Nat.beq_eq, beq_eq_false_iff_ne, beq_iff_eq, ne_eq] <;> omega))) ?_
  refine Q.seq fun K hK => ?_
  have rest : ∀ st (t : ByteArray) (b : Bool), numT t b = numV w → t.size ≤ 1099511627776 → nrm [4, 5] st = ⟨[(4, .str t), (5, .bool b)], ⟨[], []⟩⟩ → K st := fun st t b hv ht hst => hK st (.norm [4, 5] (by
    rw [hst]
    clear hst hK
    have u1 : ∀ {x : Bool}, decide (t.size = 0) = x → (ByteArray.toList t == []) = x := emp t
    by_cases h0 : t.size = 0
    · have c1 := u1 (decide_eq_true h0)
      refine Q.seq fun K2 hK2 => ?_
      exact SWP.runQ (SRk [(74, [(20, true)])] []) 100 74 hnt [2, 3] (e := .ret) (z := { t := [(2, PV.int IntKind.i64 (0 : Int)), (3, PV.bool false)], h := { bx := [], rw := [] } }) (o := [(ByteArray.toList t == [], true)]) (by kernel_rfl) (by ((repeat' (first | exact okO_nil | refine okN ?_ ?_)); all_goals first | assumption | rfl | exact same_of rfl | exact sameS_self _ | (simp only [decide_eq_true_eq, decide_eq_false_iff_not, Nat.ble_eq, Nat.beq_eq, beq_eq_false_iff_ne, beq_iff_eq, ne_eq] <;> omega))) (fun st hst => fin st (0, false) (by rw [← hv, numT, if_pos (.inl h0)]) hst)
    have c1 := u1 (decide_eq_false h0)
    have c2 : decide ((0 : Int) ≤ 0 ∧ (0 : Int) < (t.size : Int)) = true := by rw [decide_eq_true_eq]; omega
    refine Q.seq fun K2 hK2 => ?_
    have rest2 : ∀ st, ¬ (t.size = 0 ∨ (bt t 0 = 48 ∧ (1 < t.size ∨ b = true))) → nrm [4, 5] st = ⟨[(4, .str t), (5, .bool b)], ⟨[], []⟩⟩ → K2 st := fun st hn hst => hK2 st (.norm [4, 5] (by
      rw [hst]
      clear hst hK2
      rw [numT, if_neg hn] at hv
      refine Q.runSeq (SRk [] []) 100 74 hnt [4, 5, 6] (z := { t := [(4, PV.str t), (5, PV.bool b), (6, PV.int IntKind.u64 (0 : Int))], h := { bx := [], rw := [] } }) (o := []) (by kernel_rfl) (by ((repeat' (first | exact okO_nil | refine okN ?_ ?_)); all_goals first | assumption | rfl | exact same_of rfl | exact sameS_self _ | (simp only [decide_eq_true_eq, decide_eq_false_iff_not, Nat.ble_eq, Nat.beq_eq, beq_eq_false_iff_ne, beq_iff_eq, ne_eq] <;> omega))) ?_
      refine Q.seq fun K3 hK3 => ?_
      refine Q.runSeq (SRk [] []) 100 74 hnt [4, 5, 6, 7] (z := { t := [(4, PV.str t), (5, PV.bool b), (6, PV.int IntKind.u64 (0 : Int)), (7, PV.int IntKind.i64 (0 : Int))], h := { bx := [], rw := [] } }) (o := []) (by kernel_rfl) (by ((repeat' (first | exact okO_nil | refine okN ?_ ?_)); all_goals first | assumption | rfl | exact same_of rfl | exact sameS_self _ | (simp only [decide_eq_true_eq, decide_eq_false_iff_not, Nat.ble_eq, Nat.beq_eq, beq_eq_false_iff_ne, beq_iff_eq, ne_eq] <;> omega))) ?_
      refine Q.block ?_
      let T (i n : Nat) : AS := ⟨[(4, .str t), (5, .bool b), (6, .int .u64 n), (7, .int .i64 i)], ⟨[], []⟩⟩
      refine Q.loopI (σ := { x : Nat × Nat // x.1 ≤ t.size ∧ x.2 ≤ 9223372036854775808 ∧ numK t (t.size - x.1) x.1 x.2 = numK t t.size 0 0 }) [4, 5, 6, 7] (fun x => T x.1.1 x.1.2) (fun x => t.size - x.1.1) ⟨(0, 0), Nat.zero_le _, Nat.zero_le _, rfl⟩ rfl fun ⟨(i, n), hi, hn, hk⟩ => ?_
      show SWP G0 C _ _ ⟨[(4, .str t), (5, .bool b), (6, .int .u64 n), (7, .int .i64 i)], ⟨[], []⟩⟩
      have hi : i ≤ t.size := hi
      have hn : n ≤ 9223372036854775808 := hn
      have hk : numK t (t.size - i) i n = numK t t.size 0 0 := hk
      rcases Nat.lt_or_ge i t.size with hlt | hge
      · have d1 := lt_at hlt
        have d2 := in_at hlt
        obtain ⟨m, hm⟩ : ∃ m, t.size - i = m + 1 := ⟨t.size - i - 1, by omega⟩
        rw [hm, numK] at hk
        have bad : ¬ (48 ≤ bt t (i : Int) ∧ bt t (i : Int) ≤ 57 ∧ 10 * n + (bt t (i : Int) - 48).toNat ≤ 9223372036854775808) → (0, false) = numV w := fun h => by
          rw [if_neg h] at hk
          rw [← hk] at hv
          exact hv
        by_cases hl : bt t (i : Int) < 48
        · have d3 : decide (bt t (i : Int) < 48) = true := decide_eq_true hl
          exact SWP.runQ (SRk [(74, [(37, true), (42, true), (47, true), (48, true)])] []) 100 74 hnt [2, 3] (e := .ret) (z := { t := [(2, PV.int IntKind.i64 (0 : Int)), (3, PV.bool false)], h := { bx := [], rw := [] } }) (o := [(decide ((↑i : Int) < (↑(ByteArray.size t) : Int)), true), (true, true), (decide (0 ≤ (↑i : Int) ∧ (↑i : Int) < (↑(ByteArray.size t) : Int)), true), (decide (0 ≤ (↑i : Int) ∧ (↑i : Int) < (↑(ByteArray.size t) : Int)), true), (decide (bt t (↑i : Int) < 48), true)]) (by kernel_rfl) (by ((repeat' (first | exact okO_nil | refine okN ?_ ?_)); all_goals first | assumption | rfl | exact same_of rfl | exact sameS_self _ | (simp only [decide_eq_true_eq, decide_eq_false_iff_not, Nat.ble_eq, Nat.beq_eq, beq_eq_false_iff_ne, beq_iff_eq, ne_eq] <;> omega))) (fun st hst => fin st (0, false) (bad (by omega)) hst)
        have d3 : decide (bt t (i : Int) < 48) = false := decide_eq_false hl
        by_cases hg : 57 < bt t (i : Int)
        · have d4 : decide (57 < bt t (i : Int)) = true := decide_eq_true hg
          exact SWP.runQ (SRk [(74, [(37, true), (42, true), (47, true), (48, false), (52, true), (53, true)])] []) 100 74 hnt [2, 3] (e := .ret) (z := { t := [(2, PV.int IntKind.i64 (0 : Int)), (3, PV.bool false)], h := { bx := [], rw := [] } }) (o := [(decide ((↑i : Int) < (↑(ByteArray.size t) : Int)), true), (true, true), (decide (0 ≤ (↑i : Int) ∧ (↑i : Int) < (↑(ByteArray.size t) : Int)), true), (decide (0 ≤ (↑i : Int) ∧ (↑i : Int) < (↑(ByteArray.size t) : Int)), true), (decide (bt t (↑i : Int) < 48), false), (decide (0 ≤ (↑i : Int) ∧ (↑i : Int) < (↑(ByteArray.size t) : Int)), true), (decide (57 < bt t (↑i : Int)), true)]) (by kernel_rfl) (by ((repeat' (first | exact okO_nil | refine okN ?_ ?_)); all_goals first | assumption | rfl | exact same_of rfl | exact sameS_self _ | (simp only [decide_eq_true_eq, decide_eq_false_iff_not, Nat.ble_eq, Nat.beq_eq, beq_eq_false_iff_ne, beq_iff_eq, ne_eq] <;> omega))) (fun st hst => fin st (0, false) (bad (by omega)) hst)
        have d4 : decide (57 < bt t (i : Int)) = false := decide_eq_false hg
        obtain ⟨c, hc⟩ : ∃ c : Nat, bt t (i : Int) = ((48 + c : Nat) : Int) := ⟨(bt t (i : Int) - 48).toNat, by omega⟩
        have hc9 : c ≤ 9 := by omega
        have hcc : bt t (i : Int) - 48 = (c : Int) := by omega
        have d5 : same (PV.int IntKind.u64 (IntKind.wrap IntKind.u64 (IntKind.wrap IntKind.u64 (bt t (Int.ofNat i)) - (48 : Int)))) (PV.int IntKind.u64 (bt t (Int.ofNat i) - (48 : Int))) = true := same_of (congrArg (PV.int .u64) (by
          show IntKind.wrap IntKind.u64 (IntKind.wrap IntKind.u64 (bt t (i : Int)) - (48 : Int)) = bt t (i : Int) - 48
          rw [wrapU (bt t (i : Int)) (by omega) (by omega), wrapU _ (by omega) (by omega)]))
        have hq := quoF n c hc9
        rw [← hcc] at hq
        by_cases ho : 9223372036854775808 < 10 * n + c
        · have d6 : decide (IntKind.wrap IntKind.u64 (Int.tdiv (IntKind.wrap IntKind.u64 (9223372036854775808 - (bt t (i : Int) - 48))) 10) < (n : Int)) = true := decide_eq_true (hq.2 ho)
          exact SWP.runQ (SRk [(74, [(37, true), (42, true), (47, true), (48, false), (52, true), (53, false), (60, true)])] [(74, [(44, .int .u64 (bt t (i : Nat) - 48))])]) 100 74 hnt [2, 3] (e := .ret) (z := { t := [(2, PV.int IntKind.i64 (0 : Int)), (3, PV.bool false)], h := { bx := [], rw := [] } }) (o := [(decide ((↑i : Int) < (↑(ByteArray.size t) : Int)), true), (true, true), (decide (0 ≤ (↑i : Int) ∧ (↑i : Int) < (↑(ByteArray.size t) : Int)), true), (same (PV.int IntKind.u64 (IntKind.wrap IntKind.u64 (IntKind.wrap IntKind.u64 (bt t (Int.ofNat i)) - (48 : Int)))) (PV.int IntKind.u64 (bt t (Int.ofNat i) - (48 : Int))), true), (decide (0 ≤ (↑i : Int) ∧ (↑i : Int) < (↑(ByteArray.size t) : Int)), true), (decide (bt t (↑i : Int) < 48), false), (decide (0 ≤ (↑i : Int) ∧ (↑i : Int) < (↑(ByteArray.size t) : Int)), true), (decide (57 < bt t (↑i : Int)), false), (decide (IntKind.wrap IntKind.u64 (Int.tdiv (IntKind.wrap IntKind.u64 (9223372036854775808 - (bt t (↑i : Int) - 48))) 10) < (↑n : Int)), true)]) (by kernel_rfl) (by ((repeat' (first | exact okO_nil | refine okN ?_ ?_)); all_goals first | assumption | rfl | exact same_of rfl | exact sameS_self _ | (simp only [decide_eq_true_eq, decide_eq_false_iff_not, Nat.ble_eq, Nat.beq_eq, beq_eq_false_iff_ne, beq_iff_eq, ne_eq] <;> omega))) (fun st hst => fin st (0, false) (bad (by omega)) hst)
        · have d6 : decide (IntKind.wrap IntKind.u64 (Int.tdiv (IntKind.wrap IntKind.u64 (9223372036854775808 - (bt t (i : Int) - 48))) 10) < (n : Int)) = false := decide_eq_false (fun h => ho (hq.1 h))
          have w1 : IntKind.wrap IntKind.u64 (Int.ofNat (10 * n % 18446744073709551616) + (bt t (Int.ofNat i) - (48 : Int))) = ((10 * n + c : Nat) : Int) := by
            show IntKind.wrap IntKind.u64 (((10 * n % 18446744073709551616 : Nat) : Int) + (bt t (i : Int) - (48 : Int))) = _
            rw [hcc, wrapU _ (by omega) (by omega)]; omega
          have w2 : IntKind.wrap IntKind.i64 (Int.ofNat (i + 1)) = ((i + 1 : Nat) : Int) := wrapI (i + 1) (by omega)
          rw [if_pos ⟨by omega, by omega, by omega⟩, show (bt t (i : Int) - 48).toNat = c by omega] at hk
          exact SWP.runQ (SRk [(74, [(37, true), (42, true), (47, true), (48, false), (52, true), (53, false), (60, false)])] [(74, [(44, .int .u64 (bt t (i : Nat) - 48))])]) 100 74 hnt [4, 5, 6, 7] (e := .normal) (z := { t := [(4, PV.str t), (5, PV.bool b), (6, PV.int IntKind.u64 (IntKind.wrap IntKind.u64 (Int.ofNat (10 * n % 18446744073709551616) + (bt t (Int.ofNat i) - (48 : Int))))), (7, PV.int IntKind.i64 (IntKind.wrap IntKind.i64 (Int.ofNat (i + 1))))], h := { bx := [], rw := [] } }) (o := [(decide ((↑i : Int) < (↑(ByteArray.size t) : Int)), true), (true, true), (decide (0 ≤ (↑i : Int) ∧ (↑i : Int) < (↑(ByteArray.size t) : Int)), true), (same (PV.int IntKind.u64 (IntKind.wrap IntKind.u64 (IntKind.wrap IntKind.u64 (bt t (Int.ofNat i)) - (48 : Int)))) (PV.int IntKind.u64 (bt t (Int.ofNat i) - (48 : Int))), true), (decide (0 ≤ (↑i : Int) ∧ (↑i : Int) < (↑(ByteArray.size t) : Int)), true), (decide (bt t (↑i : Int) < 48), false), (decide (0 ≤ (↑i : Int) ∧ (↑i : Int) < (↑(ByteArray.size t) : Int)), true), (decide (57 < bt t (↑i : Int)), false), (decide (IntKind.wrap IntKind.u64 (Int.tdiv (IntKind.wrap IntKind.u64 (9223372036854775808 - (bt t (↑i : Int) - 48))) 10) < (↑n : Int)), false)]) (by kernel_rfl) (by ((repeat' (first | exact okO_nil | refine okN ?_ ?_)); all_goals first | assumption | rfl | exact same_of rfl | exact sameS_self _ | (simp only [decide_eq_true_eq, decide_eq_false_iff_not, Nat.ble_eq, Nat.beq_eq, beq_eq_false_iff_ne, beq_iff_eq, ne_eq] <;> omega))) (fun st hst => ⟨⟨(i + 1, 10 * n + c), hlt, by show 10 * n + c ≤ _; omega, by show numK t (t.size - (i + 1)) (i + 1) (10 * n + c) = _; rw [show t.size - (i + 1) = m by omega]; exact hk⟩, Nat.sub_lt_sub_left hlt (Nat.lt_succ_self i), by rw [hst, w1, w2]⟩)
      · have d1 := ge_at hge
        rw [show t.size - i = 0 by omega, numK] at hk
        refine SWP.runQ (SRk [(74, [(37, false)])] []) 100 74 hnt [4, 5, 6] (e := .exit 0) (z := { t := [(4, PV.str t), (5, PV.bool b), (6, PV.int IntKind.u64 (Int.ofNat n))], h := { bx := [], rw := [] } }) (o := [(decide ((↑i : Int) < (↑(ByteArray.size t) : Int)), false), (false, false)]) (by kernel_rfl) (by ((repeat' (first | exact okO_nil | refine okN ?_ ?_)); all_goals first | assumption | rfl | exact same_of rfl | exact sameS_self _ | (simp only [decide_eq_true_eq, decide_eq_false_iff_not, Nat.ble_eq, Nat.beq_eq, beq_eq_false_iff_ne, beq_iff_eq, ne_eq] <;> omega))) (fun st hst => hK3 st (.norm [4, 5, 6] ?_))
        rw [hst]
        rw [← hk] at hv
        simp only [] at hv
        cases b with
        | true =>
          exact SWP.runQ (SRk [] []) 100 74 hnt [2, 3] (e := .ret) (z := { t := [(2, PV.int IntKind.i64 (IntKind.wrap IntKind.i64 (IntKind.wrap IntKind.u64 ((0 : Int) - Int.ofNat n)))), (3, PV.bool true)], h := { bx := [], rw := [] } }) (o := []) (by kernel_rfl) (by ((repeat' (first | exact okO_nil | refine okN ?_ ?_)); all_goals first | assumption | rfl | exact same_of rfl | exact sameS_self _ | (simp only [decide_eq_true_eq, decide_eq_false_iff_not, Nat.ble_eq, Nat.beq_eq, beq_eq_false_iff_ne, beq_iff_eq, ne_eq] <;> omega))) (fun st hst => fin st _ hv (by rw [hst, wrapIU, Int.zero_sub]; rfl))
        | false =>
          exact SWP.runQ (SRk [] []) 100 74 hnt [2, 3] (e := .ret) (z := { t := [(2, PV.int IntKind.i64 (IntKind.wrap IntKind.i64 (Int.ofNat n))), (3, PV.bool (decide ((↑n : Int) < 9223372036854775808)))], h := { bx := [], rw := [] } }) (o := []) (by kernel_rfl) (by ((repeat' (first | exact okO_nil | refine okN ?_ ?_)); all_goals first | assumption | rfl | exact same_of rfl | exact sameS_self _ | (simp only [decide_eq_true_eq, decide_eq_false_iff_not, Nat.ble_eq, Nat.beq_eq, beq_eq_false_iff_ne, beq_iff_eq, ne_eq] <;> omega))) (fun st hst => fin st _ hv (by rw [hst, decN]; rfl))))
    by_cases h48 : bt t 0 = 48
    · have c3 := beqT h48
      by_cases h1 : 1 < t.size
      · have c4 : decide ((1 : Int) < (t.size : Int)) = true := by rw [decide_eq_true_eq]; omega
        exact SWP.runQ (SRk [(74, [(20, false), (23, true), (24, true), (28, true)])] []) 100 74 hnt [2, 3] (e := .ret) (z := { t := [(2, PV.int IntKind.i64 (0 : Int)), (3, PV.bool false)], h := { bx := [], rw := [] } }) (o := [(ByteArray.toList t == [], false), (decide ((0 : Int) ≤ 0 ∧ 0 < (↑(ByteArray.size t) : Int)), true), (bt t (0 : Int) == (48 : Int), true), (decide (1 < (↑(ByteArray.size t) : Int)), true)]) (by kernel_rfl) (by ((repeat' (first | exact okO_nil | refine okN ?_ ?_)); all_goals first | assumption | rfl | exact same_of rfl | exact sameS_self _ | (simp only [decide_eq_true_eq, decide_eq_false_iff_not, Nat.ble_eq, Nat.beq_eq, beq_eq_false_iff_ne, beq_iff_eq, ne_eq] <;> omega))) (fun st hst => fin st (0, false) (by rw [← hv, numT, if_pos (.inr ⟨h48, .inl h1⟩)]) hst)
      · have c4 : decide ((1 : Int) < (t.size : Int)) = false := by rw [decide_eq_false_iff_not]; omega
        cases b with
        | true => exact SWP.runQ (SRk [(74, [(20, false), (23, true), (24, true), (28, false)])] []) 100 74 hnt [2, 3] (e := .ret) (z := { t := [(2, PV.int IntKind.i64 (0 : Int)), (3, PV.bool false)], h := { bx := [], rw := [] } }) (o := [(ByteArray.toList t == [], false), (decide ((0 : Int) ≤ 0 ∧ 0 < (↑(ByteArray.size t) : Int)), true), (bt t (0 : Int) == (48 : Int), true), (decide (1 < (↑(ByteArray.size t) : Int)), false)]) (by kernel_rfl) (by ((repeat' (first | exact okO_nil | refine okN ?_ ?_)); all_goals first | assumption | rfl | exact same_of rfl | exact sameS_self _ | (simp only [decide_eq_true_eq, decide_eq_false_iff_not, Nat.ble_eq, Nat.beq_eq, beq_eq_false_iff_ne, beq_iff_eq, ne_eq] <;> omega))) (fun st hst => fin st (0, false) (by rw [← hv, numT, if_pos (.inr ⟨h48, .inr rfl⟩)]) hst)
        | false => exact SWP.runQ (SRk [(74, [(20, false), (23, true), (24, true), (28, false)])] []) 100 74 hnt [4, 5] (e := .normal) (z := { t := [(4, PV.str t), (5, PV.bool false)], h := { bx := [], rw := [] } }) (o := [(ByteArray.toList t == [], false), (decide ((0 : Int) ≤ 0 ∧ 0 < (↑(ByteArray.size t) : Int)), true), (bt t (0 : Int) == (48 : Int), true), (decide (1 < (↑(ByteArray.size t) : Int)), false)]) (by kernel_rfl) (by ((repeat' (first | exact okO_nil | refine okN ?_ ?_)); all_goals first | assumption | rfl | exact same_of rfl | exact sameS_self _ | (simp only [decide_eq_true_eq, decide_eq_false_iff_not, Nat.ble_eq, Nat.beq_eq, beq_eq_false_iff_ne, beq_iff_eq, ne_eq] <;> omega))) (fun st hst => rest2 st (fun h => by rcases h with h | ⟨_, h | h⟩; exact h0 h; exact h1 h; cases h) hst)
    · have c3 := beqF h48
      exact SWP.runQ (SRk [(74, [(20, false), (23, true), (24, false)])] []) 100 74 hnt [4, 5] (e := .normal) (z := { t := [(4, PV.str t), (5, PV.bool b)], h := { bx := [], rw := [] } }) (o := [(ByteArray.toList t == [], false), (decide ((0 : Int) ≤ 0 ∧ 0 < (↑(ByteArray.size t) : Int)), true), (bt t (0 : Int) == (48 : Int), false)]) (by kernel_rfl) (by ((repeat' (first | exact okO_nil | refine okN ?_ ?_)); all_goals first | assumption | rfl | exact same_of rfl | exact sameS_self _ | (simp only [decide_eq_true_eq, decide_eq_false_iff_not, Nat.ble_eq, Nat.beq_eq, beq_eq_false_iff_ne, beq_iff_eq, ne_eq] <;> omega))) (fun st hst => rest2 st (fun h => by rcases h with h | h; exact h0 h; exact h48 h.1) hst)))
  by_cases h0 : w.size = 0
  · have c1 : (!ByteArray.toList w == []) = false := by rw [emp w (decide_eq_true h0)]; rfl
    exact SWP.runQ (SRk [(74, [(11, false)])] []) 100 74 hnt [4, 5] (e := .normal) (z := { t := [(4, PV.str w), (5, PV.bool false)], h := { bx := [], rw := [] } }) (o := [(!ByteArray.toList w == [], false)]) (by kernel_rfl) (by ((repeat' (first | exact okO_nil | refine okN ?_ ?_)); all_goals first | assumption | rfl | exact same_of rfl | exact sameS_self _ | (simp only [decide_eq_true_eq, decide_eq_false_iff_not, Nat.ble_eq, Nat.beq_eq, beq_eq_false_iff_ne, beq_iff_eq, ne_eq] <;> omega))) (fun st hst => rest st w false (by rw [numV, if_neg (by simp [numB, h0])]) hw hst)
  have c1 : (!ByteArray.toList w == []) = true := by rw [emp w (decide_eq_false h0)]; rfl
  have c2 : decide ((0 : Int) ≤ 0 ∧ (0 : Int) < (w.size : Int)) = true := by rw [decide_eq_true_eq]; omega
  by_cases h45 : bt w 0 = 45
  · have c3 := beqT h45
    have c4 : decide ((0 : Int) ≤ 1 ∧ (1 : Int) ≤ (w.size : Int) ∧ (w.size : Int) ≤ (w.size : Int)) = true := by rw [decide_eq_true_eq]; omega
    exact SWP.runQ (SRk [(74, [(11, true), (14, true), (15, true), (18, true)])] []) 100 74 hnt [4, 5] (e := .normal) (z := { t := [(4, PV.str (ByteArray.extract w 1 (Int.toNat (Int.ofNat (ByteArray.size w))))), (5, PV.bool true)], h := { bx := [], rw := [] } }) (o := [(!ByteArray.toList w == [], true), (decide ((0 : Int) ≤ 0 ∧ 0 < (↑(ByteArray.size w) : Int)), true), (bt w (0 : Int) == (45 : Int), true), (decide ((0 : Int) ≤ 1 ∧ 1 ≤ (↑(ByteArray.size w) : Int) ∧ (↑(ByteArray.size w) : Int) ≤ (↑(ByteArray.size w) : Int)), true)]) (by kernel_rfl) (by ((repeat' (first | exact okO_nil | refine okN ?_ ?_)); all_goals first | assumption | rfl | exact same_of rfl | exact sameS_self _ | (simp only [decide_eq_true_eq, decide_eq_false_iff_not, Nat.ble_eq, Nat.beq_eq, beq_eq_false_iff_ne, beq_iff_eq, ne_eq] <;> omega))) (fun st hst => rest st (w.extract 1 w.size) true (by rw [numV, if_pos (by rw [numB, decide_eq_true_eq]; exact ⟨by omega, h45⟩)]) (by rw [ByteArray.size_extract]; omega) hst)
  · have c3 := beqF h45
    exact SWP.runQ (SRk [(74, [(11, true), (14, true), (15, false)])] []) 100 74 hnt [4, 5] (e := .normal) (z := { t := [(4, PV.str w), (5, PV.bool false)], h := { bx := [], rw := [] } }) (o := [(!ByteArray.toList w == [], true), (decide ((0 : Int) ≤ 0 ∧ 0 < (↑(ByteArray.size w) : Int)), true), (bt w (0 : Int) == (45 : Int), false)]) (by kernel_rfl) (by ((repeat' (first | exact okO_nil | refine okN ?_ ?_)); all_goals first | assumption | rfl | exact same_of rfl | exact sameS_self _ | (simp only [decide_eq_true_eq, decide_eq_false_iff_not, Nat.ble_eq, Nat.beq_eq, beq_eq_false_iff_ne, beq_iff_eq, ne_eq] <;> omega))) (fun st hst => rest st w false (by rw [numV, if_neg (by rw [numB, decide_eq_true_eq]; exact fun h => h45 h.2)]) hw hst)
end Seat
end Go.Proofs.YtenpjkcclmmlhaaDoor
/- The document's reader: atoms. Printed by dev/rd3.py and dev/nfsub.py (this session's). -/
namespace Go.Proofs.YtenpjkcclmmlhaaDoor
open Go.AS Go.RowKit
set_option linter.unusedVariables false
set_option linter.unusedSimpArgs false
set_option maxRecDepth 100000
set_option maxHeartbeats 4000000
namespace Seat
def nZ : Box := ⟨[.int .i64 0, .int .i64 0, .str ⟨#[]⟩, .nil, .int .i64 0], 69⟩
noncomputable def atS (f : Nat) (args : List PV) : Option (PV × Ob) := match f, args with
  | 56, [.int .u8 c] => some (.bool (letC c), [(decide (0 ≤ c ∧ c < 256), true)])
  | 91, [.str w] => some (.tup [.int .i64 (numV w).1, .bool (numV w).2], [(Nat.ble w.size 1099511627776, true)])
  | 65, [.str w] => some (.bool (symOk w), [])
  | _, _ => none
theorem atS_ok (f : Nat) (args : List PV) (r : PV) (o : Ob) (h : atS f args = some (r, o)) (ho : ∀ p ∈ o, p.1 = p.2) (_ : pureL args = true) : Pure G0 f args (fun x => x = r) := by
  unfold atS at h
  split at h
  · cases h; exact letter_ok _ (of_decide_eq_true (ho _ (List.mem_singleton.2 rfl)))
  · cases h; exact number_ok _ (Nat.le_of_ble_eq_true (ho _ (List.mem_singleton.2 rfl)))
  · cases h; exact symbol_ok _
  · cases h
noncomputable def SAt (l : List (Nat × List (Nat × Bool))) (v : List (Nat × List (Nat × PV))) : Cfg G0 := { F := F, hF := hF, S := atS, hS := atS_ok, orc := orcM l, val := valM v }
theorem VRep.nil1 {E : Env} {w : World} {a b c d : PV} {v : Value} (h : VRep E w (.agg [a, b, c, .nil, d]) v) : VRep E w (.agg [a, b, c, .slice 0 [], d]) v := by
  obtain ⟨vs, rfl, g⟩ := h.agg_inv
  obtain ⟨v1, vs, rfl, h1, g⟩ := g.cons_inv
  obtain ⟨v2, vs, rfl, h2, g⟩ := g.cons_inv
  obtain ⟨v3, vs, rfl, h3, g⟩ := g.cons_inv
  obtain ⟨v4, vs, rfl, h4, g⟩ := g.cons_inv
  obtain ⟨v5, vs, rfl, h6, g⟩ := g.cons_inv
  obtain rfl := g.nil_inv
  have h5 := h4.nil_slice
  exact .agg rfl fun j x v hx hv => by
    match j, hx, hv with
    | 0, hx, hv => cases hx; cases hv; exact h1
    | 1, hx, hv => cases hx; cases hv; exact h2
    | 2, hx, hv => cases hx; cases hv; exact h3
    | 3, hx, hv => cases hx; cases hv; exact h5
    | 4, hx, hv => cases hx; cases hv; exact h6
    | j + 5, hx, hv => cases hx
theorem PCalls.weak {G : Prg} {f : FuncId} {args : List PV} {bx B : List Box} {r r' : PV} (hw : ∀ E w v, VRep E w r v → VRep E w r' v) (h : PCalls G f args bx (fun o b => o = .ret r ∧ b = B)) : PCalls G f args bx (fun o b => o = .ret r' ∧ b = B) := fun E w vs hh hv =>
  (h E w vs hh hv).mono fun e w' ⟨o, bx', E', ⟨ho, hb⟩, hout, hrest⟩ => by
    subst ho
    obtain ⟨v, rfl, hv⟩ := hout
    exact ⟨.ret r', bx', E', ⟨rfl, hb⟩, ⟨v, rfl, hw _ _ _ hv⟩, hrest⟩
/-- A node's cells, its list none where it is empty. -/
def Nd.cells0 : Nd → List PV
  | .mk k n t ks a => [.int .i64 k, .int .i64 n, .str t, match ks with | .nil => .nil | .cons .. => .slice ks.len ks.cells, .int .i64 a]
theorem Nd.cells0_rep (d : Nd) {E : Env} {w : World} {v : Value} (h : VRep E w (.agg d.cells0) v) : VRep E w (.agg d.cells) v := by
  obtain ⟨k, n, t, ks, a⟩ := d
  cases ks with
  | nil => exact VRep.nil1 h
  | cons x xs => exact h
theorem atom_ok0 (s : ByteArray) (hs : s.size ≤ 1099511627776) (a : Nat) (ha : a ≤ s.size) : PCalls G0 79 [.ptr 0 0] [rB s a 0 0] (fun o b => o = .ret (.agg (atomR s a).1.cells0) ∧ b = [rB s (atomR s a).2.a (atomR s a).2.e (atomR s a).2.b]) := by
  refine Fn.enterN Tryd.func79 Tryd.ntmps79 rfl (Nat.le_of_ble_eq_true rfl) fun C fr fp hnt hp hfr hfp => ?_
  have fin : ∀ st d y e b, atomR s a = (d, ⟨y, e, b⟩) → nrm [2] st = ⟨[(2, .ptr 1 0)], ⟨[rB s y e b, ⟨d.cells0, 69⟩], []⟩⟩ → fr st := fun st d y e b h hst => hfr st [2] (by
    rw [hst, h]
    obtain ⟨k, n, t, ks, q⟩ := d
    cases ks <;> exact ⟨1, _, Nat.le_refl _, Nat.le_of_ble_eq_true rfl, rfl, rfl, rfl, rfl, rfl⟩)
  refine Q.runSeq (SAt [] []) 100 68 hnt [0, 2] (z := { t := [(0, PV.ptr 0 0), (2, PV.ptr 1 0)], h := { bx := [{ cs := [PV.str s, PV.int IntKind.i64 (Int.ofNat a), PV.int IntKind.i64 (0 : Int), PV.int IntKind.i64 (0 : Int)], ty := 97 }, { cs := [PV.int IntKind.i64 (0 : Int), PV.int IntKind.i64 (0 : Int), PV.str { data := #[] }, PV.nil, PV.int IntKind.i64 (0 : Int)], ty := 69 }], rw := [] } }) (o := []) (by kernel_rfl) (by ((repeat' (first | exact okO_nil | refine okN ?_ ?_)); all_goals first | assumption | rfl | exact same_of rfl | exact sameS_self _ | (simp only [decide_eq_true_eq, decide_eq_false_iff_not, Nat.ble_eq, Nat.beq_eq, beq_eq_false_iff_ne, beq_iff_eq, ne_eq] <;> omega))) ?_
  refine Q.runSeq (SAt [] []) 100 68 hnt [0, 2, 3] (z := { t := [(0, PV.ptr 0 0), (2, PV.ptr 1 0), (3, PV.int IntKind.i64 (Int.ofNat a))], h := { bx := [{ cs := [PV.str s, PV.int IntKind.i64 (Int.ofNat a), PV.int IntKind.i64 (0 : Int), PV.int IntKind.i64 (0 : Int)], ty := 97 }, { cs := [PV.int IntKind.i64 (0 : Int), PV.int IntKind.i64 (0 : Int), PV.str { data := #[] }, PV.nil, PV.int IntKind.i64 (0 : Int)], ty := 69 }], rw := [] } }) (o := []) (by kernel_rfl) (by ((repeat' (first | exact okO_nil | refine okN ?_ ?_)); all_goals first | assumption | rfl | exact same_of rfl | exact sameS_self _ | (simp only [decide_eq_true_eq, decide_eq_false_iff_not, Nat.ble_eq, Nat.beq_eq, beq_eq_false_iff_ne, beq_iff_eq, ne_eq] <;> omega))) ?_
  refine Q.seq fun K hK => ?_
  have rest : ∀ st x, letE s a = x → nrm [0, 2, 3] st = ⟨[(0, .ptr 0 0), (2, .ptr 1 0), (3, .int .i64 a)], ⟨[rB s x 0 0, nZ], []⟩⟩ → K st := fun st x hx hst => hK st (.norm [0, 2, 3] (by
    rw [hst]
    clear hst hK
    have h1 := letE_ge s a
    have h2 := letE_le s a ha
    obtain ⟨w, hw⟩ : ∃ w, w = s.extract a (letE s a) := ⟨_, rfl⟩
    have hat : atomR s a = if (numV w).2 = true then (.mk 1 (numV w).1 ⟨#[]⟩ .nil a, ⟨x, 0, 0⟩) else if symOk w = true then (.mk 2 0 w .nil a, ⟨x, 0, 0⟩) else (.zero, ⟨x, 4, a⟩) := by
      rw [hw, ← hx]; rfl
    have c0 : decide ((0 : Int) ≤ (a : Int) ∧ (a : Int) ≤ (x : Int) ∧ (x : Int) ≤ (s.size : Int)) = true := by rw [decide_eq_true_eq]; omega
    have c1 : same (PV.str (ByteArray.extract s (Int.toNat (Int.ofNat a)) (Int.toNat (Int.ofNat x)))) (PV.str w) = true := same_of (by rw [hw, hx]; rfl)
    have c2 : Nat.ble (ByteArray.size w) 1099511627776 = true := by rw [Nat.ble_eq, hw, ByteArray.size_extract]; omega
    refine Q.runSeq (SAt [(68, [(49, true)])] [(68, [(49, .str w)])]) 100 68 hnt [0, 2, 3, 4] (z := { t := [(0, PV.ptr 0 0), (2, PV.ptr 1 0), (3, PV.int IntKind.i64 (Int.ofNat a)), (4, PV.str w)], h := { bx := [{ cs := [PV.str s, PV.int IntKind.i64 (Int.ofNat x), PV.int IntKind.i64 (0 : Int), PV.int IntKind.i64 (0 : Int)], ty := 97 }, { cs := [PV.int IntKind.i64 (0 : Int), PV.int IntKind.i64 (0 : Int), PV.str { data := #[] }, PV.nil, PV.int IntKind.i64 (0 : Int)], ty := 69 }], rw := [] } }) (o := [(decide (0 ≤ (↑a : Int) ∧ (↑a : Int) ≤ (↑x : Int) ∧ (↑x : Int) ≤ (↑(ByteArray.size s) : Int)), true), (same (PV.str (ByteArray.extract s (Int.toNat (Int.ofNat a)) (Int.toNat (Int.ofNat x)))) (PV.str w), true)]) (by kernel_rfl) (by ((repeat' (first | exact okO_nil | refine okN ?_ ?_)); all_goals first | assumption | rfl | exact same_of rfl | exact sameS_self _ | (simp only [decide_eq_true_eq, decide_eq_false_iff_not, Nat.ble_eq, Nat.beq_eq, beq_eq_false_iff_ne, beq_iff_eq, ne_eq] <;> omega))) ?_
    cases h3 : (numV w).2 with
    | true =>
      rw [if_pos h3] at hat
      exact SWP.runQ (SAt [(68, [(55, true)])] []) 100 68 hnt [2] (e := .ret) (z := { t := [(2, PV.ptr 1 0)], h := { bx := [{ cs := [PV.str s, PV.int IntKind.i64 (Int.ofNat x), PV.int IntKind.i64 (0 : Int), PV.int IntKind.i64 (0 : Int)], ty := 97 }, { cs := [PV.int IntKind.i64 (1 : Int), PV.int IntKind.i64 (Prod.fst (numV w)), PV.str { data := #[] }, PV.nil, PV.int IntKind.i64 (Int.ofNat a)], ty := 69 }], rw := [] } }) (o := [(true, true), (Nat.ble (ByteArray.size w) 1099511627776, true), (Prod.snd (numV w), true), (true, true)]) (by kernel_rfl) (by ((repeat' (first | exact okO_nil | refine okN ?_ ?_)); all_goals first | assumption | rfl | exact same_of rfl | exact sameS_self _ | (simp only [decide_eq_true_eq, decide_eq_false_iff_not, Nat.ble_eq, Nat.beq_eq, beq_eq_false_iff_ne, beq_iff_eq, ne_eq] <;> omega))) (fun st hst => fin st _ _ _ _ hat hst)
    | false =>
      rw [if_neg (by rw [h3]; decide)] at hat
      cases h4 : symOk w with
      | true =>
        have c4 : (!symOk w) = false := by rw [h4]; rfl
        rw [if_pos h4] at hat
        exact SWP.runQ (SAt [(68, [(55, false), (61, false)])] []) 100 68 hnt [2] (e := .ret) (z := { t := [(2, PV.ptr 1 0)], h := { bx := [{ cs := [PV.str s, PV.int IntKind.i64 (Int.ofNat x), PV.int IntKind.i64 (0 : Int), PV.int IntKind.i64 (0 : Int)], ty := 97 }, { cs := [PV.int IntKind.i64 (2 : Int), PV.int IntKind.i64 (0 : Int), PV.str w, PV.nil, PV.int IntKind.i64 (Int.ofNat a)], ty := 69 }], rw := [] } }) (o := [(true, true), (Nat.ble (ByteArray.size w) 1099511627776, true), (Prod.snd (numV w), false), (false, false), (true, true), (!symOk w, false), (false, false)]) (by kernel_rfl) (by ((repeat' (first | exact okO_nil | refine okN ?_ ?_)); all_goals first | assumption | rfl | exact same_of rfl | exact sameS_self _ | (simp only [decide_eq_true_eq, decide_eq_false_iff_not, Nat.ble_eq, Nat.beq_eq, beq_eq_false_iff_ne, beq_iff_eq, ne_eq] <;> omega))) (fun st hst => fin st _ _ _ _ hat hst)
      | false =>
        have c4 : (!symOk w) = true := by rw [h4]; rfl
        rw [if_neg (by rw [h4]; decide)] at hat
        exact SWP.runQ (SAt [(68, [(55, false), (61, true)])] []) 100 68 hnt [2] (e := .ret) (z := { t := [(2, PV.ptr 1 0)], h := { bx := [{ cs := [PV.str s, PV.int IntKind.i64 (Int.ofNat x), PV.int IntKind.i64 (4 : Int), PV.int IntKind.i64 (Int.ofNat a)], ty := 97 }, { cs := [PV.int IntKind.i64 (0 : Int), PV.int IntKind.i64 (0 : Int), PV.str { data := #[] }, PV.nil, PV.int IntKind.i64 (0 : Int)], ty := 69 }], rw := [] } }) (o := [(true, true), (Nat.ble (ByteArray.size w) 1099511627776, true), (Prod.snd (numV w), false), (false, false), (true, true), (!symOk w, true), (true, true)]) (by kernel_rfl) (by ((repeat' (first | exact okO_nil | refine okN ?_ ?_)); all_goals first | assumption | rfl | exact same_of rfl | exact sameS_self _ | (simp only [decide_eq_true_eq, decide_eq_false_iff_not, Nat.ble_eq, Nat.beq_eq, beq_eq_false_iff_ne, beq_iff_eq, ne_eq] <;> omega))) (fun st hst => fin st _ _ _ _ hat hst)))
  let T (x : Nat) : AS := ⟨[(0, .ptr 0 0), (2, .ptr 1 0), (3, .int .i64 a)], ⟨[rB s x 0 0, nZ], []⟩⟩
  refine Q.block ?_
  refine Q.loopI (σ := { x : Nat // letE s x = letE s a }) [0, 2, 3] (fun x => T x.1) (fun x => s.size - x.1) ⟨a, rfl⟩ rfl fun ⟨x, hk⟩ => ?_
  show SWP G0 C _ _ ⟨[(0, .ptr 0 0), (2, .ptr 1 0), (3, .int .i64 a)], ⟨[rB s x 0 0, nZ], []⟩⟩
  have le := letE_eq s x
  rcases Nat.lt_or_ge x s.size with hlt | hge
  · have d1 := sameB (lt_at hlt)
    have d2 := in_at hlt
    have d3 : decide (0 ≤ bt s (x : Int) ∧ bt s (x : Int) < 256) = true := decide_eq_true (bt_in s x)
    have wi : IntKind.wrap IntKind.i64 (Int.ofNat (x + 1)) = ((x + 1 : Nat) : Int) := wrapI (x + 1) (by omega)
    by_cases hc : letC (bt s (x : Int)) = true
    · have d4 := sameB hc
      rw [if_pos ⟨hlt, hc⟩] at le
      exact SWP.runQ (SAt [(68, [(30, true)])] [(68, [(20, .bool true), (31, .bool true)])]) 100 68 hnt [0, 2, 3] (e := .normal) (z := { t := [(0, PV.ptr 0 0), (2, PV.ptr 1 0), (3, PV.int IntKind.i64 (Int.ofNat a))], h := { bx := [{ cs := [PV.str s, PV.int IntKind.i64 (IntKind.wrap IntKind.i64 (Int.ofNat (x + 1))), PV.int IntKind.i64 (0 : Int), PV.int IntKind.i64 (0 : Int)], ty := 97 }, { cs := [PV.int IntKind.i64 (0 : Int), PV.int IntKind.i64 (0 : Int), PV.str { data := #[] }, PV.nil, PV.int IntKind.i64 (0 : Int)], ty := 69 }], rw := [] } }) (o := [(same (PV.bool (decide ((↑x : Int) < (↑(ByteArray.size s) : Int)))) (PV.bool true), true), (decide (0 ≤ (↑x : Int) ∧ (↑x : Int) < (↑(ByteArray.size s) : Int)), true), (true, true), (decide (0 ≤ bt s (↑x : Int) ∧ bt s (↑x : Int) < 256), true), (same (PV.bool (letC (bt s (Int.ofNat x)))) (PV.bool true), true)]) (by kernel_rfl) (by ((repeat' (first | exact okO_nil | refine okN ?_ ?_)); all_goals first | assumption | rfl | exact same_of rfl | exact sameS_self _ | (simp only [decide_eq_true_eq, decide_eq_false_iff_not, Nat.ble_eq, Nat.beq_eq, beq_eq_false_iff_ne, beq_iff_eq, ne_eq] <;> omega))) (fun st hst => ⟨⟨x + 1, le.symm.trans hk⟩, Nat.sub_lt_sub_left hlt (Nat.lt_succ_self x), by rw [hst, wi]; rfl⟩)
    · have d4 := sameB (Bool.not_eq_true _ ▸ hc : letC (bt s (x : Int)) = false)
      rw [if_neg (fun h => hc h.2)] at le
      exact SWP.runQ (SAt [(68, [(30, true)])] [(68, [(20, .bool true), (31, .bool false)])]) 100 68 hnt [0, 2, 3] (e := .exit 0) (z := { t := [(0, PV.ptr 0 0), (2, PV.ptr 1 0), (3, PV.int IntKind.i64 (Int.ofNat a))], h := { bx := [{ cs := [PV.str s, PV.int IntKind.i64 (Int.ofNat x), PV.int IntKind.i64 (0 : Int), PV.int IntKind.i64 (0 : Int)], ty := 97 }, { cs := [PV.int IntKind.i64 (0 : Int), PV.int IntKind.i64 (0 : Int), PV.str { data := #[] }, PV.nil, PV.int IntKind.i64 (0 : Int)], ty := 69 }], rw := [] } }) (o := [(same (PV.bool (decide ((↑x : Int) < (↑(ByteArray.size s) : Int)))) (PV.bool true), true), (decide (0 ≤ (↑x : Int) ∧ (↑x : Int) < (↑(ByteArray.size s) : Int)), true), (true, true), (decide (0 ≤ bt s (↑x : Int) ∧ bt s (↑x : Int) < 256), true), (same (PV.bool (letC (bt s (Int.ofNat x)))) (PV.bool false), true)]) (by kernel_rfl) (by ((repeat' (first | exact okO_nil | refine okN ?_ ?_)); all_goals first | assumption | rfl | exact same_of rfl | exact sameS_self _ | (simp only [decide_eq_true_eq, decide_eq_false_iff_not, Nat.ble_eq, Nat.beq_eq, beq_eq_false_iff_ne, beq_iff_eq, ne_eq] <;> omega))) (fun st hst => rest st x (hk.symm.trans le) hst)
  · have d1 := sameB (ge_at hge)
    rw [if_neg (fun h => absurd h.1 (by omega))] at le
    exact SWP.runQ (SAt [] [(68, [(20, .bool false)])]) 100 68 hnt [0, 2, 3] (e := .exit 0) (z := { t := [(0, PV.ptr 0 0), (2, PV.ptr 1 0), (3, PV.int IntKind.i64 (Int.ofNat a))], h := { bx := [{ cs := [PV.str s, PV.int IntKind.i64 (Int.ofNat x), PV.int IntKind.i64 (0 : Int), PV.int IntKind.i64 (0 : Int)], ty := 97 }, { cs := [PV.int IntKind.i64 (0 : Int), PV.int IntKind.i64 (0 : Int), PV.str { data := #[] }, PV.nil, PV.int IntKind.i64 (0 : Int)], ty := 69 }], rw := [] } }) (o := [(same (PV.bool (decide ((↑x : Int) < (↑(ByteArray.size s) : Int)))) (PV.bool false), true)]) (by kernel_rfl) (by ((repeat' (first | exact okO_nil | refine okN ?_ ?_)); all_goals first | assumption | rfl | exact same_of rfl | exact sameS_self _ | (simp only [decide_eq_true_eq, decide_eq_false_iff_not, Nat.ble_eq, Nat.beq_eq, beq_eq_false_iff_ne, beq_iff_eq, ne_eq] <;> omega))) (fun st hst => rest st x (hk.symm.trans le) hst)
theorem atom_ok (s : ByteArray) (hs : s.size ≤ 1099511627776) (a : Nat) (ha : a ≤ s.size) : PCalls G0 79 [.ptr 0 0] [rB s a 0 0] (fun o b => o = .ret (.agg (atomR s a).1.cells) ∧ b = [rB s (atomR s a).2.a (atomR s a).2.e (atomR s a).2.b]) :=
  PCalls.weak (fun E w v h => Nd.cells0_rep _ h) (atom_ok0 s hs a ha)
end Seat
end Go.Proofs.YtenpjkcclmmlhaaDoor
/- The program's reader: number. -/
namespace Go.Proofs.YtenpjkcclmmlhaaDoor
open Go.AS Go.RowKit
set_option linter.unusedVariables false
set_option linter.unusedSimpArgs false
set_option maxRecDepth 100000
set_option maxHeartbeats 4000000
namespace Seat
noncomputable def noS (v : Int) (f : Nat) (args : List PV) : Option (PV × Ob) := match f, args with
  | 90, [.str s, .int .i64 10, .int .i64 64] => some (.tup [.int .i64 v, .niliface], [(parOk s.data.toList v, true), (Nat.ble s.size 1099511627776, true)])
  | 85, [.int .i64 n, .int .i64 10] => some (.str (mkS (Go.Lib.itoa n)), [(decide (-9223372036854775808 ≤ n ∧ n ≤ 9223372036854775807), true)])
  | _, _ => none
theorem noS_ok (v : Int) (f : Nat) (args : List PV) (r : PV) (o : Ob) (h : noS v f args = some (r, o)) (ho : ∀ p ∈ o, p.1 = p.2) (_ : pureL args = true) : Pure G0 f args (fun x => x = r) := by
  unfold noS at h
  split at h
  · rename_i s _
    cases h
    exact parseOkP s (Nat.le_of_ble_eq_true (ho (Nat.ble s.size 1099511627776, true) (by simp))) v (ho (parOk s.data.toList v, true) (by simp))
  · cases h
    have := of_decide_eq_true (ho _ (List.mem_singleton.2 rfl))
    exact formatInt _ this.1 this.2
  · cases h
noncomputable def neS (v : Int) (f : Nat) (args : List PV) : Option (PV × Ob) := match f, args with
  | 90, [.str s, .int .i64 10, .int .i64 64] => some (.tup [.int .i64 v, .iface TE (.epos [])], [(parErr s.data.toList v, true), (Nat.ble s.size 1099511627776, true)])
  | _, _ => none
theorem neS_ok (v : Int) (f : Nat) (args : List PV) (r : PV) (o : Ob) (h : neS v f args = some (r, o)) (ho : ∀ p ∈ o, p.1 = p.2) (_ : pureL args = true) : Pure G0 f args (fun x => x = r) := by
  unfold neS at h
  split at h
  · rename_i s _
    cases h
    exact parseErrP s (Nat.le_of_ble_eq_true (ho (Nat.ble s.size 1099511627776, true) (by simp))) v (ho (parErr s.data.toList v, true) (by simp))
  · cases h
noncomputable def SNo (x : Int) (l : List (Nat × List (Nat × Bool))) (v : List (Nat × List (Nat × PV))) : Cfg G0 := { F := F, hF := hF, S := noS x, hS := noS_ok x, orc := orcM l, val := valM v }
noncomputable def SNe (x : Int) (l : List (Nat × List (Nat × Bool))) (v : List (Nat × List (Nat × PV))) : Cfg G0 := { F := F, hF := hF, S := neS x, hS := neS_ok x, orc := orcM l, val := valM v }
/-- What the program's number gives. -/
def numQ (w : ByteArray) : Int × Bool := match Go.Lib.parseIntB 64 w.data.toList with
  | .ok v => (v, ByteArray.toList (mkS (Go.Lib.itoa v)) == ByteArray.toList w)
  | Go.Lib.NumEnd.syntax => (0, false)
  | .range => (Go.Lib.intSat 64 w.data.toList, false)
theorem numberP (w : ByteArray) (hw : w.size ≤ 1099511627776) : Pure G0 73 [.str w] (fun r => r = .tup [.int .i64 (numQ w).1, .bool (numQ w).2]) := by
  refine Fn.enterN Tryd.func73 Tryd.ntmps73 rfl (Nat.le_of_ble_eq_true rfl) fun C fr fp hnt hp hfr hfp => ?_
  have s1 : Nat.ble w.size 1099511627776 = true := Nat.ble_eq_true_of_le hw
  have fin : ∀ st a b, numQ w = (a, b) → nrm [2, 3] st = ⟨[(2, .int .i64 a), (3, .bool b)], ⟨[], []⟩⟩ → fr st := fun st a b h hst => hfr st [2, 3] (by
    rw [hst, h]
    exact FinR.pure rfl rfl rfl)
  rcases h : Go.Lib.parseIntB 64 w.data.toList with v | _ | _
  · skip
    have p1 : decide (Go.Lib.parseIntB 64 (Array.toList (ByteArray.data w)) = Go.Lib.NumEnd.ok v) = true := decide_eq_true h
    have hb := Go.Lib.parseIntB_bounds h
    have p2 : decide (-9223372036854775808 ≤ v ∧ v ≤ 9223372036854775807) = true := decide_eq_true (by omega)
    have hq : numQ w = (v, ByteArray.toList (mkS (Go.Lib.itoa v)) == ByteArray.toList w) := by unfold numQ; rw [h]
    cases hc : (ByteArray.toList (mkS (Go.Lib.itoa v)) == ByteArray.toList w) with
    | true =>
      rw [hc] at hq
      exact SWP.runQ (SNo v [(20, [(18, true)])] []) 100 20 hnt [2, 3] (e := .ret) (z := { t := [(2, PV.int IntKind.i64 v), (3, PV.bool true)], h := { bx := [], rw := [] } }) (o := [(true, true), (decide (Lib.parseIntB 64 (Array.toList (ByteArray.data w)) = Lib.NumEnd.ok v), true), (Nat.ble (ByteArray.size w) 1099511627776, true), (true, true), (decide (-9223372036854775808 ≤ v ∧ v ≤ 9223372036854775807), true), (ByteArray.toList (mkS (Lib.itoa v)) == ByteArray.toList w, true)]) (by kernel_rfl) (by ((repeat' (first | exact okO_nil | refine okN ?_ ?_)); all_goals first | assumption | rfl | exact same_of rfl | exact sameS_self _ | (simp only [decide_eq_true_eq, decide_eq_false_iff_not, Nat.ble_eq, Nat.beq_eq, beq_eq_false_iff_ne, beq_iff_eq, ne_eq] <;> omega))) (fun st hst => fin st _ _ hq hst)
    | false =>
      rw [hc] at hq
      exact SWP.runQ (SNo v [(20, [(18, false)])] []) 100 20 hnt [2, 3] (e := .ret) (z := { t := [(2, PV.int IntKind.i64 v), (3, PV.bool false)], h := { bx := [], rw := [] } }) (o := [(true, true), (decide (Lib.parseIntB 64 (Array.toList (ByteArray.data w)) = Lib.NumEnd.ok v), true), (Nat.ble (ByteArray.size w) 1099511627776, true), (true, true), (decide (-9223372036854775808 ≤ v ∧ v ≤ 9223372036854775807), true), (ByteArray.toList (mkS (Lib.itoa v)) == ByteArray.toList w, false)]) (by kernel_rfl) (by ((repeat' (first | exact okO_nil | refine okN ?_ ?_)); all_goals first | assumption | rfl | exact same_of rfl | exact sameS_self _ | (simp only [decide_eq_true_eq, decide_eq_false_iff_not, Nat.ble_eq, Nat.beq_eq, beq_eq_false_iff_ne, beq_iff_eq, ne_eq] <;> omega))) (fun st hst => fin st _ _ hq hst)
  · skip
    obtain ⟨v, hv⟩ : ∃ v : Int, v = 0 := ⟨0, rfl⟩
    have p1 : decide ((Go.Lib.parseIntB 64 (Array.toList (ByteArray.data w)) = Go.Lib.NumEnd.syntax ∧ v = 0) ∨ (Go.Lib.parseIntB 64 (Array.toList (ByteArray.data w)) = Go.Lib.NumEnd.range ∧ v = Go.Lib.intSat 64 (Array.toList (ByteArray.data w)))) = true := decide_eq_true (.inl ⟨h, hv⟩)
    have hq : numQ w = (v, false) := by unfold numQ; rw [h, hv]
    exact SWP.runQ (SNe v [] []) 100 20 hnt [2, 3] (e := .ret) (z := { t := [(2, PV.int IntKind.i64 v), (3, PV.bool false)], h := { bx := [], rw := [] } }) (o := [(true, true), (decide (Lib.parseIntB 64 (Array.toList (ByteArray.data w)) = Lib.NumEnd.syntax ∧ v = 0 ∨ Lib.parseIntB 64 (Array.toList (ByteArray.data w)) = Lib.NumEnd.range ∧ v = Lib.intSat 64 (Array.toList (ByteArray.data w))), true), (Nat.ble (ByteArray.size w) 1099511627776, true)]) (by kernel_rfl) (by ((repeat' (first | exact okO_nil | refine okN ?_ ?_)); all_goals first | assumption | rfl | exact same_of rfl | exact sameS_self _ | (simp only [decide_eq_true_eq, decide_eq_false_iff_not, Nat.ble_eq, Nat.beq_eq, beq_eq_false_iff_ne, beq_iff_eq, ne_eq] <;> omega))) (fun st hst => fin st _ _ hq hst)
  · skip
    obtain ⟨v, hv⟩ : ∃ v : Int, v = Go.Lib.intSat 64 w.data.toList := ⟨_, rfl⟩
    have p1 : decide ((Go.Lib.parseIntB 64 (Array.toList (ByteArray.data w)) = Go.Lib.NumEnd.syntax ∧ v = 0) ∨ (Go.Lib.parseIntB 64 (Array.toList (ByteArray.data w)) = Go.Lib.NumEnd.range ∧ v = Go.Lib.intSat 64 (Array.toList (ByteArray.data w)))) = true := decide_eq_true (.inr ⟨h, hv⟩)
    have hq : numQ w = (v, false) := by unfold numQ; rw [h, hv]
    exact SWP.runQ (SNe v [] []) 100 20 hnt [2, 3] (e := .ret) (z := { t := [(2, PV.int IntKind.i64 v), (3, PV.bool false)], h := { bx := [], rw := [] } }) (o := [(true, true), (decide (Lib.parseIntB 64 (Array.toList (ByteArray.data w)) = Lib.NumEnd.syntax ∧ v = 0 ∨ Lib.parseIntB 64 (Array.toList (ByteArray.data w)) = Lib.NumEnd.range ∧ v = Lib.intSat 64 (Array.toList (ByteArray.data w))), true), (Nat.ble (ByteArray.size w) 1099511627776, true)]) (by kernel_rfl) (by ((repeat' (first | exact okO_nil | refine okN ?_ ?_)); all_goals first | assumption | rfl | exact same_of rfl | exact sameS_self _ | (simp only [decide_eq_true_eq, decide_eq_false_iff_not, Nat.ble_eq, Nat.beq_eq, beq_eq_false_iff_ne, beq_iff_eq, ne_eq] <;> omega))) (fun st hst => fin st _ _ hq hst)
end Seat
end Go.Proofs.YtenpjkcclmmlhaaDoor
/- The document's reader: data. Printed by dev/rd4.py and dev/nfsub.py (this session's). -/
namespace Go.Proofs.YtenpjkcclmmlhaaDoor
open Go.AS Go.RowKit
set_option linter.unusedVariables false
set_option linter.unusedSimpArgs false
set_option maxRecDepth 100000
set_option maxHeartbeats 4000000
namespace Seat
def ndK : Nd → Int | .mk k _ _ _ _ => k
def ndN : Nd → Int | .mk _ n _ _ _ => n
def ndT : Nd → ByteArray | .mk _ _ t _ _ => t
def ndS : Nd → Nds | .mk _ _ _ ks _ => ks
def ndA : Nd → Int | .mk _ _ _ _ a => a
def ndC (x : Nd) : List PV := [.int .i64 (ndK x), .int .i64 (ndN x), .str (ndT x), .slice (ndS x).len (ndS x).cells, .int .i64 (ndA x)]
theorem ndC_eq (x : Nd) : ndC x = x.cells := by obtain ⟨k, n, t, ks, a⟩ := x; rfl
def atX (s : ByteArray) (a : Nat) : Nd := (atomR s a).1
def atA (s : ByteArray) (a : Nat) : Nat := (atomR s a).2.a
def atE (s : ByteArray) (a : Nat) : Int := (atomR s a).2.e
def atF (s : ByteArray) (a : Nat) : Int := (atomR s a).2.b
def rdX (s : ByteArray) (n a : Nat) : Nd := (rdD s n a).1
def rdA (s : ByteArray) (n a : Nat) : Nat := (rdD s n a).2.a
def rdE (s : ByteArray) (n a : Nat) : Int := (rdD s n a).2.e
def rdF (s : ByteArray) (n a : Nat) : Int := (rdD s n a).2.b
def RdAt (n : Nat) : Prop := ∀ s : ByteArray, s.size ≤ 1099511627776 → ∀ a, a ≤ s.size → PCalls G0 59 [.ptr 0 0, .int .i64 (1000 - (n : Int))] [rB s a 0 0] (fun o b => o = .ret (.agg (ndC (rdX s n a))) ∧ b = [rB s (rdA s n a) (rdE s n a) (rdF s n a)])
noncomputable def dtB (u : Bool) (n : Nat) (f : Nat) (args : List PV) (x : Box) : Option (PV × Box × Ob) := match f, args, x with
  | 57, [.ptr 0 0], ⟨[.str s, .int .i64 a, .int .i64 e, .int .i64 b], ty⟩ => match Nat.beq ty 97 with
    | true => some (.tup [], rB s (skp s a.toNat) e b, [(decide (0 ≤ a), true), (Nat.ble s.size 1099511627776, true)])
    | false => none
  | 79, [.ptr 0 0], ⟨[.str s, .int .i64 a, .int .i64 0, .int .i64 0], ty⟩ => match Nat.beq ty 97 with
    | true => some (.agg (ndC (atX s a.toNat)), rB s (atA s a.toNat) (atE s a.toNat) (atF s a.toNat), [(decide (0 ≤ a ∧ a ≤ (s.size : Int)), true), (Nat.ble s.size 1099511627776, true)])
    | false => none
  | 59, [.ptr 0 0, .int .i64 w], ⟨[.str s, .int .i64 a, .int .i64 0, .int .i64 0], ty⟩ => match u && Nat.beq ty 97 with
    | true => some (.agg (ndC (rdX s n a.toNat)), rB s (rdA s n a.toNat) (rdE s n a.toNat) (rdF s n a.toNat), [(decide (0 ≤ a ∧ a ≤ (s.size : Int)), true), (decide (w = 1000 - (n : Int)), true), (Nat.ble s.size 1099511627776, true)])
    | false => none
  | _, _, _ => none
theorem dtB_ok {u : Bool} {n : Nat} (ih : u = true → RdAt n) : ∀ f xs x r x' o, dtB u n f xs x = some (r, x', o) → (∀ p ∈ o, p.1 = p.2) → PCalls G0 f xs [x] (fun o' b' => o' = .ret r ∧ b' = [x']) ∧ r.sc 0 = true ∧ scL 0 x.cs = true ∧ scL 0 x'.cs = true := by
  intro f args x r b o h ho
  unfold dtB at h
  split at h
  · rename_i s a e b ty
    split at h
    · rename_i hc
      cases h
      simp only [Nat.beq_eq] at hc
      subst hc
      have h1 : 0 ≤ a := of_decide_eq_true (ho (decide (0 ≤ a), true) (by simp))
      have h2 : s.size ≤ 1099511627776 := Nat.le_of_ble_eq_true (ho (Nat.ble s.size 1099511627776, true) (by simp))
      have key := skip_ok s h2 a.toNat e b
      unfold rB at key
      rw [Int.toNat_of_nonneg h1] at key
      exact ⟨key, rfl, rfl, rfl⟩
    · cases h
  · rename_i s a ty
    split at h
    · rename_i hc
      cases h
      simp only [Nat.beq_eq] at hc
      subst hc
      have h1 : 0 ≤ a ∧ a ≤ (s.size : Int) := of_decide_eq_true (ho (decide (0 ≤ a ∧ a ≤ (s.size : Int)), true) (by simp))
      have h2 : s.size ≤ 1099511627776 := Nat.le_of_ble_eq_true (ho (Nat.ble s.size 1099511627776, true) (by simp))
      have key := atom_ok s h2 a.toNat (by omega)
      rw [← ndC_eq] at key
      refine ⟨?_, rfl, rfl, rfl⟩
      have e1 : rB s a.toNat 0 0 = ⟨[.str s, .int .i64 a, .int .i64 0, .int .i64 0], 97⟩ := by unfold rB; rw [Int.toNat_of_nonneg h1.1]
      rw [e1] at key
      exact key
    · cases h
  · rename_i w s a ty
    split at h
    · rename_i hc
      cases h
      simp only [Nat.beq_eq, Bool.and_eq_true] at hc
      obtain ⟨hu, hc⟩ := hc
      subst hc
      have h1 : 0 ≤ a ∧ a ≤ (s.size : Int) := of_decide_eq_true (ho (decide (0 ≤ a ∧ a ≤ (s.size : Int)), true) (by simp))
      have h2 : s.size ≤ 1099511627776 := Nat.le_of_ble_eq_true (ho (Nat.ble s.size 1099511627776, true) (by simp))
      have h3 : w = 1000 - (n : Int) := of_decide_eq_true (ho (decide (w = 1000 - (n : Int)), true) (by simp))
      have key := ih hu s h2 a.toNat (by omega)
      refine ⟨?_, rfl, rfl, rfl⟩
      have e1 : rB s a.toNat 0 0 = ⟨[.str s, .int .i64 a, .int .i64 0, .int .i64 0], 97⟩ := by unfold rB; rw [Int.toNat_of_nonneg h1.1]
      rw [e1, ← h3] at key
      exact key
    · cases h
  · cases h
noncomputable def SRd (u : Bool) (n : Nat) (ih : u = true → RdAt n) (l : List (Nat × List (Nat × Bool))) (v : List (Nat × List (Nat × PV))) : Cfg G0 := { F := F, hF := hF, S := atS, hS := atS_ok, B := dtB u n, hB := dtB_ok ih, D := fun f => Nat.beq f 59, orc := orcM l, val := valM v }
def nL (a : Nat) (x : PV) : Box := ⟨[.int .i64 3, .int .i64 0, .str ⟨#[]⟩, x, .int .i64 a], 69⟩
def nR (rc : List PV) (m : Nat) : Row := ⟨rc, m, 69, 5⟩
/-- A node's list, as it comes: none where it is empty, a quote's symbol without a list. -/
def NilS (x : PV) (d : Nd) : Prop := x = .slice (ndS d).len (ndS d).cells ∨ (x = .nil ∧ ndS d = .nil) ∨ ∃ a y, ndS d = .cons (.mk 2 0 wQuote .nil a) (.cons y .nil) ∧ x = .slice 2 ([.int .i64 2, .int .i64 0, .str wQuote, .nil, .int .i64 a] ++ ndC y)
theorem slice_weak {E : Env} {w : World} {n : Nat} {cs cs' : List PV} {v : Value} (hl : cs'.length = cs.length) (hc : ∀ (j : Nat) (x x' : PV), cs[j]? = some x → cs'[j]? = some x' → x' = x ∨ (x = .nil ∧ x' = .slice 0 [])) (h : VRep E w (.slice n cs) v) : VRep E w (.slice n cs') v := by
  rcases h.slice_inv with ⟨rfl, rfl, rfl⟩ | ⟨a, c, vs, rfl, h1, h2, h3, h4, h5⟩
  · have : cs' = [] := List.eq_nil_of_length_eq_zero hl
    rw [this]
    exact .imm .slice0
  · refine .imm (.slice h1 (h4.1.trans hl.symm) h2 h3 h5 fun j x v hx hv => ?_)
    obtain ⟨y, hy⟩ : ∃ y, cs[j]? = some y := by
      have := (List.getElem?_eq_some_iff.1 hx).1
      exact ⟨cs[j]'(by omega), List.getElem?_eq_getElem (by omega)⟩
    have hr := h4.2 j y v hy hv
    rcases hc j y x hy hx with rfl | ⟨rfl, rfl⟩
    · exact hr
    · cases hr
      exact .slice0
theorem NilS.rep {x : PV} {d : Nd} (hx : NilS x d) {E : Env} {w : World} {v : Value} (h : VRep E w x v) : VRep E w (.slice (ndS d).len (ndS d).cells) v := by
  rcases hx with rfl | ⟨rfl, h2⟩ | ⟨a, y, h2, rfl⟩
  · exact h
  · rw [h2]; exact h.nil_slice
  · rw [h2]
    have e : (Nds.cons (.mk 2 0 wQuote .nil a) (.cons y .nil)).cells = [.int .i64 2, .int .i64 0, .str wQuote, .slice 0 [], .int .i64 a] ++ ndC y := by
      rw [ndC_eq]; simp [Nds.cells, Nd.cells, Nds.len]
    show VRep E w (.slice 2 (Nds.cons (.mk 2 0 wQuote .nil a) (.cons y .nil)).cells) v
    rw [e]
    refine slice_weak (cs := [.int .i64 2, .int .i64 0, .str wQuote, .nil, .int .i64 a] ++ ndC y) rfl (fun j x x' h1 h2 => ?_) h
    match j, h1, h2 with
    | 0, h1, h2 | 1, h1, h2 | 2, h1, h2 | 4, h1, h2 => cases h1; cases h2; exact .inl rfl
    | 3, h1, h2 => cases h1; cases h2; exact .inr ⟨rfl, rfl⟩
    | j + 5, h1, h2 => exact .inl (Option.some.inj (h2.symm.trans h1))
theorem node_weak {x : PV} {d : Nd} (hx : NilS x d) {E : Env} {w : World} {v : Value} (h : VRep E w (.agg [.int .i64 (ndK d), .int .i64 (ndN d), .str (ndT d), x, .int .i64 (ndA d)]) v) : VRep E w (.agg (ndC d)) v := by
  obtain ⟨vs, rfl, g⟩ := h.agg_inv
  obtain ⟨v1, vs, rfl, h1, g⟩ := g.cons_inv
  obtain ⟨v2, vs, rfl, h2, g⟩ := g.cons_inv
  obtain ⟨v3, vs, rfl, h3, g⟩ := g.cons_inv
  obtain ⟨v4, vs, rfl, h4, g⟩ := g.cons_inv
  obtain ⟨v5, vs, rfl, h6, g⟩ := g.cons_inv
  obtain rfl := g.nil_inv
  have h5 := hx.rep h4
  exact .agg rfl fun j x v hx hv => by
    match j, hx, hv with
    | 0, hx, hv => cases hx; cases hv; exact h1
    | 1, hx, hv => cases hx; cases hv; exact h2
    | 2, hx, hv => cases hx; cases hv; exact h3
    | 3, hx, hv => cases hx; cases hv; exact h5
    | 4, hx, hv => cases hx; cases hv; exact h6
    | j + 5, hx, hv => cases hx
theorem rd_weak {f : FuncId} {args : List PV} {bx B : List Box} {d : Nd} (h : PCalls G0 f args bx (fun o b => ∃ x, o = .ret (.agg [.int .i64 (ndK d), .int .i64 (ndN d), .str (ndT d), x, .int .i64 (ndA d)]) ∧ NilS x d ∧ b = B)) : PCalls G0 f args bx (fun o b => o = .ret (.agg (ndC d)) ∧ b = B) := fun E w vs hh hv =>
  (h E w vs hh hv).mono fun e w' ⟨o, bx', E', ⟨x, ho, hx, hb⟩, hout, hrest⟩ => by
    subst ho
    obtain ⟨v, rfl, hv⟩ := hout
    exact ⟨.ret (.agg (ndC d)), bx', E', ⟨rfl, hb⟩, ⟨v, rfl, node_weak hx hv⟩, hrest⟩
theorem swp_st {C : Ctx} {c : Code} {Q : AEx → AS → Prop} {st st' : AS} (h : st = st') (k : SWP G0 C c Q st') : SWP G0 C c Q st := h ▸ k
theorem let40 : letC 40 = false := by decide
theorem let39 : letC 39 = false := by decide
theorem rd_step (u : Bool) (n : Nat) (ih : u = true → RdAt n) (N : Nat) (h1 : u = true → N = n + 1) (h0 : u = false → N = 0) (hN : N ≤ 1000) : RdAt N := by
  intro s hs a ha
  obtain ⟨w, hw⟩ : ∃ w : Int, w = 1000 - (N : Int) := ⟨_, rfl⟩
  rw [← hw]
  refine rd_weak ?_
  have eq := rdD_eq s N a
  refine Fn.enterN Tryd.func59 Tryd.ntmps59 rfl (Nat.le_of_ble_eq_true rfl) fun C fr fp hnt hp hfr hfp => ?_
  have fin : ∀ st d y e b x bx rw', rdD s N a = (d, ⟨y, e, b⟩) → NilS x d → nrm [4] st = ⟨[(4, .ptr 1 0)], ⟨rB s y e b :: ⟨[.int .i64 (ndK d), .int .i64 (ndN d), .str (ndT d), x, .int .i64 (ndA d)], 69⟩ :: bx, rw'⟩⟩ → fr st := fun st d y e b x bx rw' h hx hst => hfr st [4] (by
    have a1 : rdX s N a = d := by unfold rdX; rw [h]
    have a2 : rdA s N a = y := by unfold rdA; rw [h]
    have a3 : rdE s N a = e := by unfold rdE; rw [h]
    have a4 : rdF s N a = b := by unfold rdF; rw [h]
    rw [hst, a1, a2, a3, a4]
    refine ⟨1, .agg [.int .i64 (ndK d), .int .i64 (ndN d), .str (ndT d), x, .int .i64 (ndA d)], Nat.le_refl _, Nat.succ_le_succ (Nat.zero_le _), rfl, ?_, rfl, x, rfl, hx, rfl⟩
    rcases hx with rfl | ⟨rfl, _⟩ | ⟨_, _, _, rfl⟩ <;> rfl)
  refine Q.runSeq (SRd u n ih [] []) 100 150 hnt [0, 1, 4] (z := { t := [(0, PV.ptr 0 0), (1, PV.int IntKind.i64 w), (4, PV.ptr 1 0)], h := { bx := [{ cs := [PV.str s, PV.int IntKind.i64 (Int.ofNat a), PV.int IntKind.i64 (0 : Int), PV.int IntKind.i64 (0 : Int)], ty := 97 }, { cs := [PV.int IntKind.i64 (0 : Int), PV.int IntKind.i64 (0 : Int), PV.str { data := #[] }, PV.nil, PV.int IntKind.i64 (0 : Int)], ty := 69 }], rw := [] } }) (o := []) (by kernel_rfl) (by ((repeat' (first | exact okO_nil | refine okN ?_ ?_)); all_goals first | assumption | rfl | exact same_of rfl | exact sameS_self _ | (simp only [decide_eq_true_eq, decide_eq_false_iff_not, Nat.ble_eq, Nat.beq_eq, beq_eq_false_iff_ne, beq_iff_eq, ne_eq] <;> omega))) ?_
  refine Q.runSeq (SRd u n ih [] []) 100 150 hnt [0, 1, 4] (z := { t := [(0, PV.ptr 0 0), (1, PV.int IntKind.i64 w), (4, PV.ptr 1 0)], h := { bx := [{ cs := [PV.str s, PV.int IntKind.i64 (Int.ofNat a), PV.int IntKind.i64 (0 : Int), PV.int IntKind.i64 (0 : Int)], ty := 97 }, { cs := [PV.int IntKind.i64 (0 : Int), PV.int IntKind.i64 (0 : Int), PV.str { data := #[] }, PV.nil, PV.int IntKind.i64 (0 : Int)], ty := 69 }], rw := [] } }) (o := []) (by kernel_rfl) (by ((repeat' (first | exact okO_nil | refine okN ?_ ?_)); all_goals first | assumption | rfl | exact same_of rfl | exact sameS_self _ | (simp only [decide_eq_true_eq, decide_eq_false_iff_not, Nat.ble_eq, Nat.beq_eq, beq_eq_false_iff_ne, beq_iff_eq, ne_eq] <;> omega))) ?_
  rcases Nat.lt_or_ge a s.size with hlt | hge
  case inr =>
    rw [if_pos hge] at eq
    have d1 : decide ((s.size : Int) ≤ (a : Int)) = true := by rw [decide_eq_true_eq]; omega
    refine Q.seq fun K hK => ?_
    exact SWP.runQ (SRd u n ih [(150, [(23, true)])] []) 100 150 hnt [4] (e := .ret) (z := { t := [(4, PV.ptr 1 0)], h := { bx := [{ cs := [PV.str s, PV.int IntKind.i64 (Int.ofNat a), PV.int IntKind.i64 (4 : Int), PV.int IntKind.i64 (Int.ofNat (ByteArray.size s))], ty := 97 }, { cs := [PV.int IntKind.i64 (0 : Int), PV.int IntKind.i64 (0 : Int), PV.str { data := #[] }, PV.nil, PV.int IntKind.i64 (0 : Int)], ty := 69 }], rw := [] } }) (o := [(decide ((↑(ByteArray.size s) : Int) ≤ (↑a : Int)), true)]) (by kernel_rfl) (by ((repeat' (first | exact okO_nil | refine okN ?_ ?_)); all_goals first | assumption | rfl | exact same_of rfl | exact sameS_self _ | (simp only [decide_eq_true_eq, decide_eq_false_iff_not, Nat.ble_eq, Nat.beq_eq, beq_eq_false_iff_ne, beq_iff_eq, ne_eq] <;> omega))) (fun st hst => fin st .zero a 4 s.size .nil [] [] eq (.inr (.inl ⟨rfl, rfl⟩)) hst)
  have d1 : decide ((s.size : Int) ≤ (a : Int)) = false := by rw [decide_eq_false_iff_not]; omega
  have d2 := in_at hlt
  have d3 : decide (0 ≤ bt s (a : Int) ∧ bt s (a : Int) < 256) = true := decide_eq_true (bt_in s a)
  have wi : IntKind.wrap IntKind.i64 (Int.ofNat (a + 1)) = ((a + 1 : Nat) : Int) := wrapI (a + 1) (by omega)
  rw [if_neg (by omega)] at eq
  refine Q.runSeq (SRd u n ih [(150, [(23, false)])] []) 100 150 hnt [0, 1, 4] (z := { t := [(0, PV.ptr 0 0), (1, PV.int IntKind.i64 w), (4, PV.ptr 1 0)], h := { bx := [{ cs := [PV.str s, PV.int IntKind.i64 (Int.ofNat a), PV.int IntKind.i64 (0 : Int), PV.int IntKind.i64 (0 : Int)], ty := 97 }, { cs := [PV.int IntKind.i64 (0 : Int), PV.int IntKind.i64 (0 : Int), PV.str { data := #[] }, PV.nil, PV.int IntKind.i64 (0 : Int)], ty := 69 }], rw := [] } }) (o := [(decide ((↑(ByteArray.size s) : Int) ≤ (↑a : Int)), false)]) (by kernel_rfl) (by ((repeat' (first | exact okO_nil | refine okN ?_ ?_)); all_goals first | assumption | rfl | exact same_of rfl | exact sameS_self _ | (simp only [decide_eq_true_eq, decide_eq_false_iff_not, Nat.ble_eq, Nat.beq_eq, beq_eq_false_iff_ne, beq_iff_eq, ne_eq] <;> omega))) ?_
  refine Q.runSeq (SRd u n ih [(150, [(43, true)])] []) 100 150 hnt [0, 1, 4, 5, 6] (z := { t := [(0, PV.ptr 0 0), (1, PV.int IntKind.i64 w), (4, PV.ptr 1 0), (5, PV.int IntKind.i64 (Int.ofNat a)), (6, PV.int IntKind.u8 (bt s (Int.ofNat a)))], h := { bx := [{ cs := [PV.str s, PV.int IntKind.i64 (Int.ofNat a), PV.int IntKind.i64 (0 : Int), PV.int IntKind.i64 (0 : Int)], ty := 97 }, { cs := [PV.int IntKind.i64 (0 : Int), PV.int IntKind.i64 (0 : Int), PV.str { data := #[] }, PV.nil, PV.int IntKind.i64 (0 : Int)], ty := 69 }], rw := [] } }) (o := [(decide (0 ≤ (↑a : Int) ∧ (↑a : Int) < (↑(ByteArray.size s) : Int)), true)]) (by kernel_rfl) (by ((repeat' (first | exact okO_nil | refine okN ?_ ?_)); all_goals first | assumption | rfl | exact same_of rfl | exact sameS_self _ | (simp only [decide_eq_true_eq, decide_eq_false_iff_not, Nat.ble_eq, Nat.beq_eq, beq_eq_false_iff_ne, beq_iff_eq, ne_eq] <;> omega))) ?_
  refine Q.seq fun K hK => ?_
  have go6 : ¬ (bt s (a : Int) ≠ 40 ∧ bt s (a : Int) ≠ 39 ∧ letC (bt s (a : Int)) = false) → ∀ st, nrm [0, 1, 4, 5, 6] st = ⟨[(0, .ptr 0 0), (1, .int .i64 w), (4, .ptr 1 0), (5, .int .i64 a), (6, .int .u8 (bt s a))], ⟨[rB s a 0 0, nZ], []⟩⟩ → K st := fun hc st hst => hK st (.norm [0, 1, 4, 5, 6] (by
    rw [hst]
    clear hst hK
    rw [if_neg hc] at eq
    cases u with
    | false =>
      obtain rfl := h0 rfl
      have e59 : decide (1000 ≤ w) = true := by rw [decide_eq_true_eq]; omega
      refine Q.seq fun K hK => ?_
      exact SWP.runQ (SRd false n ih [(150, [(59, true)])] []) 100 150 hnt [4] (e := .ret) (z := { t := [(4, PV.ptr 1 0)], h := { bx := [{ cs := [PV.str s, PV.int IntKind.i64 (Int.ofNat a), PV.int IntKind.i64 (3 : Int), PV.int IntKind.i64 (Int.ofNat a)], ty := 97 }, { cs := [PV.int IntKind.i64 (0 : Int), PV.int IntKind.i64 (0 : Int), PV.str { data := #[] }, PV.nil, PV.int IntKind.i64 (0 : Int)], ty := 69 }], rw := [] } }) (o := [(decide (1000 ≤ w), true)]) (by kernel_rfl) (by ((repeat' (first | exact okO_nil | refine okN ?_ ?_)); all_goals first | assumption | rfl | exact same_of rfl | exact sameS_self _ | (simp only [decide_eq_true_eq, decide_eq_false_iff_not, Nat.ble_eq, Nat.beq_eq, beq_eq_false_iff_ne, beq_iff_eq, ne_eq] <;> omega))) (fun st hst => fin st .zero a 3 a .nil [] [] eq (.inr (.inl ⟨rfl, rfl⟩)) hst)
    | true =>
      obtain rfl := h1 rfl
      have e59 : decide (1000 ≤ w) = false := by rw [decide_eq_false_iff_not]; omega
      have w2 : IntKind.wrap IntKind.i64 (w + 1) = 1000 - (n : Int) := by rw [IntKind.wrap_i64]; omega
      have fw : same (PV.int IntKind.i64 (IntKind.wrap IntKind.i64 (w + (1 : Int)))) (PV.int IntKind.i64 ((1000 : Int) - Int.ofNat n)) = true := same_of (by rw [w2]; rfl)
      refine Q.seq fun K hK => ?_
      have go8 : ¬ (bt s (a : Int) = 39 ∧ n = 0) → ∀ st, nrm [0, 1, 4, 5, 6] st = ⟨[(0, .ptr 0 0), (1, .int .i64 w), (4, .ptr 1 0), (5, .int .i64 a), (6, .int .u8 (bt s a))], ⟨[rB s a 0 0, nZ], []⟩⟩ → K st := fun hc st hst => hK st (.norm [0, 1, 4, 5, 6] (by
        rw [hst]
        clear hst hK
        simp only [] at eq
        rw [if_neg hc] at eq
        have dz : decide (0 ≤ (a : Int) ∧ (a : Int) ≤ (s.size : Int)) = true := by rw [decide_eq_true_eq]; omega
        cases hl : letC (bt s (a : Int)) with
        | true =>
          rw [if_pos hl] at eq
          refine Q.seq fun K hK => ?_
          exact SWP.runQ (SRd true n ih [(150, [(73, true)])] []) 100 150 hnt [4] (e := .ret) (z := { t := [(4, PV.ptr 1 0)], h := { bx := [{ cs := [PV.str s, PV.int IntKind.i64 (Int.ofNat (RS.a (Prod.snd (atomR s (Int.toNat (↑a : Int)))))), PV.int IntKind.i64 (RS.e (Prod.snd (atomR s (Int.toNat (↑a : Int))))), PV.int IntKind.i64 (RS.b (Prod.snd (atomR s (Int.toNat (↑a : Int)))))], ty := 97 }, { cs := [PV.int IntKind.i64 (ndK (atX s (Int.toNat (↑a : Int)))), PV.int IntKind.i64 (ndN (atX s (Int.toNat (↑a : Int)))), PV.str (ndT (atX s (Int.toNat (↑a : Int)))), PV.slice (Nds.len (ndS (atX s (Int.toNat (↑a : Int))))) (Nds.cells (ndS (atX s (Int.toNat (↑a : Int))))), PV.int IntKind.i64 (ndA (atX s (Int.toNat (↑a : Int))))], ty := 69 }], rw := [] } }) (o := [(true, true), (decide (0 ≤ bt s (↑a : Int) ∧ bt s (↑a : Int) < 256), true), (letC (bt s (Int.ofNat a)), true), (true, true), (decide (0 ≤ (↑a : Int) ∧ (↑a : Int) ≤ (↑(ByteArray.size s) : Int)), true), (Nat.ble (ByteArray.size s) 1099511627776, true)]) (by kernel_rfl) (by ((repeat' (first | exact okO_nil | refine okN ?_ ?_)); all_goals first | assumption | rfl | exact same_of rfl | exact sameS_self _ | (simp only [decide_eq_true_eq, decide_eq_false_iff_not, Nat.ble_eq, Nat.beq_eq, beq_eq_false_iff_ne, beq_iff_eq, ne_eq] <;> omega))) (fun st hst => fin st (atX s a) (atA s a) (atE s a) (atF s a) (.slice (ndS (atX s a)).len (ndS (atX s a)).cells) [] [] eq (.inl rfl) hst)
        | false =>
        rw [if_neg (by rw [hl]; decide)] at eq
        refine Q.runSeq (SRd true n ih [(150, [(73, false)])] []) 100 150 hnt [0, 1, 4, 5, 6] (z := { t := [(0, PV.ptr 0 0), (1, PV.int IntKind.i64 w), (4, PV.ptr 1 0), (5, PV.int IntKind.i64 (Int.ofNat a)), (6, PV.int IntKind.u8 (bt s (Int.ofNat a)))], h := { bx := [{ cs := [PV.str s, PV.int IntKind.i64 (Int.ofNat a), PV.int IntKind.i64 (0 : Int), PV.int IntKind.i64 (0 : Int)], ty := 97 }, { cs := [PV.int IntKind.i64 (0 : Int), PV.int IntKind.i64 (0 : Int), PV.str { data := #[] }, PV.nil, PV.int IntKind.i64 (0 : Int)], ty := 69 }], rw := [] } }) (o := [(true, true), (decide (0 ≤ bt s (↑a : Int) ∧ bt s (↑a : Int) < 256), true), (letC (bt s (Int.ofNat a)), false), (false, false)]) (by kernel_rfl) (by ((repeat' (first | exact okO_nil | refine okN ?_ ?_)); all_goals first | assumption | rfl | exact same_of rfl | exact sameS_self _ | (simp only [decide_eq_true_eq, decide_eq_false_iff_not, Nat.ble_eq, Nat.beq_eq, beq_eq_false_iff_ne, beq_iff_eq, ne_eq] <;> omega))) ?_
        refine Q.runSeq (SRd true n ih [] []) 100 150 hnt [0, 1, 4, 5, 6] (z := { t := [(0, PV.ptr 0 0), (1, PV.int IntKind.i64 w), (4, PV.ptr 1 0), (5, PV.int IntKind.i64 (Int.ofNat a)), (6, PV.int IntKind.u8 (bt s (Int.ofNat a)))], h := { bx := [{ cs := [PV.str s, PV.int IntKind.i64 (IntKind.wrap IntKind.i64 (Int.ofNat (a + 1))), PV.int IntKind.i64 (0 : Int), PV.int IntKind.i64 (0 : Int)], ty := 97 }, { cs := [PV.int IntKind.i64 (0 : Int), PV.int IntKind.i64 (0 : Int), PV.str { data := #[] }, PV.nil, PV.int IntKind.i64 (0 : Int)], ty := 69 }], rw := [] } }) (o := []) (by kernel_rfl) (by ((repeat' (first | exact okO_nil | refine okN ?_ ?_)); all_goals first | assumption | rfl | exact same_of rfl | exact sameS_self _ | (simp only [decide_eq_true_eq, decide_eq_false_iff_not, Nat.ble_eq, Nat.beq_eq, beq_eq_false_iff_ne, beq_iff_eq, ne_eq] <;> omega))) ?_
        rw [wi]
        refine Q.runSeq (SRd true n ih [] []) 100 150 hnt [0, 1, 4, 5, 6] (z := { t := [(0, PV.ptr 0 0), (1, PV.int IntKind.i64 w), (4, PV.ptr 1 0), (5, PV.int IntKind.i64 (Int.ofNat a)), (6, PV.int IntKind.u8 (bt s (Int.ofNat a)))], h := { bx := [{ cs := [PV.str s, PV.int IntKind.i64 (Int.ofNat (skp s (Int.toNat (Int.ofNat (a + 1))))), PV.int IntKind.i64 (0 : Int), PV.int IntKind.i64 (0 : Int)], ty := 97 }, { cs := [PV.int IntKind.i64 (0 : Int), PV.int IntKind.i64 (0 : Int), PV.str { data := #[] }, PV.nil, PV.int IntKind.i64 (0 : Int)], ty := 69 }], rw := [] } }) (o := [(true, true), (Nat.ble (ByteArray.size s) 1099511627776, true)]) (by kernel_rfl) (by ((repeat' (first | exact okO_nil | refine okN ?_ ?_)); all_goals first | assumption | rfl | exact same_of rfl | exact sameS_self _ | (simp only [decide_eq_true_eq, decide_eq_false_iff_not, Nat.ble_eq, Nat.beq_eq, beq_eq_false_iff_ne, beq_iff_eq, ne_eq] <;> omega))) ?_
        obtain ⟨y, hy⟩ : ∃ y, y = skp s (a + 1) := ⟨_, rfl⟩
        have hy2 : y ≤ s.size := by rw [hy]; exact skp_le s (a + 1) hlt
        show SWP G0 C _ _ ⟨[(0, .ptr 0 0), (1, .int .i64 w), (4, .ptr 1 0), (5, .int .i64 a), (6, .int .u8 (bt s a))], ⟨[rB s (skp s (a + 1)) 0 0, nZ], []⟩⟩
        rw [← hy] at eq ⊢
        have dy : decide (0 ≤ (y : Int) ∧ (y : Int) ≤ (s.size : Int)) = true := by rw [decide_eq_true_eq]; omega
        refine Q.runSeq (SRd true n ih [] []) 100 150 hnt [0, 1, 4, 5, 6, 7] (z := { t := [(0, PV.ptr 0 0), (1, PV.int IntKind.i64 w), (4, PV.ptr 1 0), (5, PV.int IntKind.i64 (Int.ofNat a)), (6, PV.int IntKind.u8 (bt s (Int.ofNat a))), (7, PV.ptr 2 0)], h := { bx := [{ cs := [PV.str s, PV.int IntKind.i64 (Int.ofNat y), PV.int IntKind.i64 (0 : Int), PV.int IntKind.i64 (0 : Int)], ty := 97 }, { cs := [PV.int IntKind.i64 (0 : Int), PV.int IntKind.i64 (0 : Int), PV.str { data := #[] }, PV.nil, PV.int IntKind.i64 (0 : Int)], ty := 69 }, { cs := [PV.int IntKind.i64 (3 : Int), PV.int IntKind.i64 (0 : Int), PV.str { data := #[] }, PV.nil, PV.int IntKind.i64 (Int.ofNat a)], ty := 69 }], rw := [] } }) (o := []) (by kernel_rfl) (by ((repeat' (first | exact okO_nil | refine okN ?_ ?_)); all_goals first | assumption | rfl | exact same_of rfl | exact sameS_self _ | (simp only [decide_eq_true_eq, decide_eq_false_iff_not, Nat.ble_eq, Nat.beq_eq, beq_eq_false_iff_ne, beq_iff_eq, ne_eq] <;> omega))) ?_
        by_cases h39 : bt s (a : Int) = 39
        · have e88 := beqT h39
          rw [if_pos h39] at eq
          refine Q.seq fun K hK => ?_
          refine Q.runSeq (SRd true n ih [(150, [(88, true)])] []) 100 150 hnt [0, 1, 4, 5, 7, 88] (z := { t := [(0, PV.ptr 0 0), (1, PV.int IntKind.i64 w), (4, PV.ptr 1 0), (5, PV.int IntKind.i64 (Int.ofNat a)), (7, PV.ptr 2 0), (88, PV.bool true)], h := { bx := [{ cs := [PV.str s, PV.int IntKind.i64 (Int.ofNat y), PV.int IntKind.i64 (0 : Int), PV.int IntKind.i64 (0 : Int)], ty := 97 }, { cs := [PV.int IntKind.i64 (0 : Int), PV.int IntKind.i64 (0 : Int), PV.str { data := #[] }, PV.nil, PV.int IntKind.i64 (0 : Int)], ty := 69 }, { cs := [PV.int IntKind.i64 (3 : Int), PV.int IntKind.i64 (0 : Int), PV.str { data := #[] }, PV.nil, PV.int IntKind.i64 (Int.ofNat a)], ty := 69 }], rw := [] } }) (o := [(bt s (Int.ofNat a) == (39 : Int), true)]) (by kernel_rfl) (by ((repeat' (first | exact okO_nil | refine okN ?_ ?_)); all_goals first | assumption | rfl | exact same_of rfl | exact sameS_self _ | (simp only [decide_eq_true_eq, decide_eq_false_iff_not, Nat.ble_eq, Nat.beq_eq, beq_eq_false_iff_ne, beq_iff_eq, ne_eq] <;> omega))) ?_
          refine Q.cond (b := true) rfl (fun _ => ?_) (fun h => by cases h)
          refine SWP.adoptB 2 3 69 5 rfl rfl ?_
          refine Q.seq fun K2 hK2 => ?_
          refine SWP.runLQ (SRd true n ih [(150, [(98, true)])] [(150, [(95, .int .i64 (1000 - (n : Int)))])]) 100 150 hnt [4, 7] (l := [{ t := [(4, PV.ptr 1 0), (7, PV.ptr 2 0)], h := { bx := [{ cs := [PV.str s, PV.int IntKind.i64 (Int.ofNat (rdA s n (Int.toNat (Int.ofNat y)))), PV.int IntKind.i64 (rdE s n (Int.toNat (Int.ofNat y))), PV.int IntKind.i64 (rdF s n (Int.toNat (Int.ofNat y)))], ty := 97 }, { cs := [PV.int IntKind.i64 (0 : Int), PV.int IntKind.i64 (0 : Int), PV.str { data := #[] }, PV.nil, PV.int IntKind.i64 (0 : Int)], ty := 69 }, { cs := [PV.int IntKind.i64 (3 : Int), PV.int IntKind.i64 (0 : Int), PV.str { data := #[] }, PV.own 0 2, PV.int IntKind.i64 (Int.ofNat a)], ty := 69 }], rw := [some { cs := [PV.int IntKind.i64 (2 : Int), PV.int IntKind.i64 (0 : Int), PV.str { data := #[113, 117, 111, 116, 101] }, PV.nil, PV.int IntKind.i64 (Int.ofNat a), PV.int IntKind.i64 (ndK (rdX s n (Int.toNat (↑y : Int)))), PV.int IntKind.i64 (ndN (rdX s n (Int.toNat (↑y : Int)))), PV.str (ndT (rdX s n (Int.toNat (↑y : Int)))), PV.slice (Nds.len (ndS (rdX s n (Int.toNat (↑y : Int))))) (Nds.cells (ndS (rdX s n (Int.toNat (↑y : Int))))), PV.int IntKind.i64 (ndA (rdX s n (Int.toNat (↑y : Int))))], n := 2, ty := 69, sz := 5 }] } }, { t := [(4, PV.ptr 1 0), (7, PV.ptr 2 0)], h := { bx := [{ cs := [PV.str s, PV.int IntKind.i64 (Int.ofNat (rdA s n (Int.toNat (Int.ofNat y)))), PV.int IntKind.i64 (rdE s n (Int.toNat (Int.ofNat y))), PV.int IntKind.i64 (rdF s n (Int.toNat (Int.ofNat y)))], ty := 97 }, { cs := [PV.int IntKind.i64 (0 : Int), PV.int IntKind.i64 (0 : Int), PV.str { data := #[] }, PV.nil, PV.int IntKind.i64 (0 : Int)], ty := 69 }, { cs := [PV.int IntKind.i64 (3 : Int), PV.int IntKind.i64 (0 : Int), PV.str { data := #[] }, PV.own 0 2, PV.int IntKind.i64 (Int.ofNat a)], ty := 69 }], rw := [some { cs := [PV.int IntKind.i64 (2 : Int), PV.int IntKind.i64 (0 : Int), PV.str { data := #[113, 117, 111, 116, 101] }, PV.nil, PV.int IntKind.i64 (Int.ofNat a), PV.int IntKind.i64 (ndK (rdX s n (Int.toNat (↑y : Int)))), PV.int IntKind.i64 (ndN (rdX s n (Int.toNat (↑y : Int)))), PV.str (ndT (rdX s n (Int.toNat (↑y : Int)))), PV.slice (Nds.len (ndS (rdX s n (Int.toNat (↑y : Int))))) (Nds.cells (ndS (rdX s n (Int.toNat (↑y : Int))))), PV.int IntKind.i64 (ndA (rdX s n (Int.toNat (↑y : Int))))], n := 2, ty := 69, sz := 5 }] } }, { t := [(4, PV.ptr 1 0), (7, PV.ptr 2 0)], h := { bx := [{ cs := [PV.str s, PV.int IntKind.i64 (Int.ofNat (rdA s n (Int.toNat (Int.ofNat y)))), PV.int IntKind.i64 (rdE s n (Int.toNat (Int.ofNat y))), PV.int IntKind.i64 (rdF s n (Int.toNat (Int.ofNat y)))], ty := 97 }, { cs := [PV.int IntKind.i64 (0 : Int), PV.int IntKind.i64 (0 : Int), PV.str { data := #[] }, PV.nil, PV.int IntKind.i64 (0 : Int)], ty := 69 }, { cs := [PV.int IntKind.i64 (3 : Int), PV.int IntKind.i64 (0 : Int), PV.str { data := #[] }, PV.own 0 2, PV.int IntKind.i64 (Int.ofNat a)], ty := 69 }], rw := [some { cs := [PV.int IntKind.i64 (2 : Int), PV.int IntKind.i64 (0 : Int), PV.str { data := #[113, 117, 111, 116, 101] }, PV.nil, PV.int IntKind.i64 (Int.ofNat a), PV.int IntKind.i64 (ndK (rdX s n (Int.toNat (↑y : Int)))), PV.int IntKind.i64 (ndN (rdX s n (Int.toNat (↑y : Int)))), PV.str (ndT (rdX s n (Int.toNat (↑y : Int)))), PV.slice (Nds.len (ndS (rdX s n (Int.toNat (↑y : Int))))) (Nds.cells (ndS (rdX s n (Int.toNat (↑y : Int))))), PV.int IntKind.i64 (ndA (rdX s n (Int.toNat (↑y : Int))))], n := 2, ty := 69, sz := 5 }] } }, { t := [(4, PV.ptr 1 0), (7, PV.ptr 2 0)], h := { bx := [{ cs := [PV.str s, PV.int IntKind.i64 (Int.ofNat (rdA s n (Int.toNat (Int.ofNat y)))), PV.int IntKind.i64 (rdE s n (Int.toNat (Int.ofNat y))), PV.int IntKind.i64 (rdF s n (Int.toNat (Int.ofNat y)))], ty := 97 }, { cs := [PV.int IntKind.i64 (0 : Int), PV.int IntKind.i64 (0 : Int), PV.str { data := #[] }, PV.nil, PV.int IntKind.i64 (0 : Int)], ty := 69 }, { cs := [PV.int IntKind.i64 (3 : Int), PV.int IntKind.i64 (0 : Int), PV.str { data := #[] }, PV.own 0 2, PV.int IntKind.i64 (Int.ofNat a)], ty := 69 }], rw := [some { cs := [PV.int IntKind.i64 (2 : Int), PV.int IntKind.i64 (0 : Int), PV.str { data := #[113, 117, 111, 116, 101] }, PV.nil, PV.int IntKind.i64 (Int.ofNat a), PV.int IntKind.i64 (ndK (rdX s n (Int.toNat (↑y : Int)))), PV.int IntKind.i64 (ndN (rdX s n (Int.toNat (↑y : Int)))), PV.str (ndT (rdX s n (Int.toNat (↑y : Int)))), PV.slice (Nds.len (ndS (rdX s n (Int.toNat (↑y : Int))))) (Nds.cells (ndS (rdX s n (Int.toNat (↑y : Int))))), PV.int IntKind.i64 (ndA (rdX s n (Int.toNat (↑y : Int))))], n := 2, ty := 69, sz := 5 }] } }, { t := [(4, PV.ptr 1 0), (7, PV.ptr 2 0)], h := { bx := [{ cs := [PV.str s, PV.int IntKind.i64 (Int.ofNat (rdA s n (Int.toNat (Int.ofNat y)))), PV.int IntKind.i64 (rdE s n (Int.toNat (Int.ofNat y))), PV.int IntKind.i64 (rdF s n (Int.toNat (Int.ofNat y)))], ty := 97 }, { cs := [PV.int IntKind.i64 (0 : Int), PV.int IntKind.i64 (0 : Int), PV.str { data := #[] }, PV.nil, PV.int IntKind.i64 (0 : Int)], ty := 69 }, { cs := [PV.int IntKind.i64 (3 : Int), PV.int IntKind.i64 (0 : Int), PV.str { data := #[] }, PV.own 0 2, PV.int IntKind.i64 (Int.ofNat a)], ty := 69 }], rw := [some { cs := [PV.int IntKind.i64 (2 : Int), PV.int IntKind.i64 (0 : Int), PV.str { data := #[113, 117, 111, 116, 101] }, PV.nil, PV.int IntKind.i64 (Int.ofNat a), PV.int IntKind.i64 (ndK (rdX s n (Int.toNat (↑y : Int)))), PV.int IntKind.i64 (ndN (rdX s n (Int.toNat (↑y : Int)))), PV.str (ndT (rdX s n (Int.toNat (↑y : Int)))), PV.slice (Nds.len (ndS (rdX s n (Int.toNat (↑y : Int))))) (Nds.cells (ndS (rdX s n (Int.toNat (↑y : Int))))), PV.int IntKind.i64 (ndA (rdX s n (Int.toNat (↑y : Int))))], n := 2, ty := 69, sz := 5 }] } }, { t := [(4, PV.ptr 1 0), (7, PV.ptr 2 0)], h := { bx := [{ cs := [PV.str s, PV.int IntKind.i64 (Int.ofNat (rdA s n (Int.toNat (Int.ofNat y)))), PV.int IntKind.i64 (rdE s n (Int.toNat (Int.ofNat y))), PV.int IntKind.i64 (rdF s n (Int.toNat (Int.ofNat y)))], ty := 97 }, { cs := [PV.int IntKind.i64 (0 : Int), PV.int IntKind.i64 (0 : Int), PV.str { data := #[] }, PV.nil, PV.int IntKind.i64 (0 : Int)], ty := 69 }, { cs := [PV.int IntKind.i64 (3 : Int), PV.int IntKind.i64 (0 : Int), PV.str { data := #[] }, PV.own 0 2, PV.int IntKind.i64 (Int.ofNat a)], ty := 69 }], rw := [some { cs := [PV.int IntKind.i64 (2 : Int), PV.int IntKind.i64 (0 : Int), PV.str { data := #[113, 117, 111, 116, 101] }, PV.nil, PV.int IntKind.i64 (Int.ofNat a), PV.int IntKind.i64 (ndK (rdX s n (Int.toNat (↑y : Int)))), PV.int IntKind.i64 (ndN (rdX s n (Int.toNat (↑y : Int)))), PV.str (ndT (rdX s n (Int.toNat (↑y : Int)))), PV.slice (Nds.len (ndS (rdX s n (Int.toNat (↑y : Int))))) (Nds.cells (ndS (rdX s n (Int.toNat (↑y : Int))))), PV.int IntKind.i64 (ndA (rdX s n (Int.toNat (↑y : Int))))], n := 2, ty := 69, sz := 5 }] } }, { t := [(4, PV.ptr 1 0), (7, PV.ptr 2 0)], h := { bx := [{ cs := [PV.str s, PV.int IntKind.i64 (Int.ofNat (rdA s n (Int.toNat (Int.ofNat y)))), PV.int IntKind.i64 (rdE s n (Int.toNat (Int.ofNat y))), PV.int IntKind.i64 (rdF s n (Int.toNat (Int.ofNat y)))], ty := 97 }, { cs := [PV.int IntKind.i64 (0 : Int), PV.int IntKind.i64 (0 : Int), PV.str { data := #[] }, PV.nil, PV.int IntKind.i64 (0 : Int)], ty := 69 }, { cs := [PV.int IntKind.i64 (3 : Int), PV.int IntKind.i64 (0 : Int), PV.str { data := #[] }, PV.own 0 2, PV.int IntKind.i64 (Int.ofNat a)], ty := 69 }], rw := [some { cs := [PV.int IntKind.i64 (2 : Int), PV.int IntKind.i64 (0 : Int), PV.str { data := #[113, 117, 111, 116, 101] }, PV.nil, PV.int IntKind.i64 (Int.ofNat a), PV.int IntKind.i64 (ndK (rdX s n (Int.toNat (↑y : Int)))), PV.int IntKind.i64 (ndN (rdX s n (Int.toNat (↑y : Int)))), PV.str (ndT (rdX s n (Int.toNat (↑y : Int)))), PV.slice (Nds.len (ndS (rdX s n (Int.toNat (↑y : Int))))) (Nds.cells (ndS (rdX s n (Int.toNat (↑y : Int))))), PV.int IntKind.i64 (ndA (rdX s n (Int.toNat (↑y : Int))))], n := 2, ty := 69, sz := 5 }] } }, { t := [(4, PV.ptr 1 0), (7, PV.ptr 2 0)], h := { bx := [{ cs := [PV.str s, PV.int IntKind.i64 (Int.ofNat (rdA s n (Int.toNat (Int.ofNat y)))), PV.int IntKind.i64 (rdE s n (Int.toNat (Int.ofNat y))), PV.int IntKind.i64 (rdF s n (Int.toNat (Int.ofNat y)))], ty := 97 }, { cs := [PV.int IntKind.i64 (0 : Int), PV.int IntKind.i64 (0 : Int), PV.str { data := #[] }, PV.nil, PV.int IntKind.i64 (0 : Int)], ty := 69 }, { cs := [PV.int IntKind.i64 (3 : Int), PV.int IntKind.i64 (0 : Int), PV.str { data := #[] }, PV.own 0 2, PV.int IntKind.i64 (Int.ofNat a)], ty := 69 }], rw := [some { cs := [PV.int IntKind.i64 (2 : Int), PV.int IntKind.i64 (0 : Int), PV.str { data := #[113, 117, 111, 116, 101] }, PV.nil, PV.int IntKind.i64 (Int.ofNat a), PV.int IntKind.i64 (ndK (rdX s n (Int.toNat (↑y : Int)))), PV.int IntKind.i64 (ndN (rdX s n (Int.toNat (↑y : Int)))), PV.str (ndT (rdX s n (Int.toNat (↑y : Int)))), PV.slice (Nds.len (ndS (rdX s n (Int.toNat (↑y : Int))))) (Nds.cells (ndS (rdX s n (Int.toNat (↑y : Int))))), PV.int IntKind.i64 (ndA (rdX s n (Int.toNat (↑y : Int))))], n := 2, ty := 69, sz := 5 }] } }, { t := [(4, PV.ptr 1 0), (7, PV.ptr 2 0)], h := { bx := [{ cs := [PV.str s, PV.int IntKind.i64 (Int.ofNat (rdA s n (Int.toNat (Int.ofNat y)))), PV.int IntKind.i64 (rdE s n (Int.toNat (Int.ofNat y))), PV.int IntKind.i64 (rdF s n (Int.toNat (Int.ofNat y)))], ty := 97 }, { cs := [PV.int IntKind.i64 (0 : Int), PV.int IntKind.i64 (0 : Int), PV.str { data := #[] }, PV.nil, PV.int IntKind.i64 (0 : Int)], ty := 69 }, { cs := [PV.int IntKind.i64 (3 : Int), PV.int IntKind.i64 (0 : Int), PV.str { data := #[] }, PV.own 0 2, PV.int IntKind.i64 (Int.ofNat a)], ty := 69 }], rw := [some { cs := [PV.int IntKind.i64 (2 : Int), PV.int IntKind.i64 (0 : Int), PV.str { data := #[113, 117, 111, 116, 101] }, PV.nil, PV.int IntKind.i64 (Int.ofNat a), PV.int IntKind.i64 (ndK (rdX s n (Int.toNat (↑y : Int)))), PV.int IntKind.i64 (ndN (rdX s n (Int.toNat (↑y : Int)))), PV.str (ndT (rdX s n (Int.toNat (↑y : Int)))), PV.slice (Nds.len (ndS (rdX s n (Int.toNat (↑y : Int))))) (Nds.cells (ndS (rdX s n (Int.toNat (↑y : Int))))), PV.int IntKind.i64 (ndA (rdX s n (Int.toNat (↑y : Int))))], n := 2, ty := 69, sz := 5 }] } }]) (o := [(same (PV.int IntKind.i64 (IntKind.wrap IntKind.i64 (w + (1 : Int)))) (PV.int IntKind.i64 ((1000 : Int) - Int.ofNat n)), true), (decide (0 ≤ (↑y : Int) ∧ (↑y : Int) ≤ (↑(ByteArray.size s) : Int)), true), (decide (1000 - (↑n : Int) = 1000 - (↑n : Int)), true), (Nat.ble (ByteArray.size s) 1099511627776, true), (true, true), (true, true), (true, true), (decide (0 ≤ (↑y : Int) ∧ (↑y : Int) ≤ (↑(ByteArray.size s) : Int)), true), (decide (1000 - (↑n : Int) = 1000 - (↑n : Int)), true), (Nat.ble (ByteArray.size s) 1099511627776, true), (true, true), (true, true), (true, true), (decide (0 ≤ (↑y : Int) ∧ (↑y : Int) ≤ (↑(ByteArray.size s) : Int)), true), (decide (1000 - (↑n : Int) = 1000 - (↑n : Int)), true), (Nat.ble (ByteArray.size s) 1099511627776, true), (true, true), (true, true), (true, true), (decide (0 ≤ (↑y : Int) ∧ (↑y : Int) ≤ (↑(ByteArray.size s) : Int)), true), (decide (1000 - (↑n : Int) = 1000 - (↑n : Int)), true), (Nat.ble (ByteArray.size s) 1099511627776, true), (true, true), (true, true), (true, true), (decide (0 ≤ (↑y : Int) ∧ (↑y : Int) ≤ (↑(ByteArray.size s) : Int)), true), (decide (1000 - (↑n : Int) = 1000 - (↑n : Int)), true), (Nat.ble (ByteArray.size s) 1099511627776, true), (true, true), (true, true), (true, true), (decide (0 ≤ (↑y : Int) ∧ (↑y : Int) ≤ (↑(ByteArray.size s) : Int)), true), (decide (1000 - (↑n : Int) = 1000 - (↑n : Int)), true), (Nat.ble (ByteArray.size s) 1099511627776, true), (true, true), (true, true), (true, true), (decide (0 ≤ (↑y : Int) ∧ (↑y : Int) ≤ (↑(ByteArray.size s) : Int)), true), (decide (1000 - (↑n : Int) = 1000 - (↑n : Int)), true), (Nat.ble (ByteArray.size s) 1099511627776, true), (true, true), (true, true), (true, true), (decide (0 ≤ (↑y : Int) ∧ (↑y : Int) ≤ (↑(ByteArray.size s) : Int)), true), (decide (1000 - (↑n : Int) = 1000 - (↑n : Int)), true), (Nat.ble (ByteArray.size s) 1099511627776, true), (true, true), (true, true), (true, true), (decide (0 ≤ (↑y : Int) ∧ (↑y : Int) ≤ (↑(ByteArray.size s) : Int)), true), (decide (1000 - (↑n : Int) = 1000 - (↑n : Int)), true), (Nat.ble (ByteArray.size s) 1099511627776, true), (true, true), (true, true), (true, true)]) (by kernel_rfl) (by ((repeat' (first | exact okO_nil | refine okN ?_ ?_)); all_goals first | assumption | rfl | exact same_of rfl | exact sameS_self _ | (simp only [decide_eq_true_eq, decide_eq_false_iff_not, Nat.ble_eq, Nat.beq_eq, beq_eq_false_iff_ne, beq_iff_eq, ne_eq] <;> omega))) (fun st hst => hK2 st (.norm [4, 7] ?_))
          have hst2 : nrm [4, 7] st = ⟨[(4, .ptr 1 0), (7, .ptr 2 0)], ⟨[rB s (rdA s n y) (rdE s n y) (rdF s n y), nZ, nL a (.own 0 2)], [some (nR ([.int .i64 2, .int .i64 0, .str wQuote, .nil, .int .i64 a] ++ ndC (rdX s n y)) 2)]⟩⟩ := by
            simp only [List.mem_cons, List.not_mem_nil, or_false, or_self] at hst
            exact hst
          rw [hst2]
          obtain ⟨rr, hrr⟩ : ∃ rr, rr = [.int .i64 2, .int .i64 0, .str wQuote, .nil, .int .i64 a] ++ ndC (rdX s n y) := ⟨_, rfl⟩
          rw [← hrr]
          obtain ⟨p, hp⟩ : ∃ p, p = rdA s n y := ⟨_, rfl⟩
          obtain ⟨pe, hpe⟩ : ∃ p, p = rdE s n y := ⟨_, rfl⟩
          obtain ⟨pb, hpb⟩ : ∃ p, p = rdF s n y := ⟨_, rfl⟩
          rw [← hp, ← hpe, ← hpb]
          refine SWP.frz [0] ?_
          exact SWP.runQ (SRd true n ih [] []) 100 150 hnt [4] (e := .ret) (z := { t := [(4, PV.ptr 1 0)], h := { bx := [{ cs := [PV.str s, PV.int IntKind.i64 (Int.ofNat p), PV.int IntKind.i64 pe, PV.int IntKind.i64 pb], ty := 97 }, { cs := [PV.int IntKind.i64 (3 : Int), PV.int IntKind.i64 (0 : Int), PV.str { data := #[] }, PV.slice 2 rr, PV.int IntKind.i64 (Int.ofNat a)], ty := 69 }, { cs := [PV.int IntKind.i64 (3 : Int), PV.int IntKind.i64 (0 : Int), PV.str { data := #[] }, PV.slice 2 rr, PV.int IntKind.i64 (Int.ofNat a)], ty := 69 }], rw := [none] } }) (o := []) (by kernel_rfl) (by ((repeat' (first | exact okO_nil | refine okN ?_ ?_)); all_goals first | assumption | rfl | exact same_of rfl | exact sameS_self _ | (simp only [decide_eq_true_eq, decide_eq_false_iff_not, Nat.ble_eq, Nat.beq_eq, beq_eq_false_iff_ne, beq_iff_eq, ne_eq] <;> omega))) (fun st hst => fin st (.mk 3 0 ⟨#[]⟩ (.cons (.mk 2 0 wQuote .nil a) (.cons (rdX s n y) .nil)) a) p pe pb (.slice 2 rr) [⟨[.int .i64 3, .int .i64 0, .str ⟨#[]⟩, .slice 2 rr, .int .i64 a], 69⟩] [none] (by rw [eq, hp, hpe, hpb]; rfl) (.inr (.inr ⟨_, _, rfl, by rw [hrr]⟩)) hst)
        · have e88 := beqF h39
          rw [if_neg h39] at eq
          refine Q.runSeq (SRd true n ih [(150, [(88, false)])] []) 100 150 hnt [0, 1, 4, 7] (z := { t := [(0, PV.ptr 0 0), (1, PV.int IntKind.i64 w), (4, PV.ptr 1 0), (7, PV.ptr 2 0)], h := { bx := [{ cs := [PV.str s, PV.int IntKind.i64 (Int.ofNat y), PV.int IntKind.i64 (0 : Int), PV.int IntKind.i64 (0 : Int)], ty := 97 }, { cs := [PV.int IntKind.i64 (0 : Int), PV.int IntKind.i64 (0 : Int), PV.str { data := #[] }, PV.nil, PV.int IntKind.i64 (0 : Int)], ty := 69 }, { cs := [PV.int IntKind.i64 (3 : Int), PV.int IntKind.i64 (0 : Int), PV.str { data := #[] }, PV.nil, PV.int IntKind.i64 (Int.ofNat a)], ty := 69 }], rw := [] } }) (o := [(bt s (Int.ofNat a) == (39 : Int), false), (false, false)]) (by kernel_rfl) (by ((repeat' (first | exact okO_nil | refine okN ?_ ?_)); all_goals first | assumption | rfl | exact same_of rfl | exact sameS_self _ | (simp only [decide_eq_true_eq, decide_eq_false_iff_not, Nat.ble_eq, Nat.beq_eq, beq_eq_false_iff_ne, beq_iff_eq, ne_eq] <;> omega))) ?_
          refine SWP.adoptB 2 3 69 5 rfl rfl ?_
          refine Q.seq fun K hK => ?_
          refine Q.block ?_
          let T (r : RS) (l : Nds) : AS := ⟨[(0, .ptr 0 0), (1, .int .i64 w), (4, .ptr 1 0), (7, .ptr 2 0)], ⟨[rB s r.a r.e r.b, nZ, nL a (.own 0 l.len)], [some (nR l.cells l.len)]⟩⟩
          have hst := rdD_steps s n
          refine Q.loopI (σ := { x : RS × Nds × Nat // x.1.In s n ∧ (x.1.e = 0 → s.size + 1 - x.1.a ≤ x.2.2) ∧ x.2.1.len + x.2.2 ≤ s.size + 1 ∧ rdL (rdD s n) s x.2.2 x.1 x.2.1 = rdL (rdD s n) s (s.size + 1) ⟨y, 0, 0⟩ .nil }) [0, 1, 4, 7] (fun x => T x.1.1 x.1.2.1) (fun x => x.1.2.2) ⟨(⟨y, 0, 0⟩, .nil, s.size + 1), In0 hy2, fun _ => Nat.sub_le _ _, by simp [Nds.len], rfl⟩ rfl fun ⟨(⟨x, e, b⟩, l, k), hin, hk, hlen, hrd⟩ => ?_
          have hin : RS.In s n ⟨x, e, b⟩ := hin
          have hk : e = 0 → s.size + 1 - x ≤ k := hk
          have hlen : l.len + k ≤ s.size + 1 := hlen
          have hrd : rdL (rdD s n) s k ⟨x, e, b⟩ l = rdL (rdD s n) s (s.size + 1) ⟨y, 0, 0⟩ .nil := hrd
          have hle : x ≤ s.size + n := hin.le
          show SWP G0 C _ _ ⟨[(0, .ptr 0 0), (1, .int .i64 w), (4, .ptr 1 0), (7, .ptr 2 0)], ⟨[rB s x e b, nZ, nL a (.own 0 l.len)], [some (nR l.cells l.len)]⟩⟩
          obtain ⟨m, hm⟩ : ∃ m, m = l.len := ⟨_, rfl⟩
          obtain ⟨rc, hrc⟩ : ∃ rc, rc = l.cells := ⟨_, rfl⟩
          refine swp_st (st' := ⟨[(0, .ptr 0 0), (1, .int .i64 w), (4, .ptr 1 0), (7, .ptr 2 0)], ⟨[rB s x e b, nZ, nL a (.own 0 m)], [some (nR rc m)]⟩⟩) (by rw [hm, hrc]) ?_
          rw [← hm] at hlen
          have out : goes s ⟨x, e, b⟩ = false → ∀ st, nrm [0, 1, 4, 7] st = ⟨[(0, .ptr 0 0), (1, .int .i64 w), (4, .ptr 1 0), (7, .ptr 2 0)], ⟨[rB s x e b, nZ, nL a (.own 0 m)], [some (nR rc m)]⟩⟩ → K st := fun hg st hst => hK st (.norm [0, 1, 4, 7] (by
            rw [hst]
            rw [rdL_stop hg] at hrd
            rw [← hrd] at eq
            have wx : IntKind.wrap IntKind.i64 (Int.ofNat (x + 1)) = ((x + 1 : Nat) : Int) := wrapI (x + 1) (by omega)
            refine Q.runSeq (SRd true n ih [] []) 100 150 hnt [4, 7] (z := { t := [(4, PV.ptr 1 0), (7, PV.ptr 2 0)], h := { bx := [{ cs := [PV.str s, PV.int IntKind.i64 (IntKind.wrap IntKind.i64 (Int.ofNat (x + 1))), PV.int IntKind.i64 e, PV.int IntKind.i64 b], ty := 97 }, { cs := [PV.int IntKind.i64 (0 : Int), PV.int IntKind.i64 (0 : Int), PV.str { data := #[] }, PV.nil, PV.int IntKind.i64 (0 : Int)], ty := 69 }, { cs := [PV.int IntKind.i64 (3 : Int), PV.int IntKind.i64 (0 : Int), PV.str { data := #[] }, PV.own 0 m, PV.int IntKind.i64 (Int.ofNat a)], ty := 69 }], rw := [some { cs := rc, n := m, ty := 69, sz := 5 }] } }) (o := []) (by kernel_rfl) (by ((repeat' (first | exact okO_nil | refine okN ?_ ?_)); all_goals first | assumption | rfl | exact same_of rfl | exact sameS_self _ | (simp only [decide_eq_true_eq, decide_eq_false_iff_not, Nat.ble_eq, Nat.beq_eq, beq_eq_false_iff_ne, beq_iff_eq, ne_eq] <;> omega))) ?_
            rw [wx]
            obtain ⟨p, hp⟩ : ∃ p, p = x + 1 := ⟨_, rfl⟩
            rw [← hp]
            refine SWP.frz [0] ?_
            exact SWP.runQ (SRd true n ih [] []) 100 150 hnt [4] (e := .ret) (z := { t := [(4, PV.ptr 1 0)], h := { bx := [{ cs := [PV.str s, PV.int IntKind.i64 (Int.ofNat p), PV.int IntKind.i64 e, PV.int IntKind.i64 b], ty := 97 }, { cs := [PV.int IntKind.i64 (3 : Int), PV.int IntKind.i64 (0 : Int), PV.str { data := #[] }, PV.slice m rc, PV.int IntKind.i64 (Int.ofNat a)], ty := 69 }, { cs := [PV.int IntKind.i64 (3 : Int), PV.int IntKind.i64 (0 : Int), PV.str { data := #[] }, PV.slice m rc, PV.int IntKind.i64 (Int.ofNat a)], ty := 69 }], rw := [none] } }) (o := []) (by kernel_rfl) (by ((repeat' (first | exact okO_nil | refine okN ?_ ?_)); all_goals first | assumption | rfl | exact same_of rfl | exact sameS_self _ | (simp only [decide_eq_true_eq, decide_eq_false_iff_not, Nat.ble_eq, Nat.beq_eq, beq_eq_false_iff_ne, beq_iff_eq, ne_eq] <;> omega))) (fun st hst => fin st (.mk 3 0 ⟨#[]⟩ l a) p e b (.slice m rc) [⟨[.int .i64 3, .int .i64 0, .str ⟨#[]⟩, .slice m rc, .int .i64 a], 69⟩] [none] (by rw [eq, hp]) (.inl (by rw [hm, hrc]; rfl)) hst)))
          by_cases he : e = 0
          · subst he
            obtain ⟨hx, hb⟩ := hin.ok rfl
            have hb : b = 0 := hb
            subst hb
            have hx : x ≤ s.size := hx
            have hk := hk rfl
            obtain ⟨k, rfl⟩ : ∃ j, k = j + 1 := ⟨k - 1, by omega⟩
            have dx : decide (0 ≤ (x : Int) ∧ (x : Int) ≤ (s.size : Int)) = true := by rw [decide_eq_true_eq]; omega
            refine Q.seq fun K2 hK2 => ?_
            have cont : goes s ⟨x, 0, 0⟩ = true → ∀ st, nrm [0, 1, 4, 7] st = ⟨[(0, .ptr 0 0), (1, .int .i64 w), (4, .ptr 1 0), (7, .ptr 2 0)], ⟨[rB s x 0 0, nZ, nL a (.own 0 m)], [some (nR rc m)]⟩⟩ → K2 st := fun hg st hst' => hK2 st (.norm [0, 1, 4, 7] (by
              rw [hst']
              clear hst' hK2 hK
              rw [rdL, if_pos hg] at hrd
              have h2 := hst x hx
              refine Q.block ?_
              refine Q.seq fun K3 hK3 => ?_
              refine SWP.runLQ (SRd true n ih [(150, [(138, true)])] [(150, [(135, .int .i64 (1000 - (n : Int)))])]) 100 150 hnt [0, 1, 4, 7] (l := [{ t := [(0, PV.ptr 0 0), (1, PV.int IntKind.i64 w), (4, PV.ptr 1 0), (7, PV.ptr 2 0)], h := { bx := [{ cs := [PV.str s, PV.int IntKind.i64 (Int.ofNat (rdA s n (Int.toNat (Int.ofNat x)))), PV.int IntKind.i64 (rdE s n (Int.toNat (Int.ofNat x))), PV.int IntKind.i64 (rdF s n (Int.toNat (Int.ofNat x)))], ty := 97 }, { cs := [PV.int IntKind.i64 (0 : Int), PV.int IntKind.i64 (0 : Int), PV.str { data := #[] }, PV.nil, PV.int IntKind.i64 (0 : Int)], ty := 69 }, { cs := [PV.int IntKind.i64 (3 : Int), PV.int IntKind.i64 (0 : Int), PV.str { data := #[] }, PV.own 0 (m + 1), PV.int IntKind.i64 (Int.ofNat a)], ty := 69 }], rw := [some { cs := rc ++ [PV.int IntKind.i64 (ndK (rdX s n (Int.toNat (↑x : Int)))), PV.int IntKind.i64 (ndN (rdX s n (Int.toNat (↑x : Int)))), PV.str (ndT (rdX s n (Int.toNat (↑x : Int)))), PV.slice (Nds.len (ndS (rdX s n (Int.toNat (↑x : Int))))) (Nds.cells (ndS (rdX s n (Int.toNat (↑x : Int))))), PV.int IntKind.i64 (ndA (rdX s n (Int.toNat (↑x : Int))))], n := m + 1, ty := 69, sz := 5 }] } }, { t := [(0, PV.ptr 0 0), (1, PV.int IntKind.i64 w), (4, PV.ptr 1 0), (7, PV.ptr 2 0)], h := { bx := [{ cs := [PV.str s, PV.int IntKind.i64 (Int.ofNat (rdA s n (Int.toNat (Int.ofNat x)))), PV.int IntKind.i64 (rdE s n (Int.toNat (Int.ofNat x))), PV.int IntKind.i64 (rdF s n (Int.toNat (Int.ofNat x)))], ty := 97 }, { cs := [PV.int IntKind.i64 (0 : Int), PV.int IntKind.i64 (0 : Int), PV.str { data := #[] }, PV.nil, PV.int IntKind.i64 (0 : Int)], ty := 69 }, { cs := [PV.int IntKind.i64 (3 : Int), PV.int IntKind.i64 (0 : Int), PV.str { data := #[] }, PV.own 0 (m + 1), PV.int IntKind.i64 (Int.ofNat a)], ty := 69 }], rw := [some { cs := rc ++ [PV.int IntKind.i64 (ndK (rdX s n (Int.toNat (↑x : Int)))), PV.int IntKind.i64 (ndN (rdX s n (Int.toNat (↑x : Int)))), PV.str (ndT (rdX s n (Int.toNat (↑x : Int)))), PV.slice (Nds.len (ndS (rdX s n (Int.toNat (↑x : Int))))) (Nds.cells (ndS (rdX s n (Int.toNat (↑x : Int))))), PV.int IntKind.i64 (ndA (rdX s n (Int.toNat (↑x : Int))))], n := m + 1, ty := 69, sz := 5 }] } }, { t := [(0, PV.ptr 0 0), (1, PV.int IntKind.i64 w), (4, PV.ptr 1 0), (7, PV.ptr 2 0)], h := { bx := [{ cs := [PV.str s, PV.int IntKind.i64 (Int.ofNat (rdA s n (Int.toNat (Int.ofNat x)))), PV.int IntKind.i64 (rdE s n (Int.toNat (Int.ofNat x))), PV.int IntKind.i64 (rdF s n (Int.toNat (Int.ofNat x)))], ty := 97 }, { cs := [PV.int IntKind.i64 (0 : Int), PV.int IntKind.i64 (0 : Int), PV.str { data := #[] }, PV.nil, PV.int IntKind.i64 (0 : Int)], ty := 69 }, { cs := [PV.int IntKind.i64 (3 : Int), PV.int IntKind.i64 (0 : Int), PV.str { data := #[] }, PV.own 0 (m + 1), PV.int IntKind.i64 (Int.ofNat a)], ty := 69 }], rw := [some { cs := rc ++ [PV.int IntKind.i64 (ndK (rdX s n (Int.toNat (↑x : Int)))), PV.int IntKind.i64 (ndN (rdX s n (Int.toNat (↑x : Int)))), PV.str (ndT (rdX s n (Int.toNat (↑x : Int)))), PV.slice (Nds.len (ndS (rdX s n (Int.toNat (↑x : Int))))) (Nds.cells (ndS (rdX s n (Int.toNat (↑x : Int))))), PV.int IntKind.i64 (ndA (rdX s n (Int.toNat (↑x : Int))))], n := m + 1, ty := 69, sz := 5 }] } }]) (o := [(same (PV.int IntKind.i64 (IntKind.wrap IntKind.i64 (w + (1 : Int)))) (PV.int IntKind.i64 ((1000 : Int) - Int.ofNat n)), true), (decide (0 ≤ (↑x : Int) ∧ (↑x : Int) ≤ (↑(ByteArray.size s) : Int)), true), (decide (1000 - (↑n : Int) = 1000 - (↑n : Int)), true), (Nat.ble (ByteArray.size s) 1099511627776, true), (true, true), (Nat.ble ((m + 1) * 64) 140737488355328, true), (Nat.ble (m + 1) 9223372036854775807, true), (decide (0 ≤ (↑x : Int) ∧ (↑x : Int) ≤ (↑(ByteArray.size s) : Int)), true), (decide (1000 - (↑n : Int) = 1000 - (↑n : Int)), true), (Nat.ble (ByteArray.size s) 1099511627776, true), (true, true), (Nat.ble ((m + 1) * 64) 140737488355328, true), (Nat.ble (m + 1) 9223372036854775807, true), (decide (0 ≤ (↑x : Int) ∧ (↑x : Int) ≤ (↑(ByteArray.size s) : Int)), true), (decide (1000 - (↑n : Int) = 1000 - (↑n : Int)), true), (Nat.ble (ByteArray.size s) 1099511627776, true), (true, true), (Nat.ble ((m + 1) * 64) 140737488355328, true), (Nat.ble (m + 1) 9223372036854775807, true)]) (by kernel_rfl) (by ((repeat' (first | exact okO_nil | refine okN ?_ ?_)); all_goals first | assumption | rfl | exact same_of rfl | exact sameS_self _ | (simp only [decide_eq_true_eq, decide_eq_false_iff_not, Nat.ble_eq, Nat.beq_eq, beq_eq_false_iff_ne, beq_iff_eq, ne_eq] <;> omega))) (fun st hst => hK3 st (.norm [0, 1, 4, 7] ?_))
              have hst2 : nrm [0, 1, 4, 7] st = ⟨[(0, .ptr 0 0), (1, .int .i64 w), (4, .ptr 1 0), (7, .ptr 2 0)], ⟨[rB s (rdA s n x) (rdE s n x) (rdF s n x), nZ, nL a (.own 0 (m + 1))], [some (nR (rc ++ ndC (rdX s n x)) (m + 1))]⟩⟩ := by
                simp only [List.mem_cons, List.not_mem_nil, or_false, or_self] at hst
                exact hst
              rw [hst2]
              have g1 : (rdD s n x).2 = ⟨rdA s n x, rdE s n x, rdF s n x⟩ := rfl
              have g2 : (rdD s n x).1 = rdX s n x := rfl
              have g3 : m + 1 = (l.snoc (rdX s n x)).len := by rw [Nds.snoc_len, hm]
              have g4 : rc ++ ndC (rdX s n x) = (l.snoc (rdX s n x)).cells := by rw [Nds.snoc_cells, hrc, ndC_eq]
              rw [g1, g2] at hrd
              rw [g1] at h2
              obtain ⟨p, hp⟩ : ∃ p, p = rdA s n x := ⟨_, rfl⟩
              obtain ⟨pe, hpe⟩ : ∃ p, p = rdE s n x := ⟨_, rfl⟩
              obtain ⟨pb, hpb⟩ : ∃ p, p = rdF s n x := ⟨_, rfl⟩
              rw [← hp, ← hpe, ← hpb] at h2 hrd ⊢
              have i1 : pe = 0 → s.size + 1 - skp s p ≤ k := fun he => by
                have h3 : x < p := h2.2 he
                have : p ≤ skp s p := skp_ge s p
                omega
              have i2 : (l.snoc (rdX s n x)).len + k ≤ s.size + 1 := by rw [← g3]; omega
              rw [g3, g4]
              obtain ⟨mm, hmm⟩ : ∃ m, m = (l.snoc (rdX s n x)).len := ⟨_, rfl⟩
              obtain ⟨rr, hrr⟩ : ∃ m, m = (l.snoc (rdX s n x)).cells := ⟨_, rfl⟩
              rw [← hmm, ← hrr]
              exact SWP.runQ (SRd true n ih [] []) 100 150 hnt [0, 1, 4, 7] (e := .normal) (z := { t := [(0, PV.ptr 0 0), (1, PV.int IntKind.i64 w), (4, PV.ptr 1 0), (7, PV.ptr 2 0)], h := { bx := [{ cs := [PV.str s, PV.int IntKind.i64 (Int.ofNat (skp s (Int.toNat (Int.ofNat p)))), PV.int IntKind.i64 pe, PV.int IntKind.i64 pb], ty := 97 }, { cs := [PV.int IntKind.i64 (0 : Int), PV.int IntKind.i64 (0 : Int), PV.str { data := #[] }, PV.nil, PV.int IntKind.i64 (0 : Int)], ty := 69 }, { cs := [PV.int IntKind.i64 (3 : Int), PV.int IntKind.i64 (0 : Int), PV.str { data := #[] }, PV.own 0 mm, PV.int IntKind.i64 (Int.ofNat a)], ty := 69 }], rw := [some { cs := rr, n := mm, ty := 69, sz := 5 }] } }) (o := [(true, true), (Nat.ble (ByteArray.size s) 1099511627776, true)]) (by kernel_rfl) (by ((repeat' (first | exact okO_nil | refine okN ?_ ?_)); all_goals first | assumption | rfl | exact same_of rfl | exact sameS_self _ | (simp only [decide_eq_true_eq, decide_eq_false_iff_not, Nat.ble_eq, Nat.beq_eq, beq_eq_false_iff_ne, beq_iff_eq, ne_eq] <;> omega))) (fun st hst => ⟨⟨(⟨skp s p, pe, pb⟩, l.snoc (rdX s n x), k), h2.1.skp, i1, i2, hrd⟩, Nat.lt_succ_self k, by rw [hst, hmm, hrr]; rfl⟩)))
            have go : goes s ⟨x, 0, 0⟩ = !(decide (x < s.size) && bt s (x : Int) == 41) := rfl
            rcases Nat.lt_or_ge x s.size with hl2 | hg2
            · have b1 := sameB (lt_at hl2)
              have b2 := in_at hl2
              by_cases h41 : bt s (x : Int) = 41
              · have b3 := sameB (beqT h41)
                exact SWP.runQ (SRd true n ih [(150, [(126, true)])] [(150, [(116, .bool true), (127, .bool true)])]) 100 150 hnt [0, 1, 4, 7] (e := .exit 0) (z := { t := [(0, PV.ptr 0 0), (1, PV.int IntKind.i64 w), (4, PV.ptr 1 0), (7, PV.ptr 2 0)], h := { bx := [{ cs := [PV.str s, PV.int IntKind.i64 (Int.ofNat x), PV.int IntKind.i64 (0 : Int), PV.int IntKind.i64 (0 : Int)], ty := 97 }, { cs := [PV.int IntKind.i64 (0 : Int), PV.int IntKind.i64 (0 : Int), PV.str { data := #[] }, PV.nil, PV.int IntKind.i64 (0 : Int)], ty := 69 }, { cs := [PV.int IntKind.i64 (3 : Int), PV.int IntKind.i64 (0 : Int), PV.str { data := #[] }, PV.own 0 m, PV.int IntKind.i64 (Int.ofNat a)], ty := 69 }], rw := [some { cs := rc, n := m, ty := 69, sz := 5 }] } }) (o := [(same (PV.bool (decide ((↑x : Int) < (↑(ByteArray.size s) : Int)))) (PV.bool true), true), (decide (0 ≤ (↑x : Int) ∧ (↑x : Int) < (↑(ByteArray.size s) : Int)), true), (same (PV.bool (bt s (Int.ofNat x) == (41 : Int))) (PV.bool true), true)]) (by kernel_rfl) (by ((repeat' (first | exact okO_nil | refine okN ?_ ?_)); all_goals first | assumption | rfl | exact same_of rfl | exact sameS_self _ | (simp only [decide_eq_true_eq, decide_eq_false_iff_not, Nat.ble_eq, Nat.beq_eq, beq_eq_false_iff_ne, beq_iff_eq, ne_eq] <;> omega))) (out (by rw [go, decide_eq_true hl2, beqT h41]; rfl))
              · have b3 := sameB (beqF h41)
                exact SWP.runQ (SRd true n ih [(150, [(126, true)])] [(150, [(116, .bool true), (127, .bool false)])]) 100 150 hnt [0, 1, 4, 7] (e := .normal) (z := { t := [(0, PV.ptr 0 0), (1, PV.int IntKind.i64 w), (4, PV.ptr 1 0), (7, PV.ptr 2 0)], h := { bx := [{ cs := [PV.str s, PV.int IntKind.i64 (Int.ofNat x), PV.int IntKind.i64 (0 : Int), PV.int IntKind.i64 (0 : Int)], ty := 97 }, { cs := [PV.int IntKind.i64 (0 : Int), PV.int IntKind.i64 (0 : Int), PV.str { data := #[] }, PV.nil, PV.int IntKind.i64 (0 : Int)], ty := 69 }, { cs := [PV.int IntKind.i64 (3 : Int), PV.int IntKind.i64 (0 : Int), PV.str { data := #[] }, PV.own 0 m, PV.int IntKind.i64 (Int.ofNat a)], ty := 69 }], rw := [some { cs := rc, n := m, ty := 69, sz := 5 }] } }) (o := [(same (PV.bool (decide ((↑x : Int) < (↑(ByteArray.size s) : Int)))) (PV.bool true), true), (decide (0 ≤ (↑x : Int) ∧ (↑x : Int) < (↑(ByteArray.size s) : Int)), true), (same (PV.bool (bt s (Int.ofNat x) == (41 : Int))) (PV.bool false), true)]) (by kernel_rfl) (by ((repeat' (first | exact okO_nil | refine okN ?_ ?_)); all_goals first | assumption | rfl | exact same_of rfl | exact sameS_self _ | (simp only [decide_eq_true_eq, decide_eq_false_iff_not, Nat.ble_eq, Nat.beq_eq, beq_eq_false_iff_ne, beq_iff_eq, ne_eq] <;> omega))) (cont (by rw [go, decide_eq_true hl2, beqF h41]; rfl))
            · have b1 := sameB (ge_at hg2)
              exact SWP.runQ (SRd true n ih [] [(150, [(116, .bool false)])]) 100 150 hnt [0, 1, 4, 7] (e := .normal) (z := { t := [(0, PV.ptr 0 0), (1, PV.int IntKind.i64 w), (4, PV.ptr 1 0), (7, PV.ptr 2 0)], h := { bx := [{ cs := [PV.str s, PV.int IntKind.i64 (Int.ofNat x), PV.int IntKind.i64 (0 : Int), PV.int IntKind.i64 (0 : Int)], ty := 97 }, { cs := [PV.int IntKind.i64 (0 : Int), PV.int IntKind.i64 (0 : Int), PV.str { data := #[] }, PV.nil, PV.int IntKind.i64 (0 : Int)], ty := 69 }, { cs := [PV.int IntKind.i64 (3 : Int), PV.int IntKind.i64 (0 : Int), PV.str { data := #[] }, PV.own 0 m, PV.int IntKind.i64 (Int.ofNat a)], ty := 69 }], rw := [some { cs := rc, n := m, ty := 69, sz := 5 }] } }) (o := [(same (PV.bool (decide ((↑x : Int) < (↑(ByteArray.size s) : Int)))) (PV.bool false), true)]) (by kernel_rfl) (by ((repeat' (first | exact okO_nil | refine okN ?_ ?_)); all_goals first | assumption | rfl | exact same_of rfl | exact sameS_self _ | (simp only [decide_eq_true_eq, decide_eq_false_iff_not, Nat.ble_eq, Nat.beq_eq, beq_eq_false_iff_ne, beq_iff_eq, ne_eq] <;> omega))) (cont (by rw [go, decide_eq_false (by omega)]; rfl))
          · have b1 := sameB (beqF he)
            refine Q.seq fun K2 hK2 => ?_
            exact SWP.runQ (SRd true n ih [] [(150, [(105, .bool false)])]) 100 150 hnt [0, 1, 4, 7] (e := .exit 0) (z := { t := [(0, PV.ptr 0 0), (1, PV.int IntKind.i64 w), (4, PV.ptr 1 0), (7, PV.ptr 2 0)], h := { bx := [{ cs := [PV.str s, PV.int IntKind.i64 (Int.ofNat x), PV.int IntKind.i64 e, PV.int IntKind.i64 b], ty := 97 }, { cs := [PV.int IntKind.i64 (0 : Int), PV.int IntKind.i64 (0 : Int), PV.str { data := #[] }, PV.nil, PV.int IntKind.i64 (0 : Int)], ty := 69 }, { cs := [PV.int IntKind.i64 (3 : Int), PV.int IntKind.i64 (0 : Int), PV.str { data := #[] }, PV.own 0 m, PV.int IntKind.i64 (Int.ofNat a)], ty := 69 }], rw := [some { cs := rc, n := m, ty := 69, sz := 5 }] } }) (o := [(same (PV.bool (e == (0 : Int))) (PV.bool false), true)]) (by kernel_rfl) (by ((repeat' (first | exact okO_nil | refine okN ?_ ?_)); all_goals first | assumption | rfl | exact same_of rfl | exact sameS_self _ | (simp only [decide_eq_true_eq, decide_eq_false_iff_not, Nat.ble_eq, Nat.beq_eq, beq_eq_false_iff_ne, beq_iff_eq, ne_eq] <;> omega))) (out (goes_err he))))
      by_cases h39 : bt s (a : Int) = 39
      · have e62 := beqT h39
        by_cases hn0 : n = 0
        · have e66 : decide (1000 ≤ IntKind.wrap IntKind.i64 (w + 1)) = true := by rw [w2, decide_eq_true_eq]; omega
          have eq' : rdD s (n + 1) a = (.zero, ⟨a, 3, a⟩) := by rw [eq]; simp only []; rw [if_pos ⟨h39, hn0⟩]
          exact SWP.runQ (SRd true n ih [(150, [(59, false), (62, true), (66, true)])] []) 100 150 hnt [4] (e := .ret) (z := { t := [(4, PV.ptr 1 0)], h := { bx := [{ cs := [PV.str s, PV.int IntKind.i64 (Int.ofNat a), PV.int IntKind.i64 (3 : Int), PV.int IntKind.i64 (Int.ofNat a)], ty := 97 }, { cs := [PV.int IntKind.i64 (0 : Int), PV.int IntKind.i64 (0 : Int), PV.str { data := #[] }, PV.nil, PV.int IntKind.i64 (0 : Int)], ty := 69 }], rw := [] } }) (o := [(decide (1000 ≤ w), false), (bt s (Int.ofNat a) == (39 : Int), true), (decide (1000 ≤ IntKind.wrap IntKind.i64 (w + 1)), true)]) (by kernel_rfl) (by ((repeat' (first | exact okO_nil | refine okN ?_ ?_)); all_goals first | assumption | rfl | exact same_of rfl | exact sameS_self _ | (simp only [decide_eq_true_eq, decide_eq_false_iff_not, Nat.ble_eq, Nat.beq_eq, beq_eq_false_iff_ne, beq_iff_eq, ne_eq] <;> omega))) (fun st hst => fin st .zero a 3 a .nil [] [] eq' (.inr (.inl ⟨rfl, rfl⟩)) hst)
        · have e66 : decide (1000 ≤ IntKind.wrap IntKind.i64 (w + 1)) = false := by rw [w2, decide_eq_false_iff_not]; omega
          exact SWP.runQ (SRd true n ih [(150, [(59, false), (62, true), (66, false)])] []) 100 150 hnt [0, 1, 4, 5, 6] (e := .normal) (z := { t := [(0, PV.ptr 0 0), (1, PV.int IntKind.i64 w), (4, PV.ptr 1 0), (5, PV.int IntKind.i64 (Int.ofNat a)), (6, PV.int IntKind.u8 (bt s (Int.ofNat a)))], h := { bx := [{ cs := [PV.str s, PV.int IntKind.i64 (Int.ofNat a), PV.int IntKind.i64 (0 : Int), PV.int IntKind.i64 (0 : Int)], ty := 97 }, { cs := [PV.int IntKind.i64 (0 : Int), PV.int IntKind.i64 (0 : Int), PV.str { data := #[] }, PV.nil, PV.int IntKind.i64 (0 : Int)], ty := 69 }], rw := [] } }) (o := [(decide (1000 ≤ w), false), (bt s (Int.ofNat a) == (39 : Int), true), (decide (1000 ≤ IntKind.wrap IntKind.i64 (w + 1)), false)]) (by kernel_rfl) (by ((repeat' (first | exact okO_nil | refine okN ?_ ?_)); all_goals first | assumption | rfl | exact same_of rfl | exact sameS_self _ | (simp only [decide_eq_true_eq, decide_eq_false_iff_not, Nat.ble_eq, Nat.beq_eq, beq_eq_false_iff_ne, beq_iff_eq, ne_eq] <;> omega))) (go8 (fun h => hn0 h.2))
      · have e62 := beqF h39
        exact SWP.runQ (SRd true n ih [(150, [(59, false), (62, false)])] []) 100 150 hnt [0, 1, 4, 5, 6] (e := .normal) (z := { t := [(0, PV.ptr 0 0), (1, PV.int IntKind.i64 w), (4, PV.ptr 1 0), (5, PV.int IntKind.i64 (Int.ofNat a)), (6, PV.int IntKind.u8 (bt s (Int.ofNat a)))], h := { bx := [{ cs := [PV.str s, PV.int IntKind.i64 (Int.ofNat a), PV.int IntKind.i64 (0 : Int), PV.int IntKind.i64 (0 : Int)], ty := 97 }, { cs := [PV.int IntKind.i64 (0 : Int), PV.int IntKind.i64 (0 : Int), PV.str { data := #[] }, PV.nil, PV.int IntKind.i64 (0 : Int)], ty := 69 }], rw := [] } }) (o := [(decide (1000 ≤ w), false), (bt s (Int.ofNat a) == (39 : Int), false)]) (by kernel_rfl) (by ((repeat' (first | exact okO_nil | refine okN ?_ ?_)); all_goals first | assumption | rfl | exact same_of rfl | exact sameS_self _ | (simp only [decide_eq_true_eq, decide_eq_false_iff_not, Nat.ble_eq, Nat.beq_eq, beq_eq_false_iff_ne, beq_iff_eq, ne_eq] <;> omega))) (go8 (fun h => h39 h.1))))
  by_cases h40 : bt s (a : Int) = 40
  · have e45 : (!bt s (a : Int) == (40 : Int)) = false := by rw [beqT h40]; rfl
    exact SWP.runQ (SRd u n ih [(150, [(45, false)])] []) 100 150 hnt [0, 1, 4, 5, 6] (e := .normal) (z := { t := [(0, PV.ptr 0 0), (1, PV.int IntKind.i64 w), (4, PV.ptr 1 0), (5, PV.int IntKind.i64 (Int.ofNat a)), (6, PV.int IntKind.u8 (bt s (Int.ofNat a)))], h := { bx := [{ cs := [PV.str s, PV.int IntKind.i64 (Int.ofNat a), PV.int IntKind.i64 (0 : Int), PV.int IntKind.i64 (0 : Int)], ty := 97 }, { cs := [PV.int IntKind.i64 (0 : Int), PV.int IntKind.i64 (0 : Int), PV.str { data := #[] }, PV.nil, PV.int IntKind.i64 (0 : Int)], ty := 69 }], rw := [] } }) (o := [(!bt s (Int.ofNat a) == (40 : Int), false)]) (by kernel_rfl) (by ((repeat' (first | exact okO_nil | refine okN ?_ ?_)); all_goals first | assumption | rfl | exact same_of rfl | exact sameS_self _ | (simp only [decide_eq_true_eq, decide_eq_false_iff_not, Nat.ble_eq, Nat.beq_eq, beq_eq_false_iff_ne, beq_iff_eq, ne_eq] <;> omega))) (go6 (fun h => h.1 h40))
  have e45 : (!bt s (a : Int) == (40 : Int)) = true := by rw [beqF h40]; rfl
  by_cases h39 : bt s (a : Int) = 39
  · have e48 : (!bt s (a : Int) == (39 : Int)) = false := by rw [beqT h39]; rfl
    exact SWP.runQ (SRd u n ih [(150, [(45, true), (48, false)])] []) 100 150 hnt [0, 1, 4, 5, 6] (e := .normal) (z := { t := [(0, PV.ptr 0 0), (1, PV.int IntKind.i64 w), (4, PV.ptr 1 0), (5, PV.int IntKind.i64 (Int.ofNat a)), (6, PV.int IntKind.u8 (bt s (Int.ofNat a)))], h := { bx := [{ cs := [PV.str s, PV.int IntKind.i64 (Int.ofNat a), PV.int IntKind.i64 (0 : Int), PV.int IntKind.i64 (0 : Int)], ty := 97 }, { cs := [PV.int IntKind.i64 (0 : Int), PV.int IntKind.i64 (0 : Int), PV.str { data := #[] }, PV.nil, PV.int IntKind.i64 (0 : Int)], ty := 69 }], rw := [] } }) (o := [(!bt s (Int.ofNat a) == (40 : Int), true), (!bt s (Int.ofNat a) == (39 : Int), false)]) (by kernel_rfl) (by ((repeat' (first | exact okO_nil | refine okN ?_ ?_)); all_goals first | assumption | rfl | exact same_of rfl | exact sameS_self _ | (simp only [decide_eq_true_eq, decide_eq_false_iff_not, Nat.ble_eq, Nat.beq_eq, beq_eq_false_iff_ne, beq_iff_eq, ne_eq] <;> omega))) (go6 (fun h => h.2.1 h39))
  have e48 : (!bt s (a : Int) == (39 : Int)) = true := by rw [beqF h39]; rfl
  cases hl : letC (bt s (a : Int)) with
  | true => exact SWP.runQ (SRd u n ih [(150, [(45, true), (48, true), (52, true)])] []) 100 150 hnt [0, 1, 4, 5, 6] (e := .normal) (z := { t := [(0, PV.ptr 0 0), (1, PV.int IntKind.i64 w), (4, PV.ptr 1 0), (5, PV.int IntKind.i64 (Int.ofNat a)), (6, PV.int IntKind.u8 (bt s (Int.ofNat a)))], h := { bx := [{ cs := [PV.str s, PV.int IntKind.i64 (Int.ofNat a), PV.int IntKind.i64 (0 : Int), PV.int IntKind.i64 (0 : Int)], ty := 97 }, { cs := [PV.int IntKind.i64 (0 : Int), PV.int IntKind.i64 (0 : Int), PV.str { data := #[] }, PV.nil, PV.int IntKind.i64 (0 : Int)], ty := 69 }], rw := [] } }) (o := [(!bt s (Int.ofNat a) == (40 : Int), true), (!bt s (Int.ofNat a) == (39 : Int), true), (true, true), (decide (0 ≤ bt s (↑a : Int) ∧ bt s (↑a : Int) < 256), true), (letC (bt s (Int.ofNat a)), true)]) (by kernel_rfl) (by ((repeat' (first | exact okO_nil | refine okN ?_ ?_)); all_goals first | assumption | rfl | exact same_of rfl | exact sameS_self _ | (simp only [decide_eq_true_eq, decide_eq_false_iff_not, Nat.ble_eq, Nat.beq_eq, beq_eq_false_iff_ne, beq_iff_eq, ne_eq] <;> omega))) (go6 (fun h => by rw [hl] at h; exact absurd h.2.2 (by decide)))
  | false =>
    rw [if_pos ⟨h40, h39, hl⟩] at eq
    exact SWP.runQ (SRd u n ih [(150, [(45, true), (48, true), (52, false)])] []) 100 150 hnt [4] (e := .ret) (z := { t := [(4, PV.ptr 1 0)], h := { bx := [{ cs := [PV.str s, PV.int IntKind.i64 (Int.ofNat a), PV.int IntKind.i64 (4 : Int), PV.int IntKind.i64 (Int.ofNat a)], ty := 97 }, { cs := [PV.int IntKind.i64 (0 : Int), PV.int IntKind.i64 (0 : Int), PV.str { data := #[] }, PV.nil, PV.int IntKind.i64 (0 : Int)], ty := 69 }], rw := [] } }) (o := [(!bt s (Int.ofNat a) == (40 : Int), true), (!bt s (Int.ofNat a) == (39 : Int), true), (true, true), (decide (0 ≤ bt s (↑a : Int) ∧ bt s (↑a : Int) < 256), true), (letC (bt s (Int.ofNat a)), false)]) (by kernel_rfl) (by ((repeat' (first | exact okO_nil | refine okN ?_ ?_)); all_goals first | assumption | rfl | exact same_of rfl | exact sameS_self _ | (simp only [decide_eq_true_eq, decide_eq_false_iff_not, Nat.ble_eq, Nat.beq_eq, beq_eq_false_iff_ne, beq_iff_eq, ne_eq] <;> omega))) (fun st hst => fin st .zero a 4 a .nil [] [] eq (.inr (.inl ⟨rfl, rfl⟩)) hst)
theorem rd_at : ∀ N, N ≤ 1000 → RdAt N
  | 0, h => rd_step false 0 (fun h => by cases h) 0 (fun h => by cases h) (fun _ => rfl) h
  | n + 1, h => rd_step true n (fun _ => rd_at n (by omega)) (n + 1) (fun _ => rfl) (fun h => by cases h) h
end Seat
end Go.Proofs.YtenpjkcclmmlhaaDoor
/- The document's reader: what a node is. Printed by dev/rd5.py and dev/nfsub.py (this session's). -/
namespace Go.Proofs.YtenpjkcclmmlhaaDoor
open Go.AS Go.RowKit
set_option linter.unusedVariables false
set_option linter.unusedSimpArgs false
set_option maxRecDepth 100000
set_option maxHeartbeats 4000000
namespace Seat
mutual
def Nd.size : Nd → Nat
  | .mk _ _ _ ks _ => ks.size + 1
def Nds.size : Nds → Nat
  | .nil => 0
  | .cons d ds => d.size + ds.size + 1
end
mutual
/-- Short enough for a machine. -/
def Nd.ok : Nd → Prop
  | .mk _ _ _ ks _ => ks.len ≤ 1099511627777 ∧ ks.ok
def Nds.ok : Nds → Prop
  | .nil => True
  | .cons d ds => d.ok ∧ ds.ok
end
open Classical in
noncomputable def isNds (N m : Nat) (cs : List PV) : Bool := decide (∃ ks : Nds, ks.len = m ∧ ks.cells = cs ∧ ks.size < N ∧ ks.len ≤ 1099511627777 ∧ ks.ok)
theorem isNds_at {N : Nat} {ks : Nds} (h : ks.size < N) (hl : ks.len ≤ 1099511627777) (ho : ks.ok) : isNds N ks.len ks.cells = true := by
  unfold isNds
  classical exact decide_eq_true ⟨ks, rfl, rfl, h, hl, ho⟩
theorem isNds_of {N m : Nat} {cs : List PV} (h : isNds N m cs = true) : ∃ ks : Nds, ks.len = m ∧ ks.cells = cs ∧ ks.size < N ∧ ks.len ≤ 1099511627777 ∧ ks.ok := by
  unfold isNds at h
  classical exact of_decide_eq_true h
open Classical in
/-- The data's cells, of the nodes' cells. -/
noncomputable def ndD (cs : List PV) : Dats := if h : ∃ ks : Nds, ks.cells = cs then h.choose.dat else .nil
theorem ndD_at (ks : Nds) : ndD ks.cells = ks.dat := by
  have h : ∃ e : Nds, e.cells = ks.cells := ⟨ks, rfl⟩
  unfold ndD
  rw [dif_pos h, Nds.inj _ _ h.choose_spec]
def DtAt (N : Nat) : Prop := ∀ (k n : Int) (t : ByteArray) (ks : Nds) (a : Int), ks.size < N → ks.len ≤ 1099511627777 → ks.ok → Pure G0 39 [.agg [.int .i64 k, .int .i64 n, .str t, .slice ks.len ks.cells, .int .i64 a]] (fun r => r = .agg [.int .i64 k, .int .i64 n, .str t, .slice ks.len ks.dat.cells])
noncomputable def ntS (N : Nat) (f : Nat) (args : List PV) : Option (PV × Ob) := match f, args with
  | 39, [.agg [.int .i64 k, .int .i64 n, .str t, .slice m cs, .int .i64 a]] => some (.agg [.int .i64 k, .int .i64 n, .str t, .slice m (ndD cs).cells], [(isNds N m cs, true)])
  | _, _ => none
theorem ntS_ok {N : Nat} (ih : DtAt N) (f : Nat) (args : List PV) (r : PV) (o : Ob) (h : ntS N f args = some (r, o)) (ho : ∀ p ∈ o, p.1 = p.2) (_ : pureL args = true) : Pure G0 f args (fun x => x = r) := by
  unfold ntS at h
  split at h
  · rename_i k n t m cs a _
    cases h
    obtain ⟨ks, rfl, rfl, h1, h2, h3⟩ := isNds_of (ho (isNds N m cs, true) (List.mem_singleton.2 rfl))
    rw [ndD_at]
    exact ih k n t ks a h1 h2 h3
  · cases h
noncomputable def SNd {N : Nat} (ih : DtAt N) (l : List (Nat × List (Nat × Bool))) (v : List (Nat × List (Nat × PV))) : Cfg G0 := { F := F, hF := hF, S := ntS N, hS := ntS_ok ih, orc := orcM l, val := valM v }
def nB (k n a : Int) (t : ByteArray) (ks : Nds) : Box := ⟨[.int .i64 k, .int .i64 n, .str t, .slice ks.len ks.cells, .int .i64 a], 69⟩
def dZ : Box := ⟨[.int .i64 0, .int .i64 0, .str ⟨#[]⟩, .nil], 25⟩
def dL (k n : Int) (t : ByteArray) (x : PV) : Box := ⟨[.int .i64 k, .int .i64 n, .str t, x], 25⟩
def dR (rc : List PV) (m : Nat) : Row := ⟨rc, m, 25, 4⟩
def Nds.get : Nds → Nat → Nd
  | .nil, _ => .zero
  | .cons d _, 0 => d
  | .cons _ ds, i + 1 => ds.get i
def Nds.take : Nds → Nat → Nds
  | _, 0 => .nil
  | .nil, _ => .nil
  | .cons d ds, i + 1 => .cons d (ds.take i)
theorem Nds.get_cells : ∀ (ds : Nds) (i : Nat), i < ds.len → (ds.cells.drop (i * 5)).take 5 = (ds.get i).cells
  | .nil, i, h => by simp [Nds.len] at h
  | .cons d ds, 0, h => by
    simp only [Nds.cells, Nds.get, Nat.zero_mul, List.drop_zero]
    rw [List.take_append_of_le_length (by rw [Nd.cells_len]; omega), List.take_of_length_le (by rw [Nd.cells_len]; omega)]
  | .cons d ds, i + 1, h => by
    simp only [Nds.cells, Nds.get]
    have e : (i + 1) * 5 = d.cells.length + i * 5 := by rw [Nd.cells_len]; omega
    rw [e, List.drop_append, ← Nds.get_cells ds i (by simp only [Nds.len] at h; omega)]
    congr 1
    rw [List.drop_eq_nil_of_le (by omega), List.nil_append]
    congr 1
    omega
theorem Nds.get_ok : ∀ (ds : Nds) (i : Nat), i < ds.len → ds.ok → (ds.get i).ok
  | .nil, i, h, _ => by simp [Nds.len] at h
  | .cons d ds, 0, h, ho => ho.1
  | .cons d ds, i + 1, h, ho => Nds.get_ok ds i (by simp only [Nds.len] at h; omega) ho.2
theorem Nds.get_size : ∀ (ds : Nds) (i : Nat), i < ds.len → (ds.get i).size < ds.size
  | .nil, i, h => by simp [Nds.len] at h
  | .cons d ds, 0, h => by simp only [Nds.get, Nds.size]; omega
  | .cons d ds, i + 1, h => by
    have := Nds.get_size ds i (by simp only [Nds.len] at h; omega)
    simp only [Nds.get, Nds.size]; omega
theorem Nds.take_dat : ∀ (ds : Nds) (j : Nat), j < ds.len → (ds.take (j + 1)).dat.cells = (ds.take j).dat.cells ++ (ds.get j).dat.cells
  | .nil, j, h => by simp [Nds.len] at h
  | .cons d ds, 0, h => by cases ds <;> simp [Nds.take, Nds.dat, Dats.cells, Nds.get]
  | .cons d ds, j + 1, h => by
    have := Nds.take_dat ds j (by simp only [Nds.len] at h; omega)
    show d.dat.cells ++ (ds.take (j + 1)).dat.cells = (d.dat.cells ++ (ds.take j).dat.cells) ++ (ds.get j).dat.cells
    rw [this, List.append_assoc]
theorem Nds.take_all : ∀ ds : Nds, ds.take ds.len = ds
  | .nil => rfl
  | .cons d ds => by show Nds.cons d (ds.take ds.len) = _; rw [Nds.take_all ds]
theorem nd_mk (d : Nd) : ∃ k n t ks a, d = .mk k n t ks a := by obtain ⟨k, n, t, ks, a⟩ := d; exact ⟨k, n, t, ks, a, rfl⟩
theorem dt_at (N : Nat) : DtAt N := by
  induction N with
  | zero => intro k n t ks a h; omega
  | succ N ih =>
    intro k n t ks a hN hl hok
    refine Fn.enterB Tryd.func39 Tryd.ntmps39 rfl (Nat.le_of_ble_eq_true rfl) fun C fr fp hnt hnb hp hfr hfp => ?_
    have fin : ∀ st m rc bx rw', m = ks.len → rc = ks.dat.cells → nrm [2] st = ⟨[(2, .ptr 1 0)], ⟨nB k n a t ks :: dL k n t (.slice m rc) :: bx, rw'⟩⟩ → fr st := fun st m rc bx rw' h1 h2 hst => hfr st [2] (by
      rw [hst, ← h1, ← h2]
      exact ⟨0, .agg [.int .i64 k, .int .i64 n, .str t, .slice m rc], Nat.le_refl _, Nat.zero_le _, rfl, rfl, rfl, rfl, _, rfl, rfl⟩)
    refine Q.runSeq (SNd ih [] []) 100 31 hnt [1, 2] (z := { t := [(1, PV.ptr 0 0), (2, PV.ptr 1 0)], h := { bx := [{ cs := [PV.int IntKind.i64 k, PV.int IntKind.i64 n, PV.str t, PV.slice (Nds.len ks) (Nds.cells ks), PV.int IntKind.i64 a], ty := 69 }, { cs := [PV.int IntKind.i64 (0 : Int), PV.int IntKind.i64 (0 : Int), PV.str { data := #[] }, PV.nil], ty := 25 }], rw := [] } }) (o := []) (by kernel_rfl) (by ((repeat' (first | exact okO_nil | refine okN ?_ ?_)); all_goals first | assumption | rfl | exact same_of rfl | exact sameS_self _ | (simp only [decide_eq_true_eq, decide_eq_false_iff_not, Nat.ble_eq, Nat.beq_eq, beq_eq_false_iff_ne, beq_iff_eq, ne_eq] <;> omega))) ?_
    refine Q.runSeq (SNd ih [] []) 100 31 hnt [1, 2, 3] (z := { t := [(1, PV.ptr 0 0), (2, PV.ptr 1 0), (3, PV.ptr 2 0)], h := { bx := [{ cs := [PV.int IntKind.i64 k, PV.int IntKind.i64 n, PV.str t, PV.slice (Nds.len ks) (Nds.cells ks), PV.int IntKind.i64 a], ty := 69 }, { cs := [PV.int IntKind.i64 (0 : Int), PV.int IntKind.i64 (0 : Int), PV.str { data := #[] }, PV.nil], ty := 25 }, { cs := [PV.int IntKind.i64 k, PV.int IntKind.i64 n, PV.str t, PV.nil], ty := 25 }], rw := [] } }) (o := []) (by kernel_rfl) (by ((repeat' (first | exact okO_nil | refine okN ?_ ?_)); all_goals first | assumption | rfl | exact same_of rfl | exact sameS_self _ | (simp only [decide_eq_true_eq, decide_eq_false_iff_not, Nat.ble_eq, Nat.beq_eq, beq_eq_false_iff_ne, beq_iff_eq, ne_eq] <;> omega))) ?_
    refine SWP.adoptB 2 3 25 4 rfl rfl ?_
    refine Q.seq fun K hK => ?_
    refine Q.runSeq (SNd ih [] []) 100 31 hnt [1, 2, 3, 4] (z := { t := [(1, PV.ptr 0 0), (2, PV.ptr 1 0), (3, PV.ptr 2 0), (4, PV.int IntKind.i64 (0 : Int))], h := { bx := [{ cs := [PV.int IntKind.i64 k, PV.int IntKind.i64 n, PV.str t, PV.slice (Nds.len ks) (Nds.cells ks), PV.int IntKind.i64 a], ty := 69 }, { cs := [PV.int IntKind.i64 (0 : Int), PV.int IntKind.i64 (0 : Int), PV.str { data := #[] }, PV.nil], ty := 25 }, { cs := [PV.int IntKind.i64 k, PV.int IntKind.i64 n, PV.str t, PV.own 0 0], ty := 25 }], rw := [some { cs := [], n := 0, ty := 25, sz := 4 }] } }) (o := []) (by kernel_rfl) (by ((repeat' (first | exact okO_nil | refine okN ?_ ?_)); all_goals first | assumption | rfl | exact same_of rfl | exact sameS_self _ | (simp only [decide_eq_true_eq, decide_eq_false_iff_not, Nat.ble_eq, Nat.beq_eq, beq_eq_false_iff_ne, beq_iff_eq, ne_eq] <;> omega))) ?_
    refine Q.block ?_
    let T (j : Nat) : AS := ⟨[(1, .ptr 0 0), (2, .ptr 1 0), (3, .ptr 2 0), (4, .int .i64 j)], ⟨[nB k n a t ks, dZ, dL k n t (.own 0 j)], [some (dR (ks.take j).dat.cells j)]⟩⟩
    refine Q.loopI (σ := { j : Nat // j ≤ ks.len }) [1, 2, 3, 4] (fun j => T j.1) (fun j => ks.len - j.1) ⟨0, Nat.zero_le _⟩ (by cases ks <;> rfl) fun ⟨j, hj⟩ => ?_
    show SWP G0 C _ _ ⟨[(1, .ptr 0 0), (2, .ptr 1 0), (3, .ptr 2 0), (4, .int .i64 j)], ⟨[nB k n a t ks, dZ, dL k n t (.own 0 j)], [some (dR (ks.take j).dat.cells j)]⟩⟩
    obtain ⟨rc, hrc⟩ : ∃ rc, rc = (ks.take j).dat.cells := ⟨_, rfl⟩
    refine swp_st (st' := ⟨[(1, .ptr 0 0), (2, .ptr 1 0), (3, .ptr 2 0), (4, .int .i64 j)], ⟨[nB k n a t ks, dZ, dL k n t (.own 0 j)], [some (dR rc j)]⟩⟩) (by rw [hrc]) ?_
    rcases Nat.lt_or_ge j ks.len with hlt | hge
    · have d1 := lt_at hlt
      have d2 := in_at hlt
      refine Q.runSeq (SNd ih [(31, [(16, true)])] []) 100 31 hnt [1, 2, 3, 4] (z := { t := [(1, PV.ptr 0 0), (2, PV.ptr 1 0), (3, PV.ptr 2 0), (4, PV.int IntKind.i64 (Int.ofNat j))], h := { bx := [{ cs := [PV.int IntKind.i64 k, PV.int IntKind.i64 n, PV.str t, PV.slice (Nds.len ks) (Nds.cells ks), PV.int IntKind.i64 a], ty := 69 }, { cs := [PV.int IntKind.i64 (0 : Int), PV.int IntKind.i64 (0 : Int), PV.str { data := #[] }, PV.nil], ty := 25 }, { cs := [PV.int IntKind.i64 k, PV.int IntKind.i64 n, PV.str t, PV.own 0 j], ty := 25 }], rw := [some { cs := rc, n := j, ty := 25, sz := 4 }] } }) (o := [(decide ((↑j : Int) < (↑(Nds.len ks) : Int)), true), (true, true)]) (by kernel_rfl) (by ((repeat' (first | exact okO_nil | refine okN ?_ ?_)); all_goals first | assumption | rfl | exact same_of rfl | exact sameS_self _ | (simp only [decide_eq_true_eq, decide_eq_false_iff_not, Nat.ble_eq, Nat.beq_eq, beq_eq_false_iff_ne, beq_iff_eq, ne_eq] <;> omega))) ?_
      obtain ⟨k', n', t', ks', a', hget⟩ := nd_mk (ks.get j)
      have hsz := Nds.get_size ks j hlt
      have hoj := Nds.get_ok ks j hlt hok
      rw [hget] at hsz hoj
      simp only [Nd.size] at hsz
      have d3 : decide (TD.size d69 ≤ List.length (List.drop (Int.toNat (j : Int) * TD.size d69) (Nds.cells ks))) = true := by
        show decide (5 ≤ List.length (List.drop (Int.toNat (j : Int) * 5) (Nds.cells ks))) = true
        simp only [Int.toNat_natCast, List.length_drop, Nds.cells_len, decide_eq_true_eq]; omega
      have d4 : same (PV.agg (List.take 5 (List.drop (Int.toNat (Int.ofNat j) * 5) (Nds.cells ks)))) (PV.agg [PV.int IntKind.i64 k', PV.int IntKind.i64 n', PV.str t', PV.slice (Nds.len ks') (Nds.cells ks'), PV.int IntKind.i64 a']) = true := same_of (by
        show PV.agg (List.take 5 (List.drop (j * 5) (Nds.cells ks))) = _
        rw [Nds.get_cells ks j hlt, hget]; rfl)
      have d5 : isNds N (Nds.len ks') (Nds.cells ks') = true := isNds_at (by omega) hoj.1 hoj.2
      have wj : IntKind.wrap IntKind.i64 (Int.ofNat (j + 1)) = ((j + 1 : Nat) : Int) := wrapI (j + 1) (by omega)
      refine Q.seq fun K3 hK3 => ?_
      refine Q.block ?_
      refine SWP.runLQ (SNd ih [(31, [(24, true), (25, true), (28, true)])] [(31, [(25, .agg [.int .i64 k', .int .i64 n', .str t', .slice ks'.len ks'.cells, .int .i64 a'])])]) 100 31 hnt [1, 2, 3, 4] (l := [{ t := [(1, PV.ptr 0 0), (2, PV.ptr 1 0), (3, PV.ptr 2 0), (4, PV.int IntKind.i64 (Int.ofNat j))], h := { bx := [{ cs := [PV.int IntKind.i64 k, PV.int IntKind.i64 n, PV.str t, PV.slice (Nds.len ks) (Nds.cells ks), PV.int IntKind.i64 a], ty := 69 }, { cs := [PV.int IntKind.i64 (0 : Int), PV.int IntKind.i64 (0 : Int), PV.str { data := #[] }, PV.nil], ty := 25 }, { cs := [PV.int IntKind.i64 k, PV.int IntKind.i64 n, PV.str t, PV.own 0 (j + 1)], ty := 25 }], rw := [some { cs := rc ++ [PV.int IntKind.i64 k', PV.int IntKind.i64 n', PV.str t', PV.slice (Nds.len ks') (Dats.cells (ndD (Nds.cells ks')))], n := j + 1, ty := 25, sz := 4 }] } }]) (o := [(decide (0 ≤ (↑j : Int) ∧ (↑j : Int) < (↑(Nds.len ks) : Int)), true), (decide (TD.size d69 ≤ List.length (List.drop (Int.toNat (↑j : Int) * TD.size d69) (Nds.cells ks))), true), (same (PV.agg (List.take 5 (List.drop (Int.toNat (Int.ofNat j) * 5) (Nds.cells ks)))) (PV.agg [PV.int IntKind.i64 k', PV.int IntKind.i64 n', PV.str t', PV.slice (Nds.len ks') (Nds.cells ks'), PV.int IntKind.i64 a']), true), (true, true), (isNds N (Nds.len ks') (Nds.cells ks'), true), (true, true), (Nat.ble ((j + 1) * 56) 140737488355328, true), (Nat.ble (j + 1) 9223372036854775807, true)]) (by kernel_rfl) (by ((repeat' (first | exact okO_nil | refine okN ?_ ?_)); all_goals first | assumption | rfl | exact same_of rfl | exact sameS_self _ | (simp only [decide_eq_true_eq, decide_eq_false_iff_not, Nat.ble_eq, Nat.beq_eq, beq_eq_false_iff_ne, beq_iff_eq, ne_eq] <;> omega))) (fun st hst => hK3 st (.norm [1, 2, 3, 4] ?_))
      have hst2 : nrm [1, 2, 3, 4] st = ⟨[(1, .ptr 0 0), (2, .ptr 1 0), (3, .ptr 2 0), (4, .int .i64 j)], ⟨[nB k n a t ks, dZ, dL k n t (.own 0 (j + 1))], [some (dR (rc ++ [.int .i64 k', .int .i64 n', .str t', .slice ks'.len (ndD ks'.cells).cells]) (j + 1))]⟩⟩ := by
        simp only [List.mem_cons, List.not_mem_nil, or_false, or_self] at hst
        exact hst
      rw [hst2]
      have hr2 : rc ++ [.int .i64 k', .int .i64 n', .str t', .slice ks'.len (ndD ks'.cells).cells] = (ks.take (j + 1)).dat.cells := by
        rw [Nds.take_dat ks j hlt, hrc, hget, ndD_at]
        simp only [Nd.dat, Dat.cells, Nds.dat_len]
      rw [hr2]
      obtain ⟨rr, hrr⟩ : ∃ rr, rr = (ks.take (j + 1)).dat.cells := ⟨_, rfl⟩
      rw [← hrr]
      exact SWP.runQ (SNd ih [] []) 100 31 hnt [1, 2, 3, 4] (e := .normal) (z := { t := [(1, PV.ptr 0 0), (2, PV.ptr 1 0), (3, PV.ptr 2 0), (4, PV.int IntKind.i64 (IntKind.wrap IntKind.i64 (Int.ofNat (j + 1))))], h := { bx := [{ cs := [PV.int IntKind.i64 k, PV.int IntKind.i64 n, PV.str t, PV.slice (Nds.len ks) (Nds.cells ks), PV.int IntKind.i64 a], ty := 69 }, { cs := [PV.int IntKind.i64 (0 : Int), PV.int IntKind.i64 (0 : Int), PV.str { data := #[] }, PV.nil], ty := 25 }, { cs := [PV.int IntKind.i64 k, PV.int IntKind.i64 n, PV.str t, PV.own 0 (j + 1)], ty := 25 }], rw := [some { cs := rr, n := j + 1, ty := 25, sz := 4 }] } }) (o := []) (by kernel_rfl) (by ((repeat' (first | exact okO_nil | refine okN ?_ ?_)); all_goals first | assumption | rfl | exact same_of rfl | exact sameS_self _ | (simp only [decide_eq_true_eq, decide_eq_false_iff_not, Nat.ble_eq, Nat.beq_eq, beq_eq_false_iff_ne, beq_iff_eq, ne_eq] <;> omega))) (fun st hst => ⟨⟨j + 1, hlt⟩, Nat.sub_lt_sub_left hlt (Nat.lt_succ_self j), by rw [hst, wj, hrr]; rfl⟩)
    · have d1 := ge_at hge
      have hje : j = ks.len := by omega
      refine SWP.runQ (SNd ih [(31, [(16, false)])] []) 100 31 hnt [2, 3] (e := .exit 0) (z := { t := [(2, PV.ptr 1 0), (3, PV.ptr 2 0)], h := { bx := [{ cs := [PV.int IntKind.i64 k, PV.int IntKind.i64 n, PV.str t, PV.slice (Nds.len ks) (Nds.cells ks), PV.int IntKind.i64 a], ty := 69 }, { cs := [PV.int IntKind.i64 (0 : Int), PV.int IntKind.i64 (0 : Int), PV.str { data := #[] }, PV.nil], ty := 25 }, { cs := [PV.int IntKind.i64 k, PV.int IntKind.i64 n, PV.str t, PV.own 0 j], ty := 25 }], rw := [some { cs := rc, n := j, ty := 25, sz := 4 }] } }) (o := [(decide ((↑j : Int) < (↑(Nds.len ks) : Int)), false), (false, false)]) (by kernel_rfl) (by ((repeat' (first | exact okO_nil | refine okN ?_ ?_)); all_goals first | assumption | rfl | exact same_of rfl | exact sameS_self _ | (simp only [decide_eq_true_eq, decide_eq_false_iff_not, Nat.ble_eq, Nat.beq_eq, beq_eq_false_iff_ne, beq_iff_eq, ne_eq] <;> omega))) (fun st hst => hK st (.norm [2, 3] ?_))
      rw [hst]
      refine SWP.frz [0] ?_
      exact SWP.runQ (SNd ih [] []) 100 31 hnt [2] (e := .ret) (z := { t := [(2, PV.ptr 1 0)], h := { bx := [{ cs := [PV.int IntKind.i64 k, PV.int IntKind.i64 n, PV.str t, PV.slice (Nds.len ks) (Nds.cells ks), PV.int IntKind.i64 a], ty := 69 }, { cs := [PV.int IntKind.i64 k, PV.int IntKind.i64 n, PV.str t, PV.slice j rc], ty := 25 }, { cs := [PV.int IntKind.i64 k, PV.int IntKind.i64 n, PV.str t, PV.slice j rc], ty := 25 }], rw := [none] } }) (o := []) (by kernel_rfl) (by ((repeat' (first | exact okO_nil | refine okN ?_ ?_)); all_goals first | assumption | rfl | exact same_of rfl | exact sameS_self _ | (simp only [decide_eq_true_eq, decide_eq_false_iff_not, Nat.ble_eq, Nat.beq_eq, beq_eq_false_iff_ne, beq_iff_eq, ne_eq] <;> omega))) (fun st hst => fin st j rc [dL k n t (.slice j rc)] [none] hje (by rw [hrc, hje, Nds.take_all]) hst)
end Seat
end Go.Proofs.YtenpjkcclmmlhaaDoor
/- The program's reader: atoms, and a fault. -/
namespace Go.Proofs.YtenpjkcclmmlhaaDoor
open Go.AS Go.RowKit
set_option linter.unusedVariables false
set_option linter.unusedSimpArgs false
set_option maxRecDepth 100000
set_option maxHeartbeats 4000000
namespace Seat
/-- A law of a function that is handed boxes alone, as one of a function that is handed boxes and rows. -/
theorem PCalls.toR {G : Prg} {f : FuncId} {args : List PV} {bx : List Box} {R : Out → List Box → Prop} (h : PCalls G f args bx R) : RCalls G f args ⟨bx, []⟩ (fun o H => H.rw = [] ∧ R o H.bx) := fun E w vs hh hv =>
  (h E w vs hh hv).mono fun e w' ⟨o, bx', E', hR, ho, h', hx⟩ => by
    have hlen : E'.nb = bx'.length := h'.nb
    refine ⟨o, ⟨bx', []⟩, { E' with lo := E.lo }, ⟨rfl, hR⟩, ?_, ?_, ?_⟩
    · cases o with
      | ret r => obtain ⟨v, he, hv⟩ := ho; exact ⟨v, he, hv.move (Nat.le_refl _) (Nat.le_refl _) (fun _ _ => rfl) (fun _ _ => rfl) (fun _ h => h) (fun _ _ => rfl)⟩
      | pan r => obtain ⟨v, he, hv⟩ := ho; exact ⟨v, he, hv.move (Nat.le_refl _) (Nat.le_refl _) (fun _ _ => rfl) (fun _ _ => rfl) (fun _ h => h) (fun _ _ => rfl)⟩
    · exact ⟨h'.nb, h'.nr, Nat.le_trans hh.lo hx.sz, fun i b hb => by
        obtain ⟨us, h1, h2⟩ := h'.box i b hb
        exact ⟨us, h1, h2.move fun x v hx => hx.move (Nat.le_refl _) (Nat.le_refl _) (fun _ _ => rfl) (fun _ _ => rfl) (fun _ h => h) (fun _ _ => rfl)⟩, fun i r hr => by simp at hr, h'.inj, h'.rinj, h'.brw, h'.im_lt, h'.im_b, h'.im_r, h'.gl⟩
    · exact ⟨hx.sz, hx.os, hx.tape, hx.out, fun k h1 h2 h3 => hx.keep k h1 h2, by have := hx.more; simp only [] at this ⊢; omega, Nat.le_refl _, hx.β, hx.up, fun k hk => (hx.dn k hk).imp id .inl, fun i h1 h2 => hx.own i h1 (by simp only [] at h2; omega), fun j s k hj => by simp at hj, rfl⟩
def faultV (a e : Int) : PV := .iface 121 (.agg [.int .i64 a, .int .i64 e])
noncomputable def paS (f : Nat) (args : List PV) : Option (PV × Ob) := match f, args with
  | 51, [.int .u8 c] => some (.bool (letC c), [(decide (0 ≤ c ∧ c < 256), true)])
  | 73, [.str w] => some (.tup [.int .i64 (numQ w).1, .bool (numQ w).2], [(Nat.ble w.size 1099511627776, true)])
  | 74, [.str w] => some (.bool (symOk w), [])
  | _, _ => none
theorem paS_ok (f : Nat) (args : List PV) (r : PV) (o : Ob) (h : paS f args = some (r, o)) (ho : ∀ p ∈ o, p.1 = p.2) (_ : pureL args = true) : Pure G0 f args (fun x => x = r) := by
  unfold paS at h
  split at h
  · cases h; exact isAtom_ok _ (of_decide_eq_true (ho _ (List.mem_singleton.2 rfl)))
  · cases h; exact numberP _ (Nat.le_of_ble_eq_true (ho _ (List.mem_singleton.2 rfl)))
  · cases h; exact isSymbol_ok _
  · cases h
noncomputable def SPf (l : List (Nat × List (Nat × Bool))) (v : List (Nat × List (Nat × PV))) : Cfg G0 := { F := F, hF := hF, S := paS, hS := paS_ok, orc := orcM l, val := valM v }
theorem failP (s : ByteArray) (a : Nat) (e : Int) : PCalls G0 75 [.ptr 0 0, .int .i64 e] [rP s a] (fun o b => o = .pan (faultV a e) ∧ b = [rP s a]) := by
  refine Fn.enterN Tryd.func75 Tryd.ntmps75 rfl (Nat.le_of_ble_eq_true rfl) fun C fr fp hnt hp hfr hfp => ?_
  exact SWP.runQ (SPf [] []) 100 11 hnt [] (e := .panic (faultV a e)) (z := ⟨[], ⟨[rP s a], []⟩⟩) (o := []) (by kernel_rfl) okO_nil (fun st hst => hfp _ st (by
    have : st.h = ⟨[rP s a], []⟩ := congrArg AS.h hst
    refine ⟨1, Nat.le_refl _, by rw [this]; exact Nat.le_refl _, rfl, by rw [this]; rfl, ?_⟩
    rw [this]; exact ⟨rfl, rfl⟩))
def paP (f : Nat) (args : List PV) (H : Hp) : Option (PV × Hp × Ob) := match f, args, H with
  | 75, [.ptr 0 0, .int .i64 e], ⟨[⟨[.str s, .int .i64 a], ty⟩], []⟩ => match Nat.beq ty 87 with
    | true => some (faultV a e, ⟨[⟨[.str s, .int .i64 a], ty⟩], []⟩, [(decide (0 ≤ a), true)])
    | false => none
  | _, _, _ => none
theorem paP_ok : ∀ f xs H x H' o, paP f xs H = some (x, H', o) → (∀ p ∈ o, p.1 = p.2) → RCalls G0 f xs H (fun o' H2 => o' = .pan x ∧ H2 = H') ∧ x.scP (belowN H'.bx.length) (belowN H'.rw.length) = true ∧ H'.scB H'.bx.length H'.rw.length = true := by
  intro f xs H x H' o h ho
  unfold paP at h
  split at h
  · rename_i e s a ty
    split at h
    · rename_i hc
      cases h
      simp only [Nat.beq_eq] at hc
      subst hc
      have h1 : 0 ≤ a := of_decide_eq_true (ho _ (List.mem_singleton.2 rfl))
      have key := failP s a.toNat e
      unfold rP faultV at key
      rw [Int.toNat_of_nonneg h1] at key
      exact ⟨(PCalls.toR key).mono fun o' H2 ⟨g1, g2, g3⟩ => ⟨g2, by obtain ⟨b, r⟩ := H2; simp only [] at g1 g3; rw [g1, g3]⟩, rfl, rfl⟩
    · cases h
  · cases h
noncomputable def SPa (l : List (Nat × List (Nat × Bool))) (v : List (Nat × List (Nat × PV))) : Cfg G0 := { F := F, hF := hF, S := paS, hS := paS_ok, orc := orcM l, val := valM v, pn := fun f => Nat.beq f 75, P := paP, hP := paP_ok }
/-- What an atom gives, if it is one. -/
def atQ (w : ByteArray) : Option (List PV) := if (numQ w).2 = true then some [.int .i64 1, .int .i64 (numQ w).1, .str ⟨#[]⟩, .nil] else if symOk w = true then some [.int .i64 2, .int .i64 0, .str w, .nil] else none
theorem atomP (s : ByteArray) (hs : s.size ≤ 1099511627776) (a : Nat) (ha : a ≤ s.size) : PCalls G0 54 [.ptr 0 0] [rP s a] (fun o b => (∃ cs, atQ (s.extract a (letE s a)) = some cs ∧ o = .ret (.agg cs) ∧ b = [rP s (letE s a)]) ∨ (atQ (s.extract a (letE s a)) = none ∧ o = .pan (faultV a 4) ∧ b = [rP s a])) := by
  obtain ⟨w, hw⟩ : ∃ w, w = s.extract a (letE s a) := ⟨_, rfl⟩
  rw [← hw]
  refine Fn.enterN Tryd.func54 Tryd.ntmps54 rfl (Nat.le_of_ble_eq_true rfl) fun C fr fp hnt hp hfr hfp => ?_
  have h1 := letE_ge s a
  have h2 := letE_le s a ha
  refine Q.runSeq (SPa [] []) 100 77 hnt [0, 2] (z := { t := [(0, PV.ptr 0 0), (2, PV.ptr 1 0)], h := { bx := [{ cs := [PV.str s, PV.int IntKind.i64 (Int.ofNat a)], ty := 87 }, { cs := [PV.int IntKind.i64 (0 : Int), PV.int IntKind.i64 (0 : Int), PV.str { data := #[] }, PV.nil], ty := 25 }], rw := [] } }) (o := []) (by kernel_rfl) (by ((repeat' (first | exact okO_nil | refine okN ?_ ?_)); all_goals first | assumption | rfl | exact same_of rfl | exact sameS_self _ | (simp only [decide_eq_true_eq, decide_eq_false_iff_not, Nat.ble_eq, Nat.beq_eq, beq_eq_false_iff_ne, beq_iff_eq, ne_eq] <;> omega))) ?_
  refine Q.runSeq (SPa [] []) 100 77 hnt [0, 2, 3] (z := { t := [(0, PV.ptr 0 0), (2, PV.ptr 1 0), (3, PV.int IntKind.i64 (0 : Int))], h := { bx := [{ cs := [PV.str s, PV.int IntKind.i64 (Int.ofNat a)], ty := 87 }, { cs := [PV.int IntKind.i64 (0 : Int), PV.int IntKind.i64 (0 : Int), PV.str { data := #[] }, PV.nil], ty := 25 }], rw := [] } }) (o := []) (by kernel_rfl) (by ((repeat' (first | exact okO_nil | refine okN ?_ ?_)); all_goals first | assumption | rfl | exact same_of rfl | exact sameS_self _ | (simp only [decide_eq_true_eq, decide_eq_false_iff_not, Nat.ble_eq, Nat.beq_eq, beq_eq_false_iff_ne, beq_iff_eq, ne_eq] <;> omega))) ?_
  refine Q.seq fun K hK => ?_
  have rest : ∀ st n, a + n = letE s a → nrm [0, 2, 3] st = ⟨[(0, .ptr 0 0), (2, .ptr 1 0), (3, .int .i64 (n : Nat))], ⟨[rP s a, dZ], []⟩⟩ → K st := fun st n hn hst => hK st (.norm [0, 2, 3] (by
    rw [hst]
    clear hst hK
    have wv : IntKind.wrap IntKind.i64 ((a : Int) + (n : Int)) = ((letE s a : Nat) : Int) := by rw [IntKind.wrap_i64]; omega
    have wv2 : IntKind.wrap IntKind.i64 (Int.ofNat (a + n)) = ((letE s a : Nat) : Int) := wv
    have c0 : decide (0 ≤ (a : Int) ∧ (a : Int) ≤ IntKind.wrap IntKind.i64 ((a : Int) + (n : Int)) ∧ IntKind.wrap IntKind.i64 ((a : Int) + (n : Int)) ≤ (s.size : Int)) = true := by rw [wv, decide_eq_true_eq]; omega
    have c1 : same (PV.str (ByteArray.extract s (Int.toNat (Int.ofNat a)) (Int.toNat (IntKind.wrap IntKind.i64 (Int.ofNat (a + n)))))) (PV.str w) = true := same_of (by rw [wv2, hw]; rfl)
    have c2 : Nat.ble (ByteArray.size w) 1099511627776 = true := by rw [Nat.ble_eq, hw, ByteArray.size_extract]; omega
    refine Q.runSeq (SPa [(77, [(49, true)])] [(77, [(49, .str w)])]) 100 77 hnt [0, 2, 3, 4] (z := { t := [(0, PV.ptr 0 0), (2, PV.ptr 1 0), (3, PV.int IntKind.i64 (Int.ofNat n)), (4, PV.str w)], h := { bx := [{ cs := [PV.str s, PV.int IntKind.i64 (Int.ofNat a)], ty := 87 }, { cs := [PV.int IntKind.i64 (0 : Int), PV.int IntKind.i64 (0 : Int), PV.str { data := #[] }, PV.nil], ty := 25 }], rw := [] } }) (o := [(decide (0 ≤ (↑a : Int) ∧ (↑a : Int) ≤ IntKind.wrap IntKind.i64 ((↑a : Int) + (↑n : Int)) ∧ IntKind.wrap IntKind.i64 ((↑a : Int) + (↑n : Int)) ≤ (↑(ByteArray.size s) : Int)), true), (same (PV.str (ByteArray.extract s (Int.toNat (Int.ofNat a)) (Int.toNat (IntKind.wrap IntKind.i64 (Int.ofNat (a + n)))))) (PV.str w), true)]) (by kernel_rfl) (by ((repeat' (first | exact okO_nil | refine okN ?_ ?_)); all_goals first | assumption | rfl | exact same_of rfl | exact sameS_self _ | (simp only [decide_eq_true_eq, decide_eq_false_iff_not, Nat.ble_eq, Nat.beq_eq, beq_eq_false_iff_ne, beq_iff_eq, ne_eq] <;> omega))) ?_
    cases h3 : (numQ w).2 with
    | true =>
      have c3 : (!(numQ w).2) = false := by rw [h3]; rfl
      have hat : atQ w = some [.int .i64 1, .int .i64 (numQ w).1, .str ⟨#[]⟩, .nil] := if_pos h3
      exact SWP.runQ (SPa [(77, [(56, false), (72, true)])] []) 100 77 hnt [2] (e := .ret) (z := { t := [(2, PV.ptr 1 0)], h := { bx := [{ cs := [PV.str s, PV.int IntKind.i64 (IntKind.wrap IntKind.i64 (Int.ofNat (a + n)))], ty := 87 }, { cs := [PV.int IntKind.i64 (1 : Int), PV.int IntKind.i64 (Prod.fst (numQ w)), PV.str { data := #[] }, PV.nil], ty := 25 }], rw := [] } }) (o := [(true, true), (Nat.ble (ByteArray.size w) 1099511627776, true), (!Prod.snd (numQ w), false), (Prod.snd (numQ w), true), (true, true)]) (by kernel_rfl) (by ((repeat' (first | exact okO_nil | refine okN ?_ ?_)); all_goals first | assumption | rfl | exact same_of rfl | exact sameS_self _ | (simp only [decide_eq_true_eq, decide_eq_false_iff_not, Nat.ble_eq, Nat.beq_eq, beq_eq_false_iff_ne, beq_iff_eq, ne_eq] <;> omega))) (fun st hst => hfr st [2] (by
        rw [hst, wv2]
        exact ⟨1, _, Nat.le_refl _, Nat.le_of_ble_eq_true rfl, rfl, rfl, rfl, .inl ⟨_, hat, rfl, rfl⟩⟩))
    | false =>
      have c3 : (!(numQ w).2) = true := by rw [h3]; rfl
      cases h4 : symOk w with
      | true =>
        have c4 : (!symOk w) = false := by rw [h4]; rfl
        have hat : atQ w = some [.int .i64 2, .int .i64 0, .str w, .nil] := by unfold atQ; rw [if_neg (by rw [h3]; decide), if_pos h4]
        exact SWP.runQ (SPa [(77, [(56, true), (60, false), (72, false)])] []) 100 77 hnt [2] (e := .ret) (z := { t := [(2, PV.ptr 1 0)], h := { bx := [{ cs := [PV.str s, PV.int IntKind.i64 (IntKind.wrap IntKind.i64 (Int.ofNat (a + n)))], ty := 87 }, { cs := [PV.int IntKind.i64 (2 : Int), PV.int IntKind.i64 (0 : Int), PV.str w, PV.nil], ty := 25 }], rw := [] } }) (o := [(true, true), (Nat.ble (ByteArray.size w) 1099511627776, true), (!Prod.snd (numQ w), true), (true, true), (!symOk w, false), (Prod.snd (numQ w), false), (false, false)]) (by kernel_rfl) (by ((repeat' (first | exact okO_nil | refine okN ?_ ?_)); all_goals first | assumption | rfl | exact same_of rfl | exact sameS_self _ | (simp only [decide_eq_true_eq, decide_eq_false_iff_not, Nat.ble_eq, Nat.beq_eq, beq_eq_false_iff_ne, beq_iff_eq, ne_eq] <;> omega))) (fun st hst => hfr st [2] (by
          rw [hst, wv2]
          exact ⟨1, _, Nat.le_refl _, Nat.le_of_ble_eq_true rfl, rfl, rfl, rfl, .inl ⟨_, hat, rfl, rfl⟩⟩))
      | false =>
        have c4 : (!symOk w) = true := by rw [h4]; rfl
        have hat : atQ w = none := by unfold atQ; rw [if_neg (by rw [h3]; decide), if_neg (by rw [h4]; decide)]
        exact SWP.runQ (SPa [(77, [(56, true), (60, true)])] []) 100 77 hnt [2] (e := .panic (faultV a 4)) (z := { t := [(2, PV.ptr 1 0)], h := { bx := [{ cs := [PV.str s, PV.int IntKind.i64 (Int.ofNat a)], ty := 87 }, { cs := [PV.int IntKind.i64 (0 : Int), PV.int IntKind.i64 (0 : Int), PV.str { data := #[] }, PV.nil], ty := 25 }], rw := [] } }) (o := [(true, true), (Nat.ble (ByteArray.size w) 1099511627776, true), (!Prod.snd (numQ w), true), (true, true), (!symOk w, true), (true, true)]) (by kernel_rfl) (by ((repeat' (first | exact okO_nil | refine okN ?_ ?_)); all_goals first | assumption | rfl | exact same_of rfl | exact sameS_self _ | (simp only [decide_eq_true_eq, decide_eq_false_iff_not, Nat.ble_eq, Nat.beq_eq, beq_eq_false_iff_ne, beq_iff_eq, ne_eq] <;> omega))) (fun st hst => hfp _ st (by
          have e : st.h = ⟨[rP s a, dZ], []⟩ := congrArg AS.h hst
          refine ⟨1, Nat.le_refl _, by rw [e]; exact Nat.le_of_ble_eq_true rfl, rfl, by rw [e]; rfl, .inr ⟨hat, rfl, ?_⟩⟩
          rw [e]; rfl))))
  let T (n : Nat) : AS := ⟨[(0, .ptr 0 0), (2, .ptr 1 0), (3, .int .i64 n)], ⟨[rP s a, dZ], []⟩⟩
  refine Q.block ?_
  refine Q.loopI (σ := { n : Nat // letE s (a + n) = letE s a ∧ a + n ≤ s.size }) [0, 2, 3] (fun x => T x.1) (fun x => s.size - (a + x.1)) ⟨0, rfl, ha⟩ rfl fun ⟨n, hk, hle⟩ => ?_
  show SWP G0 C _ _ ⟨[(0, .ptr 0 0), (2, .ptr 1 0), (3, .int .i64 n)], ⟨[rP s a, dZ], []⟩⟩
  have le := letE_eq s (a + n)
  have wv : IntKind.wrap IntKind.i64 ((a : Int) + (n : Int)) = ((a + n : Nat) : Int) := by rw [IntKind.wrap_i64]; omega
  have wv2 : IntKind.wrap IntKind.i64 (Int.ofNat (a + n)) = ((a + n : Nat) : Int) := wv
  rcases Nat.lt_or_ge (a + n) s.size with hlt | hge
  · have d1 : same (PV.bool (decide (IntKind.wrap IntKind.i64 ((a : Int) + (n : Int)) < (s.size : Int)))) (PV.bool true) = true := sameB (by rw [wv]; exact lt_at hlt)
    have d2 : decide (0 ≤ IntKind.wrap IntKind.i64 ((a : Int) + (n : Int)) ∧ IntKind.wrap IntKind.i64 ((a : Int) + (n : Int)) < (s.size : Int)) = true := by rw [wv]; exact in_at hlt
    have d3 : decide (0 ≤ bt s (IntKind.wrap IntKind.i64 ((a : Int) + (n : Int))) ∧ bt s (IntKind.wrap IntKind.i64 ((a : Int) + (n : Int))) < 256) = true := by rw [wv]; exact decide_eq_true (bt_in s (a + n))
    by_cases hc : letC (bt s ((a + n : Nat) : Int)) = true
    · have d4 : same (PV.bool (letC (bt s (IntKind.wrap IntKind.i64 (Int.ofNat (a + n)))))) (PV.bool true) = true := sameB (by rw [wv2]; exact hc)
      rw [if_pos ⟨hlt, hc⟩] at le
      have wn : IntKind.wrap IntKind.i64 (Int.ofNat (n + 1)) = ((n + 1 : Nat) : Int) := wrapI (n + 1) (by omega)
      exact SWP.runQ (SPa [(77, [(30, true)])] [(77, [(18, .bool true), (31, .bool true)])]) 100 77 hnt [0, 2, 3] (e := .normal) (z := { t := [(0, PV.ptr 0 0), (2, PV.ptr 1 0), (3, PV.int IntKind.i64 (IntKind.wrap IntKind.i64 (Int.ofNat (n + 1))))], h := { bx := [{ cs := [PV.str s, PV.int IntKind.i64 (Int.ofNat a)], ty := 87 }, { cs := [PV.int IntKind.i64 (0 : Int), PV.int IntKind.i64 (0 : Int), PV.str { data := #[] }, PV.nil], ty := 25 }], rw := [] } }) (o := [(same (PV.bool (decide (IntKind.wrap IntKind.i64 ((↑a : Int) + (↑n : Int)) < (↑(ByteArray.size s) : Int)))) (PV.bool true), true), (decide (0 ≤ IntKind.wrap IntKind.i64 ((↑a : Int) + (↑n : Int)) ∧ IntKind.wrap IntKind.i64 ((↑a : Int) + (↑n : Int)) < (↑(ByteArray.size s) : Int)), true), (true, true), (decide (0 ≤ bt s (IntKind.wrap IntKind.i64 ((↑a : Int) + (↑n : Int))) ∧ bt s (IntKind.wrap IntKind.i64 ((↑a : Int) + (↑n : Int))) < 256), true), (same (PV.bool (letC (bt s (IntKind.wrap IntKind.i64 (Int.ofNat (a + n)))))) (PV.bool true), true)]) (by kernel_rfl) (by ((repeat' (first | exact okO_nil | refine okN ?_ ?_)); all_goals first | assumption | rfl | exact same_of rfl | exact sameS_self _ | (simp only [decide_eq_true_eq, decide_eq_false_iff_not, Nat.ble_eq, Nat.beq_eq, beq_eq_false_iff_ne, beq_iff_eq, ne_eq] <;> omega))) (fun st hst => ⟨⟨n + 1, le.symm.trans hk, by omega⟩, by show s.size - (a + (n + 1)) < s.size - (a + n); omega, by rw [hst, wn]; rfl⟩)
    · have d4 : same (PV.bool (letC (bt s (IntKind.wrap IntKind.i64 (Int.ofNat (a + n)))))) (PV.bool false) = true := sameB (by rw [wv2]; simpa using hc)
      rw [if_neg (fun h => hc h.2)] at le
      exact SWP.runQ (SPa [(77, [(30, true)])] [(77, [(18, .bool true), (31, .bool false)])]) 100 77 hnt [0, 2, 3] (e := .exit 0) (z := { t := [(0, PV.ptr 0 0), (2, PV.ptr 1 0), (3, PV.int IntKind.i64 (Int.ofNat n))], h := { bx := [{ cs := [PV.str s, PV.int IntKind.i64 (Int.ofNat a)], ty := 87 }, { cs := [PV.int IntKind.i64 (0 : Int), PV.int IntKind.i64 (0 : Int), PV.str { data := #[] }, PV.nil], ty := 25 }], rw := [] } }) (o := [(same (PV.bool (decide (IntKind.wrap IntKind.i64 ((↑a : Int) + (↑n : Int)) < (↑(ByteArray.size s) : Int)))) (PV.bool true), true), (decide (0 ≤ IntKind.wrap IntKind.i64 ((↑a : Int) + (↑n : Int)) ∧ IntKind.wrap IntKind.i64 ((↑a : Int) + (↑n : Int)) < (↑(ByteArray.size s) : Int)), true), (true, true), (decide (0 ≤ bt s (IntKind.wrap IntKind.i64 ((↑a : Int) + (↑n : Int))) ∧ bt s (IntKind.wrap IntKind.i64 ((↑a : Int) + (↑n : Int))) < 256), true), (same (PV.bool (letC (bt s (IntKind.wrap IntKind.i64 (Int.ofNat (a + n)))))) (PV.bool false), true)]) (by kernel_rfl) (by ((repeat' (first | exact okO_nil | refine okN ?_ ?_)); all_goals first | assumption | rfl | exact same_of rfl | exact sameS_self _ | (simp only [decide_eq_true_eq, decide_eq_false_iff_not, Nat.ble_eq, Nat.beq_eq, beq_eq_false_iff_ne, beq_iff_eq, ne_eq] <;> omega))) (fun st hst => rest st n (le.symm.trans hk) hst)
  · have d1 : same (PV.bool (decide (IntKind.wrap IntKind.i64 ((a : Int) + (n : Int)) < (s.size : Int)))) (PV.bool false) = true := sameB (by rw [wv]; exact ge_at hge)
    rw [if_neg (fun h => absurd h.1 (by omega))] at le
    exact SWP.runQ (SPa [] [(77, [(18, .bool false)])]) 100 77 hnt [0, 2, 3] (e := .exit 0) (z := { t := [(0, PV.ptr 0 0), (2, PV.ptr 1 0), (3, PV.int IntKind.i64 (Int.ofNat n))], h := { bx := [{ cs := [PV.str s, PV.int IntKind.i64 (Int.ofNat a)], ty := 87 }, { cs := [PV.int IntKind.i64 (0 : Int), PV.int IntKind.i64 (0 : Int), PV.str { data := #[] }, PV.nil], ty := 25 }], rw := [] } }) (o := [(same (PV.bool (decide (IntKind.wrap IntKind.i64 ((↑a : Int) + (↑n : Int)) < (↑(ByteArray.size s) : Int)))) (PV.bool false), true)]) (by kernel_rfl) (by ((repeat' (first | exact okO_nil | refine okN ?_ ?_)); all_goals first | assumption | rfl | exact same_of rfl | exact sameS_self _ | (simp only [decide_eq_true_eq, decide_eq_false_iff_not, Nat.ble_eq, Nat.beq_eq, beq_eq_false_iff_ne, beq_iff_eq, ne_eq] <;> omega))) (fun st hst => rest st n (le.symm.trans hk) hst)
end Seat
end Go.Proofs.YtenpjkcclmmlhaaDoor
/- The program's numbers and the document's are the same (plain Lean; under way). -/
namespace Go.Proofs.YtenpjkcclmmlhaaDoor
open Go.AS
set_option linter.unusedVariables false
set_option linter.unusedSimpArgs false
namespace Seat
/-- What digits say, the first first. -/
def digV : List UInt8 → Nat → Nat
  | [], n => n
  | c :: r, n => digV r (10 * n + (c.toNat - 48))
def allDig (l : List UInt8) : Bool := l.all fun c => decide (48 ≤ c.toNat ∧ c.toNat ≤ 57)
theorem digV_ge : ∀ (l : List UInt8) (n : Nat), n ≤ digV l n
  | [], n => Nat.le_refl _
  | c :: r, n => Nat.le_trans (by omega) (digV_ge r _)
theorem parse_ok : ∀ (l : List UInt8) (n u : Nat), Go.Lib.parseUint10 n l = .ok u → allDig l = true ∧ digV l n = u
  | [], n, u, h => by simp only [Go.Lib.parseUint10] at h; cases h; exact ⟨rfl, rfl⟩
  | c :: r, n, u, h => by
    simp only [Go.Lib.parseUint10] at h
    split at h
    · rename_i hc
      split at h
      · cases h
      · split at h
        · cases h
        · obtain ⟨h1, h2⟩ := parse_ok r _ u h
          refine ⟨?_, ?_⟩
          · simp only [allDig, List.all_cons, Bool.and_eq_true, decide_eq_true_eq]; exact ⟨hc, h1⟩
          · rw [digV, Nat.mul_comm]; exact h2
    · cases h
theorem parse_of : ∀ (l : List UInt8) (n : Nat), allDig l = true → digV l n < 18446744073709551616 → Go.Lib.parseUint10 n l = .ok (digV l n)
  | [], n, _, _ => rfl
  | c :: r, n, h, hb => by
    simp only [allDig, List.all_cons, Bool.and_eq_true, decide_eq_true_eq] at h
    have hge := digV_ge r (10 * n + (c.toNat - 48))
    rw [digV] at hb
    simp only [Go.Lib.parseUint10]
    rw [if_pos h.1, if_neg (by omega), if_neg (by omega), digV, Nat.mul_comm n 10]
    exact parse_of r _ h.2 hb
theorem bt_drop (t : ByteArray) (i : Nat) (h : i < t.size) : ∃ c, t.data.toList.drop i = c :: t.data.toList.drop (i + 1) ∧ bt t (i : Int) = (c.toNat : Int) := by
  have hlen : t.data.toList.length = t.size := Array.length_toList
  refine ⟨t.data.toList[i]'(by omega), List.drop_eq_getElem_cons (by omega), ?_⟩
  unfold bt
  rw [dif_pos (by rw [Int.toNat_natCast]; exact h)]
  rfl
theorem numK_eq (t : ByteArray) : ∀ (k i n : Nat), i + k = t.size → numK t k i n = if allDig (t.data.toList.drop i) = true ∧ (k = 0 ∨ digV (t.data.toList.drop i) n ≤ 9223372036854775808) then some (digV (t.data.toList.drop i) n) else none
  | 0, i, n, h => by
    have hlen : t.data.toList.length = t.size := Array.length_toList
    rw [List.drop_of_length_le (by omega), if_pos ⟨rfl, .inl rfl⟩]; rfl
  | k + 1, i, n, h => by
    obtain ⟨c, hc, hb⟩ := bt_drop t i (by omega)
    rw [numK, numK_eq t k (i + 1) _ (by omega), hc, hb]
    have hn : ((c.toNat : Int) - 48).toNat = c.toNat - 48 := by omega
    rw [hn]
    have hge := digV_ge (t.data.toList.drop (i + 1)) (10 * n + (c.toNat - 48))
    have hk : k = 0 → t.data.toList.drop (i + 1) = [] := fun hk => List.drop_of_length_le (by have : t.data.toList.length = t.size := Array.length_toList; omega)
    simp only [allDig, List.all_cons, digV, Bool.and_eq_true, decide_eq_true_eq]
    by_cases h1 : 48 ≤ c.toNat ∧ c.toNat ≤ 57
    · by_cases h2 : 10 * n + (c.toNat - 48) ≤ 9223372036854775808
      · rw [if_pos (by omega)]
        by_cases h0 : k = 0
        · rw [hk h0]; simp [h0, h1, h2, digV]
        · simp [h0, h1]
      · rw [if_neg (by omega), if_neg (by intro g; rcases g.2 with g2 | g2 <;> omega)]
    · rw [if_neg (by omega), if_neg (fun g => h1 g.1.1)]
theorem digV_snoc : ∀ (l : List UInt8) (n : Nat) (d : UInt8), digV (l ++ [d]) n = 10 * digV l n + (d.toNat - 48)
  | [], n, d => rfl
  | c :: r, n, d => digV_snoc r _ d
theorem chr {k : Nat} (h : k < 10) : (UInt8.ofNat (48 + k)).toNat = 48 + k := by
  rw [UInt8.toNat_ofNat']; omega
theorem dec_ok (u : Nat) : allDig (Go.Lib.decDigits u) = true ∧ digV (Go.Lib.decDigits u) 0 = u := by
  induction u using Nat.strongRecOn with
  | _ u ih =>
    rw [Go.Lib.decDigits]
    split
    · rename_i h
      refine ⟨?_, ?_⟩
      · simp only [allDig, List.all_cons, List.all_nil, Bool.and_true, decide_eq_true_eq, chr h]; omega
      · simp only [digV, chr h]; omega
    · rename_i h
      obtain ⟨h1, h2⟩ := ih (u / 10) (by omega)
      have hm : u % 10 < 10 := Nat.mod_lt _ (by omega)
      refine ⟨?_, ?_⟩
      · simp only [allDig, List.all_append, List.all_cons, List.all_nil, Bool.and_true, Bool.and_eq_true, decide_eq_true_eq, chr hm]
        exact ⟨h1, by omega⟩
      · rw [digV_snoc, h2, chr hm]; omega
theorem digV_zero : ∀ (l : List UInt8) (c : UInt8), 49 ≤ c.toNat → 1 ≤ digV (c :: l) 0 := fun l c h => by
  have := digV_ge l (10 * 0 + (c.toNat - 48))
  rw [digV]; omega
/-- Digits without a leading zero are those of their number. -/
theorem dec_of : ∀ (m : Nat) (l : List UInt8), l.length ≤ m → l ≠ [] → allDig l = true → (l.head?.map (·.toNat) ≠ some 48 ∨ l.length = 1) → Go.Lib.decDigits (digV l 0) = l
  | 0, l, h, h0, _, _ => absurd (List.eq_nil_of_length_eq_zero (by omega)) h0
  | m + 1, l, h, h0, hd, hz => by
    rcases List.eq_nil_or_concat l with rfl | ⟨r, d, rfl⟩
    · exact absurd rfl h0
    · rw [List.concat_eq_append] at *
      simp only [allDig, List.all_append, List.all_cons, List.all_nil, Bool.and_true, Bool.and_eq_true, decide_eq_true_eq] at hd
      rw [digV_snoc, Go.Lib.decDigits]
      have hdd : UInt8.ofNat (48 + (d.toNat - 48)) = d := by
        apply UInt8.toNat_inj.1
        rw [UInt8.toNat_ofNat']
        have := d.toNat_lt
        omega
      cases r with
      | nil =>
        rw [dif_pos (by simp only [digV]; omega)]
        simp only [digV, List.nil_append, Nat.mul_zero, Nat.zero_add]
        rw [hdd]
      | cons c r =>
        have hc : allDig (c :: r) = true := hd.1
        have h49 : 49 ≤ c.toNat := by
          simp only [allDig, List.all_cons, Bool.and_eq_true, decide_eq_true_eq] at hc
          rcases hz with hz | hz
          · simp at hz; omega
          · simp at hz
        have h1 := digV_zero r c h49
        rw [dif_neg (by omega)]
        have e1 : (10 * digV (c :: r) 0 + (d.toNat - 48)) / 10 = digV (c :: r) 0 := by omega
        have e2 : (10 * digV (c :: r) 0 + (d.toNat - 48)) % 10 = d.toNat - 48 := by omega
        rw [e1, e2, hdd, dec_of m (c :: r) (by simp at h ⊢; omega) (by simp) hc (.inl (by simp; omega))]
end Seat
end Go.Proofs.YtenpjkcclmmlhaaDoor
/- The program's numbers and the document's are the same (plain Lean). -/
namespace Go.Proofs.YtenpjkcclmmlhaaDoor
open Go.AS
set_option linter.unusedVariables false
set_option linter.unusedSimpArgs false
namespace Seat
theorem bt_head {w : ByteArray} {c : UInt8} {r : List UInt8} (h : w.data.toList = c :: r) : bt w 0 = (c.toNat : Int) := by
  have hlen : w.data.toList.length = w.size := Array.length_toList
  obtain ⟨d, h1, h2⟩ := bt_drop w 0 (by rw [← hlen, h]; simp)
  rw [List.drop_zero, h] at h1
  rw [(List.cons.inj h1).1]
  exact h2
theorem size_cons {w : ByteArray} {c : UInt8} {r : List UInt8} (h : w.data.toList = c :: r) : w.size = r.length + 1 := by
  have hlen : w.data.toList.length = w.size := Array.length_toList
  rw [← hlen, h]; rfl
theorem ge_cons {w : ByteArray} (h : w.size ≠ 0) : ∃ c r, w.data.toList = c :: r := by
  have hlen : w.data.toList.length = w.size := Array.length_toList
  cases hc : w.data.toList with
  | nil => rw [hc] at hlen; exact absurd hlen.symm h
  | cons c r => exact ⟨c, r, rfl⟩
theorem numT_of (t : ByteArray) (b : Bool) (c : UInt8) (r : List UInt8) (hl : t.data.toList = c :: r) (hd : allDig (c :: r) = true) (hz : c.toNat ≠ 48 ∨ (r = [] ∧ b = false)) (hb : digV (c :: r) 0 ≤ 9223372036854775808) :
    numT t b = if b = true then (IntKind.i64.wrap (-(digV (c :: r) 0 : Int)), true) else (IntKind.i64.wrap (digV (c :: r) 0 : Int), decide (digV (c :: r) 0 < 9223372036854775808)) := by
  have hs := size_cons hl
  have hh := bt_head hl
  have hk := numK_eq t t.size 0 0 (by omega)
  rw [List.drop_zero, hl, if_pos ⟨hd, .inr hb⟩] at hk
  unfold numT
  rw [if_neg (by
    rintro (g | ⟨g1, g2⟩)
    · omega
    · rw [hh] at g1
      rcases hz with hz | ⟨rfl, rfl⟩
      · omega
      · rcases g2 with g2 | g2
        · simp at hs; omega
        · cases g2), hk]
theorem numT_true (t : ByteArray) (b : Bool) (x : Int) (h : numT t b = (x, true)) : ∃ c r, t.data.toList = c :: r ∧ allDig (c :: r) = true ∧ (c.toNat ≠ 48 ∨ (r = [] ∧ b = false)) ∧ digV (c :: r) 0 ≤ 9223372036854775808 ∧ (b = true → x = IntKind.i64.wrap (-(digV (c :: r) 0 : Int))) ∧ (b = false → x = IntKind.i64.wrap (digV (c :: r) 0 : Int) ∧ digV (c :: r) 0 < 9223372036854775808) := by
  unfold numT at h
  split at h
  · cases h
  · rename_i hn
    obtain ⟨c, r, hl⟩ := ge_cons (w := t) (fun g => hn (.inl g))
    have hs := size_cons hl
    have hh := bt_head hl
    have hk := numK_eq t t.size 0 0 (by omega)
    rw [List.drop_zero, hl] at hk
    refine ⟨c, r, hl, ?_⟩
    by_cases hc : allDig (c :: r) = true ∧ (t.size = 0 ∨ digV (c :: r) 0 ≤ 9223372036854775808)
    · rw [if_pos hc] at hk
      rw [hk] at h
      refine ⟨hc.1, ?_, by rcases hc.2 with g | g <;> omega, ?_, ?_⟩
      · by_cases h48 : c.toNat = 48
        · refine .inr ?_
          have : ¬ (1 < t.size ∨ b = true) := fun g => hn (.inr ⟨by rw [hh, h48]; rfl, g⟩)
          refine ⟨List.eq_nil_of_length_eq_zero (by have := fun g => this (.inl g); omega), ?_⟩
          cases b with
          | true => exact absurd (.inr rfl) this
          | false => rfl
        · exact .inl h48
      · rintro rfl
        simp only [if_true] at h
        exact (Prod.mk.inj h).1.symm
      · rintro rfl
        simp only [Bool.false_eq_true, if_false] at h
        exact ⟨(Prod.mk.inj h).1.symm, of_decide_eq_true (Prod.mk.inj h).2⟩
    · rw [if_neg hc] at hk
      rw [hk] at h
      cases h
theorem dec_head (u : Nat) : ∃ c r, Go.Lib.decDigits u = c :: r ∧ (1 ≤ u → c.toNat ≠ 48) ∧ (u = 0 → r = []) := by
  induction u using Nat.strongRecOn with
  | _ u ih =>
    rw [Go.Lib.decDigits]
    split
    · rename_i h
      exact ⟨_, _, rfl, fun h1 => by rw [chr h]; omega, fun _ => rfl⟩
    · rename_i h
      obtain ⟨c, r, h1, h2, h3⟩ := ih (u / 10) (by omega)
      rw [h1]
      exact ⟨c, r ++ _, rfl, fun _ => h2 (by omega), fun h0 => by omega⟩
theorem toList_mk (l : List UInt8) : (mkS l).data.toList = l := by simp [mkS]
theorem bl_eq (w : ByteArray) : ByteArray.toList w = w.data.toList := by rw [← ByteArray.toList_eq] 
theorem allDig_head {c : UInt8} {r : List UInt8} (h : allDig (c :: r) = true) : 48 ≤ c.toNat ∧ c.toNat ≤ 57 := by
  simp only [allDig, List.all_cons, Bool.and_eq_true, decide_eq_true_eq] at h
  exact h.1
theorem numB_cons {w : ByteArray} {c : UInt8} {r : List UInt8} (h : w.data.toList = c :: r) : numB w = decide (c.toNat = 45) := by
  unfold numB
  rw [bt_head h, size_cons h]
  simp
  omega
theorem numB_none {w : ByteArray} (h : numB w = true) : ∃ r, w.data.toList = 45 :: r ∧ (w.extract 1 w.size).data.toList = r := by
  have h' := of_decide_eq_true h
  obtain ⟨c, r, hl⟩ := ge_cons (w := w) (by omega)
  rw [bt_head hl] at h'
  have hc : c = 45 := UInt8.toNat_inj.1 (by rw [show (45 : UInt8).toNat = 45 from rfl]; omega)
  subst hc
  refine ⟨r, hl, ?_⟩
  rw [Go.Lib.extract_to_end, hl]; rfl
/-- What the document takes, the program takes. -/
theorem num_A (w : ByteArray) (x : Int) (h : numV w = (x, true)) : numQ w = (x, true) := by
  have key : Go.Lib.parseIntB 64 w.data.toList = .ok x ∧ Go.Lib.itoa x = w.data.toList := by
    rw [Go.Lib.parseIntB_64]
    unfold numV at h
    split at h
    · rename_i hb
      obtain ⟨r, hl, ht⟩ := numB_none hb
      obtain ⟨c, q, h1, h2, h3, h4, h5, _⟩ := numT_true _ _ _ h
      have hx := h5 rfl
      rw [ht] at h1
      rw [hl, h1]
      have h48 : c.toNat ≠ 48 := by
        rcases h3 with h3 | h3
        · exact h3
        · cases h3.2
      have hdg := allDig_head h2
      have hpos := digV_zero q c (by omega)
      have hw : IntKind.wrap IntKind.i64 (-(digV (c :: q) 0 : Int)) = -(digV (c :: q) 0 : Int) := by rw [IntKind.wrap_i64]; omega
      rw [hw] at hx
      subst hx
      refine ⟨?_, ?_⟩
      · rw [Go.Lib.atoiAll_minus]
        unfold Go.Lib.parseMag
        rw [if_neg (by simp), parse_of _ 0 h2 (by omega)]
        simp only [Go.Lib.signed]
        rw [if_neg (by omega)]
      · unfold Go.Lib.itoa
        rw [if_pos (by omega)]
        have e : (-(digV (c :: q) 0 : Int)).natAbs = digV (c :: q) 0 := by omega
        rw [e, dec_of _ (c :: q) (Nat.le_refl _) (by simp) h2 (.inl (by simp; omega))]
    · rename_i hb
      obtain ⟨c, q, h1, h2, h3, h4, _, h6⟩ := numT_true _ _ _ h
      obtain ⟨hx, hlt⟩ := h6 rfl
      have hdg := allDig_head h2
      have hw : IntKind.wrap IntKind.i64 (digV (c :: q) 0 : Int) = (digV (c :: q) 0 : Int) := by rw [IntKind.wrap_i64]; omega
      rw [hw] at hx
      subst hx
      rw [h1]
      refine ⟨?_, ?_⟩
      · rw [Go.Lib.atoiAll_plain c q (by omega) (by omega)]
        unfold Go.Lib.parseMag
        rw [if_neg (by simp), parse_of _ 0 h2 (by omega)]
        simp only [Go.Lib.signless]
        rw [if_neg (by omega)]
      · unfold Go.Lib.itoa
        rw [if_neg (by omega)]
        have e : ((digV (c :: q) 0 : Int)).toNat = digV (c :: q) 0 := by omega
        rw [e]
        refine dec_of _ (c :: q) (Nat.le_refl _) (by simp) h2 ?_
        rcases h3 with h3 | h3
        · exact .inl (by simp; omega)
        · exact .inr (by rw [h3.1]; rfl)
  unfold numQ
  rw [key.1]
  simp only [key.2]
  rw [bl_eq, beq_self_eq_true]
/-- What the program takes, the document takes. -/
theorem num_B (w : ByteArray) (x : Int) (h : numQ w = (x, true)) : numV w = (x, true) := by
  have key : (-9223372036854775808 ≤ x ∧ x ≤ 9223372036854775807) ∧ Go.Lib.itoa x = w.data.toList := by
    unfold numQ at h
    split at h
    · rename_i v hv
      have hbd := Go.Lib.parseIntB_bounds hv
      obtain ⟨rfl, h2⟩ := Prod.mk.inj h
      rw [bl_eq, bl_eq, toList_mk] at h2
      exact ⟨by omega, eq_of_beq h2⟩
    · cases h
    · cases h
  obtain ⟨hb, hl⟩ := key
  unfold Go.Lib.itoa at hl
  unfold numV
  split at hl
  · rename_i hneg
    have hl' := hl.symm
    rw [numB_cons hl', if_pos (by decide)]
    obtain ⟨c, r, h1, h2, _⟩ := dec_head x.natAbs
    obtain ⟨d1, d2⟩ := dec_ok x.natAbs
    rw [h1] at d1 d2
    have ht : (w.extract 1 w.size).data.toList = c :: r := by rw [Go.Lib.extract_to_end, hl', h1]; rfl
    rw [numT_of _ true c r ht d1 (.inl (h2 (by omega))) (by omega), if_pos rfl, d2]
    have hw : IntKind.wrap IntKind.i64 (-(x.natAbs : Int)) = x := by rw [IntKind.wrap_i64]; omega
    rw [hw]
  · rename_i hneg
    have hl' := hl.symm
    obtain ⟨c, r, h1, h2, h3⟩ := dec_head x.toNat
    obtain ⟨d1, d2⟩ := dec_ok x.toNat
    rw [h1] at d1 d2 hl'
    have hdg := allDig_head d1
    rw [numB_cons hl', if_neg (by simp; omega)]
    rw [numT_of w false c r hl' d1 (by
      by_cases h0 : x.toNat = 0
      · exact .inr ⟨h3 h0, rfl⟩
      · exact .inl (h2 (by omega))) (by omega), if_neg (by decide), d2]
    have hw : IntKind.wrap IntKind.i64 ((x.toNat : Nat) : Int) = x := by rw [IntKind.wrap_i64]; omega
    rw [hw, decide_eq_true (by omega)]
/-- The program's numbers and the document's. -/
theorem num_same (w : ByteArray) : (numQ w).2 = (numV w).2 ∧ ((numV w).2 = true → (numQ w).1 = (numV w).1) := by
  rcases hq : numQ w with ⟨a, b⟩
  rcases hv : numV w with ⟨c, d⟩
  cases b with
  | true => rw [num_B w a hq] at hv; cases hv; exact ⟨rfl, fun _ => rfl⟩
  | false =>
    cases d with
    | true => rw [num_A w c hv] at hq; cases hq
    | false => exact ⟨rfl, fun h => by cases h⟩
end Seat
end Go.Proofs.YtenpjkcclmmlhaaDoor
/- Abstract states (own engine), part 3: a function that defers a call which recovers. -/
namespace Go.AS
open Go.RowKit
set_option linter.unusedVariables false
set_option linter.unusedSimpArgs false

section
variable {P : Program} {ops : Array Oper} {Q : Exit → Act → World → Prop}
/-- A list of operations, and what comes behind. -/
theorem wpList_then {Q1 : Exit → Act → World → Prop} {l2 : List Oper} (h1 : ∀ a w, Q1 .normal a w → wpList P ops Q l2 a w) (h2 : ∀ e a w, e ≠ .normal → Q1 e a w → Q e a w) : ∀ (l1 : List Oper) (a : Act) (w : World), wpList P ops Q1 l1 a w → wpList P ops Q (l1 ++ l2) a w := by
  have hout : LetsOut Q1 → LetsOut Q := fun ⟨a, w, h⟩ => ⟨a, w, h2 _ _ _ (fun h => by cases h) h⟩
  intro l1
  induction l1 with
  | nil => intro a w h; exact h1 _ _ h
  | cons o l1 ih =>
    intro a w h
    simp only [List.cons_append, wpList] at h ⊢
    split at h
    · rename_i hw
      rw [if_pos hw]
      rcases h with h | ⟨g1, g2⟩
      · refine .inl ?_
        unfold Oper.wp at h ⊢
        generalize (execOp a.eval o).run P w = r at h ⊢
        unfold Oper.upon at h ⊢
        split at h
        · exact ih _ _ h
        · exact ih _ _ h
        · exact ih _ _ h
        · refine h.mono fun e w' he => ?_
          cases e with
          | returned v => exact ih _ _ he
          | panicked c => exact h2 _ _ _ (fun h => by cases h) he
          | outgrown => exact hout he
        · exact Rows.mono h fun v w' hv => ih _ _ hv
        · exact h2 _ _ _ (fun h => by cases h) h
        · exact h.elim
      · exact .inr ⟨g1, hout g2⟩
    · rename_i hw
      rw [if_neg hw]
      exact ih _ _ h
end
/-- What recovers: handed two pointers, it lays what the fault says there. -/
structure Guard (G : Prg) (g : FuncId) (T t1 t2 : TypeId) (k1 k2 : IntKind) : Prop where
  idle : ∀ (v1 v2 : Value) (w : World), CallsD G.P g #[v1, v2] .returning w fun e u' w' => (∃ v, e = .returned v) ∧ u' = .returning ∧ Below w.heap.size w w'
  pan : ∀ (b1 b2 : Nat) (x y : Int) (c1 c2 : Value) (w : World), b1 ≠ b2 → w.heap[b1]? = some (.cells #[c1] t1 (0, 0)) → w.heap[b2]? = some (.cells #[c2] t2 (0, 0)) →
    CallsD G.P g #[.pointer (some ⟨b1, 0, none⟩), .pointer (some ⟨b2, 0, none⟩)] (.panicking [{ v := .iface T (.agg #[.int k1 x, .int k2 y]), recovered := false }]) w fun e u' w' =>
      (∃ v, e = .returned v) ∧ u' = .panicking [{ v := .iface T (.agg #[.int k1 x, .int k2 y]), recovered := true }] ∧ Below w.heap.size (putBlk (putBlk w b1 [.int k1 x] t1) b2 [.int k2 y] t2) w'
section
variable {G : Prg}
def setB (st : AS) (b : Nat) (cs : List PV) (t : TypeId) : AS := { st with h := { st.h with bx := st.h.bx.set b ⟨cs, t⟩ } }
/-- The end of a function that has such a call deferred. -/
def FinD (G : Prg) (fn : Func) (T t1 t2 : TypeId) (k1 k2 : IntKind) (b1 b2 : Nat) (R : Out → List Box → Prop) : AEx → AS → Prop
  | .normal, st | .ret, st => FinR G fn 0 R st
  | .panic x, st => ∃ (n e : Int) (c1 c2 : PV), x = .iface T (.agg [.int k1 n, .int k2 e]) ∧ st.h.bx[b1]? = some ⟨[c1], t1⟩ ∧ st.h.bx[b2]? = some ⟨[c2], t2⟩ ∧ FinR G fn 0 R (setB (setB st b1 [.int k1 n] t1) b2 [.int k2 e] t2)
  | .exit _, _ => False
theorem one_cell {E : Env} {w : World} {c : PV} {vs : List Value} (h : VReps E w [c] vs) : ∃ v, vs = [v] := by
  obtain ⟨v, us, rfl, _, h2⟩ := h.cons_inv
  rw [h2.nil_inv]
  exact ⟨v, rfl⟩
theorem PCalls.deferred {f : FuncId} {fn : Func} {id : Nat} {ops : Array Oper} {rest : Code} {args : List PV} {R : Out → List Box → Prop} {nt : Nat} (hf : G.P.funcs[f]? = some fn) (hk : fn.ntmps = nt) (hb : fn.body = some (.seq (.region id ops false) rest)) (hn : args.length ≤ nt)
    {g : FuncId} {gn : Func} {T t1 t2 : TypeId} {k1 k2 : IntKind} (hG : Guard G g T t1 t2 k1 k2) (hg : G.P.funcs[g]? = some gn) (hname : (gn.name == "runtime.NumGoroutine") = false) (hgb : gn.body.isSome = true)
    {os1 : List Oper} {o : Oper} (hops : ops.toList = os1 ++ [o]) (hgd : o.guard = none) (hdst : o.dst = none) {x y : Operand} {ts : Array TypeId} (hop : o.op = .defer ⟨.value (.func g), #[x, y], ts⟩)
    {s1 : AS} {b1 b2 : Nat} (hx : s1.ev G.Γ x = .ptr b1 0) (hy : s1.ev G.Γ y = .ptr b2 0) (hne : b1 ≠ b2)
    (hrw : s1.h.rw = []) (h1 : ∀ C : Ctx, C.nt = nt → SOps G C ops (At .normal s1) os1 ⟨enum 0 args, ⟨[], []⟩⟩)
    (h2 : ∀ C : Ctx, C.nt = nt → SWP G C rest (FinD G fn T t1 t2 k1 k2 b1 b2 R) s1) : PCalls G f args [] R := fun E w vs hh hv => by
  refine calls_of_wp_defers hf hb ?_
  have hE : HRep G.Γ { E with lo := w.heap.size } w ⟨[], []⟩ := ⟨hh.nb, hh.nr, Nat.le_refl _, fun i b hb => by simp at hb, fun i r hr => by simp at hr, hh.inj, hh.rinj, hh.brw, hh.im_lt, hh.im_b, hh.im_r, hh.gl⟩
  have hv' : VReps { E with lo := w.heap.size } w args vs := hv.move fun x v hx => hx.move (Nat.le_refl _) (Nat.le_refl _) (fun _ _ => rfl) (fun _ _ => rfl) (fun _ h => h) (fun _ _ => rfl)
  have hrel : Rel G (Ctx.of w E 0 fn.ntmps) { E with lo := w.heap.size } ⟨enum 0 args, ⟨[], []⟩⟩ { tmps := vs.toArray ++ Array.replicate (fn.ntmps - vs.toArray.size) undef, defers := [] } w :=
    ⟨rfl, by simp [hv.1]; omega, fun s => by
      rcases lk_enum args vs 0 (fn.ntmps - vs.length) s hv' with h | h
      · have e : (vs.toArray ++ Array.replicate (fn.ntmps - vs.toArray.size) undef).getD s undef = (vs ++ List.replicate (fn.ntmps - vs.length) undef).getD (s - 0) undef := by
          rw [Array.getD_eq_getD_getElem?, List.getD, ← Array.getElem?_toList]
          simp
        rw [e]
        exact h
      · omega, hE, rfl, Nat.zero_le _, fun _ _ => rfl, fun i h1 h2 => absurd (show i < ([] : List Box).length from by have := hh.nb; simp only [] at h2 this; rw [← this]; exact h2) (Nat.not_lt_zero _), fun _ h => h, fun _ h => .inl h, fun _ _ _ _ => rfl, rfl, rfl, rfl, Nat.le_refl _, fun j s k hj => by simp at hj⟩
  refine wp_seq (wp_region_list ?_)
  rw [hops]
  refine wpList_then (Q1 := Post G (Ctx.of w E 0 fn.ntmps) (At .normal s1)) ?_ ?_ os1 _ _ (h1 _ hk _ _ _ hrel)
  rotate_left
  · rintro e a1 w1 hne ⟨ae, s, E1, ⟨rfl, rfl⟩, rfl, r1⟩
    exact absurd rfl hne
  rintro a1 w1 ⟨ae, s, E1, ⟨rfl, rfl⟩, _, r1⟩
  -- the call is put off
  have ex := ev_rep r1.fr r1.hp x
  have ey := ev_rep r1.fr r1.hp y
  rw [hx] at ex
  rw [hy] at ey
  obtain ⟨ex, hb1⟩ := ex.ptr_inv
  obtain ⟨ey, hb2⟩ := ey.ptr_inv
  have hrun : (execOp a1.eval o).run G.P w1 = .ok (.defer ⟨.fn (.func g) #[], #[.pointer (some ⟨E1.β b1, 0, none⟩), .pointer (some ⟨E1.β b2, 0, none⟩)]⟩) w1 := by
    have e0 : a1.eval (.func g) = .func (.func g) #[] #[] := rfl
    simp [execOp, hop, resolve, Deferred.ofValue, e0, ex, ey, Result.andThen]
  refine wpList_plain hgd fun K hK => ?_
  unfold Oper.wp
  rw [hrun]
  refine hK _ _ ?_
  show rest.wp G.P _ _ _
  rw [hdst]
  let d0 : Deferred := ⟨.fn (.func g) #[], #[.pointer (some ⟨E1.β b1, 0, none⟩), .pointer (some ⟨E1.β b2, 0, none⟩)]⟩
  let C2 : Ctx := ⟨w1, E1, E1.nb, fn.ntmps, E1.lo, fun _ => False, [d0]⟩
  have r2 : Rel G C2 E1 s { a1 with defers := d0 :: a1.defers } w1 := ⟨by simp [r1.defers, C2, Ctx.of], r1.size, r1.fr, r1.hp, rfl, Nat.le_refl _, fun _ _ => rfl, fun i h1 h2 => absurd h2 (Nat.not_lt.2 h1), fun _ h => h, fun _ h => .inl h, fun _ _ _ _ => rfl, rfl, rfl, rfl, Nat.le_refl _, fun j t k hj => by rw [hrw] at hj; simp at hj⟩
  -- the end, the deferred call done
  have fin : ∀ (E' : Env) (s2 : AS) (a' : Act) (w' : World), Rel G C2 E' s2 a' w' → FinR G fn 0 R s2 →
      ∃ v, (results fn a'.tmps).run G.P w' = .ok v w' ∧ ∃ o bx' E2, R o bx' ∧ OutR E2 w' o (.returned v) ∧ HRep G.Γ E2 w' ⟨bx', []⟩ ∧ PExt 0 E w E2 w' := by
    rintro E' s2 a' w' r ⟨m, rv, h1, h2, h3, h4, h5, h6⟩
    obtain ⟨v, hv1, hv2⟩ := aret_ok r.fr r.hp h3
    have k1 := close_hp r h2 h5
    have hnb := r.hp.nb
    have own1 : ∀ i, i < E1.nb → w.heap.size ≤ E1.β i := fun i hi => r1.own i (Nat.zero_le _) hi
    refine ⟨v, hv1, _, _, { E' with nb := m, nr := 0 }, h6, ⟨v, rfl, hv2.sc h4 (Nat.le_refl _) (fun _ _ => rfl) rfl⟩, k1, ⟨Nat.le_trans r1.sz r.sz, r.os.trans r1.os, r.tape.trans r1.tape, r.out.trans r1.out, fun k hk _ => ?_, Nat.zero_le _, fun i hi => absurd hi (Nat.not_lt_zero _), fun k hk => r.up k (r1.up k hk), fun k hk => ?_, fun i _ hi => ?_⟩⟩
    · exact (r.keep k (Nat.lt_of_lt_of_le hk r1.sz) (fun i hi he => by have := own1 i hi; simp only [C2] at he; omega) (fun h => h)).trans (r1.keep k hk (fun i hi => absurd hi (Nat.not_lt_zero _)) (fun h => h))
    · rcases r.dn k hk with h | h | h
      · rcases r1.dn k h with h | h | h
        · exact .inl h
        · exact .inr h
        · exact h.elim
      · exact .inr (Nat.le_trans r1.sz h)
      · exact h.elim
    · simp only [] at hi
      rcases Nat.lt_or_ge i E1.nb with hlt | hge
      · rw [show (E' : Env).β i = E1.β i from r.β i hlt]; exact own1 i hlt
      · exact Nat.le_trans r1.sz (r.own i hge (by omega))
  have hinv : ∀ w', (invoke d0.target d0.args).run G.P w' = .ok (.enter g d0.args) w' := fun w' => by
    simp only [d0, invoke]
    rw [callFunc_enter hg hname hgb]
    simp
  have back : ∀ (a2 : Act) (w2 : World) (E2 : Env) (s2 : AS), Rel G C2 E2 s2 a2 w2 → FinR G fn 0 R s2 → Leaves G.P fn a2.tmps (fun e w' => ∃ o bx' E', R o bx' ∧ OutR E' w' o e ∧ HRep G.Γ E' w' ⟨bx', []⟩ ∧ PExt ([] : List Box).length E w E' w') a2.defers .returning w2 := by
    intro a2 w2 E2 s2 r3 q
    rw [r3.defers]
    refine leaves_cons (f := g) (args := d0.args) (fun h => by cases h) (hinv w2) ?_
    refine (hG.idle _ _ w2).mono ?_
    rintro e u' w' ⟨⟨v, rfl⟩, rfl, hb⟩
    obtain ⟨v, g1, g2⟩ := fin _ _ _ _ (r3.grow hb.size hb.block hb.os hb.tape hb.output) q
    exact ⟨v, g1, g2⟩
  refine wp_mono (h2 C2 hk _ _ _ r2) ?_
  rintro e a2 w2 ⟨ae, s2, E2, q, hx2, r3⟩
  cases ae with
  | normal => cases hx2; exact back _ _ _ _ r3 q
  | ret => cases hx2; exact back _ _ _ _ r3 q
  | exit i => exact q.elim
  | panic z =>
    obtain ⟨n, e', c1, c2, rfl, hc1, hc2, hfin⟩ := q
    obtain ⟨v, rfl, hv⟩ := hx2
    obtain ⟨u, rfl, hu⟩ := hv.iface_inv
    obtain ⟨us, rfl, hus⟩ := hu.agg_inv
    obtain ⟨v1, us, rfl, hv1, hus⟩ := hus.cons_inv
    obtain ⟨v2, us, rfl, hv2, hus⟩ := hus.cons_inv
    rw [hus.nil_inv]
    have e1 := hv1.int_inv
    have e2 := hv2.int_inv
    subst e1 e2
    obtain ⟨cur1, g1, g2⟩ := r3.hp.box b1 _ hc1
    obtain ⟨cur2, g3, g4⟩ := r3.hp.box b2 _ hc2
    obtain ⟨c1', rfl⟩ := one_cell g2
    obtain ⟨c2', rfl⟩ := one_cell g4
    have hn1 : b1 < E2.nb := by rw [r3.hp.nb]; exact (List.getElem?_eq_some_iff.1 hc1).1
    have hn2 : b2 < E2.nb := by rw [r3.hp.nb]; exact (List.getElem?_eq_some_iff.1 hc2).1
    have hβ1 : E2.β b1 = E1.β b1 := r3.β b1 hb1
    have hβ2 : E2.β b2 = E1.β b2 := r3.β b2 hb2
    show Leaves G.P fn a2.tmps _ a2.defers _ w2
    rw [r3.defers]
    refine leaves_cons (f := g) (args := d0.args) (fun h => by cases h) (hinv w2) ?_
    have hcall := hG.pan (E2.β b1) (E2.β b2) n e' c1' c2' w2 (fun he => hne (r3.hp.inj b1 b2 hn1 hn2 he)) g1 g3
    rw [hβ1, hβ2] at hcall
    refine hcall.mono ?_
    rintro e u' w' ⟨⟨v, rfl⟩, rfl, hb⟩
    have r4 := r3.putBox hc1 (cs := [.int k1 n]) (vs := [.int k1 n]) (.cons (.imm (.int _ _)) (.nil _ _))
    have hc2' : (setB s2 b1 [.int k1 n] t1).h.bx[b2]? = some ⟨[c2], t2⟩ := by
      simp only [setB]; rw [List.getElem?_set_ne hne]; exact hc2
    have r5 := Rel.putBox (st := setB s2 b1 [.int k1 n] t1) r4 hc2' (cs := [.int k2 e']) (vs := [.int k2 e']) (.cons (.imm (.int _ _)) (.nil _ _))
    rw [hβ1, hβ2] at r5
    obtain ⟨v, g5, g6⟩ := fin _ _ _ _ (r5.grow hb.size (fun k hk => hb.block k (by simpa [putBlk_size] using hk)) hb.os hb.tape hb.output) hfin
    exact ⟨v, g5, g6⟩
/-- The same, with code ahead of the call that is put off. -/
theorem PCalls.deferred2 {f : FuncId} {fn : Func} {id : Nat} {ops : Array Oper} {c0 rest : Code} {args : List PV} {R : Out → List Box → Prop} {nt : Nat} (hf : G.P.funcs[f]? = some fn) (hk : fn.ntmps = nt) (hb : fn.body = some (.seq c0 (.seq (.region id ops false) rest))) (hn : args.length ≤ nt)
    {g : FuncId} {gn : Func} {T t1 t2 : TypeId} {k1 k2 : IntKind} (hG : Guard G g T t1 t2 k1 k2) (hg : G.P.funcs[g]? = some gn) (hname : (gn.name == "runtime.NumGoroutine") = false) (hgb : gn.body.isSome = true)
    {o : Oper} (hops : ops.toList = [o]) (hgd : o.guard = none) (hdst : o.dst = none) {x y : Operand} {ts : Array TypeId} (hop : o.op = .defer ⟨.value (.func g), #[x, y], ts⟩)
    {s1 : AS} {b1 b2 : Nat} (hx : s1.ev G.Γ x = .ptr b1 0) (hy : s1.ev G.Γ y = .ptr b2 0) (hne : b1 ≠ b2)
    (hrw : s1.h.rw = []) (h1 : ∀ C : Ctx, C.nt = nt → SWP G C c0 (At .normal s1) ⟨enum 0 args, ⟨[], []⟩⟩)
    (h2 : ∀ C : Ctx, C.nt = nt → C.nb = s1.h.bx.length → SWP G C rest (FinD G fn T t1 t2 k1 k2 b1 b2 R) s1) : PCalls G f args [] R := fun E w vs hh hv => by
  refine calls_of_wp_defers hf hb ?_
  have hE : HRep G.Γ { E with lo := w.heap.size } w ⟨[], []⟩ := ⟨hh.nb, hh.nr, Nat.le_refl _, fun i b hb => by simp at hb, fun i r hr => by simp at hr, hh.inj, hh.rinj, hh.brw, hh.im_lt, hh.im_b, hh.im_r, hh.gl⟩
  have hv' : VReps { E with lo := w.heap.size } w args vs := hv.move fun x v hx => hx.move (Nat.le_refl _) (Nat.le_refl _) (fun _ _ => rfl) (fun _ _ => rfl) (fun _ h => h) (fun _ _ => rfl)
  have hrel : Rel G (Ctx.of w E 0 fn.ntmps) { E with lo := w.heap.size } ⟨enum 0 args, ⟨[], []⟩⟩ { tmps := vs.toArray ++ Array.replicate (fn.ntmps - vs.toArray.size) undef, defers := [] } w :=
    ⟨rfl, by simp [hv.1]; omega, fun s => by
      rcases lk_enum args vs 0 (fn.ntmps - vs.length) s hv' with h | h
      · have e : (vs.toArray ++ Array.replicate (fn.ntmps - vs.toArray.size) undef).getD s undef = (vs ++ List.replicate (fn.ntmps - vs.length) undef).getD (s - 0) undef := by
          rw [Array.getD_eq_getD_getElem?, List.getD, ← Array.getElem?_toList]
          simp
        rw [e]
        exact h
      · omega, hE, rfl, Nat.zero_le _, fun _ _ => rfl, fun i h1 h2 => absurd (show i < ([] : List Box).length from by have := hh.nb; simp only [] at h2 this; rw [← this]; exact h2) (Nat.not_lt_zero _), fun _ h => h, fun _ h => .inl h, fun _ _ _ _ => rfl, rfl, rfl, rfl, Nat.le_refl _, fun j s k hj => by simp at hj⟩
  refine wp_seq (wp_mono (h1 _ hk _ _ _ hrel) ?_)
  rintro e a1 w1 ⟨ae, s, E1, ⟨rfl, rfl⟩, rfl, r1⟩
  refine wp_seq (wp_region_list ?_)
  rw [hops]
  -- the call is put off
  have ex := ev_rep r1.fr r1.hp x
  have ey := ev_rep r1.fr r1.hp y
  rw [hx] at ex
  rw [hy] at ey
  obtain ⟨ex, hb1⟩ := ex.ptr_inv
  obtain ⟨ey, hb2⟩ := ey.ptr_inv
  have hrun : (execOp a1.eval o).run G.P w1 = .ok (.defer ⟨.fn (.func g) #[], #[.pointer (some ⟨E1.β b1, 0, none⟩), .pointer (some ⟨E1.β b2, 0, none⟩)]⟩) w1 := by
    have e0 : a1.eval (.func g) = .func (.func g) #[] #[] := rfl
    simp [execOp, hop, resolve, Deferred.ofValue, e0, ex, ey, Result.andThen]
  refine wpList_plain hgd fun K hK => ?_
  unfold Oper.wp
  rw [hrun]
  refine hK _ _ ?_
  show rest.wp G.P _ _ _
  rw [hdst]
  let d0 : Deferred := ⟨.fn (.func g) #[], #[.pointer (some ⟨E1.β b1, 0, none⟩), .pointer (some ⟨E1.β b2, 0, none⟩)]⟩
  let C2 : Ctx := ⟨w1, E1, E1.nb, fn.ntmps, E1.lo, fun _ => False, [d0]⟩
  have r2 : Rel G C2 E1 s { a1 with defers := d0 :: a1.defers } w1 := ⟨by simp [r1.defers, C2, Ctx.of], r1.size, r1.fr, r1.hp, rfl, Nat.le_refl _, fun _ _ => rfl, fun i h1 h2 => absurd h2 (Nat.not_lt.2 h1), fun _ h => h, fun _ h => .inl h, fun _ _ _ _ => rfl, rfl, rfl, rfl, Nat.le_refl _, fun j t k hj => by rw [hrw] at hj; simp at hj⟩
  -- the end, the deferred call done
  have fin : ∀ (E' : Env) (s2 : AS) (a' : Act) (w' : World), Rel G C2 E' s2 a' w' → FinR G fn 0 R s2 →
      ∃ v, (results fn a'.tmps).run G.P w' = .ok v w' ∧ ∃ o bx' E2, R o bx' ∧ OutR E2 w' o (.returned v) ∧ HRep G.Γ E2 w' ⟨bx', []⟩ ∧ PExt 0 E w E2 w' := by
    rintro E' s2 a' w' r ⟨m, rv, h1, h2, h3, h4, h5, h6⟩
    obtain ⟨v, hv1, hv2⟩ := aret_ok r.fr r.hp h3
    have k1 := close_hp r h2 h5
    have hnb := r.hp.nb
    have own1 : ∀ i, i < E1.nb → w.heap.size ≤ E1.β i := fun i hi => r1.own i (Nat.zero_le _) hi
    refine ⟨v, hv1, _, _, { E' with nb := m, nr := 0 }, h6, ⟨v, rfl, hv2.sc h4 (Nat.le_refl _) (fun _ _ => rfl) rfl⟩, k1, ⟨Nat.le_trans r1.sz r.sz, r.os.trans r1.os, r.tape.trans r1.tape, r.out.trans r1.out, fun k hk _ => ?_, Nat.zero_le _, fun i hi => absurd hi (Nat.not_lt_zero _), fun k hk => r.up k (r1.up k hk), fun k hk => ?_, fun i _ hi => ?_⟩⟩
    · exact (r.keep k (Nat.lt_of_lt_of_le hk r1.sz) (fun i hi he => by have := own1 i hi; simp only [C2] at he; omega) (fun h => h)).trans (r1.keep k hk (fun i hi => absurd hi (Nat.not_lt_zero _)) (fun h => h))
    · rcases r.dn k hk with h | h | h
      · rcases r1.dn k h with h | h | h
        · exact .inl h
        · exact .inr h
        · exact h.elim
      · exact .inr (Nat.le_trans r1.sz h)
      · exact h.elim
    · simp only [] at hi
      rcases Nat.lt_or_ge i E1.nb with hlt | hge
      · rw [show (E' : Env).β i = E1.β i from r.β i hlt]; exact own1 i hlt
      · exact Nat.le_trans r1.sz (r.own i hge (by omega))
  have hinv : ∀ w', (invoke d0.target d0.args).run G.P w' = .ok (.enter g d0.args) w' := fun w' => by
    simp only [d0, invoke]
    rw [callFunc_enter hg hname hgb]
    simp
  have back : ∀ (a2 : Act) (w2 : World) (E2 : Env) (s2 : AS), Rel G C2 E2 s2 a2 w2 → FinR G fn 0 R s2 → Leaves G.P fn a2.tmps (fun e w' => ∃ o bx' E', R o bx' ∧ OutR E' w' o e ∧ HRep G.Γ E' w' ⟨bx', []⟩ ∧ PExt ([] : List Box).length E w E' w') a2.defers .returning w2 := by
    intro a2 w2 E2 s2 r3 q
    rw [r3.defers]
    refine leaves_cons (f := g) (args := d0.args) (fun h => by cases h) (hinv w2) ?_
    refine (hG.idle _ _ w2).mono ?_
    rintro e u' w' ⟨⟨v, rfl⟩, rfl, hb⟩
    obtain ⟨v, g1, g2⟩ := fin _ _ _ _ (r3.grow hb.size hb.block hb.os hb.tape hb.output) q
    exact ⟨v, g1, g2⟩
  refine wp_mono (h2 C2 hk r1.hp.nb _ _ _ r2) ?_
  rintro e a2 w2 ⟨ae, s2, E2, q, hx2, r3⟩
  cases ae with
  | normal => cases hx2; exact back _ _ _ _ r3 q
  | ret => cases hx2; exact back _ _ _ _ r3 q
  | exit i => exact q.elim
  | panic z =>
    obtain ⟨n, e', c1, c2, rfl, hc1, hc2, hfin⟩ := q
    obtain ⟨v, rfl, hv⟩ := hx2
    obtain ⟨u, rfl, hu⟩ := hv.iface_inv
    obtain ⟨us, rfl, hus⟩ := hu.agg_inv
    obtain ⟨v1, us, rfl, hv1, hus⟩ := hus.cons_inv
    obtain ⟨v2, us, rfl, hv2, hus⟩ := hus.cons_inv
    rw [hus.nil_inv]
    have e1 := hv1.int_inv
    have e2 := hv2.int_inv
    subst e1 e2
    obtain ⟨cur1, g1, g2⟩ := r3.hp.box b1 _ hc1
    obtain ⟨cur2, g3, g4⟩ := r3.hp.box b2 _ hc2
    obtain ⟨c1', rfl⟩ := one_cell g2
    obtain ⟨c2', rfl⟩ := one_cell g4
    have hn1 : b1 < E2.nb := by rw [r3.hp.nb]; exact (List.getElem?_eq_some_iff.1 hc1).1
    have hn2 : b2 < E2.nb := by rw [r3.hp.nb]; exact (List.getElem?_eq_some_iff.1 hc2).1
    have hβ1 : E2.β b1 = E1.β b1 := r3.β b1 hb1
    have hβ2 : E2.β b2 = E1.β b2 := r3.β b2 hb2
    show Leaves G.P fn a2.tmps _ a2.defers _ w2
    rw [r3.defers]
    refine leaves_cons (f := g) (args := d0.args) (fun h => by cases h) (hinv w2) ?_
    have hcall := hG.pan (E2.β b1) (E2.β b2) n e' c1' c2' w2 (fun he => hne (r3.hp.inj b1 b2 hn1 hn2 he)) g1 g3
    rw [hβ1, hβ2] at hcall
    refine hcall.mono ?_
    rintro e u' w' ⟨⟨v, rfl⟩, rfl, hb⟩
    have r4 := r3.putBox hc1 (cs := [.int k1 n]) (vs := [.int k1 n]) (.cons (.imm (.int _ _)) (.nil _ _))
    have hc2' : (setB s2 b1 [.int k1 n] t1).h.bx[b2]? = some ⟨[c2], t2⟩ := by
      simp only [setB]; rw [List.getElem?_set_ne hne]; exact hc2
    have r5 := Rel.putBox (st := setB s2 b1 [.int k1 n] t1) r4 hc2' (cs := [.int k2 e']) (vs := [.int k2 e']) (.cons (.imm (.int _ _)) (.nil _ _))
    rw [hβ1, hβ2] at r5
    obtain ⟨v, g5, g6⟩ := fin _ _ _ _ (r5.grow hb.size (fun k hk => hb.block k (by simpa [putBlk_size] using hk)) hb.os hb.tape hb.output) hfin
    exact ⟨v, g5, g6⟩
/-- The same, with the ends told apart. -/
theorem PCalls.deferQ {f : FuncId} {fn : Func} {id : Nat} {ops : Array Oper} {c0 rest : Code} {args : List PV} {R : Out → List Box → Prop} {nt : Nat} (hf : G.P.funcs[f]? = some fn) (hk : fn.ntmps = nt) (hb : fn.body = some (.seq c0 (.seq (.region id ops false) rest))) (hn : args.length ≤ nt)
    {g : FuncId} {gn : Func} {T t1 t2 : TypeId} {k1 k2 : IntKind} (hG : Guard G g T t1 t2 k1 k2) (hg : G.P.funcs[g]? = some gn) (hname : (gn.name == "runtime.NumGoroutine") = false) (hgb : gn.body.isSome = true)
    {o : Oper} (hops : ops.toList = [o]) (hgd : o.guard = none) (hdst : o.dst = none) {x y : Operand} {ts : Array TypeId} (hop : o.op = .defer ⟨.value (.func g), #[x, y], ts⟩)
    {s1 : AS} {b1 b2 : Nat} (hx : s1.ev G.Γ x = .ptr b1 0) (hy : s1.ev G.Γ y = .ptr b2 0) (hne : b1 ≠ b2)
    (hrw : s1.h.rw = []) (h1 : ∀ C : Ctx, C.nt = nt → SWP G C c0 (At .normal s1) ⟨enum 0 args, ⟨[], []⟩⟩)
    (h2 : ∀ (C : Ctx) (fr : AS → Prop) (fp : PV → AS → Prop), C.nt = nt → C.nb = s1.h.bx.length → (∀ s sl, FinR G fn 0 R (nrm sl s) → fr s) →
      (∀ n e s sl c1 c2, (nrm sl s).h.bx[b1]? = some ⟨[c1], t1⟩ → (nrm sl s).h.bx[b2]? = some ⟨[c2], t2⟩ → FinR G fn 0 R (setB (setB (nrm sl s) b1 [.int k1 n] t1) b2 [.int k2 e] t2) → fp (.iface T (.agg [.int k1 n, .int k2 e])) s) →
      SWP G C rest (QT fr [] fr fp) s1) : PCalls G f args [] R :=
  PCalls.deferred2 hf hk hb hn hG hg hname hgb hops hgd hdst hop hx hy hne hrw h1 fun C hC hnb => SWP.normQ ((h2 C (fun s => ∃ sl, FinR G fn 0 R (nrm sl s)) (fun x s => ∃ sl, FinD G fn T t1 t2 k1 k2 b1 b2 R (.panic x) (nrm sl s)) hC hnb (fun s sl h => ⟨sl, h⟩)
    (fun n e s sl c1 c2 g1 g2 g3 => ⟨sl, n, e, c1, c2, rfl, g1, g2, g3⟩)).mono fun e s q => by
    cases e with
    | normal => exact q
    | ret => exact q
    | exit i => exact q.elim
    | panic x => exact q)
/-- What recover gives in a frame that ends so, and how that frame then goes on. -/
def recV : FrameMode → Value × FrameMode
  | .panicking ({ v, recovered := false, goexit := false } :: older) => (v, .panicking ({ v, recovered := true } :: older))
  | u => (.nilIface, u)
theorem recoverD_at (c : Frame) (cs : List Frame) : recoverD (c :: cs) = some ((recV c.mode).1, { c with mode := (recV c.mode).2 } :: cs) ∨ (recoverD (c :: cs) = none ∧ recV c.mode = (.nilIface, c.mode)) := by
  unfold recoverD
  simp only []
  split
  · rename_i h; left; rw [h]; rfl
  · rename_i h
    right
    refine ⟨rfl, ?_⟩
    unfold recV
    split
    · rename_i v older hm; exact absurd hm (h v older)
    · rfl
/-- A function that is put off, and asks first what there is to recover. -/
theorem callsD_recover {P : Program} {f : FuncId} {fn : Func} {id : Nat} {o : Oper} {rest : Code} {args : Array Value} {u : FrameMode} {w : World} {R : Ending → FrameMode → World → Prop} (hf : P.funcs[f]? = some fn) (hb : fn.body = some (.seq (.region id #[o] false) rest)) (hg : o.guard = none)
    (hop : ∀ ρ : Operand → Value, (execOp ρ o).run P w = .ok .recover w)
    (h : rest.wp P (bodyPost P fn fun e w' => R e (recV u).2 w') (({ tmps := args ++ Array.replicate (fn.ntmps - args.size) undef, defers := [] } : Act).put o.dst (recV u).1) w) : CallsD P f args u w R := by
  refine callsD_of_wpS hf hb fun c₀ cs hu => ?_
  refine wpS_seq (wpS_region ?_)
  have hr : List.range (#[o] : Array Oper).size = [0] := rfl
  rw [hr]
  simp only [wpOpsS]
  have h0 : (#[o] : Array Oper)[0]? = some o := rfl
  simp only [h0, Region.wanted, hg, if_true, hop]
  have fin : ∀ c1 : Frame, { c1 with mode := (recV u).2 } = { c₀ with mode := (recV u).2 } → rest.wpS P (bodyPostS P fn c₀ cs R) (({ tmps := args ++ Array.replicate (fn.ntmps - args.size) undef, defers := [] } : Act).put o.dst (recV u).1) ({ c₀ with mode := (recV u).2 } :: cs) w := fun _ _ =>
    wpS_of_wp (wp_mono h fun e a w' hq => by
      cases e with
      | normal => obtain ⟨h1, v, h2, h3⟩ := hq; exact ⟨h1, _, rfl, v, h2, h3⟩
      | ret => obtain ⟨h1, v, h2, h3⟩ := hq; exact ⟨h1, _, rfl, v, h2, h3⟩
      | panic ch => exact ⟨hq.1, _, rfl, hq.2⟩
      | outgrown => exact ⟨_, hq⟩
      | exit i => exact hq
      | goto l => exact hq)
  rcases recoverD_at c₀ cs with hr | ⟨hr, hv⟩
  · rw [hr]
    simp only [Exit.thenS]
    rw [hu]
    exact fin c₀ rfl
  · rw [hr]
    simp only [Exit.thenS]
    rw [hu] at hv
    have := fin c₀ rfl
    rw [hv] at this
    have e : ({ c₀ with mode := u } : Frame) = c₀ := by subst hu; rfl
    simp only [e] at this
    exact this
end
end Go.AS
/- Nil slices taken for empty ones; some rules of states. -/
namespace Go.AS
open Go.RowKit
set_option linter.unusedVariables false
set_option linter.unusedSimpArgs false
mutual
/-- Nil slices taken for empty ones. -/
def PV.nz : PV → PV
  | .nil => .slice 0 []
  | .slice n cs => .slice n (nzL cs)
  | .agg cs => .agg (nzL cs)
  | .tup cs => .tup (nzL cs)
  | .int k n => .int k n
  | .bool b => .bool b
  | .str s => .str s
  | .epos cs => .epos cs
  | .own r n => .own r n
  | .rpos r o => .rpos r o
  | .ptr b o => .ptr b o
  | .bsl b n m => .bsl b n m
  | .nilptr => .nilptr
  | .func f cs => .func f cs
  | .nilfunc => .nilfunc
  | .iface t x => .iface t x
  | .niliface => .niliface
  | .junk => .junk
def nzL : List PV → List PV
  | [] => []
  | x :: xs => x.nz :: nzL xs
end
theorem nzL_get : ∀ (cs : List PV) (j : Nat), (nzL cs)[j]? = (cs[j]?).map PV.nz
  | [], j => by simp [nzL]
  | x :: xs, 0 => by simp [nzL]
  | x :: xs, j + 1 => by simp only [nzL, List.getElem?_cons_succ]; exact nzL_get xs j
theorem nzL_len : ∀ cs : List PV, (nzL cs).length = cs.length
  | [] => rfl
  | x :: xs => by simp only [nzL, List.length_cons, nzL_len xs]
theorem nzL_app : ∀ xs ys : List PV, nzL (xs ++ ys) = nzL xs ++ nzL ys
  | [], ys => rfl
  | x :: xs, ys => by simp only [List.cons_append, nzL, nzL_app xs ys]
theorem nz_at {cs : List PV} {vs : List Value} {T : PV → Value → Prop} (h : ∀ (j : Nat) (x : PV) (v : Value), cs[j]? = some x → vs[j]? = some v → T x.nz v) : ∀ (j : Nat) (x : PV) (v : Value), (nzL cs)[j]? = some x → vs[j]? = some v → T x v := fun j x v hx hv => by
  rw [nzL_get] at hx
  obtain ⟨y, hy, rfl⟩ := Option.map_eq_some_iff.1 hx
  exact h j y v hy hv
theorem IRep.nz {im : Nat → Prop} {w : World} {x : PV} {v : Value} (h : IRep im w x v) : IRep im w x.nz v := by
  induction h with
  | nil => exact .slice0
  | slice0 => exact .slice0
  | slice hn hl hb hc h1 _ ih => exact .slice hn (hl.trans (nzL_len _).symm) hb hc h1 (nz_at ih)
  | agg hl _ ih => exact .agg (hl.trans (nzL_len _).symm) (nz_at ih)
  | tup hl _ ih => exact .tup (hl.trans (nzL_len _).symm) (nz_at ih)
  | epos hl hb hc hr _ => exact .epos hl hb hc hr
  | iface t h _ => exact .iface t h
  | int | bool | str | nilptr | nilfunc | niliface | func => constructor
theorem VRep.nz {E : Env} {w : World} {x : PV} {v : Value} (h : VRep E w x v) : VRep E w x.nz v := by
  induction h with
  | imm h => exact .imm h.nz
  | own hr h hn => exact .own hr h hn
  | rpos hr h => exact .rpos hr h
  | ptr o hb => exact .ptr o hb
  | bsl hb hn => exact .bsl hb hn
  | func hl hr _ => exact .func hl hr
  | agg hl _ ih => exact .agg (hl.trans (nzL_len _).symm) (nz_at ih)
  | tup hl _ ih => exact .tup (hl.trans (nzL_len _).symm) (nz_at ih)
  | iface t h _ => exact .iface t h
  | junk v => exact .junk v
def Out.nz : Out → Out
  | .ret r => .ret r.nz
  | .pan x => .pan x
theorem PCalls.nz {G : Prg} {f : FuncId} {args : List PV} {bx : List Box} {R : Out → List Box → Prop} (h : PCalls G f args bx (fun o b => R o.nz b)) : PCalls G f args bx R := fun E w vs hh hv =>
  (h E w vs hh hv).mono fun e w' ⟨o, bx', E', hR, hout, hrest⟩ => by
    refine ⟨o.nz, bx', E', hR, ?_, hrest⟩
    cases o with
    | ret r => obtain ⟨v, rfl, hv⟩ := hout; exact ⟨v, rfl, hv.nz⟩
    | pan x => exact hout
theorem Pure.nz {G : Prg} {f : FuncId} {args : List PV} {R : PV → Prop} (h : Pure G f args (fun r => R r.nz)) : Pure G f args R :=
  PCalls.nz (PCalls.mono h fun o b ⟨hb, r, ho, hr⟩ => ⟨hb, r.nz, by rw [ho]; rfl, hr⟩)
mutual
theorem Dat.nz : ∀ d : Dat, nzL d.cells = d.cells
  | .mk k n s ks => by simp only [Dat.cells, nzL, PV.nz, Dats.nz ks]
theorem Dats.nz : ∀ ds : Dats, nzL ds.cells = ds.cells
  | .nil => rfl
  | .cons d ds => by simp only [Dats.cells, nzL_app, Dat.nz d, Dats.nz ds]
end
section
variable {G : Prg} {C : Ctx} {Q : AEx → AS → Prop} {st : AS}
theorem SWP.adoptS {c : Code} (s : Nat) (ty : TypeId) (sz : Nat) (hs : lk st.t s = .nil) (h : SWP G C c Q (st.adopt s ty sz)) : SWP G C c Q st := fun E a w hr => by
  obtain ⟨E', hr'⟩ := hr.adopt hs ty sz
  exact h E' a w hr'
end
end Go.AS
namespace Go.AS
open Go.RowKit
section
variable {G : Prg}
/-- A drawn region, each order of which ends in a panic: what panics stands in slot 0. -/
noncomputable def runX (S : Cfg G) (rec : Rec) (nt : Nat) (ops : Array Oper) (ds : List Nat) : Nat → Array Bool → AS → Option Outs
  | 0, _, _ => none
  | n + 1, l, st => match Region.ready .any ops l with
    | [] => none
    | i :: is => match pick1 G S.orc S.val nt ops ds l st (i :: is) with
      | some (l', s, o) => pre o (runX S rec nt ops ds n l' s)
      | none => eachOf (fun j => match ds.contains j, panOne S nt ops st j with
        | true, some (x, s, o) => some ([⟨[(0, x)], s.h⟩], o)
        | _, _ => match anyOne S rec nt ops ds l st j with
          | some (l', s, o) => pre o (runX S rec nt ops ds n l' s)
          | none => none) (i :: is)
variable {C : Ctx} {Q : AEx → AS → Prop} {st : AS} {ops : Array Oper} {ds : List Nat}
theorem runX_ok {S : Cfg G} {rec : Rec} (hr : Snd G rec) (hQ : PanicT Q) : ∀ (n : Nat) (l : Array Bool) (st : AS) (outs : Outs), runX S rec C.nt ops ds n l st = some outs → okO outs.2 → (∀ s ∈ outs.1, ∀ x h, s = ⟨[(0, x)], h⟩ → Q (.panic x) ⟨[], h⟩) → SAny G C ops Q ds n l st := by
  intro n
  induction n with
  | zero => intro l st outs h; cases h
  | succ n ih =>
    intro l st outs h ho hK
    simp only [runX] at h
    split at h
    · cases h
    · rename_i i is hri
      split at h
      · rename_i l' s o hp
        obtain ⟨o', h1, h2⟩ := pre_some h
        rw [h2] at ho
        exact pick1_ok hQ ho.left _ hp (ih _ _ _ h1 ho.right hK)
      · refine .all (by rw [hri]; exact List.cons_ne_nil _ _) fun j hj => ?_
        rw [hri] at hj
        obtain ⟨a, h1, h2, h3⟩ := eachOf_some h j hj
        split at h1
        · rename_i x s o hds hpan
          cases h1
          unfold panOne at hpan
          split at hpan
          · rename_i op hi
            split at hpan
            · rename_i hg
              refine ⟨op, hi, .inl ⟨by unfold gq; rw [hg], .inl ⟨by simpa using hds, ?_⟩⟩⟩
              have hob : okO o := fun p hp => ho p (h3 p hp)
              refine SOp.wkp (Q' := At (.panic x) s) (panStep_ok (Q := At (.panic x) s) hpan hob ⟨rfl, rfl⟩ op rfl rfl) ?_
              rintro e t ⟨rfl, rfl⟩
              exact ⟨[], hK _ (h2 _ (List.mem_singleton.2 rfl)) x t.h rfl, .inl rfl⟩
            · cases hpan
          · cases hpan
        · split at h1
          · rename_i l' s o hone
            obtain ⟨o', h4, h5⟩ := pre_some h1
            have ho' : okO (o ++ o') := fun p hp => ho p (h3 p (by rw [h5]; exact hp))
            exact anyOne_ok hr hone ho'.left (by
              have hl : l' = l.setIfInBounds j true := by
                unfold anyOne at hone
                split at hone
                · split at hone
                  · split at hone
                    · split at hone
                      · cases hone; rfl
                      · cases hone
                    · cases hone
                  · split at hone
                    · cases hone; rfl
                    · cases hone
                  · cases hone
                · cases hone
              subst hl
              exact ih _ _ _ h4 ho'.right fun s hs => hK s (h2 s hs))
          · cases h1
noncomputable def runXP (S : Cfg G) (k nt : Nat) (ops : Array Oper) (st : AS) : Option Outs := runX S (run S k) nt ops (dsOf S.D ops) ops.size (Array.replicate ops.size false) st
theorem SWP.runXQ {id : Nat} (S : Cfg G) (k nt : Nat) (hnt : C.nt = nt) (hQ : PanicT Q) {l : List AS} {o : Ob} (h : runXP S k nt ops st = some (l, o)) (ho : okO o) (hK : ∀ s ∈ l, ∀ x h, s = ⟨[(0, x)], h⟩ → Q (.panic x) ⟨[], h⟩) : SWP G C (.region id ops true) Q st := by
  subst hnt
  exact .draw _ _ rfl (runX_ok (run_ok S k) hQ _ _ _ _ h ho hK)
end
end Go.AS
/- The parts of a string, and data out of them (plain Lean). -/
namespace Go.Proofs.YtenpjkcclmmlhaaDoor
open Go.AS
set_option linter.unusedVariables false
set_option linter.unusedSimpArgs false
namespace Seat
def lbl (c : UInt8) : Bool := blank (c.toNat : Int)
def lle (c : UInt8) : Bool := letC (c.toNat : Int)
def nl10 (c : UInt8) : Bool := decide (c.toNat ≠ 10)
/-- The parts: brackets, signs and atoms. -/
def tokK : Nat → List UInt8 → List (List UInt8)
  | 0, _ => []
  | _ + 1, [] => []
  | k + 1, c :: r => if lbl c = true then tokK k r else if c.toNat = 59 then tokK k (r.dropWhile nl10) else
    if lle c = true then (c :: r.takeWhile lle) :: tokK k (r.dropWhile lle) else [c] :: tokK k r
theorem dropWhile_len {α : Type} (p : α → Bool) : ∀ l : List α, (l.dropWhile p).length ≤ l.length
  | [] => Nat.le_refl _
  | c :: r => by
    rw [List.dropWhile_cons]
    split
    · exact Nat.le_trans (dropWhile_len p r) (Nat.le_succ _)
    · exact Nat.le_refl _
theorem tokK_more : ∀ (k m : Nat) (l : List UInt8), l.length ≤ k → k ≤ m → tokK m l = tokK k l
  | 0, m, l, h, _ => by
    obtain rfl := List.eq_nil_of_length_eq_zero (Nat.le_zero.1 h)
    cases m <;> rfl
  | k + 1, m, [], h, hm => by cases m <;> rfl
  | k + 1, m, c :: r, h, hm => by
    obtain ⟨m, rfl⟩ : ∃ j, m = j + 1 := ⟨m - 1, by omega⟩
    have hr : r.length ≤ k := by simpa using h
    have h1 := dropWhile_len nl10 r
    have h2 := dropWhile_len lle r
    rw [tokK, tokK, tokK_more k m r hr (by omega), tokK_more k m (r.dropWhile nl10) (by omega) (by omega), tokK_more k m (r.dropWhile lle) (by omega) (by omega)]
def tok (l : List UInt8) : List (List UInt8) := tokK l.length l
theorem tok_nil : tok [] = [] := rfl
theorem tok_cons (c : UInt8) (r : List UInt8) : tok (c :: r) = if lbl c = true then tok r else if c.toNat = 59 then tok (r.dropWhile nl10) else
    if lle c = true then (c :: r.takeWhile lle) :: tok (r.dropWhile lle) else [c] :: tok r := by
  have h1 := dropWhile_len nl10 r
  have h2 := dropWhile_len lle r
  unfold tok
  rw [List.length_cons, tokK, tokK_more (r.dropWhile nl10).length r.length _ (Nat.le_refl _) h1, tokK_more (r.dropWhile lle).length r.length _ (Nat.le_refl _) h2]
/-! ### The reader's offsets, as lists -/
theorem bt_drop0 (t : ByteArray) (i : Nat) (h : i < t.size) : ∃ c : UInt8, t.data.toList.drop i = c :: t.data.toList.drop (i + 1) ∧ bt t (i : Int) = (c.toNat : Int) := by
  have hlen : t.data.toList.length = t.size := Array.length_toList
  refine ⟨t.data.toList[i]'(by omega), List.drop_eq_getElem_cons (by omega), ?_⟩
  unfold bt
  rw [dif_pos (by rw [Int.toNat_natCast]; exact h)]
  rfl
theorem drop_out (t : ByteArray) (i : Nat) (h : t.size ≤ i) : t.data.toList.drop i = [] := List.drop_of_length_le (by have hlen : t.data.toList.length = t.size := Array.length_toList; omega)
theorem rem_drop (s : ByteArray) : ∀ k a, s.size - a ≤ k → s.data.toList.drop (remE s a) = (s.data.toList.drop a).dropWhile nl10
  | 0, a, h => by
    rw [remE_eq, if_neg (by omega), drop_out s a (by omega)]; rfl
  | k + 1, a, h => by
    rw [remE_eq]
    rcases Nat.lt_or_ge a s.size with hl | hl
    · obtain ⟨c, h1, h2⟩ := bt_drop0 s a hl
      rw [h1, h2]
      by_cases hc : c.toNat = 10
      · rw [if_neg (by omega), h1, List.dropWhile_cons, if_neg (by simp [nl10, hc])]
      · rw [if_pos (by omega), rem_drop s k (a + 1) (by omega), List.dropWhile_cons, if_pos (by simp [nl10, hc])]
    · rw [if_neg (by omega), drop_out s a hl]; rfl
theorem let_drop (s : ByteArray) : ∀ k a, s.size - a ≤ k → s.data.toList.drop (letE s a) = (s.data.toList.drop a).dropWhile lle
  | 0, a, h => by
    rw [letE_eq, if_neg (by omega), drop_out s a (by omega)]; rfl
  | k + 1, a, h => by
    rw [letE_eq]
    rcases Nat.lt_or_ge a s.size with hl | hl
    · obtain ⟨c, h1, h2⟩ := bt_drop0 s a hl
      rw [h1, h2]
      by_cases hc : letC (c.toNat : Int) = true
      · rw [if_pos ⟨hl, hc⟩, let_drop s k (a + 1) (by omega), List.dropWhile_cons, if_pos (show lle c = true from hc)]
      · rw [if_neg (fun g => hc g.2), h1, List.dropWhile_cons, if_neg (show ¬ lle c = true from hc)]
    · rw [if_neg (by omega), drop_out s a hl]; rfl
theorem let_take (s : ByteArray) : ∀ k a, s.size - a ≤ k → (s.data.toList.drop a).take (letE s a - a) = (s.data.toList.drop a).takeWhile lle
  | 0, a, h => by
    rw [letE_eq, if_neg (by omega), drop_out s a (by omega)]; simp
  | k + 1, a, h => by
    rw [letE_eq]
    rcases Nat.lt_or_ge a s.size with hl | hl
    · obtain ⟨c, h1, h2⟩ := bt_drop0 s a hl
      rw [h1, h2]
      by_cases hc : letC (c.toNat : Int) = true
      · have hge := letE_ge s (a + 1)
        rw [if_pos ⟨hl, hc⟩, show letE s (a + 1) - a = (letE s (a + 1) - (a + 1)) + 1 by omega, List.take_succ_cons, let_take s k (a + 1) (by omega), List.takeWhile_cons, if_pos (show lle c = true from hc)]
      · rw [if_neg (fun g => hc g.2), Nat.sub_self, List.takeWhile_cons, if_neg (show ¬ lle c = true from hc)]; rfl
    · rw [if_neg (by omega), drop_out s a hl]; simp
theorem ext_list (s : ByteArray) (a b : Nat) : (s.extract a b).data.toList = (s.data.toList.drop a).take (b - a) := by
  rw [ByteArray.data_extract, Array.toList_extract, List.extract_eq_take_drop]
/-- The parts from a on. -/
def toks (s : ByteArray) (a : Nat) : List (List UInt8) := tok (s.data.toList.drop a)
theorem toks_out (s : ByteArray) (a : Nat) (h : s.size ≤ a) : toks s a = [] := by unfold toks; rw [drop_out s a h]; rfl
theorem toks_skp (s : ByteArray) : ∀ k a, s.size - a ≤ k → toks s (skp s a) = toks s a ∧ (skp s a < s.size → lbl (s.data.toList.getD (skp s a) 0) = false ∧ bt s (skp s a : Nat) ≠ 59 ∧ blank (bt s (skp s a : Nat)) = false)
  | 0, a, h => by rw [skp_out s a (by omega)]; exact ⟨rfl, fun h => by omega⟩
  | k + 1, a, h => by
    rcases Nat.lt_or_ge a s.size with hl | hl
    · obtain ⟨c, h1, h2⟩ := bt_drop0 s a hl
      rw [skp_eq, if_pos hl, h2]
      by_cases hb : blank (c.toNat : Int) = true
      · rw [if_pos hb]
        obtain ⟨g1, g2⟩ := toks_skp s k (a + 1) (by omega)
        refine ⟨?_, g2⟩
        rw [g1]
        unfold toks
        rw [h1, tok_cons, if_pos (show lbl c = true from hb)]
      · rw [if_neg hb]
        by_cases h9 : c.toNat = 59
        · rw [if_pos (by omega)]
          have hre := remE_59 hl (by omega)
          obtain ⟨g1, g2⟩ := toks_skp s k (remE s a) (by omega)
          refine ⟨?_, g2⟩
          rw [g1]
          unfold toks
          rw [rem_drop s _ a (Nat.le_refl _), h1, tok_cons, if_neg (show ¬ lbl c = true from hb), if_pos h9, List.dropWhile_cons, if_pos (by simp [nl10, h9])]
        · rw [if_neg (by omega)]
          refine ⟨rfl, fun _ => ⟨?_, by omega, by rw [h2]; simpa using hb⟩⟩
          have hlen : s.data.toList.length = s.size := Array.length_toList
          have e : s.data.toList.getD a 0 = c := by
            have := congrArg (fun l => l.head?) h1
            simp only [List.head?_cons, List.head?_drop] at this
            rw [List.getD, this]; rfl
          rw [e]
          simpa [lbl] using hb
    · rw [skp_out s a hl]; exact ⟨rfl, fun h => by omega⟩
/-- A place that is no blank. -/
def Clean (s : ByteArray) (a : Nat) : Prop := a < s.size → blank (bt s (a : Int)) = false ∧ bt s (a : Int) ≠ 59
theorem clean_skp (s : ByteArray) (a : Nat) : Clean s (skp s a) := fun h => by
  obtain ⟨_, g⟩ := toks_skp s _ a (Nat.le_refl _)
  exact ⟨(g h).2.2, (g h).2.1⟩
theorem toks_at_let {s : ByteArray} {a : Nat} (h : a < s.size) (hc : Clean s a) (hl : letC (bt s (a : Int)) = true) : toks s a = (s.extract a (letE s a)).data.toList :: toks s (letE s a) := by
  obtain ⟨c, h1, h2⟩ := bt_drop0 s a h
  obtain ⟨g1, g2⟩ := hc h
  have k1 := let_take s _ a (Nat.le_refl _)
  have k2 := let_drop s _ a (Nat.le_refl _)
  rw [ext_list, k1]
  unfold toks
  rw [k2, h1, tok_cons]
  rw [h2] at g1 g2 hl
  have e1 : lle c = true := hl
  rw [if_neg (by rw [show lbl c = blank (c.toNat : Int) from rfl, g1]; decide), if_neg (by omega), if_pos e1, List.takeWhile_cons, if_pos e1, List.dropWhile_cons, if_pos e1]
theorem toks_at {s : ByteArray} {a : Nat} (h : a < s.size) (hc : Clean s a) (hl : letC (bt s (a : Int)) = false) : ∃ c : UInt8, bt s (a : Int) = (c.toNat : Int) ∧ toks s a = [c] :: toks s (a + 1) := by
  obtain ⟨c, h1, h2⟩ := bt_drop0 s a h
  obtain ⟨g1, g2⟩ := hc h
  refine ⟨c, h2, ?_⟩
  unfold toks
  rw [h1, tok_cons]
  rw [h2] at g1 g2 hl
  rw [if_neg (by rw [show lbl c = blank (c.toNat : Int) from rfl, g1]; decide), if_neg (by omega), if_neg (by rw [show lle c = letC (c.toNat : Int) from rfl, hl]; decide)]
/-! ### Data out of parts -/
theorem Nds.dat_snoc : ∀ (l : Nds) (x : Nd), (l.snoc x).dat = Dats.snoc l.dat x.dat
  | .nil, x => rfl
  | .cons d ds, x => by simp only [Nds.snoc, Nds.dat, Dats.snoc, Nds.dat_snoc ds x]
abbrev Tok := List UInt8
def hd0 : Tok → Int
  | [] => 0
  | c :: _ => (c.toNat : Int)
def mkB (t : Tok) : ByteArray := ⟨t.toArray⟩
def prL (f : List Tok → Option (Dat × List Tok)) : Nat → List Tok → Dats → Option (Dats × List Tok)
  | 0, _, _ => none
  | _ + 1, [], _ => none
  | k + 1, t :: r, l => if hd0 t = 41 then some (l, r) else match f (t :: r) with
    | some (d, r') => prL f k r' (Dats.snoc l d)
    | none => none
/-- A datum that may be so deep. -/
def prD : Nat → List Tok → Option (Dat × List Tok)
  | 0, _ => none
  | _ + 1, [] => none
  | n + 1, t :: r => if letC (hd0 t) = true then (if (numV (mkB t)).2 = true then some (.mk 1 (numV (mkB t)).1 ⟨#[]⟩ .nil, r) else if symOk (mkB t) = true then some (.mk 2 0 (mkB t) .nil, r) else none)
    else if hd0 t = 39 then (if n = 0 then none else match prD n r with
      | some (d, r') => some (.mk 3 0 ⟨#[]⟩ (.cons (.mk 2 0 wQuote .nil) (.cons d .nil)), r')
      | none => none)
    else if hd0 t = 40 then (match prL (prD n) (r.length + 1) r .nil with
      | some (l, r') => some (.mk 3 0 ⟨#[]⟩ l, r')
      | none => none)
    else none
def Eats (f : List Tok → Option (Dat × List Tok)) : Prop := ∀ ts d r, f ts = some (d, r) → r.length < ts.length
theorem prL_eats {f : List Tok → Option (Dat × List Tok)} (hf : Eats f) : ∀ k ts l l' r, prL f k ts l = some (l', r) → r.length < ts.length
  | 0, ts, l, l', r, h => by cases h
  | k + 1, [], l, l', r, h => by cases h
  | k + 1, t :: q, l, l', r, h => by
    rw [prL] at h
    split at h
    · cases h; simp
    · split at h
      · rename_i d r' hd
        have h1 := hf _ _ _ hd
        have h2 := prL_eats hf k r' _ l' r h
        omega
      · cases h
theorem prD_eats : ∀ n, Eats (prD n)
  | 0, ts, d, r, h => by cases h
  | n + 1, [], d, r, h => by cases h
  | n + 1, t :: q, d, r, h => by
    rw [prD] at h
    split at h
    · split at h
      · cases h; simp
      · split at h
        · cases h; simp
        · cases h
    · split at h
      · split at h
        · cases h
        · split at h
          · rename_i x r' hx
            have := prD_eats n _ _ _ hx
            cases h
            simp only [List.length_cons]; omega
          · cases h
      · split at h
        · split at h
          · rename_i x r' hx
            have := prL_eats (prD_eats n) _ _ _ _ _ hx
            cases h
            simp only [List.length_cons]; omega
          · cases h
        · cases h
theorem mkB_list (s : ByteArray) : mkB s.data.toList = s := by
  unfold mkB
  cases s with
  | mk d => simp
theorem prL_rd {s : ByteArray} {n : Nat} (ih : ∀ a, a ≤ s.size → Clean s a → prD n (toks s a) = if (rdD s n a).2.e = 0 then some ((rdD s n a).1.dat, toks s (rdD s n a).2.a) else none) :
    ∀ k k' x l, x ≤ s.size → Clean s x → s.size + 1 - x ≤ k → (toks s x).length + 1 ≤ k' →
      prL (prD n) k' (toks s x) l.dat = if (rdL (rdD s n) s k ⟨x, 0, 0⟩ l).2.e = 0 then some ((rdL (rdD s n) s k ⟨x, 0, 0⟩ l).1.dat, toks s ((rdL (rdD s n) s k ⟨x, 0, 0⟩ l).2.a + 1)) else none := by
  intro k
  induction k with
  | zero => intro k' x l hx hc hk _; omega
  | succ k ihk =>
    intro k' x l hx hc hk hk'
    obtain ⟨k', rfl⟩ : ∃ j, k' = j + 1 := ⟨k' - 1, by omega⟩
    have hsx := rdD_steps s n x hx
    have hix := ih x hx hc
    rw [rdL]
    rcases Nat.lt_or_ge x s.size with hlt | hge
    · by_cases h41 : bt s (x : Int) = 41
      · have hg : goes s ⟨x, 0, 0⟩ = false := by
          show ((0 : Int) == 0 && !(decide (x < s.size) && bt s (x : Int) == 41)) = false
          rw [decide_eq_true hlt, h41]; rfl
        rw [hg, if_neg (show ¬ false = true by decide)]
        simp only [if_true]
        obtain ⟨c, h1, h2⟩ := toks_at hlt hc (by rw [h41]; decide)
        rw [h2, prL, if_pos (by show (c.toNat : Int) = 41; rw [← h1]; exact h41)]
      · have hg : goes s ⟨x, 0, 0⟩ = true := by
          show ((0 : Int) == 0 && !(decide (x < s.size) && bt s (x : Int) == 41)) = true
          rw [decide_eq_true hlt, beq_eq_false_iff_ne.2 h41]; rfl
        rw [if_pos hg]
        obtain ⟨t, r, ht, hh⟩ : ∃ t r, toks s x = t :: r ∧ hd0 t = bt s (x : Int) := by
          cases hl : letC (bt s (x : Int)) with
          | true =>
            refine ⟨_, _, toks_at_let hlt hc hl, ?_⟩
            have hgt := letE_gt hlt hl
            rw [ext_list]
            obtain ⟨c, h1, h2⟩ := bt_drop0 s x hlt
            rw [h1, show letE s x - x = (letE s x - x - 1) + 1 by omega, List.take_succ_cons, h2]; rfl
          | false =>
            obtain ⟨c, h1, h2⟩ := toks_at hlt hc hl
            exact ⟨_, _, h2, h1.symm⟩
        rw [ht, prL, if_neg (by rw [hh]; exact h41), ← ht, hix]
        by_cases he : (rdD s n x).2.e = 0
        · rw [if_pos he] at hix ⊢
          have h3 := hsx.2 he
          have h4 := (hsx.1.ok he)
          have h5 := toks_skp s _ (rdD s n x).2.a (Nat.le_refl _)
          have h6 := prD_eats n _ _ _ hix
          have h7 := skp_ge s (rdD s n x).2.a
          have h8 := skp_le s (rdD s n x).2.a h4.1
          simp only []
          rw [he, h4.2, ← Nds.dat_snoc, ← h5.1]
          exact ihk k' _ (l.snoc (rdD s n x).1) h8 (clean_skp s _) (by omega) (by rw [h5.1]; omega)
        · rw [if_neg he]
          have : goes s ⟨skp s (rdD s n x).2.a, (rdD s n x).2.e, (rdD s n x).2.b⟩ = false := goes_err he
          rw [rdL_stop this, if_neg he]
    · have hg : goes s ⟨x, 0, 0⟩ = true := by
        show ((0 : Int) == 0 && !(decide (x < s.size) && bt s (x : Int) == 41)) = true
        rw [decide_eq_false (by omega)]; rfl
      rw [if_pos hg, toks_out s x hge]
      have hz : rdD s n x = (.zero, ⟨x, 4, s.size⟩) := by rw [rdD_eq, if_pos hge]
      rw [hz]
      have : goes s ⟨skp s x, 4, s.size⟩ = false := goes_err n4
      rw [rdL_stop this]
      rfl
/-- Data out of parts are what the reader gives. -/
theorem prD_rd (s : ByteArray) : ∀ n a, a ≤ s.size → Clean s a → prD n (toks s a) = if (rdD s n a).2.e = 0 then some ((rdD s n a).1.dat, toks s (rdD s n a).2.a) else none := by
  intro n
  induction n with
  | zero =>
    intro a ha hc
    rw [prD, rdD_eq]
    split
    · exact (if_neg n4).symm
    · split
      · exact (if_neg n4).symm
      · exact (if_neg n3).symm
  | succ n ih =>
    intro a ha hc
    have eq := rdD_eq s (n + 1) a
    rcases Nat.lt_or_ge a s.size with hlt | hge
    · rw [if_neg (by omega)] at eq
      cases hl : letC (bt s (a : Int)) with
      | true =>
        have ht := toks_at_let hlt hc hl
        have hgt := letE_gt hlt hl
        have hh : hd0 (s.extract a (letE s a)).data.toList = bt s (a : Int) := by
          rw [ext_list]
          obtain ⟨c, h1, h2⟩ := bt_drop0 s a hlt
          rw [h1, show letE s a - a = (letE s a - a - 1) + 1 by omega, List.take_succ_cons, h2]; rfl
        rw [hl, if_neg (by simp)] at eq
        simp only [] at eq
        have h39 : ¬ bt s (a : Int) = 39 := fun h => by rw [h] at hl; exact absurd hl (by decide)
        rw [if_neg (fun g => h39 g.1), if_pos trivial] at eq
        rw [eq, ht, prD, hh, if_pos hl, mkB_list]
        unfold atomR
        split
        · rfl
        · split
          · rfl
          · rfl
      | false =>
        obtain ⟨c, h1, ht⟩ := toks_at hlt hc hl
        have hh : hd0 [c] = bt s (a : Int) := h1.symm
        rw [ht, prD, hh, if_neg (by rw [hl]; decide)]
        have h5 := toks_skp s _ (a + 1) (Nat.le_refl _)
        have h8 := skp_le s (a + 1) (by omega)
        rw [hl] at eq
        by_cases h39 : bt s (a : Int) = 39
        · rw [if_neg (fun g => g.2.1 h39)] at eq
          simp only [] at eq
          rw [if_pos h39]
          by_cases hn : n = 0
          · rw [if_pos ⟨h39, hn⟩] at eq
            rw [if_pos hn, eq]; rfl
          · rw [if_neg (fun g => hn g.2), if_neg (by decide), if_pos h39] at eq
            rw [if_neg hn, eq, ← h5.1, ih _ h8 (clean_skp s _)]
            by_cases he : (rdD s n (skp s (a + 1))).2.e = 0
            · rw [if_pos he, if_pos he]; rfl
            · rw [if_neg he, if_neg he]
        · rw [if_neg h39]
          by_cases h40 : bt s (a : Int) = 40
          · rw [if_neg (fun g => g.1 h40)] at eq
            simp only [] at eq
            rw [if_neg (fun g => h39 g.1), if_neg (by decide), if_neg h39] at eq
            rw [if_pos h40, eq, ← h5.1]
            have key := prL_rd ih (s.size + 1) ((toks s (skp s (a + 1))).length + 1) (skp s (a + 1)) .nil h8 (clean_skp s _) (by omega) (Nat.le_refl _)
            rw [show (Nds.nil).dat = Dats.nil from rfl] at key
            rw [key]
            by_cases he : (rdL (rdD s n) s (s.size + 1) ⟨skp s (a + 1), 0, 0⟩ .nil).2.e = 0
            · rw [if_pos he, if_pos he]; rfl
            · rw [if_neg he, if_neg he]
          · rw [if_pos ⟨h40, h39, rfl⟩] at eq
            rw [if_neg h40, eq]
            exact (if_neg n4).symm
    · rw [if_pos hge] at eq
      rw [toks_out s a hge, prD, eq]; exact (if_neg n4).symm
end Seat
end Go.Proofs.YtenpjkcclmmlhaaDoor
