/- Texts of this session, packed: Bytes. -/
import Derived.Test.YteimebpgmfhgjaaDoorPd3
namespace Go.Proofs.YteimebpgmfhgjaaDoor
open Go.AS
set_option linter.unusedVariables false
set_option linter.unusedSimpArgs false
set_option maxRecDepth 100000
namespace Seat
theorem slIndexByte_ok (s : ByteArray) (c : Int) : Pure G0 80 [.str s, .int .u8 c] (fun r => r = .int .i64 (Lib.indexByte s.data.toList c.toNat.toUInt8)) := by
  refine Fn.enterN Tryd.func80 Tryd.ntmps80 rfl (Nat.le_of_ble_eq_true rfl) fun C fr fp hnt hp hfr hfp => ?_
  refine Q.runSeq S0 50 8 hnt [0, 1] (z := ⟨[(0, .str s), (1, .int .u8 c)], ⟨[], []⟩⟩) (o := []) (by kernel_rfl) (fun p h => by cases h) ?_
  refine Q.seq fun K hK => ?_
  (with_reducible refine Q.region (l := ?_) ?_ ?_); rotate_left; focus (simp only [strip, SO.of, List.toList_toArray, List.getElem?_cons_zero, List.getElem?_cons_succ, Option.bind_some]; rfl)
  refine SRun.step _ (by simp only [push_cast, hnt, Nat.reduceEqDiff, reduceIte, Nat.reduceAdd, Nat.reduceSub, Nat.reduceMul, Nat.reduceLeDiff, Nat.reduceLT, Nat.reduceBEq, Nat.reduceBNe, decide_true, decide_false, Nat.le_refl, Bool.not_true, Bool.not_false, Bool.false_eq_true, reduceCtorEq, Bool.true_and, Bool.and_true, ge_iff_le, Nat.lt_irrefl, Nat.zero_le]; rfl) ?_
  refine SRun.step _ (by simp only [push_cast, hnt, Nat.reduceEqDiff, reduceIte, Nat.reduceAdd, Nat.reduceSub, Nat.reduceMul, Nat.reduceLeDiff, Nat.reduceLT, Nat.reduceBEq, Nat.reduceBNe, decide_true, decide_false, Nat.le_refl, Bool.not_true, Bool.not_false, Bool.false_eq_true, reduceCtorEq, Bool.true_and, Bool.and_true, ge_iff_le, Nat.lt_irrefl, Nat.zero_le]; rfl) ?_
  refine SRun.cons (SOneG.one fun o h1 h2 => SOpG.extern (f := 86) (args := [.str s, .int .u8 c]) (r := .int .i64 (Lib.indexByte s.data.toList c.toNat.toUInt8)) h2 rfl Tryd.func86 (by kernel_rfl) (by kernel_rfl) (by kernel_rfl) (e := Extern.BytealgIndexByte.indexByte) (by kernel_rfl) (fun E w vs hv => ?_) (by rw [h1, hnt]; rfl) ?_)
  · obtain ⟨v, us, rfl, h3, hus⟩ := hv.cons_inv
    obtain ⟨u, us', rfl, hu, hus'⟩ := hus.cons_inv
    obtain rfl := hus'.nil_inv
    obtain rfl := h3.str_inv
    obtain rfl := hu.int_inv
    exact ⟨_, Lib.run_indexByteString s c w, .imm (.int _ _)⟩
  · rw [h1]
    refine SRun.step _ (by simp only [push_cast, hnt, Nat.reduceEqDiff, reduceIte, Nat.reduceAdd, Nat.reduceSub, Nat.reduceMul, Nat.reduceLeDiff, Nat.reduceLT, Nat.reduceBEq, Nat.reduceBNe, decide_true, decide_false, Nat.le_refl, Bool.not_true, Bool.not_false, Bool.false_eq_true, reduceCtorEq, Bool.true_and, Bool.and_true, ge_iff_le, Nat.lt_irrefl, Nat.zero_le]; rfl) ?_
    refine Q.nil (hK _ (Q.ret (hfr _ [4] (FinR.pure (r := .int .i64 (Lib.indexByte s.data.toList c.toNat.toUInt8)) (by kernel_rfl) rfl rfl))))
def byteS (f : Nat) (args : List PV) : Option (PV × Ob) := match f, args with
  | 80, [.str s, .int .u8 c] => some (.int .i64 (Lib.indexByte s.data.toList c.toNat.toUInt8), [])
  | _, _ => none
theorem byteS_ok (f : Nat) (args : List PV) (r : PV) (o : Ob) (h : byteS f args = some (r, o)) (ho : ∀ p ∈ o, p.1 = p.2) (_ : pureL args = true) : Pure G0 f args (fun x => x = r) := by
  unfold byteS at h
  split at h
  · cases h; exact slIndexByte_ok _ _
  · cases h
noncomputable def SB : Cfg G0 := { F := F, hF := hF, S := byteS, hS := byteS_ok }
def digC (c : Int) : Bool := decide (48 ≤ c ∧ c ≤ 57)
def letC (c : Int) : Bool := decide (97 ≤ c ∧ c ≤ 122) || digC c || [43, 45, 42, 47, 60, 61, 62, 63, 33, 95, 46].contains c
def isB (x : Option (PV × Ob)) (b : Bool) : Bool := match x with
  | some (.bool v, o) => v == b && o.all fun p => p.1 == p.2
  | _ => false
theorem isB_of {x : Option (PV × Ob)} {b : Bool} (h : isB x b = true) : ∃ o, x = some (.bool b, o) ∧ okO o := by
  unfold isB at h
  split at h
  · rename_i v o
    simp only [Bool.and_eq_true, beq_iff_eq] at h
    exact ⟨o, by rw [h.1], fun p hp => by simpa using List.all_eq_true.1 h.2 p hp⟩
  · cases h
theorem byteLaw {f : Nat} {p : Int → Bool} (h : ((List.range 256).all fun c => isB (call SB 200 f [.int .u8 (Int.ofNat c)]) (p (Int.ofNat c))) = true) (c : Int) (hc : 0 ≤ c ∧ c < 256) : Pure G0 f [.int .u8 c] (fun r => r = .bool (p c)) := by
  obtain ⟨n, rfl⟩ := Int.eq_ofNat_of_zero_le hc.1
  obtain ⟨o, h1, h2⟩ := isB_of (List.all_eq_true.1 h n (List.mem_range.2 (by omega)))
  exact Pure.runO (S := SB) 200 h1 h2
theorem isDigit_ok (c : Int) (hc : 0 ≤ c ∧ c < 256) : Pure G0 71 [.int .u8 c] (fun r => r = .bool (digC c)) := byteLaw (by kernel_rfl) c hc
theorem isAtom_ok (c : Int) (hc : 0 ≤ c ∧ c < 256) : Pure G0 72 [.int .u8 c] (fun r => r = .bool (letC c)) := byteLaw (by kernel_rfl) c hc
theorem digit_ok (c : Int) (hc : 0 ≤ c ∧ c < 256) : Pure G0 69 [.int .u8 c] (fun r => r = .bool (digC c)) := byteLaw (by kernel_rfl) c hc
theorem letter_ok (c : Int) (hc : 0 ≤ c ∧ c < 256) : Pure G0 70 [.int .u8 c] (fun r => r = .bool (letC c)) := byteLaw (by kernel_rfl) c hc
end Seat
end Go.Proofs.YteimebpgmfhgjaaDoor
