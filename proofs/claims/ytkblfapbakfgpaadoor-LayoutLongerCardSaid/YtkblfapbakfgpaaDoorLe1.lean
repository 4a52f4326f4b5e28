/- Texts of this session, packed: Lay12, Lay13, Lay14, Lay15, Long1, Long2, Long3. -/
import Derived.Test.YtkblfapbakfgpaaDoorLa6
/- Layout: the lines of a layout (no program in sight). -/
namespace Go.Proofs.YtkblfapbakfgpaaDoor
open Go.AS Go.RowKit
set_option linter.unusedVariables false
set_option linter.unusedSimpArgs false
set_option maxRecDepth 100000
namespace Seat
/-- The lines, the last one first. -/
def lS : Snk (List (List UInt8)) := ⟨fun t L => match L with
  | [] => [t]
  | l :: r => (l ++ t) :: r, fun n L => List.replicate n 32 :: L, fun _ => true⟩
def joinR : List (List UInt8) → List UInt8
  | [] => []
  | [l] => l
  | l :: l2 :: r => joinR (l2 :: r) ++ 10 :: l
def maxL : List (List UInt8) → Nat
  | [] => 0
  | l :: r => max l.length (maxL r)
theorem joinR_text (l t : List UInt8) : ∀ r, joinR ((l ++ t) :: r) = joinR (l :: r) ++ t
  | [] => rfl
  | l2 :: r => by simp [joinR]
theorem joinR_line (l : List UInt8) : ∀ L, L ≠ [] → joinR (l :: L) = joinR L ++ 10 :: l
  | [], h => absurd rfl h
  | l2 :: r, _ => rfl
theorem sim_lr : Sim lS rS (fun L y => L ≠ [] ∧ y = joinR L) :=
  ⟨fun t L y ⟨h1, h2⟩ => by
    cases L with
    | nil => exact absurd rfl h1
    | cons l r => exact ⟨by simp [lS], by subst h2; exact (joinR_text l t r).symm⟩, fun n L y ⟨h1, h2⟩ => ⟨by simp [lS], by subst h2; exact (joinR_line _ L h1).symm⟩, fun L y h _ => by simp [lS] at h, fun y => rfl⟩
theorem sim_lm : Sim lS mS (fun L x => L ≠ [] ∧ x = (L.length, (L.headD []).length, maxL L)) :=
  ⟨fun t L x ⟨h1, h2⟩ => by
    cases L with
    | nil => exact absurd rfl h1
    | cons l r =>
      refine ⟨by simp [lS], ?_⟩
      subst h2
      simp only [lS, mS, List.headD_cons, List.length_append, List.length_cons, maxL, Prod.mk.injEq, true_and]
      omega, fun n L x ⟨h1, h2⟩ => by
    refine ⟨by simp [lS], ?_⟩
    subst h2
    simp only [lS, mS, List.headD_cons, List.length_cons, List.length_replicate, maxL, Prod.mk.injEq, true_and]
    omega, fun L y h _ => by simp [lS] at h, fun y => rfl⟩
/-- The lines of a layout. -/
def linL (w : Nat) (d : Dat) : List (List UInt8) := layG lS w d 0 0 [[]]
theorem linL_text (w : Nat) (d : Dat) : linL w d ≠ [] ∧ layT w d 0 0 = joinR (linL w d) := (sim sim_lr w).1 d 0 0 [[]] [] ⟨by simp, rfl⟩
theorem linL_met (w : Nat) (d : Dat) : layG mS w d 0 0 (1, 0, 0) = ((linL w d).length, ((linL w d).headD []).length, maxL (linL w d)) := ((sim sim_lm w).1 d 0 0 [[]] (1, 0, 0) ⟨by simp, rfl⟩).2
/-- No line's end within. -/
def no10 (l : List UInt8) : Prop := ∀ x ∈ l, x ≠ 10
theorem no10_app {a b : List UInt8} (ha : no10 a) (hb : no10 b) : no10 (a ++ b) := fun x hx => (List.mem_append.1 hx).elim (ha x) (hb x)
theorem no10_cons {a : UInt8} {b : List UInt8} (ha : a ≠ 10) (hb : no10 b) : no10 (a :: b) := fun x hx => (List.mem_cons.1 hx).elim (fun h => h ▸ ha) (hb x)
theorem no10_nil : no10 [] := fun x hx => by cases hx
theorem no10_rep (n : Nat) : no10 (List.replicate n 32) := fun x hx => by rw [(List.mem_replicate.1 hx).2]; decide
theorem dig_ne (u : Nat) : no10 (Go.Lib.decDigits u) := by
  intro x hx
  rw [Go.Lib.decDigits_eq] at hx
  obtain ⟨t, _, rfl⟩ := List.mem_map.1 hx
  unfold Go.Lib.dg
  intro h
  have := congrArg UInt8.toNat h
  simp only [UInt8.toNat_ofNat'] at this
  have h2 : (10 : UInt8).toNat = 10 := rfl
  rw [h2] at this
  omega
theorem itoa_no10 (n : Int) : no10 (Go.Lib.itoa n) := by
  rw [Go.Lib.itoa]
  split
  · exact no10_cons (by decide) (dig_ne _)
  · exact dig_ne _
theorem sym_no10 {s : ByteArray} (h : symOk s = true) : no10 s.data.toList := by
  intro x hx
  obtain ⟨i, hi, rfl⟩ := List.getElem_of_mem hx
  have h2 : (List.range s.size).all (fun i => letC (bt s i)) = true := by
    simp only [symOk, Bool.and_eq_true] at h
    exact h.2
  have hi' : i < s.size := by simpa using hi
  have h3 := List.all_eq_true.1 h2 i (List.mem_range.2 hi')
  have hb : bt s (i : Int) = ((s.data.toList[i]'hi).toNat : Int) := by
    unfold bt
    rw [dif_pos (by simpa using hi')]
    rfl
  rw [hb] at h3
  intro h10
  rw [h10] at h3
  revert h3
  decide
mutual
theorem text_no10 : ∀ d : Dat, formedD d = true → no10 (textD d)
  | .mk k n s ks, h => by
    rw [textD]
    split
    · exact itoa_no10 n
    · split
      · rename_i h1 h2
        subst h2
        simp only [formedD] at h
        have hs : symOk s = true := by
          have h' : (n = 0 ∧ symOk s = true) ∧ ks.len = 0 := by simpa using h
          exact h'.1.2
        exact sym_no10 hs
      · have hk : formedL ks = true := by
          simp only [formedD, Bool.or_eq_true, Bool.and_eq_true, decide_eq_true_eq] at h
          rcases h with (h | h) | h
          · omega
          · omega
          · exact h.2
        exact no10_cons (by decide) (no10_app (text_no10L ks true hk) (no10_cons (by decide) no10_nil))
theorem text_no10L : ∀ (ks : Dats) (f : Bool), formedL ks = true → no10 (textL f ks)
  | .nil, f, _ => by simp only [textL]; exact no10_nil
  | .cons d ds, f, h => by
    simp only [formedL, Bool.and_eq_true] at h
    simp only [textL]
    refine no10_app ?_ (no10_app (text_no10 d h.1) (text_no10L ds false h.2))
    cases f
    · exact no10_cons (by decide) no10_nil
    · exact no10_nil
end
/-- A property that texts without line's ends and new lines keep. -/
theorem lay_inv {σ : Type} {S : Snk σ} {I : σ → Prop} (ht : ∀ t x, no10 t → I x → I (S.text t x)) (hl : ∀ n x, I x → I (S.line n x)) (w : Nat) : ∀ N : Nat, (∀ (d : Dat), d.size < N → formedD d = true → ∀ (c r : Nat) (x : σ), I x → I (layG S w d c r x)) ∧ (∀ (ks : Dats), ks.size < N → formedL ks = true → ∀ (f : Bool) (c r : Nat) (l : Bool) (x : σ), I x → I (layGL S w ks f c r l x)) := by
  intro N
  induction N with
  | zero => exact ⟨fun d h => by omega, fun d h => by omega⟩
  | succ N ih =>
    refine ⟨fun d hd hf c r x hI => ?_, fun ks hk hf f c r l x hI => ?_⟩
    · obtain ⟨k, n, s, ks⟩ := d
      rw [layG]
      split
      · split
        · exact ht _ _ (text_no10 _ hf) hI
        · rename_i hc
          have hk : formedL ks = true := by
            simp only [formedD, Bool.or_eq_true, Bool.and_eq_true, decide_eq_true_eq] at hf
            rcases hf with (h | h) | h
            · exact absurd (.inl h.2) hc
            · exact absurd (.inl h.2) hc
            · exact h.2
          exact ht _ _ (no10_cons (by decide) no10_nil) (ih.2 ks (by simp only [Dat.size] at hd; omega) hk _ _ _ _ _ (ht _ _ (no10_cons (by decide) no10_nil) hI))
      · exact hI
    · cases ks with
      | nil => exact hI
      | cons d ds =>
        simp only [formedL, Bool.and_eq_true] at hf
        rw [layGL]
        refine ih.2 ds (by simp only [Dats.size] at hk; omega) hf.2 _ _ _ _ _ (ih.1 d (by simp only [Dats.size] at hk; omega) hf.1 _ _ _ ?_)
        split
        · exact hI
        · exact hl _ _ hI
theorem linL_no10 (w : Nat) (d : Dat) (hf : formedD d = true) : ∀ l ∈ linL w d, no10 l :=
  (lay_inv (S := lS) (I := fun L => ∀ l ∈ L, no10 l) (fun t L ht hI => by
    cases L with
    | nil =>
      intro l hl
      simp only [lS, List.mem_singleton] at hl
      subst hl; exact ht
    | cons a r =>
      intro l hl
      simp only [lS, List.mem_cons] at hl
      rcases hl with rfl | hl
      · exact no10_app (hI a (by simp)) ht
      · exact hI l (by simp [hl])) (fun n L hI l hl => by
    simp only [lS, List.mem_cons] at hl
    rcases hl with rfl | hl
    · exact no10_rep n
    · exact hI l hl) w (d.size + 1)).1 d (by omega) hf 0 0 [[]] (by intro l hl; simp only [List.mem_singleton] at hl; subst hl; exact no10_nil)
end Seat
end Go.Proofs.YtkblfapbakfgpaaDoor
/- Layout: the document's Lines and Wide. -/
namespace Go.Proofs.YtkblfapbakfgpaaDoor
open Go.AS Go.RowKit
set_option linter.unusedVariables false
set_option linter.unusedSimpArgs false
set_option maxRecDepth 100000
set_option maxHeartbeats 4000000
namespace Seat
def sR (rc : List PV) (m : Nat) : Row := ⟨rc, m, 9, 1⟩
noncomputable def SLn (l : List (Nat × List (Nat × Bool))) : Cfg G0 := { F := F, hF := hF, S := fun _ _ => none, hS := (fun _ _ _ _ h => by cases h), orc := orcM l }
/-- Where the line begins that byte i is in; the lines that end before it. -/
def frm (s : ByteArray) : Nat → Nat
  | 0 => 0
  | i + 1 => if bt s (i : Int) = 10 then i + 1 else frm s i
def rowL (s : ByteArray) : Nat → List PV
  | 0 => []
  | i + 1 => if bt s (i : Int) = 10 then rowL s i ++ [.str (s.extract (frm s i) i)] else rowL s i
theorem frm_le (s : ByteArray) : ∀ i, frm s i ≤ i
  | 0 => Nat.le_refl _
  | i + 1 => by rw [frm]; have := frm_le s i; split <;> omega
theorem rowL_le (s : ByteArray) : ∀ i, (rowL s i).length ≤ i
  | 0 => Nat.le_refl _
  | i + 1 => by rw [rowL]; have := rowL_le s i; split <;> simp <;> omega
def lnV (rc : List PV) : PV := if rc.length = 0 then .nil else .own 0 rc.length
def lnR (rc : List PV) : List (Option Row) := if rc.length = 0 then [] else [some (sR rc rc.length)]
theorem reflines_ok (s : ByteArray) (hs : s.size ≤ 1099511627776) (h0 : 0 < (rowL s s.size).length) : Fresh G0 27 [.str s] (sR (rowL s s.size) (rowL s s.size).length) := by
  refine Fn.enterF Tryd.func27 Tryd.ntmps27 rfl (Nat.le_of_ble_eq_true rfl) fun C fr hnt hfr => ?_
  refine Q.runSeq (SLn []) 100 26 hnt [0] (z := { t := [(0, PV.str s)], h := { bx := [], rw := [] } }) (o := []) (by kernel_rfl) (by ((repeat' (first | exact okO_nil | refine okN ?_ ?_)); all_goals first | assumption | rfl | exact same_of rfl | exact sameS_self _ | (simp only [decide_eq_true_eq, decide_eq_false_iff_not, Nat.ble_eq, Nat.beq_eq, beq_eq_false_iff_ne, beq_iff_eq, ne_eq] <;> omega))) ?_
  refine Q.runSeq (SLn []) 100 26 hnt [0, 3] (z := { t := [(0, PV.str s), (3, PV.nil)], h := { bx := [], rw := [] } }) (o := []) (by kernel_rfl) (by ((repeat' (first | exact okO_nil | refine okN ?_ ?_)); all_goals first | assumption | rfl | exact same_of rfl | exact sameS_self _ | (simp only [decide_eq_true_eq, decide_eq_false_iff_not, Nat.ble_eq, Nat.beq_eq, beq_eq_false_iff_ne, beq_iff_eq, ne_eq] <;> omega))) ?_
  refine Q.runSeq (SLn []) 100 26 hnt [0, 3, 4] (z := { t := [(0, PV.str s), (3, PV.nil), (4, PV.int IntKind.i64 (0 : Int))], h := { bx := [], rw := [] } }) (o := []) (by kernel_rfl) (by ((repeat' (first | exact okO_nil | refine okN ?_ ?_)); all_goals first | assumption | rfl | exact same_of rfl | exact sameS_self _ | (simp only [decide_eq_true_eq, decide_eq_false_iff_not, Nat.ble_eq, Nat.beq_eq, beq_eq_false_iff_ne, beq_iff_eq, ne_eq] <;> omega))) ?_
  refine Q.seq fun K hK => ?_
  let T (i : Nat) : AS := ⟨[(0, .str s), (3, lnV (rowL s i)), (4, .int .i64 (frm s i)), (5, .int .i64 i)], ⟨[], lnR (rowL s i)⟩⟩
  refine Q.runSeq (SLn []) 100 26 hnt [0, 3, 4, 5] (z := T 0) (o := []) (by kernel_rfl) okO_nil ?_
  refine Q.block ?_
  refine Q.loopI (σ := { j : Nat // j ≤ s.size }) [0, 3, 4, 5] (fun j => T j.1) (fun j => s.size - j.1) ⟨0, Nat.zero_le _⟩ rfl fun ⟨i, hi⟩ => ?_
  show SWP G0 C _ _ ⟨[(0, .str s), (3, lnV (rowL s i)), (4, .int .i64 (frm s i)), (5, .int .i64 i)], ⟨[], lnR (rowL s i)⟩⟩
  have hfm := frm_le s i
  have hrl := rowL_le s i
  rcases Nat.lt_or_ge i s.size with hlt | hge
  · have d2 := lt_at hlt
    have d3 := in_at hlt
    have wi : IntKind.wrap IntKind.i64 (Int.ofNat (i + 1)) = ((i + 1 : Nat) : Int) := wrapC (i + 1) (by omega)
    have hR : rowL s (i + 1) = if bt s (i : Int) = 10 then rowL s i ++ [.str (s.extract (frm s i) i)] else rowL s i := rfl
    have hF : frm s (i + 1) = if bt s (i : Int) = 10 then i + 1 else frm s i := rfl
    obtain ⟨rc, hrc⟩ : ∃ x, x = rowL s i := ⟨_, rfl⟩
    obtain ⟨fm, hfe⟩ : ∃ x, x = frm s i := ⟨_, rfl⟩
    rw [← hrc] at hrl hR ⊢
    rw [← hfe] at hfm hF ⊢
    rw [← hfe] at hR
    by_cases hb : bt s (i : Int) = 10
    · have d4 : (bt s (i : Int) == (10 : Int)) = true := by rw [beq_iff_eq]; exact hb
      have d5 : decide (0 ≤ (↑fm : Int) ∧ (↑fm : Int) ≤ (↑i : Int) ∧ (↑i : Int) ≤ (↑(ByteArray.size s) : Int)) = true := by rw [decide_eq_true_eq]; omega
      rw [if_pos hb] at hR hF
      by_cases hz : rc.length = 0
      · rw [lnV, lnR, if_pos hz, if_pos hz]
        have hn : rc = [] := List.eq_nil_of_length_eq_zero hz
        refine SWP.runQ (SLn [(26, [(9, true), (14, true), (15, true), (20, true), (22, true)])]) 100 26 hnt [0, 3, 4, 5] (e := .normal) (z := { t := [(0, PV.str s), (3, PV.own 0 1), (4, PV.int IntKind.i64 (IntKind.wrap IntKind.i64 (Int.ofNat (i + 1)))), (5, PV.int IntKind.i64 (IntKind.wrap IntKind.i64 (Int.ofNat (i + 1))))], h := { bx := [], rw := [some { cs := [PV.str (ByteArray.extract s (Int.toNat (Int.ofNat fm)) (Int.toNat (Int.ofNat i)))], n := 1, ty := 9, sz := 1 }] } }) (o := [(decide ((↑i : Int) < (↑(ByteArray.size s) : Int)), true), (true, true), (decide (0 ≤ (↑i : Int) ∧ (↑i : Int) < (↑(ByteArray.size s) : Int)), true), (bt s (Int.ofNat i) == (10 : Int), true), (true, true), (decide (0 ≤ (↑fm : Int) ∧ (↑fm : Int) ≤ (↑i : Int) ∧ (↑i : Int) ≤ (↑(ByteArray.size s) : Int)), true), (true, true), (true, true), (true, true)]) (by kernel_rfl) (by ((repeat' (first | exact okO_nil | refine okN ?_ ?_)); all_goals first | assumption | rfl | exact same_of rfl | exact sameS_self _ | (simp only [decide_eq_true_eq, decide_eq_false_iff_not, Nat.ble_eq, Nat.beq_eq, beq_eq_false_iff_ne, beq_iff_eq, ne_eq] <;> omega))) (fun st hs => ⟨⟨i + 1, hlt⟩, Nat.sub_lt_sub_left hlt (Nat.lt_succ_self i), ?_⟩)
        rw [hs, wi]
        simp only [T, hR, hF, hn]
        rfl
      · obtain ⟨m, hm⟩ : ∃ m, m = rc.length := ⟨_, rfl⟩
        have hz' : ¬ (rc ++ [PV.str (s.extract fm i)]).length = 0 := by simp
        rw [lnV, lnR, if_neg hz, if_neg hz, ← hm]
        have d6 : Nat.ble ((m + 1) * 16) 140737488355328 = true := by rw [Nat.ble_eq]; omega
        have d7 : Nat.ble (m + 1) 9223372036854775807 = true := by rw [Nat.ble_eq]; omega
        refine SWP.runQ (SLn [(26, [(9, true), (14, true), (15, true), (20, true), (22, true)])]) 100 26 hnt [0, 3, 4, 5] (e := .normal) (z := { t := [(0, PV.str s), (3, PV.own 0 (m + 1)), (4, PV.int IntKind.i64 (IntKind.wrap IntKind.i64 (Int.ofNat (i + 1)))), (5, PV.int IntKind.i64 (IntKind.wrap IntKind.i64 (Int.ofNat (i + 1))))], h := { bx := [], rw := [some { cs := rc ++ [PV.str (ByteArray.extract s (Int.toNat (Int.ofNat fm)) (Int.toNat (Int.ofNat i)))], n := m + 1, ty := 9, sz := 1 }] } }) (o := [(decide ((↑i : Int) < (↑(ByteArray.size s) : Int)), true), (true, true), (decide (0 ≤ (↑i : Int) ∧ (↑i : Int) < (↑(ByteArray.size s) : Int)), true), (bt s (Int.ofNat i) == (10 : Int), true), (true, true), (decide (0 ≤ (↑fm : Int) ∧ (↑fm : Int) ≤ (↑i : Int) ∧ (↑i : Int) ≤ (↑(ByteArray.size s) : Int)), true), (true, true), (Nat.ble ((m + 1) * 16) 140737488355328, true), (Nat.ble (m + 1) 9223372036854775807, true)]) (by kernel_rfl) (by ((repeat' (first | exact okO_nil | refine okN ?_ ?_)); all_goals first | assumption | rfl | exact same_of rfl | exact sameS_self _ | (simp only [decide_eq_true_eq, decide_eq_false_iff_not, Nat.ble_eq, Nat.beq_eq, beq_eq_false_iff_ne, beq_iff_eq, ne_eq] <;> omega))) (fun st hs => ⟨⟨i + 1, hlt⟩, Nat.sub_lt_sub_left hlt (Nat.lt_succ_self i), ?_⟩)
        rw [hs, wi]
        simp only [T, hR, hF, lnV, lnR, if_neg hz', List.length_append, List.length_cons, List.length_nil, ← hm]
        rfl
    · have d4 : (bt s (i : Int) == (10 : Int)) = false := by rw [beq_eq_false_iff_ne]; exact hb
      rw [if_neg hb] at hR hF
      by_cases hz : rc.length = 0
      · refine SWP.norm [0, 3, 4, 5] ?_
        rw [lnV, lnR, if_pos hz, if_pos hz]
        refine SWP.runQ (SLn [(26, [(9, true), (14, true), (15, false)])]) 100 26 hnt [0, 3, 4, 5] (e := .normal) (z := { t := [(0, PV.str s), (3, PV.nil), (4, PV.int IntKind.i64 (Int.ofNat fm)), (5, PV.int IntKind.i64 (IntKind.wrap IntKind.i64 (Int.ofNat (i + 1))))], h := { bx := [], rw := [] } }) (o := [(decide ((↑i : Int) < (↑(ByteArray.size s) : Int)), true), (true, true), (decide (0 ≤ (↑i : Int) ∧ (↑i : Int) < (↑(ByteArray.size s) : Int)), true), (bt s (Int.ofNat i) == (10 : Int), false), (false, false)]) (by kernel_rfl) (by ((repeat' (first | exact okO_nil | refine okN ?_ ?_)); all_goals first | assumption | rfl | exact same_of rfl | exact sameS_self _ | (simp only [decide_eq_true_eq, decide_eq_false_iff_not, Nat.ble_eq, Nat.beq_eq, beq_eq_false_iff_ne, beq_iff_eq, ne_eq] <;> omega))) (fun st hs => ⟨⟨i + 1, hlt⟩, Nat.sub_lt_sub_left hlt (Nat.lt_succ_self i), ?_⟩)
        rw [hs, wi]
        simp only [T, hR, hF, lnV, lnR, if_pos hz]
        rfl
      · obtain ⟨m, hm⟩ : ∃ m, m = rc.length := ⟨_, rfl⟩
        rw [lnV, lnR, if_neg hz, if_neg hz, ← hm]
        refine SWP.runQ (SLn [(26, [(9, true), (14, true), (15, false)])]) 100 26 hnt [0, 3, 4, 5] (e := .normal) (z := { t := [(0, PV.str s), (3, PV.own 0 m), (4, PV.int IntKind.i64 (Int.ofNat fm)), (5, PV.int IntKind.i64 (IntKind.wrap IntKind.i64 (Int.ofNat (i + 1))))], h := { bx := [], rw := [some { cs := rc, n := m, ty := 9, sz := 1 }] } }) (o := [(decide ((↑i : Int) < (↑(ByteArray.size s) : Int)), true), (true, true), (decide (0 ≤ (↑i : Int) ∧ (↑i : Int) < (↑(ByteArray.size s) : Int)), true), (bt s (Int.ofNat i) == (10 : Int), false), (false, false)]) (by kernel_rfl) (by ((repeat' (first | exact okO_nil | refine okN ?_ ?_)); all_goals first | assumption | rfl | exact same_of rfl | exact sameS_self _ | (simp only [decide_eq_true_eq, decide_eq_false_iff_not, Nat.ble_eq, Nat.beq_eq, beq_eq_false_iff_ne, beq_iff_eq, ne_eq] <;> omega))) (fun st hs => ⟨⟨i + 1, hlt⟩, Nat.sub_lt_sub_left hlt (Nat.lt_succ_self i), ?_⟩)
        rw [hs, wi]
        have hz2 : ¬ m = 0 := by omega
        simp only [T, hR, hF, lnV, lnR, ← hm, if_neg hz2]
        rfl
  · obtain rfl : i = s.size := by omega
    have d2 := ge_at hge
    obtain ⟨rc, hrc⟩ : ∃ x, x = rowL s s.size := ⟨_, rfl⟩
    obtain ⟨fm, hfe⟩ : ∃ x, x = frm s s.size := ⟨_, rfl⟩
    rw [← hrc] at hrl h0 hfr ⊢
    rw [← hfe]
    have hz : ¬ rc.length = 0 := by omega
    obtain ⟨m, hm⟩ : ∃ m, m = rc.length := ⟨_, rfl⟩
    rw [lnV, lnR, if_neg hz, if_neg hz, ← hm]
    rw [← hm] at hfr
    refine SWP.runQ (SLn [(26, [(9, false)])]) 100 26 hnt [3] (e := .exit 0) (z := { t := [(3, PV.own 0 m)], h := { bx := [], rw := [some { cs := rc, n := m, ty := 9, sz := 1 }] } }) (o := [(decide ((s.size : Int) < (s.size : Int)), false), (false, false)]) (by kernel_rfl) (by ((repeat' (first | exact okO_nil | refine okN ?_ ?_)); all_goals first | assumption | rfl | exact same_of rfl | exact sameS_self _ | (simp only [decide_eq_true_eq, decide_eq_false_iff_not, Nat.ble_eq, Nat.beq_eq, beq_eq_false_iff_ne, beq_iff_eq, ne_eq] <;> omega))) (fun st hs => hK st (.norm [3] ?_))
    rw [hs]
    refine SWP.runQ (SLn []) 100 26 hnt [2] (e := .ret) (z := { t := [(2, PV.own 0 m)], h := { bx := [], rw := [some { cs := rc, n := m, ty := 9, sz := 1 }] } }) (o := []) (by kernel_rfl) (by ((repeat' (first | exact okO_nil | refine okN ?_ ?_)); all_goals first | assumption | rfl | exact same_of rfl | exact sameS_self _ | (simp only [decide_eq_true_eq, decide_eq_false_iff_not, Nat.ble_eq, Nat.beq_eq, beq_eq_false_iff_ne, beq_iff_eq, ne_eq] <;> omega))) (fun st hs => hfr st [2] ?_)
    rw [hs]
    exact ⟨0, rfl, rfl⟩
end Seat
end Go.Proofs.YtkblfapbakfgpaaDoor
/- Layout: the document's Wide. -/
namespace Go.Proofs.YtkblfapbakfgpaaDoor
open Go.AS Go.RowKit
set_option linter.unusedVariables false
set_option linter.unusedSimpArgs false
set_option maxRecDepth 100000
set_option maxHeartbeats 4000000
namespace Seat
def rlW (f : Nat) (args : List PV) : Option (Row × Ob) := match f, args with
  | 27, [.str s] => some (sR (rowL s s.size) (rowL s s.size).length, [(Nat.ble s.size 1099511627776, true), (Nat.ble 1 (rowL s s.size).length, true)])
  | _, _ => none
theorem rlW_ok (f : Nat) (args : List PV) (row : Row) (o : Ob) (h : rlW f args = some (row, o)) (ho : ∀ p ∈ o, p.1 = p.2) : Fresh G0 f args row := by
  unfold rlW at h
  split at h
  · rename_i s
    cases h
    have h1 := ho (Nat.ble s.size 1099511627776, true) (by simp)
    have h2 := ho (Nat.ble 1 (rowL s s.size).length, true) (by simp)
    simp only [Nat.ble_eq] at h1 h2
    exact reflines_ok s h1 h2
  · cases h
noncomputable def SLw (l : List (Nat × List (Nat × Bool))) (v : List (Nat × List (Nat × PV))) : Cfg G0 := { F := F, hF := hF, S := fun _ _ => none, hS := (fun _ _ _ _ h => by cases h), W := rlW, hW := rlW_ok, orc := orcM l, val := valM v }
noncomputable def SLw0 : Cfg G0 := SLw [] []
theorem SWP.frz0 {C : Ctx} {Q : AEx → AS → Prop} {st : AS} {c : Code} (rs : List Nat) (h : SWP G0 C c Q (frz rs st)) : SWP G0 C c Q st := fun E a w hr => by
  obtain ⟨E', r⟩ := hr.frz (rs := rs)
  exact h E' a w r
def szP : PV → Nat
  | .str t => t.size
  | _ => 0
def wdN (rc : List PV) : Nat → Nat
  | 0 => 0
  | i + 1 => max (wdN rc i) (szP ((rc.drop i).headD .junk))
theorem rowL_str (s : ByteArray) : ∀ i, ∀ x ∈ rowL s i, ∃ t, x = .str t
  | 0, x, h => by simp [rowL] at h
  | i + 1, x, h => by
    rw [rowL] at h
    split at h
    · rcases List.mem_append.1 h with h | h
      · exact rowL_str s i x h
      · exact ⟨_, List.mem_singleton.1 h⟩
    · exact rowL_str s i x h
theorem refwide_ok (s : ByteArray) (hs : s.size ≤ 1099511627776) (h0 : 0 < (rowL s s.size).length) : Pure G0 28 [.str s] (fun r => r = .int .i64 (wdN (rowL s s.size) (rowL s s.size).length : Nat)) := by
  refine Fn.enterB Tryd.func28 Tryd.ntmps28 rfl (Nat.le_of_ble_eq_true rfl) fun C fr fp hnt hnb hp hfr hfp => ?_
  refine Q.runSeq SLw0 100 22 hnt [0] (z := { t := [(0, PV.str s)], h := { bx := [], rw := [] } }) (o := []) (by kernel_rfl) (by ((repeat' (first | exact okO_nil | refine okN ?_ ?_)); all_goals first | assumption | rfl | exact same_of rfl | exact sameS_self _ | (simp only [decide_eq_true_eq, decide_eq_false_iff_not, Nat.ble_eq, Nat.beq_eq, beq_eq_false_iff_ne, beq_iff_eq, ne_eq] <;> omega))) ?_
  refine Q.runSeq SLw0 100 22 hnt [0, 3] (z := { t := [(0, PV.str s), (3, PV.int IntKind.i64 (0 : Int))], h := { bx := [], rw := [] } }) (o := []) (by kernel_rfl) (by ((repeat' (first | exact okO_nil | refine okN ?_ ?_)); all_goals first | assumption | rfl | exact same_of rfl | exact sameS_self _ | (simp only [decide_eq_true_eq, decide_eq_false_iff_not, Nat.ble_eq, Nat.beq_eq, beq_eq_false_iff_ne, beq_iff_eq, ne_eq] <;> omega))) ?_
  have b1 : Nat.ble s.size 1099511627776 = true := by rw [Nat.ble_eq]; exact hs
  have b2 : Nat.ble 1 (rowL s s.size).length = true := by rw [Nat.ble_eq]; exact h0
  have hst := rowL_str s s.size
  have hle := rowL_le s s.size
  refine Q.runSeq SLw0 100 22 hnt [3, 4] (z := ⟨[(3, .int .i64 0), (4, .own 0 (rowL s s.size).length)], ⟨[], [some (sR (rowL s s.size) (rowL s s.size).length)]⟩⟩) (o := [(true, true), (Nat.ble s.size 1099511627776, true), (Nat.ble 1 (rowL s s.size).length, true)]) (by kernel_rfl) (by ((repeat' (first | exact okO_nil | refine okN ?_ ?_)); all_goals first | assumption | rfl | exact same_of rfl | exact sameS_self _ | (simp only [decide_eq_true_eq, decide_eq_false_iff_not, Nat.ble_eq, Nat.beq_eq, beq_eq_false_iff_ne, beq_iff_eq, ne_eq] <;> omega))) ?_
  obtain ⟨rc, hrc⟩ : ∃ x, x = rowL s s.size := ⟨_, rfl⟩
  rw [← hrc] at h0 hst hle hfr ⊢
  refine SWP.frz0 [0] ?_
  show SWP G0 C _ _ ⟨[(3, .int .i64 0), (4, .slice rc.length rc)], ⟨[], [none]⟩⟩
  obtain ⟨m, hm⟩ : ∃ m, m = rc.length := ⟨_, rfl⟩
  rw [← hm] at hle hfr ⊢
  refine Q.seq fun K hK => ?_
  refine Q.runSeq SLw0 100 22 hnt [3, 4, 5] (z := { t := [(3, PV.int IntKind.i64 (0 : Int)), (4, PV.slice m rc), (5, PV.int IntKind.i64 (0 : Int))], h := { bx := [], rw := [none] } }) (o := []) (by kernel_rfl) (by ((repeat' (first | exact okO_nil | refine okN ?_ ?_)); all_goals first | assumption | rfl | exact same_of rfl | exact sameS_self _ | (simp only [decide_eq_true_eq, decide_eq_false_iff_not, Nat.ble_eq, Nat.beq_eq, beq_eq_false_iff_ne, beq_iff_eq, ne_eq] <;> omega))) ?_
  refine Q.block ?_
  refine Q.loopI (σ := { j : Nat // j ≤ m }) [3, 4, 5] (fun j => ⟨[(3, .int .i64 (wdN rc j.1 : Nat)), (4, .slice m rc), (5, .int .i64 j.1)], ⟨[], [none]⟩⟩) (fun j => m - j.1) ⟨0, Nat.zero_le _⟩ rfl fun ⟨i, hi⟩ => ?_
  show SWP G0 C _ _ ⟨[(3, .int .i64 (wdN rc i : Nat)), (4, .slice m rc), (5, .int .i64 i)], ⟨[], [none]⟩⟩
  have hW : wdN rc (i + 1) = max (wdN rc i) (szP ((rc.drop i).headD .junk)) := rfl
  obtain ⟨mo, hmo⟩ : ∃ x, x = wdN rc i := ⟨_, rfl⟩
  rcases Nat.lt_or_ge i m with hlt | hge
  · have d2 := lt_at hlt
    have d3 := in_at hlt
    have wi : IntKind.wrap IntKind.i64 (Int.ofNat (i + 1)) = ((i + 1 : Nat) : Int) := wrapC (i + 1) (by omega)
    have hil : i < rc.length := by omega
    obtain ⟨t, ht⟩ := hst (rc[i]) (List.getElem_mem hil)
    have hd : (rc.drop i).headD .junk = .str t := by rw [List.drop_eq_getElem_cons hil, ← ht]; rfl
    have d4 : decide (TD.size d9 ≤ List.length (List.drop (Int.toNat (↑i : Int) * TD.size d9) rc)) = true := by
      rw [decide_eq_true_eq, List.length_drop]
      show 1 ≤ rc.length - Int.toNat (i : Int) * 1
      rw [Int.toNat_natCast]; omega
    have d5 : same (List.headD (List.drop (Int.toNat (↑i : Int) * TD.size d9) rc) PV.junk) (PV.str t) = true := same_of (by
      rw [← hd]
      show List.headD (List.drop (Int.toNat (i : Int) * 1) rc) PV.junk = _
      rw [Int.toNat_natCast, Nat.mul_one])
    rw [hd, ← hmo] at hW
    rw [← hmo]
    refine SWP.runQ (SLw [(22, [(11, true), (17, true), (18, true)])] [(22, [(18, .str t)])]) 100 22 hnt [3, 4, 5] (e := .normal) (z := { t := [(3, PV.int IntKind.i64 (if (↑(ByteArray.size t) : Int) > (↑mo : Int) then Int.ofNat (ByteArray.size t) else Int.ofNat mo)), (4, PV.slice m rc), (5, PV.int IntKind.i64 (IntKind.wrap IntKind.i64 (Int.ofNat (i + 1))))], h := { bx := [], rw := [none] } }) (o := [(decide ((↑i : Int) < (↑m : Int)), true), (true, true), (decide (0 ≤ (↑i : Int) ∧ (↑i : Int) < (↑m : Int)), true), (decide (TD.size d9 ≤ List.length (List.drop (Int.toNat (↑i : Int) * TD.size d9) rc)), true), (same (List.headD (List.drop (Int.toNat (↑i : Int) * TD.size d9) rc) PV.junk) (PV.str t), true)]) (by kernel_rfl) (by ((repeat' (first | exact okO_nil | refine okN ?_ ?_)); all_goals first | assumption | rfl | exact same_of rfl | exact sameS_self _ | (simp only [decide_eq_true_eq, decide_eq_false_iff_not, Nat.ble_eq, Nat.beq_eq, beq_eq_false_iff_ne, beq_iff_eq, ne_eq] <;> omega))) (fun st hs => ⟨⟨i + 1, hlt⟩, Nat.sub_lt_sub_left hlt (Nat.lt_succ_self i), ?_⟩)
    rw [hs, wi]
    simp only [hW, szP, Int.ofNat_eq_natCast, mxC]
  · obtain rfl : i = m := by omega
    have d2 := ge_at hge
    rw [← hmo] at hfr ⊢
    refine SWP.runQ (SLw [(22, [(11, false)])] []) 100 22 hnt [3] (e := .exit 0) (z := ⟨[(3, .int .i64 (mo : Nat))], ⟨[], [none]⟩⟩) (o := [(decide ((↑i : Int) < (↑i : Int)), false), (false, false)]) (by kernel_rfl) (by ((repeat' (first | exact okO_nil | refine okN ?_ ?_)); all_goals first | assumption | rfl | exact same_of rfl | exact sameS_self _ | (simp only [decide_eq_true_eq, decide_eq_false_iff_not, Nat.ble_eq, Nat.beq_eq, beq_eq_false_iff_ne, beq_iff_eq, ne_eq] <;> omega))) (fun st hs => hK st (.norm [3] ?_))
    rw [hs]
    refine SWP.runQ (SLw [] []) 100 22 hnt [2] (e := .ret) (z := { t := [(2, PV.int IntKind.i64 (Int.ofNat mo))], h := { bx := [], rw := [none] } }) (o := []) (by kernel_rfl) (by ((repeat' (first | exact okO_nil | refine okN ?_ ?_)); all_goals first | assumption | rfl | exact same_of rfl | exact sameS_self _ | (simp only [decide_eq_true_eq, decide_eq_false_iff_not, Nat.ble_eq, Nat.beq_eq, beq_eq_false_iff_ne, beq_iff_eq, ne_eq] <;> omega))) (fun st hs => hfr st [2] ?_)
    rw [hs]
    exact ⟨0, .int .i64 (mo : Nat), Nat.le_refl _, Nat.zero_le _, rfl, rfl, rfl, rfl, _, rfl, rfl⟩
end Seat
end Go.Proofs.YtkblfapbakfgpaaDoor
/- Layout: the document's Lines and Wide of a layout (no program in sight). -/
namespace Go.Proofs.YtkblfapbakfgpaaDoor
open Go.AS Go.RowKit
set_option linter.unusedVariables false
set_option linter.unusedSimpArgs false
set_option maxRecDepth 100000
namespace Seat
theorem bt_at (y : List UInt8) (i : Nat) (h : i < y.length) : bt (mkS y) (i : Int) = (y[i].toNat : Int) := by
  unfold bt
  have : (i : Int).toNat < (mkS y).size := by rw [Int.toNat_natCast, mkS_size]; exact h
  rw [dif_pos this]
  rfl
theorem scan (y a l rest : List UInt8) (hy : y = a ++ (l ++ 10 :: rest)) (hl : no10 l) (ha : frm (mkS y) a.length = a.length) :
    frm (mkS y) (a.length + l.length + 1) = a.length + l.length + 1 ∧ rowL (mkS y) (a.length + l.length + 1) = rowL (mkS y) a.length ++ [.str (mkS l)] := by
  have hin : ∀ j, j ≤ l.length → frm (mkS y) (a.length + j) = a.length ∧ rowL (mkS y) (a.length + j) = rowL (mkS y) a.length := by
    intro j
    induction j with
    | zero => intro _; exact ⟨ha, rfl⟩
    | succ j ih =>
      intro hj
      obtain ⟨h1, h2⟩ := ih (by omega)
      have hlen : a.length + j < y.length := by rw [hy]; simp; omega
      have hb : bt (mkS y) ((a.length + j : Nat) : Int) ≠ 10 := by
        rw [bt_at y _ hlen]
        have hg : y[a.length + j] = l[j]'(by omega) := by
          simp only [hy]
          rw [List.getElem_append_right (by omega), List.getElem_append_left (by omega)]
          simp
        rw [hg]
        have := hl (l[j]'(by omega)) (List.getElem_mem _)
        intro h
        apply this
        apply UInt8.toNat_inj.1
        have h10 : (10 : UInt8).toNat = 10 := rfl
        rw [h10]
        omega
      rw [show a.length + (j + 1) = a.length + j + 1 from rfl, frm, rowL, if_neg hb, if_neg hb]
      exact ⟨h1, h2⟩
  obtain ⟨h1, h2⟩ := hin l.length (Nat.le_refl _)
  have hlen : a.length + l.length < y.length := by rw [hy]; simp
  have hb : bt (mkS y) ((a.length + l.length : Nat) : Int) = 10 := by
    rw [bt_at y _ hlen]
    have hg : y[a.length + l.length] = 10 := by
      simp only [hy]
      rw [List.getElem_append_right (by omega), List.getElem_append_right (by omega)]
      simp
    rw [hg]; rfl
  rw [frm, rowL, if_pos hb, if_pos hb, h1, h2]
  refine ⟨rfl, ?_⟩
  congr 3
  apply ByteArray.ext
  apply Array.ext'
  simp only [mkS, ByteArray.data_extract, Array.toList_extract, List.extract_eq_take_drop]
  rw [hy]
  simp
theorem rows_of : ∀ (L : List (List UInt8)) (rest y : List UInt8), L ≠ [] → (∀ l ∈ L, no10 l) → y = joinR L ++ 10 :: rest →
    frm (mkS y) ((joinR L).length + 1) = (joinR L).length + 1 ∧ (rowL (mkS y) ((joinR L).length + 1)).length = L.length ∧ wdN (rowL (mkS y) ((joinR L).length + 1)) L.length = maxL L
  | [], _, _, h, _, _ => absurd rfl h
  | [l], rest, y, _, hn, hy => by
    obtain ⟨h1, h2⟩ := scan y [] l rest (by simpa [joinR] using hy) (hn l (by simp)) rfl
    simp only [List.length_nil, Nat.zero_add] at h1 h2
    simp only [joinR]
    refine ⟨h1, ?_, ?_⟩
    · rw [h2]; rfl
    · rw [h2]
      show max 0 (szP (.str (mkS l))) = max l.length 0
      simp only [szP, mkS_size]
      omega
  | l :: l2 :: r, rest, y, _, hn, hy => by
    have hy2 : y = joinR (l2 :: r) ++ 10 :: (l ++ 10 :: rest) := by rw [hy]; simp [joinR]
    obtain ⟨h1, h2, h3⟩ := rows_of (l2 :: r) (l ++ 10 :: rest) y (by simp) (fun a ha => hn a (by simp only [List.mem_cons] at ha ⊢; exact .inr ha)) hy2
    obtain ⟨g1, g2⟩ := scan y (joinR (l2 :: r) ++ [10]) l rest (by rw [hy2]; simp) (hn l (by simp)) (by simpa using h1)
    have hlen : (joinR (l :: l2 :: r)).length + 1 = (joinR (l2 :: r) ++ [10]).length + l.length + 1 := by simp [joinR]; omega
    have hlen2 : (joinR (l2 :: r) ++ [10]).length = (joinR (l2 :: r)).length + 1 := by simp
    rw [hlen]
    refine ⟨g1, ?_, ?_⟩
    · rw [g2, List.length_append, hlen2, h2]; rfl
    · rw [g2, hlen2]
      have happ : ∀ (rc : List PV) (x : PV) (i : Nat), i ≤ rc.length → wdN (rc ++ [x]) i = wdN rc i := by
        intro rc x i
        induction i with
        | zero => intro _; rfl
        | succ i ih =>
          intro hi
          rw [wdN, wdN, ih (by omega), List.drop_append_of_le_length (by omega)]
          have : (rc.drop i) ≠ [] := by intro h; have := congrArg List.length h; simp at this; omega
          cases hd : rc.drop i with
          | nil => exact absurd hd this
          | cons a b => rfl
      show wdN _ ((l2 :: r).length + 1) = max l.length (maxL (l2 :: r))
      rw [wdN, happ _ _ _ (by rw [h2]; exact Nat.le_refl _), h3]
      have hd : List.drop (l2 :: r).length (rowL (mkS y) ((joinR (l2 :: r)).length + 1) ++ [PV.str (mkS l)]) = [PV.str (mkS l)] := by
        rw [← h2]; simp
      rw [hd]
      simp only [List.headD_cons, szP, mkS_size]
      omega
/-- Lines and Wide of a layout are what a meter tells. -/
theorem lines_meter (w : Nat) (d : Dat) (hf : formedD d = true) :
    (rowL (mkS (layT w d 0 0 ++ [10])) (mkS (layT w d 0 0 ++ [10])).size).length = (layG mS w d 0 0 (1, 0, 0)).1 ∧ 0 < (layG mS w d 0 0 (1, 0, 0)).1 ∧
    wdN (rowL (mkS (layT w d 0 0 ++ [10])) (mkS (layT w d 0 0 ++ [10])).size) (rowL (mkS (layT w d 0 0 ++ [10])) (mkS (layT w d 0 0 ++ [10])).size).length = (layG mS w d 0 0 (1, 0, 0)).2.2 := by
  obtain ⟨h1, h2⟩ := linL_text w d
  obtain ⟨g1, g2, g3⟩ := rows_of (linL w d) [] (layT w d 0 0 ++ [10]) h1 (linL_no10 w d hf) (by rw [h2])
  have hs : (mkS (layT w d 0 0 ++ [10])).size = (joinR (linL w d)).length + 1 := by rw [mkS_size, ← h2]; simp
  rw [hs, g2, linL_met]
  refine ⟨rfl, ?_, g3⟩
  rcases Nat.eq_zero_or_pos (linL w d).length with h | h
  · exact absurd (List.eq_nil_of_length_eq_zero h) h1
  · exact h
end Seat
end Go.Proofs.YtkblfapbakfgpaaDoor
/- Layout: what the lines of a layout look like (plain). -/
namespace Go.Proofs.YtkblfapbakfgpaaDoor
open Go.AS
set_option linter.unusedVariables false
set_option linter.unusedSimpArgs false
namespace Seat
/-- Blanks and opening brackets. -/
def isPre (l : List UInt8) : Prop := ∀ b ∈ l, b = 32 ∨ b = 40
/-- Closing brackets. -/
def isPost (l : List UInt8) : Prop := ∀ b ∈ l, b = 41
/-- An atom, or an empty list. -/
def isCore (l : List UInt8) : Prop := l = [40, 41] ∨ (l ≠ [] ∧ ∀ b ∈ l, letC ((b.toNat : Nat) : Int) = true)
/-- A leaf with brackets. -/
def Leaf (l : List UInt8) : Prop := ∃ p c q, l = p ++ (c ++ q) ∧ isPre p ∧ isCore c ∧ isPost q
def Fine (w r : Nat) (l : List UInt8) : Prop := l.length + r ≤ w ∨ Leaf l
def P0 (w c : Nat) (L : List (List UInt8)) : Prop := ∃ p rest, L = p :: rest ∧ p.length = c ∧ isPre p ∧ ∀ l ∈ rest, Fine w 0 l
def Op (w r : Nat) (L : List (List UInt8)) : Prop := ∃ h rest, L = h :: rest ∧ Fine w r h ∧ ∀ l ∈ rest, Fine w 0 l
theorem Leaf.close {l : List UInt8} (h : Leaf l) : Leaf (l ++ [41]) := by
  obtain ⟨p, c, q, rfl, h1, h2, h3⟩ := h
  refine ⟨p, c, q ++ [41], by simp, h1, h2, fun b hb => ?_⟩
  rcases List.mem_append.1 hb with hb | hb
  · exact h3 b hb
  · exact List.mem_singleton.1 hb
theorem Fine.close {w r : Nat} {l : List UInt8} (h : Fine w (r + 1) l) : Fine w r (l ++ [41]) := by
  rcases h with h | h
  · exact .inl (by rw [List.length_append]; simp only [List.length_cons, List.length_nil]; omega)
  · exact .inr h.close
theorem dig_let (u : Nat) : ∀ b ∈ Go.Lib.decDigits u, letC ((b.toNat : Nat) : Int) = true := by
  intro x hx
  rw [Go.Lib.decDigits_eq] at hx
  obtain ⟨t, _, rfl⟩ := List.mem_map.1 hx
  unfold Go.Lib.dg
  simp only [UInt8.toNat_ofNat']
  generalize u / 10 ^ (Go.Lib.nDigits u - 1 - t) = v
  obtain ⟨k, hk, he⟩ : ∃ k, k < 10 ∧ (48 + v % 10) % 2 ^ 8 = 48 + k := ⟨v % 10, by omega, by omega⟩
  rw [he]
  have : digC (((48 + k : Nat) : Int)) = true := by unfold digC; rw [decide_eq_true_eq]; omega
  unfold letC
  rw [this]
  simp
theorem dig_nil (u : Nat) : Go.Lib.decDigits u ≠ [] := by
  rw [Go.Lib.decDigits]
  split <;> simp
theorem itoa_core (n : Int) : Go.Lib.itoa n ≠ [] ∧ ∀ b ∈ Go.Lib.itoa n, letC ((b.toNat : Nat) : Int) = true := by
  rw [Go.Lib.itoa]
  split
  · exact ⟨by simp, fun b hb => by
      rcases List.mem_cons.1 hb with rfl | hb
      · decide
      · exact dig_let _ b hb⟩
  · exact ⟨dig_nil _, dig_let _⟩
theorem sym_let {s : ByteArray} (h : symOk s = true) : s.data.toList ≠ [] ∧ ∀ b ∈ s.data.toList, letC ((b.toNat : Nat) : Int) = true := by
  have h1 : s.size ≠ 0 := by
    intro h0
    have : symBad s = true := by simp [symBad, h0]
    simp [symOk, this] at h
  refine ⟨fun h0 => h1 (by have := congrArg List.length h0; simpa using this), fun x hx => ?_⟩
  obtain ⟨i, hi, rfl⟩ := List.getElem_of_mem hx
  have h2 : (List.range s.size).all (fun i => letC (bt s i)) = true := by
    simp only [symOk, Bool.and_eq_true] at h
    exact h.2
  have hi' : i < s.size := by simpa using hi
  have h3 := List.all_eq_true.1 h2 i (List.mem_range.2 hi')
  have hb : bt s (i : Int) = ((s.data.toList[i]'hi).toNat : Int) := by
    unfold bt
    rw [dif_pos (by simpa using hi')]
    rfl
  rw [hb] at h3
  exact h3
theorem text_core {k n : Int} {s : ByteArray} {ks : Dats} (h : formedD (.mk k n s ks) = true) (h0 : ks.len = 0) : isCore (textD (.mk k n s ks)) := by
  rw [textD]
  split
  · exact .inr (itoa_core n)
  · split
    · rename_i h1 h2
      subst h2
      simp only [formedD] at h
      have hs : symOk s = true := by
        have h' : (n = 0 ∧ symOk s = true) ∧ ks.len = 0 := by simpa using h
        exact h'.1.2
      exact .inr (sym_let hs)
    · cases ks with
      | nil => exact .inl rfl
      | cons d ds => simp [Dats.len] at h0
theorem formed_kids {k n : Int} {s : ByteArray} {ks : Dats} (h : formedD (.mk k n s ks) = true) (h0 : ks.len ≠ 0) : formedL ks = true := by
  simp only [formedD, Bool.or_eq_true, Bool.and_eq_true, decide_eq_true_eq] at h
  rcases h with (h | h) | h
  · exact absurd h.2 h0
  · exact absurd h.2 h0
  · exact h.2
/-- A layout's lines: short enough, or leaves. -/
theorem lay_lines (w : Nat) : ∀ N : Nat, (∀ (d : Dat), d.size < N → formedD d = true → ∀ (c r : Nat) (L : List (List UInt8)), P0 w c L → Op w r (layG lS w d c r L)) ∧
    (∀ (ks : Dats), ks.size < N → formedL ks = true → ks ≠ .nil → ∀ (f : Bool) (c r : Nat) (l : Bool) (L : List (List UInt8)), (if f = true then P0 w (c + 1) L else Op w 0 L) → Op w (if l = true then r + 1 else 0) (layGL lS w ks f c r l L)) := by
  intro N
  induction N with
  | zero => exact ⟨fun d h => by omega, fun d h => by omega⟩
  | succ N ih =>
    refine ⟨fun d hd hf c r L hL => ?_, fun ks hk hf hne f c r l L hL => ?_⟩
    · obtain ⟨k, n, s, ks⟩ := d
      obtain ⟨p, rest, rfl, hp, hpre, hrest⟩ := hL
      rw [layG]
      show Op w r (if ks.len = 0 ∨ c + (textD (.mk k n s ks)).length + r ≤ w then lS.text (textD (.mk k n s ks)) (p :: rest) else lS.text [41] (layGL lS w ks true c r true (lS.text [40] (p :: rest))))
      by_cases hft : ks.len = 0 ∨ c + (textD (.mk k n s ks)).length + r ≤ w
      · rw [if_pos hft]
        refine ⟨p ++ textD (.mk k n s ks), rest, rfl, ?_, hrest⟩
        by_cases hw : c + (textD (.mk k n s ks)).length + r ≤ w
        · exact .inl (by rw [List.length_append]; omega)
        · have h0 := hft.resolve_right hw
          exact .inr ⟨p, textD (.mk k n s ks), [], by simp, hpre, text_core hf h0, fun b hb => by cases hb⟩
      · rw [if_neg hft]
        have h0 : ks.len ≠ 0 := fun h => hft (.inl h)
        have hne : ks ≠ .nil := fun h => h0 (by rw [h]; rfl)
        have key := ih.2 ks (by simp only [Dat.size] at hd; omega) (formed_kids hf h0) hne true c r true ((p ++ [40]) :: rest) (by
          simp only [if_true]
          exact ⟨p ++ [40], rest, rfl, by rw [List.length_append]; simp only [List.length_cons, List.length_nil]; omega, fun b hb => by
            rcases List.mem_append.1 hb with hb | hb
            · exact hpre b hb
            · exact .inr (List.mem_singleton.1 hb), hrest⟩)
        simp only [if_true] at key
        obtain ⟨h, rs, he, h1, h2⟩ := key
        have he' : layGL lS w ks true c r true (lS.text [40] (p :: rest)) = h :: rs := he
        rw [he']
        exact ⟨h ++ [41], rs, rfl, h1.close, h2⟩
    · cases ks with
      | nil => exact absurd rfl hne
      | cons d ds =>
        rw [layGL]
        have hfd : formedD d = true ∧ formedL ds = true := by simpa only [formedL, Bool.and_eq_true] using hf
        have hx1 : P0 w (if f = true then c + 1 else c + 2) (if f = true then L else lS.line (c + 2) L) := by
          cases f with
          | true => simpa using hL
          | false =>
            simp only [Bool.false_eq_true, if_false] at hL ⊢
            obtain ⟨h, rs, rfl, h1, h2⟩ := hL
            exact ⟨List.replicate (c + 2) 32, h :: rs, rfl, List.length_replicate .., fun b hb => .inl (List.eq_of_mem_replicate hb), fun x hx => by
              rcases List.mem_cons.1 hx with rfl | hx
              · exact h1
              · exact h2 x hx⟩
        have hx2 := ih.1 d (by simp only [Dats.size] at hk; omega) hfd.1 _ (if ds.len = 0 ∧ l = true then r + 1 else 0) _ hx1
        cases ds with
        | nil =>
          rw [layGL]
          have e : (if Dats.len .nil = 0 ∧ l = true then r + 1 else 0) = (if l = true then r + 1 else 0) := by
            cases l <;> simp [Dats.len]
          rw [e] at hx2 ⊢
          exact hx2
        | cons d2 ds2 =>
          have e : (if Dats.len (.cons d2 ds2) = 0 ∧ l = true then r + 1 else 0) = 0 := if_neg (fun h => by simp [Dats.len] at h)
          rw [e] at hx2 ⊢
          exact ih.2 (.cons d2 ds2) (by simp only [Dats.size] at hk ⊢; omega) hfd.2 (fun h => by cases h) false c r l _ (by simpa using hx2)
theorem linL_fine (w : Nat) (d : Dat) (hf : formedD d = true) : ∀ l ∈ linL w d, Fine w 0 l := by
  obtain ⟨h, rs, he, h1, h2⟩ := (lay_lines w (d.size + 1)).1 d (by omega) hf 0 0 [[]] ⟨[], [], rfl, rfl, (fun b hb => by cases hb), (fun l hl => by cases hl)⟩
  intro l hl
  have he' : linL w d = h :: rs := he
  rw [he'] at hl
  rcases List.mem_cons.1 hl with rfl | hl
  · exact h1
  · exact h2 l hl
/-- What is found between a layout's line ends are its lines. -/
theorem rows_all : ∀ (L : List (List UInt8)) (rest y : List UInt8), L ≠ [] → (∀ l ∈ L, no10 l) → y = joinR L ++ 10 :: rest →
    frm (mkS y) ((joinR L).length + 1) = (joinR L).length + 1 ∧ ∀ x ∈ rowL (mkS y) ((joinR L).length + 1), ∃ l ∈ L, x = .str (mkS l)
  | [], _, _, h, _, _ => absurd rfl h
  | [l], rest, y, _, hn, hy => by
    obtain ⟨h1, h2⟩ := scan y [] l rest (by simpa [joinR] using hy) (hn l (by simp)) rfl
    simp only [List.length_nil, Nat.zero_add] at h1 h2
    simp only [joinR]
    refine ⟨h1, fun x hx => ?_⟩
    rw [h2] at hx
    rcases List.mem_append.1 hx with hx | hx
    · simp [rowL] at hx
    · exact ⟨l, by simp, List.mem_singleton.1 hx⟩
  | l :: l2 :: r, rest, y, _, hn, hy => by
    have ej : joinR (l :: l2 :: r) = joinR (l2 :: r) ++ 10 :: l := rfl
    have hy2 : y = joinR (l2 :: r) ++ 10 :: (l ++ 10 :: rest) := by rw [hy, ej]; simp
    obtain ⟨g1, g2⟩ := rows_all (l2 :: r) (l ++ 10 :: rest) y (by simp) (fun x hx => hn x (List.mem_cons_of_mem _ hx)) hy2
    obtain ⟨h1, h2⟩ := scan y (joinR (l2 :: r) ++ [10]) l rest (by rw [hy2]; simp) (hn l (by simp)) (by
      rw [List.length_append]; exact g1)
    have el : (joinR (l2 :: r) ++ [10]).length = (joinR (l2 :: r)).length + 1 := by rw [List.length_append]; rfl
    rw [el] at h1 h2
    have et : (joinR (l :: l2 :: r)).length + 1 = (joinR (l2 :: r)).length + 1 + l.length + 1 := by rw [ej]; simp; omega
    rw [et]
    refine ⟨h1, fun x hx => ?_⟩
    rw [h2] at hx
    rcases List.mem_append.1 hx with hx | hx
    · obtain ⟨l', hl', e⟩ := g2 x hx
      exact ⟨l', List.mem_cons_of_mem _ hl', e⟩
    · exact ⟨l, by simp, List.mem_singleton.1 hx⟩
theorem rowL_mono (s : ByteArray) (i : Nat) : ∀ k, ∀ x ∈ rowL s i, x ∈ rowL s (i + k)
  | 0, x, h => h
  | k + 1, x, h => by
    show x ∈ rowL s (i + k + 1)
    rw [rowL]
    split
    · exact List.mem_append_left _ (rowL_mono s i k x h)
    · exact rowL_mono s i k x h
/-- A line of a layout that is longer than the width is a leaf. -/
theorem line_leaf (w : Nat) (d : Dat) (hf : formedD d = true) (y : ByteArray) (hy : y = mkS (layT w d 0 0 ++ [10])) :
    frm y y.size = y.size ∧ ∀ i, i < y.size → bt y (i : Int) = 10 → ∃ l : List UInt8, y.extract (frm y i) i = mkS l ∧ Fine w 0 l := by
  obtain ⟨h1, h2⟩ := linL_text w d
  obtain ⟨g1, g2⟩ := rows_all (linL w d) [] (layT w d 0 0 ++ [10]) h1 (linL_no10 w d hf) (by rw [h2])
  have hs : y.size = (joinR (linL w d)).length + 1 := by rw [hy, mkS_size, ← h2]; simp
  rw [← hy] at g1 g2
  rw [← hs] at g1 g2
  refine ⟨g1, fun i hi h10 => ?_⟩
  have hm : PV.str (y.extract (frm y i) i) ∈ rowL y (i + 1) := by
    rw [rowL, if_pos h10]
    exact List.mem_append_right _ (List.mem_singleton.2 rfl)
  have hm2 := rowL_mono y (i + 1) (y.size - (i + 1)) _ hm
  rw [show i + 1 + (y.size - (i + 1)) = y.size by omega] at hm2
  obtain ⟨l, hl, e⟩ := g2 _ hm2
  exact ⟨l, by simpa using e, linL_fine w d hf l hl⟩
end Seat
end Go.Proofs.YtkblfapbakfgpaaDoor
/- Layout: a line without its brackets (the laws' trimmed). Printed by dev/long2.py and dev/nfsub.py (this session's). -/
namespace Go.Proofs.YtkblfapbakfgpaaDoor
open Go.AS Go.RowKit
set_option linter.unusedVariables false
set_option linter.unusedSimpArgs false
set_option maxRecDepth 100000
set_option maxHeartbeats 4000000
namespace Seat
def brk : ByteArray := ⟨#[40, 41]⟩
theorem toList_mkS (l : List UInt8) : ByteArray.toList (mkS l) = l := ByteArray.toList_mk l
theorem toList_brk : ByteArray.toList brk = [40, 41] := ByteArray.toList_mk [40, 41]
theorem neT {l : List UInt8} (h : l ≠ [40, 41]) : (!ByteArray.toList (mkS l) == ByteArray.toList brk) = true := by rw [toList_mkS, toList_brk, Bool.not_eq_true', beq_eq_false_iff_ne]; exact h
theorem ext_tail (b : UInt8) (r : List UInt8) : (mkS (b :: r)).extract 1 (mkS (b :: r)).size = mkS r := by
  apply ByteArray.ext
  apply Array.ext'
  simp only [ByteArray.data_extract, Array.toList_extract, List.extract_eq_take_drop, mkS_size]
  simp [mkS]
theorem ext_init (l : List UInt8) (b : UInt8) : (mkS (l ++ [b])).extract 0 l.length = mkS l := by
  apply ByteArray.ext
  apply Array.ext'
  simp only [mkS, ByteArray.data_extract, Array.toList_extract, List.extract_eq_take_drop]
  simp
theorem bt_0 (b : UInt8) (r : List UInt8) : bt (mkS (b :: r)) 0 = (b.toNat : Int) := bt_at (b :: r) 0 (by simp)
theorem bt_1 (a b : UInt8) (r : List UInt8) : bt (mkS (a :: b :: r)) 1 = (b.toNat : Int) := bt_at (a :: b :: r) 1 (by simp)
theorem bt_last (l : List UInt8) (b : UInt8) : bt (mkS (l ++ [b])) (l.length : Nat) = (b.toNat : Int) := by
  rw [bt_at (l ++ [b]) l.length (by simp)]
  simp
theorem core_ne {c : List UInt8} (h : isCore c) : c ≠ [] := by
  rcases h with rfl | h
  · simp
  · exact h.1
theorem core_head {c : List UInt8} (h : isCore c) : ∃ b r, c = b :: r ∧ b ≠ 41 ∧ (b = 40 → c = [40, 41]) ∧ b ≠ 32 := by
  rcases h with rfl | ⟨h1, h2⟩
  · exact ⟨40, [41], rfl, by decide, fun _ => rfl, by decide⟩
  · cases c with
    | nil => exact absurd rfl h1
    | cons b r =>
      have hb := h2 b (by simp)
      refine ⟨b, r, rfl, ?_, ?_, ?_⟩
      · rintro rfl; exact absurd hb (by decide)
      · rintro rfl; exact absurd hb (by decide)
      · rintro rfl; exact absurd hb (by decide)
theorem core_last {c : List UInt8} (h : isCore c) : ∃ r b, c = r ++ [b] ∧ (b = 41 → c = [40, 41]) := by
  have hne := core_ne h
  refine ⟨c.dropLast, c.getLast hne, (List.dropLast_concat_getLast hne).symm, fun hb => ?_⟩
  rcases h with rfl | ⟨h1, h2⟩
  · rfl
  · have := h2 (c.getLast hne) (List.getLast_mem hne)
    rw [hb] at this
    exact absurd this (by decide)
theorem u8n {a : UInt8} {k : Nat} (h : (a.toNat : Int) = (k : Int)) (b : UInt8) (hb : b.toNat = k) : a = b := UInt8.toNat_inj.1 (by omega)
theorem trimmed_ok (p c q : List UInt8) (hp : isPre p) (hc : isCore c) (hq : isPost q) (hl : (p ++ (c ++ q)).length ≤ 1099511627776) : Pure G0 22 [.str (mkS (p ++ (c ++ q)))] (fun r => r = .str (mkS c)) := by
  refine Fn.enterB Tryd.func22 Tryd.ntmps22 rfl (Nat.le_of_ble_eq_true rfl) fun C fr fp hnt hnb hpan hfr hfp => ?_
  have fin : ∀ st H, nrm [2] st = ⟨[(2, .str (mkS c))], H⟩ → fr st := fun st H hst => hfr st [2] (by
    rw [hst]
    exact ⟨0, .str (mkS c), Nat.le_refl _, Nat.zero_le _, rfl, rfl, rfl, rfl, _, rfl, rfl⟩)
  obtain ⟨x, hx⟩ : ∃ x, x = mkS (p ++ (c ++ q)) := ⟨_, rfl⟩
  rw [← hx]
  refine Q.runSeq (SRk [] []) 100 54 hnt [0] (z := { t := [(0, PV.str x)], h := { bx := [], rw := [] } }) (o := []) (by kernel_rfl) (by ((repeat' (first | exact okO_nil | refine okN ?_ ?_)); all_goals first | assumption | rfl | exact same_of rfl | exact sameS_self _ | (simp only [decide_eq_true_eq, decide_eq_false_iff_not, Nat.ble_eq, Nat.beq_eq, beq_eq_false_iff_ne, beq_iff_eq, ne_eq] <;> omega))) ?_
  refine Q.seq fun K hK => ?_
  have rest : ∀ st, nrm [0] st = ⟨[(0, .str (mkS (c ++ q)))], ⟨[], []⟩⟩ → K st := fun st hst => hK st (.norm [0] (by
    rw [hst]
    clear hst hK hx
    refine Q.seq fun K hK => ?_
    refine Q.block ?_
    let T (l : List UInt8) : AS := ⟨[(0, .str (mkS (c ++ l)))], ⟨[], []⟩⟩
    refine Q.loopI (σ := { l : List UInt8 // isPost l ∧ l.length ≤ q.length }) [0] (fun l => T l.1) (fun l => l.1.length) ⟨q, hq, Nat.le_refl _⟩ rfl fun ⟨l, hl1, hl2⟩ => ?_
    show SWP G0 C _ _ ⟨[(0, .str (mkS (c ++ l)))], ⟨[], []⟩⟩
    obtain ⟨x, hx⟩ : ∃ x, x = mkS (c ++ l) := ⟨_, rfl⟩
    have hcl : (c ++ l).length ≤ 1099511627776 := by
      simp only [List.length_append] at hl ⊢
      omega
    have hsz : x.size = (c ++ l).length := by rw [hx]; rfl
    have hpos : 0 < (c ++ l).length := by
      rw [List.length_append]
      have := List.length_pos_iff.2 (core_ne hc)
      omega
    rw [← hx]
    have d1 : decide (0 < ((ByteArray.size x : Nat) : Int)) = true := by rw [hsz, decide_eq_true_eq]; omega
    obtain ⟨m, hm⟩ : ∃ m, m + 1 = (c ++ l).length := ⟨(c ++ l).length - 1, by omega⟩
    have d2 : same (PV.int IntKind.i64 (IntKind.wrap IntKind.i64 (Int.ofNat (ByteArray.size x) - (1 : Int)))) (PV.int IntKind.i64 (Int.ofNat m)) = true := same_of (by
      rw [hsz, ← hm, show (Int.ofNat (m + 1) - (1 : Int)) = Int.ofNat m by simp, wrapI m (by omega)]; rfl)
    have d3 : decide (0 ≤ (m : Int) ∧ (m : Int) < ((ByteArray.size x : Nat) : Int)) = true := by rw [hsz, decide_eq_true_eq]; omega
    have out : l = [] → ∀ st, nrm [0] st = ⟨[(0, .str x)], ⟨[], []⟩⟩ → K st := fun he st hst => hK st (.norm [0] (by
      rw [hst]
      refine SWP.runQ (SRk [] []) 100 54 hnt [2] (e := .ret) (z := { t := [(2, PV.str x)], h := { bx := [], rw := [] } }) (o := []) (by kernel_rfl) (by ((repeat' (first | exact okO_nil | refine okN ?_ ?_)); all_goals first | assumption | rfl | exact same_of rfl | exact sameS_self _ | (simp only [decide_eq_true_eq, decide_eq_false_iff_not, Nat.ble_eq, Nat.beq_eq, beq_eq_false_iff_ne, beq_iff_eq, ne_eq] <;> omega))) (fun st hst => fin st ⟨[], []⟩ ?_)
      rw [hst, hx, he, List.append_nil]))
    rcases List.eq_nil_or_concat l with he | ⟨l', b, he⟩
    · obtain ⟨r, b, hcb, hb⟩ := core_last hc
      have hml : r.length = m := by
        rw [he, List.append_nil, hcb, List.length_append] at hm
        simp only [List.length_cons, List.length_nil] at hm
        omega
      have hbt : bt x (Int.ofNat m) = (b.toNat : Int) := by
        rw [hx, he, List.append_nil, hcb, ← hml]
        exact bt_last r b
      by_cases h41 : b = 41
      · have hceq := hb h41
        have d4 : (bt x (Int.ofNat m) == (41 : Int)) = true := by rw [hbt, h41]; rfl
        have d5 : (!ByteArray.toList x == ByteArray.toList brk) = false := by rw [hx, he, List.append_nil, hceq, toList_mkS, toList_brk]; rfl
        exact SWP.runQ (SRk [(54, [(35, true), (41, true), (42, true), (46, false)])] [(54, [(40, .int .i64 m)])]) 100 54 hnt [0] (e := .exit 2) (z := { t := [(0, PV.str x)], h := { bx := [], rw := [] } }) (o := [(decide (0 < ((ByteArray.size x : Nat) : Int)), true), (same (PV.int IntKind.i64 (IntKind.wrap IntKind.i64 (Int.ofNat (ByteArray.size x) - (1 : Int)))) (PV.int IntKind.i64 (Int.ofNat m)), true), (decide (0 ≤ (m : Int) ∧ (m : Int) < ((ByteArray.size x : Nat) : Int)), true), (bt x (Int.ofNat m) == (41 : Int), true), (!ByteArray.toList x == ByteArray.toList brk, false)]) (by kernel_rfl) (by ((repeat' (first | exact okO_nil | refine okN ?_ ?_)); all_goals first | assumption | rfl | exact same_of rfl | exact sameS_self _ | (simp only [decide_eq_true_eq, decide_eq_false_iff_not, Nat.ble_eq, Nat.beq_eq, beq_eq_false_iff_ne, beq_iff_eq, ne_eq] <;> omega))) (fun st hst => out he st hst)
      · have d4 : (bt x (Int.ofNat m) == (41 : Int)) = false := by
          rw [hbt, beq_eq_false_iff_ne]
          exact fun h => h41 (u8n (k := 41) h 41 rfl)
        exact SWP.runQ (SRk [(54, [(35, true), (41, true), (42, false)])] [(54, [(40, .int .i64 m)])]) 100 54 hnt [0] (e := .exit 2) (z := { t := [(0, PV.str x)], h := { bx := [], rw := [] } }) (o := [(decide (0 < ((ByteArray.size x : Nat) : Int)), true), (same (PV.int IntKind.i64 (IntKind.wrap IntKind.i64 (Int.ofNat (ByteArray.size x) - (1 : Int)))) (PV.int IntKind.i64 (Int.ofNat m)), true), (decide (0 ≤ (m : Int) ∧ (m : Int) < ((ByteArray.size x : Nat) : Int)), true), (bt x (Int.ofNat m) == (41 : Int), false)]) (by kernel_rfl) (by ((repeat' (first | exact okO_nil | refine okN ?_ ?_)); all_goals first | assumption | rfl | exact same_of rfl | exact sameS_self _ | (simp only [decide_eq_true_eq, decide_eq_false_iff_not, Nat.ble_eq, Nat.beq_eq, beq_eq_false_iff_ne, beq_iff_eq, ne_eq] <;> omega))) (fun st hst => out he st hst)
    · have hb41 : b = 41 := hl1 b (by rw [he]; simp)
      have hcat : c ++ l = (c ++ l') ++ [b] := by rw [he]; simp
      have hml : (c ++ l').length = m := by
        rw [hcat, List.length_append] at hm
        simp only [List.length_cons, List.length_nil] at hm
        omega
      have d4 : (bt x (Int.ofNat m) == (41 : Int)) = true := by
        rw [hx, hcat, ← hml]
        rw [show bt (mkS (c ++ l' ++ [b])) (Int.ofNat (c ++ l').length) = (b.toNat : Int) from bt_last (c ++ l') b, hb41]; rfl
      have d5 : (!ByteArray.toList x == ByteArray.toList brk) = true := by
        rw [hx]
        refine neT fun h => ?_
        obtain ⟨b1, r1, h1, h2, h3, _⟩ := core_head hc
        rw [h1] at h
        simp only [List.cons_append, List.cons.injEq] at h
        have h4 := h3 h.1
        rw [h1] at h4
        simp only [List.cons.injEq] at h4
        rw [h4.2, he] at h
        have := congrArg List.length h.2
        simp at this
      obtain ⟨z, hz⟩ : ∃ z, z = mkS (c ++ l') := ⟨_, rfl⟩
      have d6 : decide ((0 : Int) ≤ 0 ∧ (0 : Int) ≤ (m : Int) ∧ (m : Int) ≤ ((ByteArray.size x : Nat) : Int)) = true := by rw [hsz, decide_eq_true_eq]; omega
      have d7 : same (PV.str (ByteArray.extract x 0 (Int.toNat (Int.ofNat m)))) (PV.str z) = true := same_of (by
        rw [hx, hcat, hz, ← hml]
        exact congrArg PV.str (ext_init (c ++ l') b))
      exact SWP.runQ (SRk [(54, [(35, true), (41, true), (42, true), (46, true), (52, true)])] [(54, [(40, .int .i64 m), (51, .int .i64 m), (52, .str z)])]) 100 54 hnt [0] (e := .normal) (z := { t := [(0, PV.str z)], h := { bx := [], rw := [] } }) (o := [(decide (0 < ((ByteArray.size x : Nat) : Int)), true), (same (PV.int IntKind.i64 (IntKind.wrap IntKind.i64 (Int.ofNat (ByteArray.size x) - (1 : Int)))) (PV.int IntKind.i64 (Int.ofNat m)), true), (decide (0 ≤ (m : Int) ∧ (m : Int) < ((ByteArray.size x : Nat) : Int)), true), (bt x (Int.ofNat m) == (41 : Int), true), (!ByteArray.toList x == ByteArray.toList brk, true), (same (PV.int IntKind.i64 (IntKind.wrap IntKind.i64 (Int.ofNat (ByteArray.size x) - (1 : Int)))) (PV.int IntKind.i64 (Int.ofNat m)), true), (decide ((0 : Int) ≤ 0 ∧ (0 : Int) ≤ (m : Int) ∧ (m : Int) ≤ ((ByteArray.size x : Nat) : Int)), true), (same (PV.str (ByteArray.extract x 0 (Int.toNat (Int.ofNat m)))) (PV.str z), true)]) (by kernel_rfl) (by ((repeat' (first | exact okO_nil | refine okN ?_ ?_)); all_goals first | assumption | rfl | exact same_of rfl | exact sameS_self _ | (simp only [decide_eq_true_eq, decide_eq_false_iff_not, Nat.ble_eq, Nat.beq_eq, beq_eq_false_iff_ne, beq_iff_eq, ne_eq] <;> omega))) (fun st hst => ⟨⟨l', fun b hb => hl1 b (by rw [he]; simp [hb]), by rw [he] at hl2; simp at hl2; omega⟩, by show l'.length < l.length; rw [he]; simp, by rw [hst, hz]⟩)))
  refine Q.block ?_
  let T (l : List UInt8) : AS := ⟨[(0, .str (mkS (l ++ (c ++ q))))], ⟨[], []⟩⟩
  refine Q.loopI (σ := { l : List UInt8 // isPre l ∧ l.length ≤ p.length }) [0] (fun l => T l.1) (fun l => l.1.length) ⟨p, hp, Nat.le_refl _⟩ (by rw [hx]; rfl) fun ⟨l, hl1, hl2⟩ => ?_
  show SWP G0 C _ _ ⟨[(0, .str (mkS (l ++ (c ++ q))))], ⟨[], []⟩⟩
  clear hx
  obtain ⟨x, hx⟩ : ∃ x, x = mkS (l ++ (c ++ q)) := ⟨_, rfl⟩
  have hsz : x.size = (l ++ (c ++ q)).length := by rw [hx]; rfl
  have hcp := List.length_pos_iff.2 (core_ne hc)
  have hpos : 0 < (l ++ (c ++ q)).length := by
    rw [List.length_append, List.length_append]; omega
  rw [← hx]
  have d1 : decide (0 < ((ByteArray.size x : Nat) : Int)) = true := by rw [hsz, decide_eq_true_eq]; omega
  have d2 : decide ((0 : Int) ≤ 0 ∧ (0 : Int) < ((ByteArray.size x : Nat) : Int)) = true := by rw [hsz, decide_eq_true_eq]; omega
  cases l with
  | nil =>
    obtain ⟨b1, r1, h1, h2, h3, h4⟩ := core_head hc
    have hxe : x = mkS (b1 :: (r1 ++ q)) := by rw [hx, h1]; rfl
    have hb0 : bt x 0 = (b1.toNat : Int) := by rw [hxe]; exact bt_0 _ _
    have d3 : (bt x 0 == (32 : Int)) = false := by
      rw [hb0, beq_eq_false_iff_ne]
      exact fun h => h4 (u8n (k := 32) h 32 rfl)
    by_cases h40 : b1 = 40
    · have d4 : (bt x 0 == (40 : Int)) = true := by rw [hb0, h40]; rfl
      have hceq := h3 h40
      by_cases hqn : q = []
      · have d5 : (!ByteArray.toList x == ByteArray.toList brk) = false := by rw [hx, hceq, hqn, toList_brk, List.nil_append, List.append_nil, toList_mkS]; rfl
        exact SWP.runQ (SRk [(54, [(5, true), (8, true), (9, false), (12, true), (13, true), (16, false)])] []) 100 54 hnt [0] (e := .exit 0) (z := { t := [(0, PV.str x)], h := { bx := [], rw := [] } }) (o := [(decide (0 < ((ByteArray.size x : Nat) : Int)), true), (decide ((0 : Int) ≤ 0 ∧ (0 : Int) < ((ByteArray.size x : Nat) : Int)), true), (bt x 0 == (32 : Int), false), (decide ((0 : Int) ≤ 0 ∧ (0 : Int) < ((ByteArray.size x : Nat) : Int)), true), (bt x 0 == (40 : Int), true), (!ByteArray.toList x == ByteArray.toList brk, false)]) (by kernel_rfl) (by ((repeat' (first | exact okO_nil | refine okN ?_ ?_)); all_goals first | assumption | rfl | exact same_of rfl | exact sameS_self _ | (simp only [decide_eq_true_eq, decide_eq_false_iff_not, Nat.ble_eq, Nat.beq_eq, beq_eq_false_iff_ne, beq_iff_eq, ne_eq] <;> omega))) (fun st hst => rest st (by rw [hst, hx]; rfl))
      · have d5 : (!ByteArray.toList x == ByteArray.toList brk) = true := by
          rw [hx, hceq]
          exact neT fun h => hqn (by simpa using h)
        have d6 : decide (1 < ((ByteArray.size x : Nat) : Int)) = true := by rw [hsz, hceq, decide_eq_true_eq]; simp; omega
        have d7 : decide ((0 : Int) ≤ 1 ∧ (1 : Int) < ((ByteArray.size x : Nat) : Int)) = true := by rw [hsz, hceq, decide_eq_true_eq]; simp; omega
        have d8 : (bt x 1 == (41 : Int)) = true := by
          rw [hx, hceq]
          rw [show bt (mkS ([] ++ ([40, 41] ++ q))) 1 = ((41 : UInt8).toNat : Int) from bt_1 40 41 q]; rfl
        exact SWP.runQ (SRk [(54, [(5, true), (8, true), (9, false), (12, true), (13, true), (16, true), (21, true), (24, true), (25, true)])] []) 100 54 hnt [0] (e := .exit 0) (z := { t := [(0, PV.str x)], h := { bx := [], rw := [] } }) (o := [(decide (0 < ((ByteArray.size x : Nat) : Int)), true), (decide ((0 : Int) ≤ 0 ∧ (0 : Int) < ((ByteArray.size x : Nat) : Int)), true), (bt x 0 == (32 : Int), false), (decide ((0 : Int) ≤ 0 ∧ (0 : Int) < ((ByteArray.size x : Nat) : Int)), true), (bt x 0 == (40 : Int), true), (!ByteArray.toList x == ByteArray.toList brk, true), (decide (1 < ((ByteArray.size x : Nat) : Int)), true), (decide ((0 : Int) ≤ 1 ∧ (1 : Int) < ((ByteArray.size x : Nat) : Int)), true), (bt x 1 == (41 : Int), true)]) (by kernel_rfl) (by ((repeat' (first | exact okO_nil | refine okN ?_ ?_)); all_goals first | assumption | rfl | exact same_of rfl | exact sameS_self _ | (simp only [decide_eq_true_eq, decide_eq_false_iff_not, Nat.ble_eq, Nat.beq_eq, beq_eq_false_iff_ne, beq_iff_eq, ne_eq] <;> omega))) (fun st hst => rest st (by rw [hst, hx]; rfl))
    · have d4 : (bt x 0 == (40 : Int)) = false := by
        rw [hb0, beq_eq_false_iff_ne]
        exact fun h => h40 (u8n (k := 40) h 40 rfl)
      exact SWP.runQ (SRk [(54, [(5, true), (8, true), (9, false), (12, true), (13, false)])] []) 100 54 hnt [0] (e := .exit 0) (z := { t := [(0, PV.str x)], h := { bx := [], rw := [] } }) (o := [(decide (0 < ((ByteArray.size x : Nat) : Int)), true), (decide ((0 : Int) ≤ 0 ∧ (0 : Int) < ((ByteArray.size x : Nat) : Int)), true), (bt x 0 == (32 : Int), false), (decide ((0 : Int) ≤ 0 ∧ (0 : Int) < ((ByteArray.size x : Nat) : Int)), true), (bt x 0 == (40 : Int), false)]) (by kernel_rfl) (by ((repeat' (first | exact okO_nil | refine okN ?_ ?_)); all_goals first | assumption | rfl | exact same_of rfl | exact sameS_self _ | (simp only [decide_eq_true_eq, decide_eq_false_iff_not, Nat.ble_eq, Nat.beq_eq, beq_eq_false_iff_ne, beq_iff_eq, ne_eq] <;> omega))) (fun st hst => rest st (by rw [hst, hx]; rfl))
  | cons b l' =>
    have hxe : x = mkS (b :: (l' ++ (c ++ q))) := by rw [hx]; rfl
    have hb0 : bt x 0 = (b.toNat : Int) := by rw [hxe]; exact bt_0 _ _
    obtain ⟨z, hz⟩ : ∃ z, z = mkS (l' ++ (c ++ q)) := ⟨_, rfl⟩
    have d9 : decide ((0 : Int) ≤ 1 ∧ (1 : Int) ≤ ((ByteArray.size x : Nat) : Int) ∧ ((ByteArray.size x : Nat) : Int) ≤ ((ByteArray.size x : Nat) : Int)) = true := by rw [hsz, decide_eq_true_eq]; simp; omega
    have d10 : same (PV.str (ByteArray.extract x 1 (Int.toNat (Int.ofNat (ByteArray.size x))))) (PV.str z) = true := same_of (by
      rw [hxe, hz]
      exact congrArg PV.str (ext_tail b (l' ++ (c ++ q))))
    have step : ∀ st, nrm [0] st = ⟨[(0, .str z)], ⟨[], []⟩⟩ → ∃ y : { l : List UInt8 // isPre l ∧ l.length ≤ p.length }, y.1.length < (b :: l').length ∧ nrm [0] st = T y.1 := fun st hst =>
      ⟨⟨l', fun b hb => hl1 b (List.mem_cons_of_mem _ hb), by simp only [List.length_cons] at hl2; omega⟩, Nat.lt_succ_self _, by rw [hst, hz]⟩
    rcases hl1 b (by simp) with h32 | h40
    · have d3 : (bt x 0 == (32 : Int)) = true := by rw [hb0, h32]; rfl
      exact SWP.runQ (SRk [(54, [(5, true), (8, true), (9, true), (32, true)])] [(54, [(32, .str z)])]) 100 54 hnt [0] (e := .normal) (z := { t := [(0, PV.str z)], h := { bx := [], rw := [] } }) (o := [(decide (0 < ((ByteArray.size x : Nat) : Int)), true), (decide ((0 : Int) ≤ 0 ∧ (0 : Int) < ((ByteArray.size x : Nat) : Int)), true), (bt x 0 == (32 : Int), true), (decide ((0 : Int) ≤ 1 ∧ (1 : Int) ≤ ((ByteArray.size x : Nat) : Int) ∧ ((ByteArray.size x : Nat) : Int) ≤ ((ByteArray.size x : Nat) : Int)), true), (same (PV.str (ByteArray.extract x 1 (Int.toNat (Int.ofNat (ByteArray.size x))))) (PV.str z), true)]) (by kernel_rfl) (by ((repeat' (first | exact okO_nil | refine okN ?_ ?_)); all_goals first | assumption | rfl | exact same_of rfl | exact sameS_self _ | (simp only [decide_eq_true_eq, decide_eq_false_iff_not, Nat.ble_eq, Nat.beq_eq, beq_eq_false_iff_ne, beq_iff_eq, ne_eq] <;> omega))) step
    · have d3 : (bt x 0 == (32 : Int)) = false := by rw [hb0, h40]; rfl
      have d4 : (bt x 0 == (40 : Int)) = true := by rw [hb0, h40]; rfl
      obtain ⟨b2, r2, h2, h2'⟩ : ∃ b2 r2, l' ++ (c ++ q) = b2 :: r2 ∧ b2 ≠ 41 := by
        cases l' with
        | nil =>
          obtain ⟨b1, r1, h1, h2, _⟩ := core_head hc
          exact ⟨b1, r1 ++ q, by rw [h1]; rfl, h2⟩
        | cons b3 l3 =>
          refine ⟨b3, l3 ++ (c ++ q), rfl, ?_⟩
          rcases hl1 b3 (by simp) with h | h <;> rw [h] <;> decide
      have d5 : (!ByteArray.toList x == ByteArray.toList brk) = true := by
        rw [hxe, h2]
        refine neT fun h => ?_
        simp only [List.cons.injEq] at h
        exact h2' h.2.1
      have d6 : decide (1 < ((ByteArray.size x : Nat) : Int)) = true := by rw [hxe, h2, decide_eq_true_eq, mkS_size]; simp; omega
      have d7 : decide ((0 : Int) ≤ 1 ∧ (1 : Int) < ((ByteArray.size x : Nat) : Int)) = true := by rw [hxe, h2, decide_eq_true_eq, mkS_size]; simp; omega
      have d8 : (bt x 1 == (41 : Int)) = false := by
        rw [hxe, h2, bt_1, beq_eq_false_iff_ne]
        exact fun h => h2' (u8n (k := 41) h 41 rfl)
      exact SWP.runQ (SRk [(54, [(5, true), (8, true), (9, false), (12, true), (13, true), (16, true), (21, true), (24, true), (25, false), (32, true)])] [(54, [(32, .str z)])]) 100 54 hnt [0] (e := .normal) (z := { t := [(0, PV.str z)], h := { bx := [], rw := [] } }) (o := [(decide (0 < ((ByteArray.size x : Nat) : Int)), true), (decide ((0 : Int) ≤ 0 ∧ (0 : Int) < ((ByteArray.size x : Nat) : Int)), true), (bt x 0 == (32 : Int), false), (decide ((0 : Int) ≤ 0 ∧ (0 : Int) < ((ByteArray.size x : Nat) : Int)), true), (bt x 0 == (40 : Int), true), (!ByteArray.toList x == ByteArray.toList brk, true), (decide (1 < ((ByteArray.size x : Nat) : Int)), true), (decide ((0 : Int) ≤ 1 ∧ (1 : Int) < ((ByteArray.size x : Nat) : Int)), true), (bt x 1 == (41 : Int), false), (decide ((0 : Int) ≤ 1 ∧ (1 : Int) ≤ ((ByteArray.size x : Nat) : Int) ∧ ((ByteArray.size x : Nat) : Int) ≤ ((ByteArray.size x : Nat) : Int)), true), (same (PV.str (ByteArray.extract x 1 (Int.toNat (Int.ofNat (ByteArray.size x))))) (PV.str z), true)]) (by kernel_rfl) (by ((repeat' (first | exact okO_nil | refine okN ?_ ?_)); all_goals first | assumption | rfl | exact same_of rfl | exact sameS_self _ | (simp only [decide_eq_true_eq, decide_eq_false_iff_not, Nat.ble_eq, Nat.beq_eq, beq_eq_false_iff_ne, beq_iff_eq, ne_eq] <;> omega))) step
end Seat
end Go.Proofs.YtkblfapbakfgpaaDoor
/- Layout: the statement LayoutLonger. Printed by dev/long3.py and dev/nfsub.py (this session's). -/
namespace Go.Proofs.YtkblfapbakfgpaaDoor
open Go.AS Go.RowKit
set_option linter.unusedVariables false
set_option linter.unusedSimpArgs false
set_option maxRecDepth 100000
set_option maxHeartbeats 4000000
namespace Seat
/-- A leaf, with what is left of it. -/
def LeafC (l : ByteArray) (c : List UInt8) : Prop := ∃ p q, l = mkS (p ++ (c ++ q)) ∧ isPre p ∧ isCore c ∧ isPost q ∧ (p ++ (c ++ q)).length ≤ 1099511627776
open Classical in
noncomputable def isLeaf (l : ByteArray) : Bool := decide (∃ c, LeafC l c)
open Classical in
noncomputable def trC (l : ByteArray) : ByteArray := if h : ∃ c, LeafC l c then mkS h.choose else ⟨#[]⟩
theorem isLeaf_at {l : ByteArray} {c : List UInt8} (h : LeafC l c) : isLeaf l = true := by
  unfold isLeaf
  classical exact decide_eq_true ⟨c, h⟩
theorem isLeaf_of {l : ByteArray} (h : isLeaf l = true) : ∃ c, LeafC l c ∧ trC l = mkS c := by
  unfold isLeaf at h
  have h' : ∃ c, LeafC l c := by classical exact of_decide_eq_true h
  refine ⟨h'.choose, h'.choose_spec, ?_⟩
  unfold trC
  rw [dif_pos h']
def xdaK : Dat → Int | .mk k _ _ _ => k
def xdaN : Dat → Int | .mk _ n _ _ => n
def xdaT : Dat → ByteArray | .mk _ _ s _ => s
def xdaS : Dat → Dats | .mk _ _ _ ks => ks
noncomputable def xctA (p : Int) (cs : List PV) : Int := ofCells (fun d => xdaK (cutD d 1020 p).1) 0 cs
noncomputable def xctB (p : Int) (cs : List PV) : Int := ofCells (fun d => xdaN (cutD d 1020 p).1) 0 cs
noncomputable def xctC (p : Int) (cs : List PV) : ByteArray := ofCells (fun d => xdaT (cutD d 1020 p).1) ⟨#[]⟩ cs
noncomputable def xctD (p : Int) (cs : List PV) : Dats := ofCells (fun d => xdaS (cutD d 1020 p).1) .nil cs
noncomputable def lgS (f : Nat) (args : List PV) : Option (PV × Ob) := match f, args with
  | 22, [.str l] => some (.str (trC l), [(isLeaf l, true)])
  | 23, [.int .u8 c] => some (.bool (letC c), [(decide (0 ≤ c ∧ c < 256), true)])
  | 11, [.agg cs, .int .i64 w] => some (.tup [.str (loBC w cs), .int .i64 (loEC w cs)], [(isSml cs, true)])
  | 16, [.agg cs, .int .i64 p, .int .i64 1020] => some (.agg [.int .i64 (xctA p cs), .int .i64 (xctB p cs), .str (xctC p cs), .slice (xctD p cs).len (xctD p cs).cells], [(isOk cs, true), (decide (1 ≤ p ∧ p ≤ 1000000), true)])
  | 13, [] => some (.bool true, [])
  | _, _ => none
theorem lgS_ok (f : Nat) (args : List PV) (r : PV) (o : Ob) (h : lgS f args = some (r, o)) (ho : ∀ p ∈ o, p.1 = p.2) (hp : pureL args = true) : Pure G0 f args (fun x => x = r) := by
  unfold lgS at h
  split at h
  · rename_i l
    cases h
    obtain ⟨c, ⟨p, q, rfl, h1, h2, h3, h4⟩, h5⟩ := isLeaf_of (ho (isLeaf l, true) (List.mem_singleton.2 rfl))
    rw [h5]
    exact trimmed_ok p c q h1 h2 h3 h4
  · cases h
    exact letter_ok _ (of_decide_eq_true (ho _ (List.mem_singleton.2 rfl)))
  · rename_i cs w
    cases h
    obtain ⟨d, rfl, h1⟩ := isSml_of (ho (isSml cs, true) (List.mem_singleton.2 rfl))
    unfold loBC loEC
    rw [ofCells_at, ofCells_at]
    exact lay_ok d h1 w
  · rename_i cs p
    cases h
    obtain ⟨d, rfl, h1⟩ := isOk_of (ho (isOk cs, true) (by simp))
    have h2 := of_decide_eq_true (ho (decide (1 ≤ p ∧ p ≤ 1000000), true) (by simp))
    have key := cut_ok d h1 p 1020 ⟨by omega, by omega, h2.1, h2.2⟩
    unfold xctA xctB xctC xctD
    rw [ofCells_at, ofCells_at, ofCells_at, ofCells_at]
    cases hc : (cutD d 1020 p).1 with
    | mk k n s ks =>
      rw [hc] at key
      exact key
  · cases h
    exact alive_ok
  · cases h
noncomputable def SLg (l : List (Nat × List (Nat × Bool))) (v : List (Nat × List (Nat × PV))) : Cfg G0 := { F := F, hF := hF, S := lgS, hS := lgS_ok, orc := orcM l, val := valM v }
theorem xcutP_cells (p : Int) (k n k' n' : Int) (s s' : ByteArray) (ks ks' : Dats) (hc : (cutD (.mk k n s ks) 1020 p).1 = .mk k' n' s' ks') :
    same (PV.agg [.int .i64 (xctA p [PV.int IntKind.i64 k, PV.int IntKind.i64 n, PV.str s, PV.slice (Dats.len ks) (Dats.cells ks)]), .int .i64 (xctB p [PV.int IntKind.i64 k, PV.int IntKind.i64 n, PV.str s, PV.slice (Dats.len ks) (Dats.cells ks)]), .str (xctC p [PV.int IntKind.i64 k, PV.int IntKind.i64 n, PV.str s, PV.slice (Dats.len ks) (Dats.cells ks)]), .slice (xctD p [PV.int IntKind.i64 k, PV.int IntKind.i64 n, PV.str s, PV.slice (Dats.len ks) (Dats.cells ks)]).len (xctD p [PV.int IntKind.i64 k, PV.int IntKind.i64 n, PV.str s, PV.slice (Dats.len ks) (Dats.cells ks)]).cells]) (PV.agg [PV.int IntKind.i64 k', PV.int IntKind.i64 n', PV.str s', PV.slice (Dats.len ks') (Dats.cells ks')]) = true := same_of (by
  have a1 : xctA p [PV.int IntKind.i64 k, PV.int IntKind.i64 n, PV.str s, PV.slice (Dats.len ks) (Dats.cells ks)] = _ := ofCells_at _ _ (.mk k n s ks)
  have a2 : xctB p [PV.int IntKind.i64 k, PV.int IntKind.i64 n, PV.str s, PV.slice (Dats.len ks) (Dats.cells ks)] = _ := ofCells_at _ _ (.mk k n s ks)
  have a3 : xctC p [PV.int IntKind.i64 k, PV.int IntKind.i64 n, PV.str s, PV.slice (Dats.len ks) (Dats.cells ks)] = _ := ofCells_at _ _ (.mk k n s ks)
  have a4 : xctD p [PV.int IntKind.i64 k, PV.int IntKind.i64 n, PV.str s, PV.slice (Dats.len ks) (Dats.cells ks)] = _ := ofCells_at _ _ (.mk k n s ks)
  rw [a1, a2, a3, a4, hc]
  rfl)
theorem longer_law (d : Dat) (hd : d.ok) (hr : d.rng) (w : Int) : Pure G0 6 [.agg d.cells, .int .i64 w] (fun r => r = .bool true) := by
  obtain ⟨k', n', s', ks', hc⟩ := Dat.is_mk (cutD d 1020 1000).1
  have hS : Small (cutD d 1020 1000).1 := cut_small d hd hr 1000 1020 (by omega) (by omega)
  rw [hc] at hS
  obtain ⟨k, n, s, ks⟩ := d
  have a1 : isOk [PV.int IntKind.i64 k, PV.int IntKind.i64 n, PV.str s, PV.slice (Dats.len ks) (Dats.cells ks)] = true := isOk_at (d := .mk k n s ks) hd
  have a2 := xcutP_cells 1000 k n k' n' s s' ks ks' hc
  have a3 : isSml [PV.int IntKind.i64 k', PV.int IntKind.i64 n', PV.str s', PV.slice (Dats.len ks') (Dats.cells ks')] = true := isSml_at (d := .mk k' n' s' ks') hS
  have lb : loBC w [PV.int IntKind.i64 k', PV.int IntKind.i64 n', PV.str s', PV.slice (Dats.len ks') (Dats.cells ks')] = alB (.cons (.mk k' n' s' ks') .nil) w := ofCells_at _ _ (.mk k' n' s' ks')
  have le : loEC w [PV.int IntKind.i64 k', PV.int IntKind.i64 n', PV.str s', PV.slice (Dats.len ks') (Dats.cells ks')] = alE (.cons (.mk k' n' s' ks') .nil) w := ofCells_at _ _ (.mk k' n' s' ks')
  refine Fn.enterB Tryd.func6 Tryd.ntmps6 rfl (Nat.le_of_ble_eq_true rfl) fun C fr fp hnt hnb hpan hfr hfp => ?_
  have fin : ∀ st H, nrm [4] st = ⟨[(4, .bool true)], H⟩ → fr st := fun st H hst => hfr st [4] (by
    rw [hst]
    exact ⟨0, .bool true, Nat.le_refl _, Nat.zero_le _, rfl, rfl, rfl, rfl, _, rfl, rfl⟩)
  refine Q.runSeq (SLg [] []) 100 68 hnt [1, 2] (z := { t := [(1, PV.int IntKind.i64 w), (2, PV.ptr 0 0)], h := { bx := [{ cs := [PV.int IntKind.i64 k, PV.int IntKind.i64 n, PV.str s, PV.slice (Dats.len ks) (Dats.cells ks)], ty := 24 }], rw := [] } }) (o := []) (by kernel_rfl) (by ((repeat' (first | exact okO_nil | refine okN ?_ ?_)); all_goals first | assumption | rfl | exact same_of rfl | exact sameS_self _ | (simp only [decide_eq_true_eq, decide_eq_false_iff_not, Nat.ble_eq, Nat.beq_eq, beq_eq_false_iff_ne, beq_iff_eq, ne_eq] <;> omega))) ?_
  refine Q.runSeq (SLg [] [(68, [(14, .agg [.int .i64 k', .int .i64 n', .str s', .slice ks'.len ks'.cells])])]) 100 68 hnt [1, 5] (z := { t := [(1, PV.int IntKind.i64 w), (5, PV.ptr 1 0)], h := { bx := [{ cs := [PV.int IntKind.i64 k, PV.int IntKind.i64 n, PV.str s, PV.slice (Dats.len ks) (Dats.cells ks)], ty := 24 }, { cs := [PV.int IntKind.i64 k', PV.int IntKind.i64 n', PV.str s', PV.slice (Dats.len ks') (Dats.cells ks')], ty := 24 }], rw := [] } }) (o := [(true, true), (isOk [PV.int IntKind.i64 k, PV.int IntKind.i64 n, PV.str s, PV.slice (Dats.len ks) (Dats.cells ks)], true), (true, true), (same (PV.agg [.int .i64 (xctA 1000 [PV.int IntKind.i64 k, PV.int IntKind.i64 n, PV.str s, PV.slice (Dats.len ks) (Dats.cells ks)]), .int .i64 (xctB 1000 [PV.int IntKind.i64 k, PV.int IntKind.i64 n, PV.str s, PV.slice (Dats.len ks) (Dats.cells ks)]), .str (xctC 1000 [PV.int IntKind.i64 k, PV.int IntKind.i64 n, PV.str s, PV.slice (Dats.len ks) (Dats.cells ks)]), .slice (xctD 1000 [PV.int IntKind.i64 k, PV.int IntKind.i64 n, PV.str s, PV.slice (Dats.len ks) (Dats.cells ks)]).len (xctD 1000 [PV.int IntKind.i64 k, PV.int IntKind.i64 n, PV.str s, PV.slice (Dats.len ks) (Dats.cells ks)]).cells]) (PV.agg [PV.int IntKind.i64 k', PV.int IntKind.i64 n', PV.str s', PV.slice (Dats.len ks') (Dats.cells ks')]), true)]) (by kernel_rfl) (by ((repeat' (first | exact okO_nil | refine okN ?_ ?_)); all_goals first | assumption | rfl | exact same_of rfl | exact sameS_self _ | (simp only [decide_eq_true_eq, decide_eq_false_iff_not, Nat.ble_eq, Nat.beq_eq, beq_eq_false_iff_ne, beq_iff_eq, ne_eq] <;> omega))) ?_
  obtain ⟨y, hy⟩ : ∃ y, y = alB (.cons (.mk k' n' s' ks') .nil) w := ⟨_, rfl⟩
  obtain ⟨e, he⟩ : ∃ e, e = alE (.cons (.mk k' n' s' ks') .nil) w := ⟨_, rfl⟩
  have b1 : same (PV.str (loBC w [PV.int IntKind.i64 k', PV.int IntKind.i64 n', PV.str s', PV.slice (Dats.len ks') (Dats.cells ks')])) (PV.str y) = true := same_of (by rw [lb, hy])
  have b2 : same (PV.int IntKind.i64 (loEC w [PV.int IntKind.i64 k', PV.int IntKind.i64 n', PV.str s', PV.slice (Dats.len ks') (Dats.cells ks')])) (PV.int IntKind.i64 e) = true := same_of (by rw [le, he])
  refine Q.runSeq (SLg [] [(68, [(19, .str y), (20, .int .i64 e)])]) 100 68 hnt [1, 6, 7] (z := { t := [(1, PV.int IntKind.i64 w), (6, PV.str y), (7, PV.int IntKind.i64 e)], h := { bx := [{ cs := [PV.int IntKind.i64 k, PV.int IntKind.i64 n, PV.str s, PV.slice (Dats.len ks) (Dats.cells ks)], ty := 24 }, { cs := [PV.int IntKind.i64 k', PV.int IntKind.i64 n', PV.str s', PV.slice (Dats.len ks') (Dats.cells ks')], ty := 24 }], rw := [] } }) (o := [(true, true), (isSml [PV.int IntKind.i64 k', PV.int IntKind.i64 n', PV.str s', PV.slice (Dats.len ks') (Dats.cells ks')], true), (same (PV.str (loBC w [PV.int IntKind.i64 k', PV.int IntKind.i64 n', PV.str s', PV.slice (Dats.len ks') (Dats.cells ks')])) (PV.str y), true), (same (PV.int IntKind.i64 (loEC w [PV.int IntKind.i64 k', PV.int IntKind.i64 n', PV.str s', PV.slice (Dats.len ks') (Dats.cells ks')])) (PV.int IntKind.i64 e), true)]) (by kernel_rfl) (by ((repeat' (first | exact okO_nil | refine okN ?_ ?_)); all_goals first | assumption | rfl | exact same_of rfl | exact sameS_self _ | (simp only [decide_eq_true_eq, decide_eq_false_iff_not, Nat.ble_eq, Nat.beq_eq, beq_eq_false_iff_ne, beq_iff_eq, ne_eq] <;> omega))) ?_
  by_cases h0 : alE (.cons (.mk k' n' s' ks') .nil) w = 0
  case neg =>
    have c1 : (!e == (0 : Int)) = true := by rw [he, beqF h0]; rfl
    refine Q.seq fun K hK => ?_
    exact SWP.runQ (SLg [(68, [(22, true)])] []) 100 68 hnt [4] (e := .ret) (z := { t := [(4, PV.bool true)], h := { bx := [{ cs := [PV.int IntKind.i64 k, PV.int IntKind.i64 n, PV.str s, PV.slice (Dats.len ks) (Dats.cells ks)], ty := 24 }, { cs := [PV.int IntKind.i64 k', PV.int IntKind.i64 n', PV.str s', PV.slice (Dats.len ks') (Dats.cells ks')], ty := 24 }], rw := [] } }) (o := [(!e == (0 : Int), true), (true, true), (true, true)]) (by kernel_rfl) (by ((repeat' (first | exact okO_nil | refine okN ?_ ?_)); all_goals first | assumption | rfl | exact same_of rfl | exact sameS_self _ | (simp only [decide_eq_true_eq, decide_eq_false_iff_not, Nat.ble_eq, Nat.beq_eq, beq_eq_false_iff_ne, beq_iff_eq, ne_eq] <;> omega))) (fun st hst => fin st _ hst)
  have c1 : (!e == (0 : Int)) = false := by rw [he, h0]; rfl
  obtain ⟨h1, h2, h3⟩ := alE_zero h0
  have hf := chk_formed h1
  have hyl : y = mkS (layT w.toNat (.mk k' n' s' ks') 0 0 ++ [10]) := by rw [hy, alB, if_pos h0, aT_one]
  obtain ⟨g1, g2⟩ := line_leaf w.toNat (.mk k' n' s' ks') hf y hyl
  have hys : y.size ≤ 2000000 := by
    have hA : chkA (.cons (.mk k' n' s' ks') .nil) = 0 := by simp only [chkA, h1, if_true]
    have h0' := h0
    rw [alE, if_pos hA] at h0'
    split at h0'
    · split at h0'
      · rename_i q; rw [aT_one] at q; rw [hyl]; exact q
      · exact absurd h0' (by decide)
    · rename_i q; exact absurd h0' q
  clear hy he b1 b2 lb le
  refine Q.runSeq (SLg [(68, [(22, false)])] []) 100 68 hnt [1, 6] (z := { t := [(1, PV.int IntKind.i64 w), (6, PV.str y)], h := { bx := [{ cs := [PV.int IntKind.i64 k, PV.int IntKind.i64 n, PV.str s, PV.slice (Dats.len ks) (Dats.cells ks)], ty := 24 }, { cs := [PV.int IntKind.i64 k', PV.int IntKind.i64 n', PV.str s', PV.slice (Dats.len ks') (Dats.cells ks')], ty := 24 }], rw := [] } }) (o := [(!e == (0 : Int), false), (false, false)]) (by kernel_rfl) (by ((repeat' (first | exact okO_nil | refine okN ?_ ?_)); all_goals first | assumption | rfl | exact same_of rfl | exact sameS_self _ | (simp only [decide_eq_true_eq, decide_eq_false_iff_not, Nat.ble_eq, Nat.beq_eq, beq_eq_false_iff_ne, beq_iff_eq, ne_eq] <;> omega))) ?_
  refine Q.runSeq (SLg [] []) 100 68 hnt [1, 6, 8] (z := { t := [(1, PV.int IntKind.i64 w), (6, PV.str y), (8, PV.int IntKind.i64 (0 : Int))], h := { bx := [{ cs := [PV.int IntKind.i64 k, PV.int IntKind.i64 n, PV.str s, PV.slice (Dats.len ks) (Dats.cells ks)], ty := 24 }, { cs := [PV.int IntKind.i64 k', PV.int IntKind.i64 n', PV.str s', PV.slice (Dats.len ks') (Dats.cells ks')], ty := 24 }], rw := [] } }) (o := []) (by kernel_rfl) (by ((repeat' (first | exact okO_nil | refine okN ?_ ?_)); all_goals first | assumption | rfl | exact same_of rfl | exact sameS_self _ | (simp only [decide_eq_true_eq, decide_eq_false_iff_not, Nat.ble_eq, Nat.beq_eq, beq_eq_false_iff_ne, beq_iff_eq, ne_eq] <;> omega))) ?_
  refine Q.seq fun K hK => ?_
  refine Q.runSeq (SLg [] []) 100 68 hnt [1, 6, 8, 9] (z := { t := [(1, PV.int IntKind.i64 w), (6, PV.str y), (8, PV.int IntKind.i64 (0 : Int)), (9, PV.int IntKind.i64 (0 : Int))], h := { bx := [{ cs := [PV.int IntKind.i64 k, PV.int IntKind.i64 n, PV.str s, PV.slice (Dats.len ks) (Dats.cells ks)], ty := 24 }, { cs := [PV.int IntKind.i64 k', PV.int IntKind.i64 n', PV.str s', PV.slice (Dats.len ks') (Dats.cells ks')], ty := 24 }], rw := [] } }) (o := []) (by kernel_rfl) (by ((repeat' (first | exact okO_nil | refine okN ?_ ?_)); all_goals first | assumption | rfl | exact same_of rfl | exact sameS_self _ | (simp only [decide_eq_true_eq, decide_eq_false_iff_not, Nat.ble_eq, Nat.beq_eq, beq_eq_false_iff_ne, beq_iff_eq, ne_eq] <;> omega))) ?_
  refine Q.block ?_
  let T (i : Nat) : AS := ⟨[(1, .int .i64 w), (6, .str y), (8, .int .i64 (frm y i)), (9, .int .i64 i)], ⟨[DB k n s ks, DB k' n' s' ks'], []⟩⟩
  refine Q.loopI (σ := { i : Nat // i ≤ y.size }) [1, 6, 8, 9] (fun i => T i.1) (fun i => y.size - i.1) ⟨0, Nat.zero_le _⟩ rfl fun ⟨i, hi⟩ => ?_
  show SWP G0 C _ _ ⟨[(1, .int .i64 w), (6, .str y), (8, .int .i64 (frm y i)), (9, .int .i64 i)], ⟨[DB k n s ks, DB k' n' s' ks'], []⟩⟩
  have hfle := frm_le y i
  have hfn : frm y (i + 1) = if bt y (i : Int) = 10 then i + 1 else frm y i := rfl
  obtain ⟨f, hfe⟩ : ∃ f, f = frm y i := ⟨_, rfl⟩
  refine swp_st (st' := ⟨[(1, .int .i64 w), (6, .str y), (8, .int .i64 f), (9, .int .i64 i)], ⟨[DB k n s ks, DB k' n' s' ks'], []⟩⟩) (by rw [hfe]) ?_
  rw [← hfe] at hfle hfn
  rcases Nat.lt_or_ge i y.size with hlt | hge
  case inr =>
    have d1 := ge_at hge
    have hie : i = y.size := by omega
    refine SWP.runQ (SLg [(68, [(27, false)])] []) 100 68 hnt [6, 8] (e := .exit 0) (z := { t := [(6, PV.str y), (8, PV.int IntKind.i64 (Int.ofNat f))], h := { bx := [{ cs := [PV.int IntKind.i64 k, PV.int IntKind.i64 n, PV.str s, PV.slice (Dats.len ks) (Dats.cells ks)], ty := 24 }, { cs := [PV.int IntKind.i64 k', PV.int IntKind.i64 n', PV.str s', PV.slice (Dats.len ks') (Dats.cells ks')], ty := 24 }], rw := [] } }) (o := [(decide ((↑i : Int) < (↑(ByteArray.size y) : Int)), false), (false, false)]) (by kernel_rfl) (by ((repeat' (first | exact okO_nil | refine okN ?_ ?_)); all_goals first | assumption | rfl | exact same_of rfl | exact sameS_self _ | (simp only [decide_eq_true_eq, decide_eq_false_iff_not, Nat.ble_eq, Nat.beq_eq, beq_eq_false_iff_ne, beq_iff_eq, ne_eq] <;> omega))) (fun st hst => hK st (.norm [6, 8] ?_))
    rw [hst]
    have d2 : (Int.ofNat f == Int.ofNat (ByteArray.size y)) = true := by rw [hfe, hie, g1, beq_iff_eq]
    exact SWP.runQ (SLg [(68, [(64, true)])] []) 100 68 hnt [4] (e := .ret) (z := { t := [(4, PV.bool true)], h := { bx := [{ cs := [PV.int IntKind.i64 k, PV.int IntKind.i64 n, PV.str s, PV.slice (Dats.len ks) (Dats.cells ks)], ty := 24 }, { cs := [PV.int IntKind.i64 k', PV.int IntKind.i64 n', PV.str s', PV.slice (Dats.len ks') (Dats.cells ks')], ty := 24 }], rw := [] } }) (o := [(Int.ofNat f == Int.ofNat (ByteArray.size y), true), (true, true)]) (by kernel_rfl) (by ((repeat' (first | exact okO_nil | refine okN ?_ ?_)); all_goals first | assumption | rfl | exact same_of rfl | exact sameS_self _ | (simp only [decide_eq_true_eq, decide_eq_false_iff_not, Nat.ble_eq, Nat.beq_eq, beq_eq_false_iff_ne, beq_iff_eq, ne_eq] <;> omega))) (fun st hst => fin st _ hst)
  have d1 := lt_at hlt
  have d2 := in_at hlt
  have wi : IntKind.wrap IntKind.i64 (Int.ofNat (i + 1)) = ((i + 1 : Nat) : Int) := wrapI (i + 1) (by omega)
  by_cases h10 : bt y (i : Int) = 10
  case neg =>
    have d3 : (!bt y (Int.ofNat i) == (10 : Int)) = true := by rw [show bt y (Int.ofNat i) = bt y (i : Int) from rfl, beqF h10]; rfl
    rw [if_neg h10] at hfn
    exact SWP.runQ (SLg [(68, [(27, true), (32, true), (33, true)])] []) 100 68 hnt [1, 6, 8, 9] (e := .normal) (z := { t := [(1, PV.int IntKind.i64 w), (6, PV.str y), (8, PV.int IntKind.i64 (Int.ofNat f)), (9, PV.int IntKind.i64 (IntKind.wrap IntKind.i64 (Int.ofNat (i + 1))))], h := { bx := [{ cs := [PV.int IntKind.i64 k, PV.int IntKind.i64 n, PV.str s, PV.slice (Dats.len ks) (Dats.cells ks)], ty := 24 }, { cs := [PV.int IntKind.i64 k', PV.int IntKind.i64 n', PV.str s', PV.slice (Dats.len ks') (Dats.cells ks')], ty := 24 }], rw := [] } }) (o := [(decide ((↑i : Int) < (↑(ByteArray.size y) : Int)), true), (true, true), (decide (0 ≤ (↑i : Int) ∧ (↑i : Int) < (↑(ByteArray.size y) : Int)), true), (!bt y (Int.ofNat i) == (10 : Int), true), (true, true)]) (by kernel_rfl) (by ((repeat' (first | exact okO_nil | refine okN ?_ ?_)); all_goals first | assumption | rfl | exact same_of rfl | exact sameS_self _ | (simp only [decide_eq_true_eq, decide_eq_false_iff_not, Nat.ble_eq, Nat.beq_eq, beq_eq_false_iff_ne, beq_iff_eq, ne_eq] <;> omega))) (fun st hst => ⟨⟨i + 1, hlt⟩, Nat.sub_lt_sub_left hlt (Nat.lt_succ_self i), by rw [hst, wi]; simp only [T, hfn]; rfl⟩)
  have d3 : (!bt y (Int.ofNat i) == (10 : Int)) = false := by rw [show bt y (Int.ofNat i) = bt y (i : Int) from rfl, beqT h10]; rfl
  rw [if_pos h10] at hfn
  obtain ⟨ln, hln, hfine⟩ := g2 i hlt h10
  rw [← hfe] at hln
  obtain ⟨l, hl⟩ : ∃ l, l = mkS ln := ⟨_, rfl⟩
  have hlsz : l.size = ln.length := by rw [hl]; rfl
  have d4 : decide (0 ≤ (f : Int) ∧ (f : Int) ≤ (i : Int) ∧ (i : Int) ≤ ((ByteArray.size y : Nat) : Int)) = true := by rw [decide_eq_true_eq]; omega
  have d5 : same (PV.str (ByteArray.extract y (Int.toNat (Int.ofNat f)) (Int.toNat (Int.ofNat i)))) (PV.str l) = true := same_of (by
    rw [show ByteArray.extract y (Int.toNat (Int.ofNat f)) (Int.toNat (Int.ofNat i)) = y.extract f i from rfl, hln, hl])
  have done : ∀ st, nrm [1, 6, 8, 9] st = ⟨[(1, .int .i64 w), (6, .str y), (8, .int .i64 ((i + 1 : Nat) : Int)), (9, .int .i64 ((i + 1 : Nat) : Int))], ⟨[DB k n s ks, DB k' n' s' ks'], []⟩⟩ → ∃ z : { i : Nat // i ≤ y.size }, y.size - z.1 < y.size - i ∧ nrm [1, 6, 8, 9] st = T z.1 := fun st hst => ⟨⟨i + 1, hlt⟩, Nat.sub_lt_sub_left hlt (Nat.lt_succ_self i), by rw [hst]; simp only [T, hfn]⟩
  by_cases hw : ((ByteArray.size l : Nat) : Int) ≤ w
  · have d6 : decide (((ByteArray.size l : Nat) : Int) ≤ w) = true := decide_eq_true hw
    exact SWP.runQ (SLg [(68, [(27, true), (32, true), (33, false), (37, true), (43, true)])] [(68, [(37, .str l)])]) 100 68 hnt [1, 6, 8, 9] (e := .normal) (z := { t := [(1, PV.int IntKind.i64 w), (6, PV.str y), (8, PV.int IntKind.i64 (IntKind.wrap IntKind.i64 (Int.ofNat (i + 1)))), (9, PV.int IntKind.i64 (IntKind.wrap IntKind.i64 (Int.ofNat (i + 1))))], h := { bx := [{ cs := [PV.int IntKind.i64 k, PV.int IntKind.i64 n, PV.str s, PV.slice (Dats.len ks) (Dats.cells ks)], ty := 24 }, { cs := [PV.int IntKind.i64 k', PV.int IntKind.i64 n', PV.str s', PV.slice (Dats.len ks') (Dats.cells ks')], ty := 24 }], rw := [] } }) (o := [(decide ((i : Int) < ((ByteArray.size y : Nat) : Int)), true), (true, true), (decide (0 ≤ (i : Int) ∧ (i : Int) < ((ByteArray.size y : Nat) : Int)), true), (!bt y (Int.ofNat i) == (10 : Int), false), (false, false), (decide (0 ≤ (f : Int) ∧ (f : Int) ≤ (i : Int) ∧ (i : Int) ≤ ((ByteArray.size y : Nat) : Int)), true), (same (PV.str (ByteArray.extract y (Int.toNat (Int.ofNat f)) (Int.toNat (Int.ofNat i)))) (PV.str l), true), (decide (((ByteArray.size l : Nat) : Int) ≤ w), true), (true, true)]) (by kernel_rfl) (by ((repeat' (first | exact okO_nil | refine okN ?_ ?_)); all_goals first | assumption | rfl | exact same_of rfl | exact sameS_self _ | (simp only [decide_eq_true_eq, decide_eq_false_iff_not, Nat.ble_eq, Nat.beq_eq, beq_eq_false_iff_ne, beq_iff_eq, ne_eq] <;> omega))) (fun st hst => done st (by rw [hst, wi]; rfl))
  have d6 : decide (((ByteArray.size l : Nat) : Int) ≤ w) = false := decide_eq_false hw
  have hlen : ln.length ≤ 2000000 := by
    have : (y.extract f i).size = ln.length := by rw [hln]; rfl
    rw [ByteArray.size_extract] at this
    omega
  have hleaf : Leaf ln := by
    rcases hfine with h | h
    · exfalso; rw [hlsz] at hw; omega
    · exact h
  obtain ⟨p, c0, q, he, hp, hcr, hq⟩ := hleaf
  have hLC : LeafC l c0 := ⟨p, q, by rw [hl, he], hp, hcr, hq, by rw [← he]; omega⟩
  have d7 : isLeaf l = true := isLeaf_at hLC
  obtain ⟨c, ⟨p', q', e1, _, hcc, _, hlc⟩, htr⟩ := isLeaf_of d7
  obtain ⟨t, ht⟩ : ∃ t, t = mkS c := ⟨_, rfl⟩
  have d8 : same (PV.str (trC l)) (PV.str t) = true := same_of (by rw [htr, ht])
  have hcl : c.length ≤ 1099511627776 := by simp only [List.length_append] at hlc; omega
  have d9 : (ByteArray.toList t == []) = false := by rw [ht, toList_mkS, beq_eq_false_iff_ne]; exact core_ne hcc
  clear e1 hlc htr hLC he hcr
  rcases hcc with hcc | ⟨hne, hlet⟩
  · have d10 : (!ByteArray.toList t == ByteArray.toList brk) = false := by rw [ht, hcc, toList_mkS, toList_brk]; rfl
    exact SWP.runQ (SLg [(68, [(27, true), (32, true), (33, false), (37, true), (43, false), (47, false), (60, false)])] [(68, [(37, .str l), (45, .str t)])]) 100 68 hnt [1, 6, 8, 9] (e := .normal) (z := { t := [(1, PV.int IntKind.i64 w), (6, PV.str y), (8, PV.int IntKind.i64 (IntKind.wrap IntKind.i64 (Int.ofNat (i + 1)))), (9, PV.int IntKind.i64 (IntKind.wrap IntKind.i64 (Int.ofNat (i + 1))))], h := { bx := [{ cs := [PV.int IntKind.i64 k, PV.int IntKind.i64 n, PV.str s, PV.slice (Dats.len ks) (Dats.cells ks)], ty := 24 }, { cs := [PV.int IntKind.i64 k', PV.int IntKind.i64 n', PV.str s', PV.slice (Dats.len ks') (Dats.cells ks')], ty := 24 }], rw := [] } }) (o := [(decide ((i : Int) < ((ByteArray.size y : Nat) : Int)), true), (true, true), (decide (0 ≤ (i : Int) ∧ (i : Int) < ((ByteArray.size y : Nat) : Int)), true), (!bt y (Int.ofNat i) == (10 : Int), false), (false, false), (decide (0 ≤ (f : Int) ∧ (f : Int) ≤ (i : Int) ∧ (i : Int) ≤ ((ByteArray.size y : Nat) : Int)), true), (same (PV.str (ByteArray.extract y (Int.toNat (Int.ofNat f)) (Int.toNat (Int.ofNat i)))) (PV.str l), true), (decide (((ByteArray.size l : Nat) : Int) ≤ w), false), (false, false), (true, true), (isLeaf l, true), (same (PV.str (trC l)) (PV.str t), true), (!ByteArray.toList t == ByteArray.toList brk, false), (false, false), (ByteArray.toList t == [], false), (false, false)]) (by kernel_rfl) (by ((repeat' (first | exact okO_nil | refine okN ?_ ?_)); all_goals first | assumption | rfl | exact same_of rfl | exact sameS_self _ | (simp only [decide_eq_true_eq, decide_eq_false_iff_not, Nat.ble_eq, Nat.beq_eq, beq_eq_false_iff_ne, beq_iff_eq, ne_eq] <;> omega))) (fun st hst => done st (by rw [hst, wi]; rfl))
  have d10 : (!ByteArray.toList t == ByteArray.toList brk) = true := by
    rw [ht]
    refine neT fun h => ?_
    have := hlet 40 (by rw [h]; simp)
    exact absurd this (by decide)
  refine Q.runSeq (SLg [(68, [(27, true)])] []) 100 68 hnt [1, 6, 8, 9] (z := { t := [(1, PV.int IntKind.i64 w), (6, PV.str y), (8, PV.int IntKind.i64 (Int.ofNat f)), (9, PV.int IntKind.i64 (Int.ofNat i))], h := { bx := [{ cs := [PV.int IntKind.i64 k, PV.int IntKind.i64 n, PV.str s, PV.slice (Dats.len ks) (Dats.cells ks)], ty := 24 }, { cs := [PV.int IntKind.i64 k', PV.int IntKind.i64 n', PV.str s', PV.slice (Dats.len ks') (Dats.cells ks')], ty := 24 }], rw := [] } }) (o := [(decide ((↑i : Int) < (↑(ByteArray.size y) : Int)), true), (true, true)]) (by kernel_rfl) (by ((repeat' (first | exact okO_nil | refine okN ?_ ?_)); all_goals first | assumption | rfl | exact same_of rfl | exact sameS_self _ | (simp only [decide_eq_true_eq, decide_eq_false_iff_not, Nat.ble_eq, Nat.beq_eq, beq_eq_false_iff_ne, beq_iff_eq, ne_eq] <;> omega))) ?_
  refine Q.seq fun K3 hK3 => ?_
  refine Q.block ?_
  refine Q.runSeq (SLg [(68, [(32, true), (33, false)])] []) 100 68 hnt [1, 6, 8, 9] (z := { t := [(1, PV.int IntKind.i64 w), (6, PV.str y), (8, PV.int IntKind.i64 (Int.ofNat f)), (9, PV.int IntKind.i64 (Int.ofNat i))], h := { bx := [{ cs := [PV.int IntKind.i64 k, PV.int IntKind.i64 n, PV.str s, PV.slice (Dats.len ks) (Dats.cells ks)], ty := 24 }, { cs := [PV.int IntKind.i64 k', PV.int IntKind.i64 n', PV.str s', PV.slice (Dats.len ks') (Dats.cells ks')], ty := 24 }], rw := [] } }) (o := [(decide (0 ≤ (↑i : Int) ∧ (↑i : Int) < (↑(ByteArray.size y) : Int)), true), (!bt y (Int.ofNat i) == (10 : Int), false), (false, false)]) (by kernel_rfl) (by ((repeat' (first | exact okO_nil | refine okN ?_ ?_)); all_goals first | assumption | rfl | exact same_of rfl | exact sameS_self _ | (simp only [decide_eq_true_eq, decide_eq_false_iff_not, Nat.ble_eq, Nat.beq_eq, beq_eq_false_iff_ne, beq_iff_eq, ne_eq] <;> omega))) ?_
  refine Q.runSeq (SLg [(68, [(37, true)])] [(68, [(37, .str l)])]) 100 68 hnt [1, 6, 8, 9, 10] (z := { t := [(1, PV.int IntKind.i64 w), (6, PV.str y), (8, PV.int IntKind.i64 (Int.ofNat f)), (9, PV.int IntKind.i64 (Int.ofNat i)), (10, PV.str l)], h := { bx := [{ cs := [PV.int IntKind.i64 k, PV.int IntKind.i64 n, PV.str s, PV.slice (Dats.len ks) (Dats.cells ks)], ty := 24 }, { cs := [PV.int IntKind.i64 k', PV.int IntKind.i64 n', PV.str s', PV.slice (Dats.len ks') (Dats.cells ks')], ty := 24 }], rw := [] } }) (o := [(decide (0 ≤ (↑f : Int) ∧ (↑f : Int) ≤ (↑i : Int) ∧ (↑i : Int) ≤ (↑(ByteArray.size y) : Int)), true), (same (PV.str (ByteArray.extract y (Int.toNat (Int.ofNat f)) (Int.toNat (Int.ofNat i)))) (PV.str l), true)]) (by kernel_rfl) (by ((repeat' (first | exact okO_nil | refine okN ?_ ?_)); all_goals first | assumption | rfl | exact same_of rfl | exact sameS_self _ | (simp only [decide_eq_true_eq, decide_eq_false_iff_not, Nat.ble_eq, Nat.beq_eq, beq_eq_false_iff_ne, beq_iff_eq, ne_eq] <;> omega))) ?_
  refine Q.runSeq (SLg [] []) 100 68 hnt [1, 6, 8, 9, 10] (z := { t := [(1, PV.int IntKind.i64 w), (6, PV.str y), (8, PV.int IntKind.i64 (IntKind.wrap IntKind.i64 (Int.ofNat (i + 1)))), (9, PV.int IntKind.i64 (Int.ofNat i)), (10, PV.str l)], h := { bx := [{ cs := [PV.int IntKind.i64 k, PV.int IntKind.i64 n, PV.str s, PV.slice (Dats.len ks) (Dats.cells ks)], ty := 24 }, { cs := [PV.int IntKind.i64 k', PV.int IntKind.i64 n', PV.str s', PV.slice (Dats.len ks') (Dats.cells ks')], ty := 24 }], rw := [] } }) (o := []) (by kernel_rfl) (by ((repeat' (first | exact okO_nil | refine okN ?_ ?_)); all_goals first | assumption | rfl | exact same_of rfl | exact sameS_self _ | (simp only [decide_eq_true_eq, decide_eq_false_iff_not, Nat.ble_eq, Nat.beq_eq, beq_eq_false_iff_ne, beq_iff_eq, ne_eq] <;> omega))) ?_
  rw [wi]
  obtain ⟨f, hf1⟩ : ∃ g, g = i + 1 := ⟨_, rfl⟩
  refine swp_st (st' := ⟨[(1, .int .i64 w), (6, .str y), (8, .int .i64 f), (9, .int .i64 i), (10, .str l)], ⟨[DB k n s ks, DB k' n' s' ks'], []⟩⟩) (by rw [hf1]; rfl) ?_
  refine Q.runSeq (SLg [(68, [(43, false)])] []) 100 68 hnt [1, 6, 8, 9, 10] (z := { t := [(1, PV.int IntKind.i64 w), (6, PV.str y), (8, PV.int IntKind.i64 (Int.ofNat f)), (9, PV.int IntKind.i64 (Int.ofNat i)), (10, PV.str l)], h := { bx := [{ cs := [PV.int IntKind.i64 k, PV.int IntKind.i64 n, PV.str s, PV.slice (Dats.len ks) (Dats.cells ks)], ty := 24 }, { cs := [PV.int IntKind.i64 k', PV.int IntKind.i64 n', PV.str s', PV.slice (Dats.len ks') (Dats.cells ks')], ty := 24 }], rw := [] } }) (o := [(decide ((↑(ByteArray.size l) : Int) ≤ w), false), (false, false)]) (by kernel_rfl) (by ((repeat' (first | exact okO_nil | refine okN ?_ ?_)); all_goals first | assumption | rfl | exact same_of rfl | exact sameS_self _ | (simp only [decide_eq_true_eq, decide_eq_false_iff_not, Nat.ble_eq, Nat.beq_eq, beq_eq_false_iff_ne, beq_iff_eq, ne_eq] <;> omega))) ?_
  refine Q.runSeq (SLg [] [(68, [(45, .str t)])]) 100 68 hnt [1, 6, 8, 9, 11] (z := { t := [(1, PV.int IntKind.i64 w), (6, PV.str y), (8, PV.int IntKind.i64 (Int.ofNat f)), (9, PV.int IntKind.i64 (Int.ofNat i)), (11, PV.str t)], h := { bx := [{ cs := [PV.int IntKind.i64 k, PV.int IntKind.i64 n, PV.str s, PV.slice (Dats.len ks) (Dats.cells ks)], ty := 24 }, { cs := [PV.int IntKind.i64 k', PV.int IntKind.i64 n', PV.str s', PV.slice (Dats.len ks') (Dats.cells ks')], ty := 24 }], rw := [] } }) (o := [(true, true), (isLeaf l, true), (same (PV.str (trC l)) (PV.str t), true)]) (by kernel_rfl) (by ((repeat' (first | exact okO_nil | refine okN ?_ ?_)); all_goals first | assumption | rfl | exact same_of rfl | exact sameS_self _ | (simp only [decide_eq_true_eq, decide_eq_false_iff_not, Nat.ble_eq, Nat.beq_eq, beq_eq_false_iff_ne, beq_iff_eq, ne_eq] <;> omega))) ?_
  refine Q.seq fun K4 hK4 => ?_
  refine Q.runSeq (SLg [(68, [(47, true)])] []) 100 68 hnt [1, 6, 8, 9, 11, 47] (z := { t := [(1, PV.int IntKind.i64 w), (6, PV.str y), (8, PV.int IntKind.i64 (Int.ofNat f)), (9, PV.int IntKind.i64 (Int.ofNat i)), (11, PV.str t), (47, PV.bool true)], h := { bx := [{ cs := [PV.int IntKind.i64 k, PV.int IntKind.i64 n, PV.str s, PV.slice (Dats.len ks) (Dats.cells ks)], ty := 24 }, { cs := [PV.int IntKind.i64 k', PV.int IntKind.i64 n', PV.str s', PV.slice (Dats.len ks') (Dats.cells ks')], ty := 24 }], rw := [] } }) (o := [(!ByteArray.toList t == ByteArray.toList brk, true)]) (by kernel_rfl) (by ((repeat' (first | exact okO_nil | refine okN ?_ ?_)); all_goals first | assumption | rfl | exact same_of rfl | exact sameS_self _ | (simp only [decide_eq_true_eq, decide_eq_false_iff_not, Nat.ble_eq, Nat.beq_eq, beq_eq_false_iff_ne, beq_iff_eq, ne_eq] <;> omega))) ?_
  refine Q.cond (b := true) rfl (fun _ => ?_) (fun h => by cases h)
  refine Q.runSeq (SLg [] []) 100 68 hnt [1, 6, 8, 9, 11, 12] (z := { t := [(1, PV.int IntKind.i64 w), (6, PV.str y), (8, PV.int IntKind.i64 (Int.ofNat f)), (9, PV.int IntKind.i64 (Int.ofNat i)), (11, PV.str t), (12, PV.int IntKind.i64 (0 : Int))], h := { bx := [{ cs := [PV.int IntKind.i64 k, PV.int IntKind.i64 n, PV.str s, PV.slice (Dats.len ks) (Dats.cells ks)], ty := 24 }, { cs := [PV.int IntKind.i64 k', PV.int IntKind.i64 n', PV.str s', PV.slice (Dats.len ks') (Dats.cells ks')], ty := 24 }], rw := [] } }) (o := []) (by kernel_rfl) (by ((repeat' (first | exact okO_nil | refine okN ?_ ?_)); all_goals first | assumption | rfl | exact same_of rfl | exact sameS_self _ | (simp only [decide_eq_true_eq, decide_eq_false_iff_not, Nat.ble_eq, Nat.beq_eq, beq_eq_false_iff_ne, beq_iff_eq, ne_eq] <;> omega))) ?_
  refine Q.block ?_
  let T2 (j : Nat) : AS := ⟨[(1, .int .i64 w), (6, .str y), (8, .int .i64 f), (9, .int .i64 i), (11, .str t), (12, .int .i64 j)], ⟨[DB k n s ks, DB k' n' s' ks'], []⟩⟩
  have hts : t.size = c.length := by rw [ht]; rfl
  refine Q.loopI (σ := { j : Nat // j ≤ t.size }) [1, 6, 8, 9, 11, 12] (fun j => T2 j.1) (fun j => t.size - j.1) ⟨0, Nat.zero_le _⟩ rfl fun ⟨j, hj⟩ => ?_
  show SWP G0 C _ _ ⟨[(1, .int .i64 w), (6, .str y), (8, .int .i64 f), (9, .int .i64 i), (11, .str t), (12, .int .i64 j)], ⟨[DB k n s ks, DB k' n' s' ks'], []⟩⟩
  rcases Nat.lt_or_ge j t.size with hjl | hjg
  · have e1 := lt_at hjl
    have e2 := in_at hjl
    have e3 : decide (0 ≤ bt t (j : Int) ∧ bt t (j : Int) < 256) = true := decide_eq_true (bt_in t j)
    have hjc : j < c.length := by omega
    have hbj : bt t (j : Int) = (c[j].toNat : Int) := by rw [ht]; exact bt_at c j hjc
    have e4 : (!letC (bt t (Int.ofNat j))) = false := by
      rw [show bt t (Int.ofNat j) = bt t (j : Int) from rfl, hbj, hlet _ (List.getElem_mem _)]; rfl
    have wj : IntKind.wrap IntKind.i64 (Int.ofNat (j + 1)) = ((j + 1 : Nat) : Int) := wrapI (j + 1) (by omega)
    exact SWP.runQ (SLg [(68, [(51, true), (56, true), (58, false)])] []) 100 68 hnt [1, 6, 8, 9, 11, 12] (e := .normal) (z := { t := [(1, PV.int IntKind.i64 w), (6, PV.str y), (8, PV.int IntKind.i64 (Int.ofNat f)), (9, PV.int IntKind.i64 (Int.ofNat i)), (11, PV.str t), (12, PV.int IntKind.i64 (IntKind.wrap IntKind.i64 (Int.ofNat (j + 1))))], h := { bx := [{ cs := [PV.int IntKind.i64 k, PV.int IntKind.i64 n, PV.str s, PV.slice (Dats.len ks) (Dats.cells ks)], ty := 24 }, { cs := [PV.int IntKind.i64 k', PV.int IntKind.i64 n', PV.str s', PV.slice (Dats.len ks') (Dats.cells ks')], ty := 24 }], rw := [] } }) (o := [(decide ((↑j : Int) < (↑(ByteArray.size t) : Int)), true), (true, true), (decide (0 ≤ (↑j : Int) ∧ (↑j : Int) < (↑(ByteArray.size t) : Int)), true), (true, true), (decide (0 ≤ bt t (↑j : Int) ∧ bt t (↑j : Int) < 256), true), (!letC (bt t (Int.ofNat j)), false), (false, false)]) (by kernel_rfl) (by ((repeat' (first | exact okO_nil | refine okN ?_ ?_)); all_goals first | assumption | rfl | exact same_of rfl | exact sameS_self _ | (simp only [decide_eq_true_eq, decide_eq_false_iff_not, Nat.ble_eq, Nat.beq_eq, beq_eq_false_iff_ne, beq_iff_eq, ne_eq] <;> omega))) (fun st hst => ⟨⟨j + 1, hjl⟩, Nat.sub_lt_sub_left hjl (Nat.lt_succ_self j), by rw [hst, wj]; rfl⟩)
  · have e1 := ge_at hjg
    refine SWP.runQ (SLg [(68, [(51, false)])] []) 100 68 hnt [1, 6, 8, 9, 11] (e := .exit 2) (z := { t := [(1, PV.int IntKind.i64 w), (6, PV.str y), (8, PV.int IntKind.i64 (Int.ofNat f)), (9, PV.int IntKind.i64 (Int.ofNat i)), (11, PV.str t)], h := { bx := [{ cs := [PV.int IntKind.i64 k, PV.int IntKind.i64 n, PV.str s, PV.slice (Dats.len ks) (Dats.cells ks)], ty := 24 }, { cs := [PV.int IntKind.i64 k', PV.int IntKind.i64 n', PV.str s', PV.slice (Dats.len ks') (Dats.cells ks')], ty := 24 }], rw := [] } }) (o := [(decide ((↑j : Int) < (↑(ByteArray.size t) : Int)), false), (false, false)]) (by kernel_rfl) (by ((repeat' (first | exact okO_nil | refine okN ?_ ?_)); all_goals first | assumption | rfl | exact same_of rfl | exact sameS_self _ | (simp only [decide_eq_true_eq, decide_eq_false_iff_not, Nat.ble_eq, Nat.beq_eq, beq_eq_false_iff_ne, beq_iff_eq, ne_eq] <;> omega))) (fun st hst => hK4 st (.norm [1, 6, 8, 9, 11] ?_))
    rw [hst]
    refine SWP.runQ (SLg [(68, [(60, false)])] []) 100 68 hnt [1, 6, 8, 9] (e := .normal) (z := { t := [(1, PV.int IntKind.i64 w), (6, PV.str y), (8, PV.int IntKind.i64 (Int.ofNat f)), (9, PV.int IntKind.i64 (Int.ofNat i))], h := { bx := [{ cs := [PV.int IntKind.i64 k, PV.int IntKind.i64 n, PV.str s, PV.slice (Dats.len ks) (Dats.cells ks)], ty := 24 }, { cs := [PV.int IntKind.i64 k', PV.int IntKind.i64 n', PV.str s', PV.slice (Dats.len ks') (Dats.cells ks')], ty := 24 }], rw := [] } }) (o := [(ByteArray.toList t == [], false), (false, false)]) (by kernel_rfl) (by ((repeat' (first | exact okO_nil | refine okN ?_ ?_)); all_goals first | assumption | rfl | exact same_of rfl | exact sameS_self _ | (simp only [decide_eq_true_eq, decide_eq_false_iff_not, Nat.ble_eq, Nat.beq_eq, beq_eq_false_iff_ne, beq_iff_eq, ne_eq] <;> omega))) (fun st hst => hK3 st (.norm [1, 6, 8, 9] ?_))
    rw [hst]
    exact SWP.runQ (SLg [] []) 100 68 hnt [1, 6, 8, 9] (e := .normal) (z := { t := [(1, PV.int IntKind.i64 w), (6, PV.str y), (8, PV.int IntKind.i64 (Int.ofNat f)), (9, PV.int IntKind.i64 (IntKind.wrap IntKind.i64 (Int.ofNat (i + 1))))], h := { bx := [{ cs := [PV.int IntKind.i64 k, PV.int IntKind.i64 n, PV.str s, PV.slice (Dats.len ks) (Dats.cells ks)], ty := 24 }, { cs := [PV.int IntKind.i64 k', PV.int IntKind.i64 n', PV.str s', PV.slice (Dats.len ks') (Dats.cells ks')], ty := 24 }], rw := [] } }) (o := []) (by kernel_rfl) (by ((repeat' (first | exact okO_nil | refine okN ?_ ?_)); all_goals first | assumption | rfl | exact same_of rfl | exact sameS_self _ | (simp only [decide_eq_true_eq, decide_eq_false_iff_not, Nat.ble_eq, Nat.beq_eq, beq_eq_false_iff_ne, beq_iff_eq, ne_eq] <;> omega))) (fun st hst => done st (by rw [hst, wi, hf1]; rfl))
end Seat
end Go.Proofs.YtkblfapbakfgpaaDoor
