/- Texts of this session, packed: Lay12, Lay13, Lay14, Lay15, Law2, Law3, Law8, Law9, Flat3. -/
import Derived.Test.YtkblfapbakfgpaaDoorLa6
/- Layout: the lines of a layout (no program in sight). -/
namespace Go.Proofs.YtkblfapbakfgpaaDoor
open Go.AS Go.RowKit
set_option linter.unusedVariables false
set_option linter.unusedSimpArgs false
set_option maxRecDepth 100000
namespace Seat
/-- The lines, the last one first. -/
def lS : Snk (List (List UInt8)) := ⟨fun t L => match L with
  | [] => [t]
  | l :: r => (l ++ t) :: r, fun n L => List.replicate n 32 :: L, fun _ => true⟩
def joinR : List (List UInt8) → List UInt8
  | [] => []
  | [l] => l
  | l :: l2 :: r => joinR (l2 :: r) ++ 10 :: l
def maxL : List (List UInt8) → Nat
  | [] => 0
  | l :: r => max l.length (maxL r)
theorem joinR_text (l t : List UInt8) : ∀ r, joinR ((l ++ t) :: r) = joinR (l :: r) ++ t
  | [] => rfl
  | l2 :: r => by simp [joinR]
theorem joinR_line (l : List UInt8) : ∀ L, L ≠ [] → joinR (l :: L) = joinR L ++ 10 :: l
  | [], h => absurd rfl h
  | l2 :: r, _ => rfl
theorem sim_lr : Sim lS rS (fun L y => L ≠ [] ∧ y = joinR L) :=
  ⟨fun t L y ⟨h1, h2⟩ => by
    cases L with
    | nil => exact absurd rfl h1
    | cons l r => exact ⟨by simp [lS], by subst h2; exact (joinR_text l t r).symm⟩, fun n L y ⟨h1, h2⟩ => ⟨by simp [lS], by subst h2; exact (joinR_line _ L h1).symm⟩, fun L y h _ => by simp [lS] at h, fun y => rfl⟩
theorem sim_lm : Sim lS mS (fun L x => L ≠ [] ∧ x = (L.length, (L.headD []).length, maxL L)) :=
  ⟨fun t L x ⟨h1, h2⟩ => by
    cases L with
    | nil => exact absurd rfl h1
    | cons l r =>
      refine ⟨by simp [lS], ?_⟩
      subst h2
      simp only [lS, mS, List.headD_cons, List.length_append, List.length_cons, maxL, Prod.mk.injEq, true_and]
      omega, fun n L x ⟨h1, h2⟩ => by
    refine ⟨by simp [lS], ?_⟩
    subst h2
    simp only [lS, mS, List.headD_cons, List.length_cons, List.length_replicate, maxL, Prod.mk.injEq, true_and]
    omega, fun L y h _ => by simp [lS] at h, fun y => rfl⟩
/-- The lines of a layout. -/
def linL (w : Nat) (d : Dat) : List (List UInt8) := layG lS w d 0 0 [[]]
theorem linL_text (w : Nat) (d : Dat) : linL w d ≠ [] ∧ layT w d 0 0 = joinR (linL w d) := (sim sim_lr w).1 d 0 0 [[]] [] ⟨by simp, rfl⟩
theorem linL_met (w : Nat) (d : Dat) : layG mS w d 0 0 (1, 0, 0) = ((linL w d).length, ((linL w d).headD []).length, maxL (linL w d)) := ((sim sim_lm w).1 d 0 0 [[]] (1, 0, 0) ⟨by simp, rfl⟩).2
/-- No line's end within. -/
def no10 (l : List UInt8) : Prop := ∀ x ∈ l, x ≠ 10
theorem no10_app {a b : List UInt8} (ha : no10 a) (hb : no10 b) : no10 (a ++ b) := fun x hx => (List.mem_append.1 hx).elim (ha x) (hb x)
theorem no10_cons {a : UInt8} {b : List UInt8} (ha : a ≠ 10) (hb : no10 b) : no10 (a :: b) := fun x hx => (List.mem_cons.1 hx).elim (fun h => h ▸ ha) (hb x)
theorem no10_nil : no10 [] := fun x hx => by cases hx
theorem no10_rep (n : Nat) : no10 (List.replicate n 32) := fun x hx => by rw [(List.mem_replicate.1 hx).2]; decide
theorem dig_ne (u : Nat) : no10 (Go.Lib.decDigits u) := by
  intro x hx
  rw [Go.Lib.decDigits_eq] at hx
  obtain ⟨t, _, rfl⟩ := List.mem_map.1 hx
  unfold Go.Lib.dg
  intro h
  have := congrArg UInt8.toNat h
  simp only [UInt8.toNat_ofNat'] at this
  have h2 : (10 : UInt8).toNat = 10 := rfl
  rw [h2] at this
  omega
theorem itoa_no10 (n : Int) : no10 (Go.Lib.itoa n) := by
  rw [Go.Lib.itoa]
  split
  · exact no10_cons (by decide) (dig_ne _)
  · exact dig_ne _
theorem sym_no10 {s : ByteArray} (h : symOk s = true) : no10 s.data.toList := by
  intro x hx
  obtain ⟨i, hi, rfl⟩ := List.getElem_of_mem hx
  have h2 : (List.range s.size).all (fun i => letC (bt s i)) = true := by
    simp only [symOk, Bool.and_eq_true] at h
    exact h.2
  have hi' : i < s.size := by simpa using hi
  have h3 := List.all_eq_true.1 h2 i (List.mem_range.2 hi')
  have hb : bt s (i : Int) = ((s.data.toList[i]'hi).toNat : Int) := by
    unfold bt
    rw [dif_pos (by simpa using hi')]
    rfl
  rw [hb] at h3
  intro h10
  rw [h10] at h3
  revert h3
  decide
mutual
theorem text_no10 : ∀ d : Dat, formedD d = true → no10 (textD d)
  | .mk k n s ks, h => by
    rw [textD]
    split
    · exact itoa_no10 n
    · split
      · rename_i h1 h2
        subst h2
        simp only [formedD] at h
        have hs : symOk s = true := by
          have h' : (n = 0 ∧ symOk s = true) ∧ ks.len = 0 := by simpa using h
          exact h'.1.2
        exact sym_no10 hs
      · have hk : formedL ks = true := by
          simp only [formedD, Bool.or_eq_true, Bool.and_eq_true, decide_eq_true_eq] at h
          rcases h with (h | h) | h
          · omega
          · omega
          · exact h.2
        exact no10_cons (by decide) (no10_app (text_no10L ks true hk) (no10_cons (by decide) no10_nil))
theorem text_no10L : ∀ (ks : Dats) (f : Bool), formedL ks = true → no10 (textL f ks)
  | .nil, f, _ => by simp only [textL]; exact no10_nil
  | .cons d ds, f, h => by
    simp only [formedL, Bool.and_eq_true] at h
    simp only [textL]
    refine no10_app ?_ (no10_app (text_no10 d h.1) (text_no10L ds false h.2))
    cases f
    · exact no10_cons (by decide) no10_nil
    · exact no10_nil
end
/-- A property that texts without line's ends and new lines keep. -/
theorem lay_inv {σ : Type} {S : Snk σ} {I : σ → Prop} (ht : ∀ t x, no10 t → I x → I (S.text t x)) (hl : ∀ n x, I x → I (S.line n x)) (w : Nat) : ∀ N : Nat, (∀ (d : Dat), d.size < N → formedD d = true → ∀ (c r : Nat) (x : σ), I x → I (layG S w d c r x)) ∧ (∀ (ks : Dats), ks.size < N → formedL ks = true → ∀ (f : Bool) (c r : Nat) (l : Bool) (x : σ), I x → I (layGL S w ks f c r l x)) := by
  intro N
  induction N with
  | zero => exact ⟨fun d h => by omega, fun d h => by omega⟩
  | succ N ih =>
    refine ⟨fun d hd hf c r x hI => ?_, fun ks hk hf f c r l x hI => ?_⟩
    · obtain ⟨k, n, s, ks⟩ := d
      rw [layG]
      split
      · split
        · exact ht _ _ (text_no10 _ hf) hI
        · rename_i hc
          have hk : formedL ks = true := by
            simp only [formedD, Bool.or_eq_true, Bool.and_eq_true, decide_eq_true_eq] at hf
            rcases hf with (h | h) | h
            · exact absurd (.inl h.2) hc
            · exact absurd (.inl h.2) hc
            · exact h.2
          exact ht _ _ (no10_cons (by decide) no10_nil) (ih.2 ks (by simp only [Dat.size] at hd; omega) hk _ _ _ _ _ (ht _ _ (no10_cons (by decide) no10_nil) hI))
      · exact hI
    · cases ks with
      | nil => exact hI
      | cons d ds =>
        simp only [formedL, Bool.and_eq_true] at hf
        rw [layGL]
        refine ih.2 ds (by simp only [Dats.size] at hk; omega) hf.2 _ _ _ _ _ (ih.1 d (by simp only [Dats.size] at hk; omega) hf.1 _ _ _ ?_)
        split
        · exact hI
        · exact hl _ _ hI
theorem linL_no10 (w : Nat) (d : Dat) (hf : formedD d = true) : ∀ l ∈ linL w d, no10 l :=
  (lay_inv (S := lS) (I := fun L => ∀ l ∈ L, no10 l) (fun t L ht hI => by
    cases L with
    | nil =>
      intro l hl
      simp only [lS, List.mem_singleton] at hl
      subst hl; exact ht
    | cons a r =>
      intro l hl
      simp only [lS, List.mem_cons] at hl
      rcases hl with rfl | hl
      · exact no10_app (hI a (by simp)) ht
      · exact hI l (by simp [hl])) (fun n L hI l hl => by
    simp only [lS, List.mem_cons] at hl
    rcases hl with rfl | hl
    · exact no10_rep n
    · exact hI l hl) w (d.size + 1)).1 d (by omega) hf 0 0 [[]] (by intro l hl; simp only [List.mem_singleton] at hl; subst hl; exact no10_nil)
end Seat
end Go.Proofs.YtkblfapbakfgpaaDoor
/- Layout: the document's Lines and Wide. -/
namespace Go.Proofs.YtkblfapbakfgpaaDoor
open Go.AS Go.RowKit
set_option linter.unusedVariables false
set_option linter.unusedSimpArgs false
set_option maxRecDepth 100000
set_option maxHeartbeats 4000000
namespace Seat
def sR (rc : List PV) (m : Nat) : Row := ⟨rc, m, 9, 1⟩
noncomputable def SLn (l : List (Nat × List (Nat × Bool))) : Cfg G0 := { F := F, hF := hF, S := fun _ _ => none, hS := (fun _ _ _ _ h => by cases h), orc := orcM l }
/-- Where the line begins that byte i is in; the lines that end before it. -/
def frm (s : ByteArray) : Nat → Nat
  | 0 => 0
  | i + 1 => if bt s (i : Int) = 10 then i + 1 else frm s i
def rowL (s : ByteArray) : Nat → List PV
  | 0 => []
  | i + 1 => if bt s (i : Int) = 10 then rowL s i ++ [.str (s.extract (frm s i) i)] else rowL s i
theorem frm_le (s : ByteArray) : ∀ i, frm s i ≤ i
  | 0 => Nat.le_refl _
  | i + 1 => by rw [frm]; have := frm_le s i; split <;> omega
theorem rowL_le (s : ByteArray) : ∀ i, (rowL s i).length ≤ i
  | 0 => Nat.le_refl _
  | i + 1 => by rw [rowL]; have := rowL_le s i; split <;> simp <;> omega
def lnV (rc : List PV) : PV := if rc.length = 0 then .nil else .own 0 rc.length
def lnR (rc : List PV) : List (Option Row) := if rc.length = 0 then [] else [some (sR rc rc.length)]
theorem reflines_ok (s : ByteArray) (hs : s.size ≤ 1099511627776) (h0 : 0 < (rowL s s.size).length) : Fresh G0 27 [.str s] (sR (rowL s s.size) (rowL s s.size).length) := by
  refine Fn.enterF Tryd.func27 Tryd.ntmps27 rfl (Nat.le_of_ble_eq_true rfl) fun C fr hnt hfr => ?_
  refine Q.runSeq (SLn []) 100 26 hnt [0] (z := { t := [(0, PV.str s)], h := { bx := [], rw := [] } }) (o := []) (by kernel_rfl) (by ((repeat' (first | exact okO_nil | refine okN ?_ ?_)); all_goals first | assumption | rfl | exact same_of rfl | exact sameS_self _ | (simp only [decide_eq_true_eq, decide_eq_false_iff_not, Nat.ble_eq, Nat.beq_eq, beq_eq_false_iff_ne, beq_iff_eq, ne_eq] <;> omega))) ?_
  refine Q.runSeq (SLn []) 100 26 hnt [0, 3] (z := { t := [(0, PV.str s), (3, PV.nil)], h := { bx := [], rw := [] } }) (o := []) (by kernel_rfl) (by ((repeat' (first | exact okO_nil | refine okN ?_ ?_)); all_goals first | assumption | rfl | exact same_of rfl | exact sameS_self _ | (simp only [decide_eq_true_eq, decide_eq_false_iff_not, Nat.ble_eq, Nat.beq_eq, beq_eq_false_iff_ne, beq_iff_eq, ne_eq] <;> omega))) ?_
  refine Q.runSeq (SLn []) 100 26 hnt [0, 3, 4] (z := { t := [(0, PV.str s), (3, PV.nil), (4, PV.int IntKind.i64 (0 : Int))], h := { bx := [], rw := [] } }) (o := []) (by kernel_rfl) (by ((repeat' (first | exact okO_nil | refine okN ?_ ?_)); all_goals first | assumption | rfl | exact same_of rfl | exact sameS_self _ | (simp only [decide_eq_true_eq, decide_eq_false_iff_not, Nat.ble_eq, Nat.beq_eq, beq_eq_false_iff_ne, beq_iff_eq, ne_eq] <;> omega))) ?_
  refine Q.seq fun K hK => ?_
  let T (i : Nat) : AS := ⟨[(0, .str s), (3, lnV (rowL s i)), (4, .int .i64 (frm s i)), (5, .int .i64 i)], ⟨[], lnR (rowL s i)⟩⟩
  refine Q.runSeq (SLn []) 100 26 hnt [0, 3, 4, 5] (z := T 0) (o := []) (by kernel_rfl) okO_nil ?_
  refine Q.block ?_
  refine Q.loopI (σ := { j : Nat // j ≤ s.size }) [0, 3, 4, 5] (fun j => T j.1) (fun j => s.size - j.1) ⟨0, Nat.zero_le _⟩ rfl fun ⟨i, hi⟩ => ?_
  show SWP G0 C _ _ ⟨[(0, .str s), (3, lnV (rowL s i)), (4, .int .i64 (frm s i)), (5, .int .i64 i)], ⟨[], lnR (rowL s i)⟩⟩
  have hfm := frm_le s i
  have hrl := rowL_le s i
  rcases Nat.lt_or_ge i s.size with hlt | hge
  · have d2 := lt_at hlt
    have d3 := in_at hlt
    have wi : IntKind.wrap IntKind.i64 (Int.ofNat (i + 1)) = ((i + 1 : Nat) : Int) := wrapC (i + 1) (by omega)
    have hR : rowL s (i + 1) = if bt s (i : Int) = 10 then rowL s i ++ [.str (s.extract (frm s i) i)] else rowL s i := rfl
    have hF : frm s (i + 1) = if bt s (i : Int) = 10 then i + 1 else frm s i := rfl
    obtain ⟨rc, hrc⟩ : ∃ x, x = rowL s i := ⟨_, rfl⟩
    obtain ⟨fm, hfe⟩ : ∃ x, x = frm s i := ⟨_, rfl⟩
    rw [← hrc] at hrl hR ⊢
    rw [← hfe] at hfm hF ⊢
    rw [← hfe] at hR
    by_cases hb : bt s (i : Int) = 10
    · have d4 : (bt s (i : Int) == (10 : Int)) = true := by rw [beq_iff_eq]; exact hb
      have d5 : decide (0 ≤ (↑fm : Int) ∧ (↑fm : Int) ≤ (↑i : Int) ∧ (↑i : Int) ≤ (↑(ByteArray.size s) : Int)) = true := by rw [decide_eq_true_eq]; omega
      rw [if_pos hb] at hR hF
      by_cases hz : rc.length = 0
      · rw [lnV, lnR, if_pos hz, if_pos hz]
        have hn : rc = [] := List.eq_nil_of_length_eq_zero hz
        refine SWP.runQ (SLn [(26, [(9, true), (14, true), (15, true), (20, true), (22, true)])]) 100 26 hnt [0, 3, 4, 5] (e := .normal) (z := { t := [(0, PV.str s), (3, PV.own 0 1), (4, PV.int IntKind.i64 (IntKind.wrap IntKind.i64 (Int.ofNat (i + 1)))), (5, PV.int IntKind.i64 (IntKind.wrap IntKind.i64 (Int.ofNat (i + 1))))], h := { bx := [], rw := [some { cs := [PV.str (ByteArray.extract s (Int.toNat (Int.ofNat fm)) (Int.toNat (Int.ofNat i)))], n := 1, ty := 9, sz := 1 }] } }) (o := [(decide ((↑i : Int) < (↑(ByteArray.size s) : Int)), true), (true, true), (decide (0 ≤ (↑i : Int) ∧ (↑i : Int) < (↑(ByteArray.size s) : Int)), true), (bt s (Int.ofNat i) == (10 : Int), true), (true, true), (decide (0 ≤ (↑fm : Int) ∧ (↑fm : Int) ≤ (↑i : Int) ∧ (↑i : Int) ≤ (↑(ByteArray.size s) : Int)), true), (true, true), (true, true), (true, true)]) (by kernel_rfl) (by ((repeat' (first | exact okO_nil | refine okN ?_ ?_)); all_goals first | assumption | rfl | exact same_of rfl | exact sameS_self _ | (simp only [decide_eq_true_eq, decide_eq_false_iff_not, Nat.ble_eq, Nat.beq_eq, beq_eq_false_iff_ne, beq_iff_eq, ne_eq] <;> omega))) (fun st hs => ⟨⟨i + 1, hlt⟩, Nat.sub_lt_sub_left hlt (Nat.lt_succ_self i), ?_⟩)
        rw [hs, wi]
        simp only [T, hR, hF, hn]
        rfl
      · obtain ⟨m, hm⟩ : ∃ m, m = rc.length := ⟨_, rfl⟩
        have hz' : ¬ (rc ++ [PV.str (s.extract fm i)]).length = 0 := by simp
        rw [lnV, lnR, if_neg hz, if_neg hz, ← hm]
        have d6 : Nat.ble ((m + 1) * 16) 140737488355328 = true := by rw [Nat.ble_eq]; omega
        have d7 : Nat.ble (m + 1) 9223372036854775807 = true := by rw [Nat.ble_eq]; omega
        refine SWP.runQ (SLn [(26, [(9, true), (14, true), (15, true), (20, true), (22, true)])]) 100 26 hnt [0, 3, 4, 5] (e := .normal) (z := { t := [(0, PV.str s), (3, PV.own 0 (m + 1)), (4, PV.int IntKind.i64 (IntKind.wrap IntKind.i64 (Int.ofNat (i + 1)))), (5, PV.int IntKind.i64 (IntKind.wrap IntKind.i64 (Int.ofNat (i + 1))))], h := { bx := [], rw := [some { cs := rc ++ [PV.str (ByteArray.extract s (Int.toNat (Int.ofNat fm)) (Int.toNat (Int.ofNat i)))], n := m + 1, ty := 9, sz := 1 }] } }) (o := [(decide ((↑i : Int) < (↑(ByteArray.size s) : Int)), true), (true, true), (decide (0 ≤ (↑i : Int) ∧ (↑i : Int) < (↑(ByteArray.size s) : Int)), true), (bt s (Int.ofNat i) == (10 : Int), true), (true, true), (decide (0 ≤ (↑fm : Int) ∧ (↑fm : Int) ≤ (↑i : Int) ∧ (↑i : Int) ≤ (↑(ByteArray.size s) : Int)), true), (true, true), (Nat.ble ((m + 1) * 16) 140737488355328, true), (Nat.ble (m + 1) 9223372036854775807, true)]) (by kernel_rfl) (by ((repeat' (first | exact okO_nil | refine okN ?_ ?_)); all_goals first | assumption | rfl | exact same_of rfl | exact sameS_self _ | (simp only [decide_eq_true_eq, decide_eq_false_iff_not, Nat.ble_eq, Nat.beq_eq, beq_eq_false_iff_ne, beq_iff_eq, ne_eq] <;> omega))) (fun st hs => ⟨⟨i + 1, hlt⟩, Nat.sub_lt_sub_left hlt (Nat.lt_succ_self i), ?_⟩)
        rw [hs, wi]
        simp only [T, hR, hF, lnV, lnR, if_neg hz', List.length_append, List.length_cons, List.length_nil, ← hm]
        rfl
    · have d4 : (bt s (i : Int) == (10 : Int)) = false := by rw [beq_eq_false_iff_ne]; exact hb
      rw [if_neg hb] at hR hF
      by_cases hz : rc.length = 0
      · refine SWP.norm [0, 3, 4, 5] ?_
        rw [lnV, lnR, if_pos hz, if_pos hz]
        refine SWP.runQ (SLn [(26, [(9, true), (14, true), (15, false)])]) 100 26 hnt [0, 3, 4, 5] (e := .normal) (z := { t := [(0, PV.str s), (3, PV.nil), (4, PV.int IntKind.i64 (Int.ofNat fm)), (5, PV.int IntKind.i64 (IntKind.wrap IntKind.i64 (Int.ofNat (i + 1))))], h := { bx := [], rw := [] } }) (o := [(decide ((↑i : Int) < (↑(ByteArray.size s) : Int)), true), (true, true), (decide (0 ≤ (↑i : Int) ∧ (↑i : Int) < (↑(ByteArray.size s) : Int)), true), (bt s (Int.ofNat i) == (10 : Int), false), (false, false)]) (by kernel_rfl) (by ((repeat' (first | exact okO_nil | refine okN ?_ ?_)); all_goals first | assumption | rfl | exact same_of rfl | exact sameS_self _ | (simp only [decide_eq_true_eq, decide_eq_false_iff_not, Nat.ble_eq, Nat.beq_eq, beq_eq_false_iff_ne, beq_iff_eq, ne_eq] <;> omega))) (fun st hs => ⟨⟨i + 1, hlt⟩, Nat.sub_lt_sub_left hlt (Nat.lt_succ_self i), ?_⟩)
        rw [hs, wi]
        simp only [T, hR, hF, lnV, lnR, if_pos hz]
        rfl
      · obtain ⟨m, hm⟩ : ∃ m, m = rc.length := ⟨_, rfl⟩
        rw [lnV, lnR, if_neg hz, if_neg hz, ← hm]
        refine SWP.runQ (SLn [(26, [(9, true), (14, true), (15, false)])]) 100 26 hnt [0, 3, 4, 5] (e := .normal) (z := { t := [(0, PV.str s), (3, PV.own 0 m), (4, PV.int IntKind.i64 (Int.ofNat fm)), (5, PV.int IntKind.i64 (IntKind.wrap IntKind.i64 (Int.ofNat (i + 1))))], h := { bx := [], rw := [some { cs := rc, n := m, ty := 9, sz := 1 }] } }) (o := [(decide ((↑i : Int) < (↑(ByteArray.size s) : Int)), true), (true, true), (decide (0 ≤ (↑i : Int) ∧ (↑i : Int) < (↑(ByteArray.size s) : Int)), true), (bt s (Int.ofNat i) == (10 : Int), false), (false, false)]) (by kernel_rfl) (by ((repeat' (first | exact okO_nil | refine okN ?_ ?_)); all_goals first | assumption | rfl | exact same_of rfl | exact sameS_self _ | (simp only [decide_eq_true_eq, decide_eq_false_iff_not, Nat.ble_eq, Nat.beq_eq, beq_eq_false_iff_ne, beq_iff_eq, ne_eq] <;> omega))) (fun st hs => ⟨⟨i + 1, hlt⟩, Nat.sub_lt_sub_left hlt (Nat.lt_succ_self i), ?_⟩)
        rw [hs, wi]
        have hz2 : ¬ m = 0 := by omega
        simp only [T, hR, hF, lnV, lnR, ← hm, if_neg hz2]
        rfl
  · obtain rfl : i = s.size := by omega
    have d2 := ge_at hge
    obtain ⟨rc, hrc⟩ : ∃ x, x = rowL s s.size := ⟨_, rfl⟩
    obtain ⟨fm, hfe⟩ : ∃ x, x = frm s s.size := ⟨_, rfl⟩
    rw [← hrc] at hrl h0 hfr ⊢
    rw [← hfe]
    have hz : ¬ rc.length = 0 := by omega
    obtain ⟨m, hm⟩ : ∃ m, m = rc.length := ⟨_, rfl⟩
    rw [lnV, lnR, if_neg hz, if_neg hz, ← hm]
    rw [← hm] at hfr
    refine SWP.runQ (SLn [(26, [(9, false)])]) 100 26 hnt [3] (e := .exit 0) (z := { t := [(3, PV.own 0 m)], h := { bx := [], rw := [some { cs := rc, n := m, ty := 9, sz := 1 }] } }) (o := [(decide ((s.size : Int) < (s.size : Int)), false), (false, false)]) (by kernel_rfl) (by ((repeat' (first | exact okO_nil | refine okN ?_ ?_)); all_goals first | assumption | rfl | exact same_of rfl | exact sameS_self _ | (simp only [decide_eq_true_eq, decide_eq_false_iff_not, Nat.ble_eq, Nat.beq_eq, beq_eq_false_iff_ne, beq_iff_eq, ne_eq] <;> omega))) (fun st hs => hK st (.norm [3] ?_))
    rw [hs]
    refine SWP.runQ (SLn []) 100 26 hnt [2] (e := .ret) (z := { t := [(2, PV.own 0 m)], h := { bx := [], rw := [some { cs := rc, n := m, ty := 9, sz := 1 }] } }) (o := []) (by kernel_rfl) (by ((repeat' (first | exact okO_nil | refine okN ?_ ?_)); all_goals first | assumption | rfl | exact same_of rfl | exact sameS_self _ | (simp only [decide_eq_true_eq, decide_eq_false_iff_not, Nat.ble_eq, Nat.beq_eq, beq_eq_false_iff_ne, beq_iff_eq, ne_eq] <;> omega))) (fun st hs => hfr st [2] ?_)
    rw [hs]
    exact ⟨0, rfl, rfl⟩
end Seat
end Go.Proofs.YtkblfapbakfgpaaDoor
/- Layout: the document's Wide. -/
namespace Go.Proofs.YtkblfapbakfgpaaDoor
open Go.AS Go.RowKit
set_option linter.unusedVariables false
set_option linter.unusedSimpArgs false
set_option maxRecDepth 100000
set_option maxHeartbeats 4000000
namespace Seat
def rlW (f : Nat) (args : List PV) : Option (Row × Ob) := match f, args with
  | 27, [.str s] => some (sR (rowL s s.size) (rowL s s.size).length, [(Nat.ble s.size 1099511627776, true), (Nat.ble 1 (rowL s s.size).length, true)])
  | _, _ => none
theorem rlW_ok (f : Nat) (args : List PV) (row : Row) (o : Ob) (h : rlW f args = some (row, o)) (ho : ∀ p ∈ o, p.1 = p.2) : Fresh G0 f args row := by
  unfold rlW at h
  split at h
  · rename_i s
    cases h
    have h1 := ho (Nat.ble s.size 1099511627776, true) (by simp)
    have h2 := ho (Nat.ble 1 (rowL s s.size).length, true) (by simp)
    simp only [Nat.ble_eq] at h1 h2
    exact reflines_ok s h1 h2
  · cases h
noncomputable def SLw (l : List (Nat × List (Nat × Bool))) (v : List (Nat × List (Nat × PV))) : Cfg G0 := { F := F, hF := hF, S := fun _ _ => none, hS := (fun _ _ _ _ h => by cases h), W := rlW, hW := rlW_ok, orc := orcM l, val := valM v }
noncomputable def SLw0 : Cfg G0 := SLw [] []
theorem SWP.frz0 {C : Ctx} {Q : AEx → AS → Prop} {st : AS} {c : Code} (rs : List Nat) (h : SWP G0 C c Q (frz rs st)) : SWP G0 C c Q st := fun E a w hr => by
  obtain ⟨E', r⟩ := hr.frz (rs := rs)
  exact h E' a w r
def szP : PV → Nat
  | .str t => t.size
  | _ => 0
def wdN (rc : List PV) : Nat → Nat
  | 0 => 0
  | i + 1 => max (wdN rc i) (szP ((rc.drop i).headD .junk))
theorem rowL_str (s : ByteArray) : ∀ i, ∀ x ∈ rowL s i, ∃ t, x = .str t
  | 0, x, h => by simp [rowL] at h
  | i + 1, x, h => by
    rw [rowL] at h
    split at h
    · rcases List.mem_append.1 h with h | h
      · exact rowL_str s i x h
      · exact ⟨_, List.mem_singleton.1 h⟩
    · exact rowL_str s i x h
theorem refwide_ok (s : ByteArray) (hs : s.size ≤ 1099511627776) (h0 : 0 < (rowL s s.size).length) : Pure G0 28 [.str s] (fun r => r = .int .i64 (wdN (rowL s s.size) (rowL s s.size).length : Nat)) := by
  refine Fn.enterB Tryd.func28 Tryd.ntmps28 rfl (Nat.le_of_ble_eq_true rfl) fun C fr fp hnt hnb hp hfr hfp => ?_
  refine Q.runSeq SLw0 100 22 hnt [0] (z := { t := [(0, PV.str s)], h := { bx := [], rw := [] } }) (o := []) (by kernel_rfl) (by ((repeat' (first | exact okO_nil | refine okN ?_ ?_)); all_goals first | assumption | rfl | exact same_of rfl | exact sameS_self _ | (simp only [decide_eq_true_eq, decide_eq_false_iff_not, Nat.ble_eq, Nat.beq_eq, beq_eq_false_iff_ne, beq_iff_eq, ne_eq] <;> omega))) ?_
  refine Q.runSeq SLw0 100 22 hnt [0, 3] (z := { t := [(0, PV.str s), (3, PV.int IntKind.i64 (0 : Int))], h := { bx := [], rw := [] } }) (o := []) (by kernel_rfl) (by ((repeat' (first | exact okO_nil | refine okN ?_ ?_)); all_goals first | assumption | rfl | exact same_of rfl | exact sameS_self _ | (simp only [decide_eq_true_eq, decide_eq_false_iff_not, Nat.ble_eq, Nat.beq_eq, beq_eq_false_iff_ne, beq_iff_eq, ne_eq] <;> omega))) ?_
  have b1 : Nat.ble s.size 1099511627776 = true := by rw [Nat.ble_eq]; exact hs
  have b2 : Nat.ble 1 (rowL s s.size).length = true := by rw [Nat.ble_eq]; exact h0
  have hst := rowL_str s s.size
  have hle := rowL_le s s.size
  refine Q.runSeq SLw0 100 22 hnt [3, 4] (z := ⟨[(3, .int .i64 0), (4, .own 0 (rowL s s.size).length)], ⟨[], [some (sR (rowL s s.size) (rowL s s.size).length)]⟩⟩) (o := [(true, true), (Nat.ble s.size 1099511627776, true), (Nat.ble 1 (rowL s s.size).length, true)]) (by kernel_rfl) (by ((repeat' (first | exact okO_nil | refine okN ?_ ?_)); all_goals first | assumption | rfl | exact same_of rfl | exact sameS_self _ | (simp only [decide_eq_true_eq, decide_eq_false_iff_not, Nat.ble_eq, Nat.beq_eq, beq_eq_false_iff_ne, beq_iff_eq, ne_eq] <;> omega))) ?_
  obtain ⟨rc, hrc⟩ : ∃ x, x = rowL s s.size := ⟨_, rfl⟩
  rw [← hrc] at h0 hst hle hfr ⊢
  refine SWP.frz0 [0] ?_
  show SWP G0 C _ _ ⟨[(3, .int .i64 0), (4, .slice rc.length rc)], ⟨[], [none]⟩⟩
  obtain ⟨m, hm⟩ : ∃ m, m = rc.length := ⟨_, rfl⟩
  rw [← hm] at hle hfr ⊢
  refine Q.seq fun K hK => ?_
  refine Q.runSeq SLw0 100 22 hnt [3, 4, 5] (z := { t := [(3, PV.int IntKind.i64 (0 : Int)), (4, PV.slice m rc), (5, PV.int IntKind.i64 (0 : Int))], h := { bx := [], rw := [none] } }) (o := []) (by kernel_rfl) (by ((repeat' (first | exact okO_nil | refine okN ?_ ?_)); all_goals first | assumption | rfl | exact same_of rfl | exact sameS_self _ | (simp only [decide_eq_true_eq, decide_eq_false_iff_not, Nat.ble_eq, Nat.beq_eq, beq_eq_false_iff_ne, beq_iff_eq, ne_eq] <;> omega))) ?_
  refine Q.block ?_
  refine Q.loopI (σ := { j : Nat // j ≤ m }) [3, 4, 5] (fun j => ⟨[(3, .int .i64 (wdN rc j.1 : Nat)), (4, .slice m rc), (5, .int .i64 j.1)], ⟨[], [none]⟩⟩) (fun j => m - j.1) ⟨0, Nat.zero_le _⟩ rfl fun ⟨i, hi⟩ => ?_
  show SWP G0 C _ _ ⟨[(3, .int .i64 (wdN rc i : Nat)), (4, .slice m rc), (5, .int .i64 i)], ⟨[], [none]⟩⟩
  have hW : wdN rc (i + 1) = max (wdN rc i) (szP ((rc.drop i).headD .junk)) := rfl
  obtain ⟨mo, hmo⟩ : ∃ x, x = wdN rc i := ⟨_, rfl⟩
  rcases Nat.lt_or_ge i m with hlt | hge
  · have d2 := lt_at hlt
    have d3 := in_at hlt
    have wi : IntKind.wrap IntKind.i64 (Int.ofNat (i + 1)) = ((i + 1 : Nat) : Int) := wrapC (i + 1) (by omega)
    have hil : i < rc.length := by omega
    obtain ⟨t, ht⟩ := hst (rc[i]) (List.getElem_mem hil)
    have hd : (rc.drop i).headD .junk = .str t := by rw [List.drop_eq_getElem_cons hil, ← ht]; rfl
    have d4 : decide (TD.size d9 ≤ List.length (List.drop (Int.toNat (↑i : Int) * TD.size d9) rc)) = true := by
      rw [decide_eq_true_eq, List.length_drop]
      show 1 ≤ rc.length - Int.toNat (i : Int) * 1
      rw [Int.toNat_natCast]; omega
    have d5 : same (List.headD (List.drop (Int.toNat (↑i : Int) * TD.size d9) rc) PV.junk) (PV.str t) = true := same_of (by
      rw [← hd]
      show List.headD (List.drop (Int.toNat (i : Int) * 1) rc) PV.junk = _
      rw [Int.toNat_natCast, Nat.mul_one])
    rw [hd, ← hmo] at hW
    rw [← hmo]
    refine SWP.runQ (SLw [(22, [(11, true), (17, true), (18, true)])] [(22, [(18, .str t)])]) 100 22 hnt [3, 4, 5] (e := .normal) (z := { t := [(3, PV.int IntKind.i64 (if (↑(ByteArray.size t) : Int) > (↑mo : Int) then Int.ofNat (ByteArray.size t) else Int.ofNat mo)), (4, PV.slice m rc), (5, PV.int IntKind.i64 (IntKind.wrap IntKind.i64 (Int.ofNat (i + 1))))], h := { bx := [], rw := [none] } }) (o := [(decide ((↑i : Int) < (↑m : Int)), true), (true, true), (decide (0 ≤ (↑i : Int) ∧ (↑i : Int) < (↑m : Int)), true), (decide (TD.size d9 ≤ List.length (List.drop (Int.toNat (↑i : Int) * TD.size d9) rc)), true), (same (List.headD (List.drop (Int.toNat (↑i : Int) * TD.size d9) rc) PV.junk) (PV.str t), true)]) (by kernel_rfl) (by ((repeat' (first | exact okO_nil | refine okN ?_ ?_)); all_goals first | assumption | rfl | exact same_of rfl | exact sameS_self _ | (simp only [decide_eq_true_eq, decide_eq_false_iff_not, Nat.ble_eq, Nat.beq_eq, beq_eq_false_iff_ne, beq_iff_eq, ne_eq] <;> omega))) (fun st hs => ⟨⟨i + 1, hlt⟩, Nat.sub_lt_sub_left hlt (Nat.lt_succ_self i), ?_⟩)
    rw [hs, wi]
    simp only [hW, szP, Int.ofNat_eq_natCast, mxC]
  · obtain rfl : i = m := by omega
    have d2 := ge_at hge
    rw [← hmo] at hfr ⊢
    refine SWP.runQ (SLw [(22, [(11, false)])] []) 100 22 hnt [3] (e := .exit 0) (z := ⟨[(3, .int .i64 (mo : Nat))], ⟨[], [none]⟩⟩) (o := [(decide ((↑i : Int) < (↑i : Int)), false), (false, false)]) (by kernel_rfl) (by ((repeat' (first | exact okO_nil | refine okN ?_ ?_)); all_goals first | assumption | rfl | exact same_of rfl | exact sameS_self _ | (simp only [decide_eq_true_eq, decide_eq_false_iff_not, Nat.ble_eq, Nat.beq_eq, beq_eq_false_iff_ne, beq_iff_eq, ne_eq] <;> omega))) (fun st hs => hK st (.norm [3] ?_))
    rw [hs]
    refine SWP.runQ (SLw [] []) 100 22 hnt [2] (e := .ret) (z := { t := [(2, PV.int IntKind.i64 (Int.ofNat mo))], h := { bx := [], rw := [none] } }) (o := []) (by kernel_rfl) (by ((repeat' (first | exact okO_nil | refine okN ?_ ?_)); all_goals first | assumption | rfl | exact same_of rfl | exact sameS_self _ | (simp only [decide_eq_true_eq, decide_eq_false_iff_not, Nat.ble_eq, Nat.beq_eq, beq_eq_false_iff_ne, beq_iff_eq, ne_eq] <;> omega))) (fun st hs => hfr st [2] ?_)
    rw [hs]
    exact ⟨0, .int .i64 (mo : Nat), Nat.le_refl _, Nat.zero_le _, rfl, rfl, rfl, rfl, _, rfl, rfl⟩
end Seat
end Go.Proofs.YtkblfapbakfgpaaDoor
/- Layout: the document's Lines and Wide of a layout (no program in sight). -/
namespace Go.Proofs.YtkblfapbakfgpaaDoor
open Go.AS Go.RowKit
set_option linter.unusedVariables false
set_option linter.unusedSimpArgs false
set_option maxRecDepth 100000
namespace Seat
theorem bt_at (y : List UInt8) (i : Nat) (h : i < y.length) : bt (mkS y) (i : Int) = (y[i].toNat : Int) := by
  unfold bt
  have : (i : Int).toNat < (mkS y).size := by rw [Int.toNat_natCast, mkS_size]; exact h
  rw [dif_pos this]
  rfl
theorem scan (y a l rest : List UInt8) (hy : y = a ++ (l ++ 10 :: rest)) (hl : no10 l) (ha : frm (mkS y) a.length = a.length) :
    frm (mkS y) (a.length + l.length + 1) = a.length + l.length + 1 ∧ rowL (mkS y) (a.length + l.length + 1) = rowL (mkS y) a.length ++ [.str (mkS l)] := by
  have hin : ∀ j, j ≤ l.length → frm (mkS y) (a.length + j) = a.length ∧ rowL (mkS y) (a.length + j) = rowL (mkS y) a.length := by
    intro j
    induction j with
    | zero => intro _; exact ⟨ha, rfl⟩
    | succ j ih =>
      intro hj
      obtain ⟨h1, h2⟩ := ih (by omega)
      have hlen : a.length + j < y.length := by rw [hy]; simp; omega
      have hb : bt (mkS y) ((a.length + j : Nat) : Int) ≠ 10 := by
        rw [bt_at y _ hlen]
        have hg : y[a.length + j] = l[j]'(by omega) := by
          simp only [hy]
          rw [List.getElem_append_right (by omega), List.getElem_append_left (by omega)]
          simp
        rw [hg]
        have := hl (l[j]'(by omega)) (List.getElem_mem _)
        intro h
        apply this
        apply UInt8.toNat_inj.1
        have h10 : (10 : UInt8).toNat = 10 := rfl
        rw [h10]
        omega
      rw [show a.length + (j + 1) = a.length + j + 1 from rfl, frm, rowL, if_neg hb, if_neg hb]
      exact ⟨h1, h2⟩
  obtain ⟨h1, h2⟩ := hin l.length (Nat.le_refl _)
  have hlen : a.length + l.length < y.length := by rw [hy]; simp
  have hb : bt (mkS y) ((a.length + l.length : Nat) : Int) = 10 := by
    rw [bt_at y _ hlen]
    have hg : y[a.length + l.length] = 10 := by
      simp only [hy]
      rw [List.getElem_append_right (by omega), List.getElem_append_right (by omega)]
      simp
    rw [hg]; rfl
  rw [frm, rowL, if_pos hb, if_pos hb, h1, h2]
  refine ⟨rfl, ?_⟩
  congr 3
  apply ByteArray.ext
  apply Array.ext'
  simp only [mkS, ByteArray.data_extract, Array.toList_extract, List.extract_eq_take_drop]
  rw [hy]
  simp
theorem rows_of : ∀ (L : List (List UInt8)) (rest y : List UInt8), L ≠ [] → (∀ l ∈ L, no10 l) → y = joinR L ++ 10 :: rest →
    frm (mkS y) ((joinR L).length + 1) = (joinR L).length + 1 ∧ (rowL (mkS y) ((joinR L).length + 1)).length = L.length ∧ wdN (rowL (mkS y) ((joinR L).length + 1)) L.length = maxL L
  | [], _, _, h, _, _ => absurd rfl h
  | [l], rest, y, _, hn, hy => by
    obtain ⟨h1, h2⟩ := scan y [] l rest (by simpa [joinR] using hy) (hn l (by simp)) rfl
    simp only [List.length_nil, Nat.zero_add] at h1 h2
    simp only [joinR]
    refine ⟨h1, ?_, ?_⟩
    · rw [h2]; rfl
    · rw [h2]
      show max 0 (szP (.str (mkS l))) = max l.length 0
      simp only [szP, mkS_size]
      omega
  | l :: l2 :: r, rest, y, _, hn, hy => by
    have hy2 : y = joinR (l2 :: r) ++ 10 :: (l ++ 10 :: rest) := by rw [hy]; simp [joinR]
    obtain ⟨h1, h2, h3⟩ := rows_of (l2 :: r) (l ++ 10 :: rest) y (by simp) (fun a ha => hn a (by simp only [List.mem_cons] at ha ⊢; exact .inr ha)) hy2
    obtain ⟨g1, g2⟩ := scan y (joinR (l2 :: r) ++ [10]) l rest (by rw [hy2]; simp) (hn l (by simp)) (by simpa using h1)
    have hlen : (joinR (l :: l2 :: r)).length + 1 = (joinR (l2 :: r) ++ [10]).length + l.length + 1 := by simp [joinR]; omega
    have hlen2 : (joinR (l2 :: r) ++ [10]).length = (joinR (l2 :: r)).length + 1 := by simp
    rw [hlen]
    refine ⟨g1, ?_, ?_⟩
    · rw [g2, List.length_append, hlen2, h2]; rfl
    · rw [g2, hlen2]
      have happ : ∀ (rc : List PV) (x : PV) (i : Nat), i ≤ rc.length → wdN (rc ++ [x]) i = wdN rc i := by
        intro rc x i
        induction i with
        | zero => intro _; rfl
        | succ i ih =>
          intro hi
          rw [wdN, wdN, ih (by omega), List.drop_append_of_le_length (by omega)]
          have : (rc.drop i) ≠ [] := by intro h; have := congrArg List.length h; simp at this; omega
          cases hd : rc.drop i with
          | nil => exact absurd hd this
          | cons a b => rfl
      show wdN _ ((l2 :: r).length + 1) = max l.length (maxL (l2 :: r))
      rw [wdN, happ _ _ _ (by rw [h2]; exact Nat.le_refl _), h3]
      have hd : List.drop (l2 :: r).length (rowL (mkS y) ((joinR (l2 :: r)).length + 1) ++ [PV.str (mkS l)]) = [PV.str (mkS l)] := by
        rw [← h2]; simp
      rw [hd]
      simp only [List.headD_cons, szP, mkS_size]
      omega
/-- Lines and Wide of a layout are what a meter tells. -/
theorem lines_meter (w : Nat) (d : Dat) (hf : formedD d = true) :
    (rowL (mkS (layT w d 0 0 ++ [10])) (mkS (layT w d 0 0 ++ [10])).size).length = (layG mS w d 0 0 (1, 0, 0)).1 ∧ 0 < (layG mS w d 0 0 (1, 0, 0)).1 ∧
    wdN (rowL (mkS (layT w d 0 0 ++ [10])) (mkS (layT w d 0 0 ++ [10])).size) (rowL (mkS (layT w d 0 0 ++ [10])) (mkS (layT w d 0 0 ++ [10])).size).length = (layG mS w d 0 0 (1, 0, 0)).2.2 := by
  obtain ⟨h1, h2⟩ := linL_text w d
  obtain ⟨g1, g2, g3⟩ := rows_of (linL w d) [] (layT w d 0 0 ++ [10]) h1 (linL_no10 w d hf) (by rw [h2])
  have hs : (mkS (layT w d 0 0 ++ [10])).size = (joinR (linL w d)).length + 1 := by rw [mkS_size, ← h2]; simp
  rw [hs, g2, linL_met]
  refine ⟨rfl, ?_, g3⟩
  rcases Nat.eq_zero_or_pos (linL w d).length with h | h
  · exact absurd (List.eq_nil_of_length_eq_zero h) h1
  · exact h
end Seat
end Go.Proofs.YtkblfapbakfgpaaDoor
/- Layout: the statement LayoutLines, by the laws of its parts. Printed by dev/law2.py and dev/nfsub.py (this session's). -/
namespace Go.Proofs.YtkblfapbakfgpaaDoor
open Go.AS Go.RowKit
set_option linter.unusedVariables false
set_option linter.unusedSimpArgs false
set_option maxRecDepth 100000
set_option maxHeartbeats 4000000
namespace Seat
noncomputable def lvC (w : Int) (cs : List PV) : Nat := ofCells (fun d => (metR d w).2.2) 0 cs
noncomputable def linS (f : Nat) (args : List PV) : Option (PV × Ob) := match f, args with
  | 21, [.agg cs, .int .i64 w] => some (.tup [.int .i64 (llC w cs), .int .i64 (loEC w cs)], [(isSml cs, true)])
  | 26, [.agg cs, .int .i64 w] => some (.tup [.int .i64 (lvC w cs), .int .i64 (loEC w cs)], [(isSml cs, true)])
  | 28, [.str s] => some (.int .i64 (wdN (rowL s s.size) (rowL s s.size).length : Nat), [(Nat.ble s.size 1099511627776, true), (Nat.ble 1 (rowL s s.size).length, true)])
  | f, args => lawS f args
theorem linS_ok (f : Nat) (args : List PV) (r : PV) (o : Ob) (h : linS f args = some (r, o)) (ho : ∀ p ∈ o, p.1 = p.2) (hp : pureL args = true) : Pure G0 f args (fun x => x = r) := by
  unfold linS at h
  split at h
  · rename_i cs w
    cases h
    obtain ⟨d, rfl, h1⟩ := isSml_of (ho (isSml cs, true) (List.mem_singleton.2 rfl))
    unfold llC loEC
    rw [ofCells_at, ofCells_at]
    exact lines_ok d h1 w
  · rename_i cs w
    cases h
    obtain ⟨d, rfl, h1⟩ := isSml_of (ho (isSml cs, true) (List.mem_singleton.2 rfl))
    unfold lvC loEC
    rw [ofCells_at, ofCells_at]
    exact wide_ok d h1 w
  · rename_i s
    cases h
    have h1 := ho (Nat.ble s.size 1099511627776, true) (by simp)
    have h2 := ho (Nat.ble 1 (rowL s s.size).length, true) (by simp)
    simp only [Nat.ble_eq] at h1 h2
    exact refwide_ok s h1 h2
  · exact lawS_ok f args r o h ho hp
noncomputable def SLin (l : List (Nat × List (Nat × Bool))) (v : List (Nat × List (Nat × PV))) : Cfg G0 := { F := F, hF := hF, S := linS, hS := linS_ok, W := rlW, hW := rlW_ok, orc := orcM l, val := valM v }
theorem lines_law (d : Dat) (hd : d.ok) (hr : d.rng) (w : Int) : Pure G0 8 [.agg d.cells, .int .i64 w] (fun r => r = .bool true) := by
  obtain ⟨k', n', s', ks', hc⟩ := Dat.is_mk (cutD d 1020 2000).1
  have hS : Small (cutD d 1020 2000).1 := cut_small d hd hr 2000 1020 (by omega) (by omega)
  rw [hc] at hS
  obtain ⟨k, n, s, ks⟩ := d
  have a1 : isOk [PV.int IntKind.i64 k, PV.int IntKind.i64 n, PV.str s, PV.slice (Dats.len ks) (Dats.cells ks)] = true := isOk_at (d := .mk k n s ks) hd
  have a2 := cut_cells k n k' n' s s' ks ks' hc
  have a3 : isSml [PV.int IntKind.i64 k', PV.int IntKind.i64 n', PV.str s', PV.slice (Dats.len ks') (Dats.cells ks')] = true := isSml_at (d := .mk k' n' s' ks') hS
  have lw : lwC w [PV.int IntKind.i64 k', PV.int IntKind.i64 n', PV.str s', PV.slice (Dats.len ks') (Dats.cells ks')] = lawE (.mk k' n' s' ks') w := ofCells_at _ _ (.mk k' n' s' ks')
  have ll : llC w [PV.int IntKind.i64 k', PV.int IntKind.i64 n', PV.str s', PV.slice (Dats.len ks') (Dats.cells ks')] = (metR (.mk k' n' s' ks') w).1 := ofCells_at _ _ (.mk k' n' s' ks')
  have lv : lvC w [PV.int IntKind.i64 k', PV.int IntKind.i64 n', PV.str s', PV.slice (Dats.len ks') (Dats.cells ks')] = (metR (.mk k' n' s' ks') w).2.2 := ofCells_at _ _ (.mk k' n' s' ks')
  have le : loEC w [PV.int IntKind.i64 k', PV.int IntKind.i64 n', PV.str s', PV.slice (Dats.len ks') (Dats.cells ks')] = alE (.cons (.mk k' n' s' ks') .nil) w := ofCells_at _ _ (.mk k' n' s' ks')
  have la : laC w.toNat [PV.int IntKind.i64 k', PV.int IntKind.i64 n', PV.str s', PV.slice (Dats.len ks') (Dats.cells ks')] = layT w.toNat (.mk k' n' s' ks') 0 0 ++ [10] := ofCells_at _ _ (.mk k' n' s' ks')
  refine Fn.enterB Tryd.func8 Tryd.ntmps8 rfl (Nat.le_of_ble_eq_true rfl) fun C fr fp hnt hnb hp hfr hfp => ?_
  have fin : ∀ st H, nrm [4] st = ⟨[(4, .bool true)], H⟩ → fr st := fun st H hst => hfr st [4] (by
    rw [hst]
    exact ⟨0, .bool true, Nat.le_refl _, Nat.zero_le _, rfl, rfl, rfl, rfl, _, rfl, rfl⟩)
  have met0 : alE (.cons (.mk k' n' s' ks') .nil) w ≠ 0 → (Int.ofNat (llC w [PV.int IntKind.i64 k', PV.int IntKind.i64 n', PV.str s', PV.slice (Dats.len ks') (Dats.cells ks')]) == (0 : Int)) = true ∧ (Int.ofNat (lvC w [PV.int IntKind.i64 k', PV.int IntKind.i64 n', PV.str s', PV.slice (Dats.len ks') (Dats.cells ks')]) == (0 : Int)) = true := fun h => by
    have e : metR (.mk k' n' s' ks') w = (0, 0, 0) := by rw [metR, if_neg h]
    rw [ll, lv, e]
    exact ⟨rfl, rfl⟩
  by_cases h0 : lawE (.mk k' n' s' ks') w = 0
  · obtain ⟨h1, _, h2, h3⟩ := law_zero h0
    have hf := chk_formed h1
    have a6 : isLy [PV.int IntKind.i64 k', PV.int IntKind.i64 n', PV.str s', PV.slice (Dats.len ks') (Dats.cells ks')] = true := isLy_at (d := .mk k' n' s' ks') hS hf
    have a7 : decide (0 ≤ w ∧ w ≤ 4398046511104) = true := by rw [decide_eq_true_eq]; omega
    have b1 : (lwC w [PV.int IntKind.i64 k', PV.int IntKind.i64 n', PV.str s', PV.slice (Dats.len ks') (Dats.cells ks')] == (0 : Int)) = true := by rw [lw, h0]; rfl
    have b1' : (!lwC w [PV.int IntKind.i64 k', PV.int IntKind.i64 n', PV.str s', PV.slice (Dats.len ks') (Dats.cells ks')] == (0 : Int)) = false := by rw [b1]; rfl
    obtain ⟨y, hy⟩ : ∃ y, y = mkS (layT w.toNat (.mk k' n' s' ks') 0 0 ++ [10]) := ⟨_, rfl⟩
    have b2 : same (PV.str (mkS (laC (Int.toNat w) [PV.int IntKind.i64 k', PV.int IntKind.i64 n', PV.str s', PV.slice (Dats.len ks') (Dats.cells ks')]))) (PV.str y) = true := same_of (by rw [la, hy])
    have hsz : y.size = (layT w.toNat (.mk k' n' s' ks') 0 0 ++ [10]).length := by rw [hy]; rfl
    by_cases hl : 2000000 < (layT w.toNat (.mk k' n' s' ks') 0 0 ++ [10]).length
    · obtain ⟨g1, g2⟩ := al_long h0 hl
      obtain ⟨m1, m2⟩ := met0 (by rw [g1]; decide)
      have b3 : decide (2000000 < ((ByteArray.size y : Nat) : Int)) = true := by rw [hsz, decide_eq_true_eq]; omega
      have b4 : (loEC w [PV.int IntKind.i64 k', PV.int IntKind.i64 n', PV.str s', PV.slice (Dats.len ks') (Dats.cells ks')] == (3 : Int)) = true := by rw [le, g1]; rfl
      exact SWP.runQ (SLin [(80, [(30, true), (36, true), (40, true), (44, true), (48, true), (53, true)])] [(80, [(13, .agg [.int .i64 k', .int .i64 n', .str s', .slice ks'.len ks'.cells]), (33, .str y)])]) 100 80 hnt [4] (e := .ret) (z := ⟨[(4, .bool true)], ⟨[DB k n s ks, DB k' n' s' ks'], []⟩⟩) (o := [(true, true), (isOk [PV.int IntKind.i64 k, PV.int IntKind.i64 n, PV.str s, PV.slice (Dats.len ks) (Dats.cells ks)], true), (same (PV.agg [.int .i64 (cuA [PV.int IntKind.i64 k, PV.int IntKind.i64 n, PV.str s, PV.slice (Dats.len ks) (Dats.cells ks)]), .int .i64 (cuB [PV.int IntKind.i64 k, PV.int IntKind.i64 n, PV.str s, PV.slice (Dats.len ks) (Dats.cells ks)]), .str (cuC [PV.int IntKind.i64 k, PV.int IntKind.i64 n, PV.str s, PV.slice (Dats.len ks) (Dats.cells ks)]), .slice (cuD [PV.int IntKind.i64 k, PV.int IntKind.i64 n, PV.str s, PV.slice (Dats.len ks) (Dats.cells ks)]).len (cuD [PV.int IntKind.i64 k, PV.int IntKind.i64 n, PV.str s, PV.slice (Dats.len ks) (Dats.cells ks)]).cells]) (PV.agg [PV.int IntKind.i64 k', PV.int IntKind.i64 n', PV.str s', PV.slice (Dats.len ks') (Dats.cells ks')]), true), (true, true), (isSml [PV.int IntKind.i64 k', PV.int IntKind.i64 n', PV.str s', PV.slice (Dats.len ks') (Dats.cells ks')], true), (true, true), (isSml [PV.int IntKind.i64 k', PV.int IntKind.i64 n', PV.str s', PV.slice (Dats.len ks') (Dats.cells ks')], true), (true, true), (isSml [PV.int IntKind.i64 k', PV.int IntKind.i64 n', PV.str s', PV.slice (Dats.len ks') (Dats.cells ks')], true), (lwC w [PV.int IntKind.i64 k', PV.int IntKind.i64 n', PV.str s', PV.slice (Dats.len ks') (Dats.cells ks')] == (0 : Int), true), (true, true), (true, true), (isLy [PV.int IntKind.i64 k', PV.int IntKind.i64 n', PV.str s', PV.slice (Dats.len ks') (Dats.cells ks')], true), (decide (0 ≤ w ∧ w ≤ 4398046511104), true), (same (PV.str (mkS (laC (Int.toNat w) [PV.int IntKind.i64 k', PV.int IntKind.i64 n', PV.str s', PV.slice (Dats.len ks') (Dats.cells ks')]))) (PV.str y), true), (decide (2000000 < ((ByteArray.size y : Nat) : Int)), true), (true, true), (Int.ofNat (llC w [PV.int IntKind.i64 k', PV.int IntKind.i64 n', PV.str s', PV.slice (Dats.len ks') (Dats.cells ks')]) == (0 : Int), true), (loEC w [PV.int IntKind.i64 k', PV.int IntKind.i64 n', PV.str s', PV.slice (Dats.len ks') (Dats.cells ks')] == (3 : Int), true), (Int.ofNat (lvC w [PV.int IntKind.i64 k', PV.int IntKind.i64 n', PV.str s', PV.slice (Dats.len ks') (Dats.cells ks')]) == (0 : Int), true), (loEC w [PV.int IntKind.i64 k', PV.int IntKind.i64 n', PV.str s', PV.slice (Dats.len ks') (Dats.cells ks')] == (3 : Int), true), (true, true)]) (by kernel_rfl) (by ((repeat' (first | exact okO_nil | refine okN ?_ ?_)); all_goals first | assumption | rfl | exact same_of rfl | exact sameS_self _ | (simp only [decide_eq_true_eq, decide_eq_false_iff_not, Nat.ble_eq, Nat.beq_eq, beq_eq_false_iff_ne, beq_iff_eq, ne_eq] <;> omega))) (fun st hs => fin st _ hs)
    · obtain ⟨g1, g2⟩ := al_ok h0 (Nat.le_of_not_lt hl)
      have b3 : decide (2000000 < ((ByteArray.size y : Nat) : Int)) = false := by rw [hsz, decide_eq_false_iff_not]; omega
      have b4 : (loEC w [PV.int IntKind.i64 k', PV.int IntKind.i64 n', PV.str s', PV.slice (Dats.len ks') (Dats.cells ks')] == (0 : Int)) = true := by rw [le, g1]; rfl
      obtain ⟨q1, q2, q3⟩ := lines_meter w.toNat (.mk k' n' s' ks') hf
      rw [← hy] at q1 q3
      have em : metR (.mk k' n' s' ks') w = layG mS w.toNat (.mk k' n' s' ks') 0 0 (1, 0, 0) := by rw [metR, if_pos g1]
      have b5 : Nat.ble (ByteArray.size y) 1099511627776 = true := by rw [Nat.ble_eq, hsz]; omega
      have b6 : Nat.ble 1 (List.length (rowL y y.size)) = true := by rw [Nat.ble_eq, q1]; exact q2
      have b7 : (Int.ofNat (llC w [PV.int IntKind.i64 k', PV.int IntKind.i64 n', PV.str s', PV.slice (Dats.len ks') (Dats.cells ks')]) == Int.ofNat (List.length (rowL y y.size))) = true := by rw [ll, em, q1, beq_iff_eq]
      have b8 : (Int.ofNat (lvC w [PV.int IntKind.i64 k', PV.int IntKind.i64 n', PV.str s', PV.slice (Dats.len ks') (Dats.cells ks')]) == Int.ofNat (wdN (rowL y y.size) (List.length (rowL y y.size)))) = true := by rw [lv, em, q3, beq_iff_eq]
      exact SWP.runQ (SLin [(80, [(30, true), (36, false), (38, false), (59, true), (65, true), (69, true), (75, true)])] [(80, [(13, .agg [.int .i64 k', .int .i64 n', .str s', .slice ks'.len ks'.cells]), (33, .str y)])]) 100 80 hnt [4] (e := .ret) (z := ⟨[(4, .bool true)], ⟨[DB k n s ks, DB k' n' s' ks'], [some (sR (rowL y y.size) (List.length (rowL y y.size)))]⟩⟩) (o := [(true, true), (isOk [PV.int IntKind.i64 k, PV.int IntKind.i64 n, PV.str s, PV.slice (Dats.len ks) (Dats.cells ks)], true), (same (PV.agg [.int .i64 (cuA [PV.int IntKind.i64 k, PV.int IntKind.i64 n, PV.str s, PV.slice (Dats.len ks) (Dats.cells ks)]), .int .i64 (cuB [PV.int IntKind.i64 k, PV.int IntKind.i64 n, PV.str s, PV.slice (Dats.len ks) (Dats.cells ks)]), .str (cuC [PV.int IntKind.i64 k, PV.int IntKind.i64 n, PV.str s, PV.slice (Dats.len ks) (Dats.cells ks)]), .slice (cuD [PV.int IntKind.i64 k, PV.int IntKind.i64 n, PV.str s, PV.slice (Dats.len ks) (Dats.cells ks)]).len (cuD [PV.int IntKind.i64 k, PV.int IntKind.i64 n, PV.str s, PV.slice (Dats.len ks) (Dats.cells ks)]).cells]) (PV.agg [PV.int IntKind.i64 k', PV.int IntKind.i64 n', PV.str s', PV.slice (Dats.len ks') (Dats.cells ks')]), true), (true, true), (isSml [PV.int IntKind.i64 k', PV.int IntKind.i64 n', PV.str s', PV.slice (Dats.len ks') (Dats.cells ks')], true), (true, true), (isSml [PV.int IntKind.i64 k', PV.int IntKind.i64 n', PV.str s', PV.slice (Dats.len ks') (Dats.cells ks')], true), (true, true), (isSml [PV.int IntKind.i64 k', PV.int IntKind.i64 n', PV.str s', PV.slice (Dats.len ks') (Dats.cells ks')], true), (lwC w [PV.int IntKind.i64 k', PV.int IntKind.i64 n', PV.str s', PV.slice (Dats.len ks') (Dats.cells ks')] == (0 : Int), true), (true, true), (true, true), (isLy [PV.int IntKind.i64 k', PV.int IntKind.i64 n', PV.str s', PV.slice (Dats.len ks') (Dats.cells ks')], true), (decide (0 ≤ w ∧ w ≤ 4398046511104), true), (same (PV.str (mkS (laC (Int.toNat w) [PV.int IntKind.i64 k', PV.int IntKind.i64 n', PV.str s', PV.slice (Dats.len ks') (Dats.cells ks')]))) (PV.str y), true), (decide (2000000 < ((ByteArray.size y : Nat) : Int)), false), (false, false), (!lwC w [PV.int IntKind.i64 k', PV.int IntKind.i64 n', PV.str s', PV.slice (Dats.len ks') (Dats.cells ks')] == (0 : Int), false), (false, false), (loEC w [PV.int IntKind.i64 k', PV.int IntKind.i64 n', PV.str s', PV.slice (Dats.len ks') (Dats.cells ks')] == (0 : Int), true), (true, true), (Nat.ble (ByteArray.size y) 1099511627776, true), (Nat.ble 1 (List.length (rowL y y.size)), true), (Int.ofNat (llC w [PV.int IntKind.i64 k', PV.int IntKind.i64 n', PV.str s', PV.slice (Dats.len ks') (Dats.cells ks')]) == Int.ofNat (List.length (rowL y y.size)), true), (loEC w [PV.int IntKind.i64 k', PV.int IntKind.i64 n', PV.str s', PV.slice (Dats.len ks') (Dats.cells ks')] == (0 : Int), true), (true, true), (Nat.ble (ByteArray.size y) 1099511627776, true), (Nat.ble 1 (List.length (rowL y y.size)), true), (Int.ofNat (lvC w [PV.int IntKind.i64 k', PV.int IntKind.i64 n', PV.str s', PV.slice (Dats.len ks') (Dats.cells ks')]) == Int.ofNat (wdN (rowL y y.size) (List.length (rowL y y.size))), true), (true, true)]) (by kernel_rfl) (by ((repeat' (first | exact okO_nil | refine okN ?_ ?_)); all_goals first | assumption | rfl | exact same_of rfl | exact sameS_self _ | (simp only [decide_eq_true_eq, decide_eq_false_iff_not, Nat.ble_eq, Nat.beq_eq, beq_eq_false_iff_ne, beq_iff_eq, ne_eq] <;> omega))) (fun st hs => fin st _ hs)
  · obtain ⟨g1, g2⟩ := al_bad _ _ h0
    obtain ⟨m1, m2⟩ := met0 (by rw [g1]; exact h0)
    have b1 : (lwC w [PV.int IntKind.i64 k', PV.int IntKind.i64 n', PV.str s', PV.slice (Dats.len ks') (Dats.cells ks')] == (0 : Int)) = false := by rw [lw, beqF h0]
    have b2 : (!lwC w [PV.int IntKind.i64 k', PV.int IntKind.i64 n', PV.str s', PV.slice (Dats.len ks') (Dats.cells ks')] == (0 : Int)) = true := by rw [b1]; rfl
    have b3 : (loEC w [PV.int IntKind.i64 k', PV.int IntKind.i64 n', PV.str s', PV.slice (Dats.len ks') (Dats.cells ks')] == lwC w [PV.int IntKind.i64 k', PV.int IntKind.i64 n', PV.str s', PV.slice (Dats.len ks') (Dats.cells ks')]) = true := by rw [le, lw, g1, beq_iff_eq]
    exact SWP.runQ (SLin [(80, [(30, false), (38, true), (40, true), (44, true), (48, true), (53, true)])] [(80, [(13, .agg [.int .i64 k', .int .i64 n', .str s', .slice ks'.len ks'.cells])])]) 100 80 hnt [4] (e := .ret) (z := ⟨[(4, .bool true)], ⟨[DB k n s ks, DB k' n' s' ks'], []⟩⟩) (o := [(true, true), (isOk [PV.int IntKind.i64 k, PV.int IntKind.i64 n, PV.str s, PV.slice (Dats.len ks) (Dats.cells ks)], true), (same (PV.agg [.int .i64 (cuA [PV.int IntKind.i64 k, PV.int IntKind.i64 n, PV.str s, PV.slice (Dats.len ks) (Dats.cells ks)]), .int .i64 (cuB [PV.int IntKind.i64 k, PV.int IntKind.i64 n, PV.str s, PV.slice (Dats.len ks) (Dats.cells ks)]), .str (cuC [PV.int IntKind.i64 k, PV.int IntKind.i64 n, PV.str s, PV.slice (Dats.len ks) (Dats.cells ks)]), .slice (cuD [PV.int IntKind.i64 k, PV.int IntKind.i64 n, PV.str s, PV.slice (Dats.len ks) (Dats.cells ks)]).len (cuD [PV.int IntKind.i64 k, PV.int IntKind.i64 n, PV.str s, PV.slice (Dats.len ks) (Dats.cells ks)]).cells]) (PV.agg [PV.int IntKind.i64 k', PV.int IntKind.i64 n', PV.str s', PV.slice (Dats.len ks') (Dats.cells ks')]), true), (true, true), (isSml [PV.int IntKind.i64 k', PV.int IntKind.i64 n', PV.str s', PV.slice (Dats.len ks') (Dats.cells ks')], true), (true, true), (isSml [PV.int IntKind.i64 k', PV.int IntKind.i64 n', PV.str s', PV.slice (Dats.len ks') (Dats.cells ks')], true), (true, true), (isSml [PV.int IntKind.i64 k', PV.int IntKind.i64 n', PV.str s', PV.slice (Dats.len ks') (Dats.cells ks')], true), (lwC w [PV.int IntKind.i64 k', PV.int IntKind.i64 n', PV.str s', PV.slice (Dats.len ks') (Dats.cells ks')] == (0 : Int), false), (false, false), (!lwC w [PV.int IntKind.i64 k', PV.int IntKind.i64 n', PV.str s', PV.slice (Dats.len ks') (Dats.cells ks')] == (0 : Int), true), (true, true), (Int.ofNat (llC w [PV.int IntKind.i64 k', PV.int IntKind.i64 n', PV.str s', PV.slice (Dats.len ks') (Dats.cells ks')]) == (0 : Int), true), (loEC w [PV.int IntKind.i64 k', PV.int IntKind.i64 n', PV.str s', PV.slice (Dats.len ks') (Dats.cells ks')] == lwC w [PV.int IntKind.i64 k', PV.int IntKind.i64 n', PV.str s', PV.slice (Dats.len ks') (Dats.cells ks')], true), (Int.ofNat (lvC w [PV.int IntKind.i64 k', PV.int IntKind.i64 n', PV.str s', PV.slice (Dats.len ks') (Dats.cells ks')]) == (0 : Int), true), (loEC w [PV.int IntKind.i64 k', PV.int IntKind.i64 n', PV.str s', PV.slice (Dats.len ks') (Dats.cells ks')] == lwC w [PV.int IntKind.i64 k', PV.int IntKind.i64 n', PV.str s', PV.slice (Dats.len ks') (Dats.cells ks')], true), (true, true)]) (by kernel_rfl) (by ((repeat' (first | exact okO_nil | refine okN ?_ ?_)); all_goals first | assumption | rfl | exact same_of rfl | exact sameS_self _ | (simp only [decide_eq_true_eq, decide_eq_false_iff_not, Nat.ble_eq, Nat.beq_eq, beq_eq_false_iff_ne, beq_iff_eq, ne_eq] <;> omega))) (fun st hs => fin st _ hs)
end Seat
end Go.Proofs.YtkblfapbakfgpaaDoor
/- Layout: the statement LayoutWider, by the laws of its parts. Printed by dev/law3.py and dev/nfsub.py (this session's). -/
namespace Go.Proofs.YtkblfapbakfgpaaDoor
open Go.AS Go.RowKit
set_option linter.unusedVariables false
set_option linter.unusedSimpArgs false
set_option maxRecDepth 100000
set_option maxHeartbeats 4000000
namespace Seat
def daK : Dat → Int | .mk k _ _ _ => k
def daN : Dat → Int | .mk _ n _ _ => n
def daT : Dat → ByteArray | .mk _ _ s _ => s
def daS : Dat → Dats | .mk _ _ _ ks => ks
noncomputable def ctA (p : Int) (cs : List PV) : Int := ofCells (fun d => daK (cutD d 1020 p).1) 0 cs
noncomputable def ctB (p : Int) (cs : List PV) : Int := ofCells (fun d => daN (cutD d 1020 p).1) 0 cs
noncomputable def ctC (p : Int) (cs : List PV) : ByteArray := ofCells (fun d => daT (cutD d 1020 p).1) ⟨#[]⟩ cs
noncomputable def ctD (p : Int) (cs : List PV) : Dats := ofCells (fun d => daS (cutD d 1020 p).1) .nil cs
noncomputable def ctS (f : Nat) (args : List PV) : Option (PV × Ob) := match f, args with
  | 16, [.agg cs, .int .i64 p, .int .i64 1020] => some (.agg [.int .i64 (ctA p cs), .int .i64 (ctB p cs), .str (ctC p cs), .slice (ctD p cs).len (ctD p cs).cells], [(isOk cs, true), (decide (1 ≤ p ∧ p ≤ 1000000), true)])
  | f, args => linS f args
theorem ctS_ok (f : Nat) (args : List PV) (r : PV) (o : Ob) (h : ctS f args = some (r, o)) (ho : ∀ p ∈ o, p.1 = p.2) (hp : pureL args = true) : Pure G0 f args (fun x => x = r) := by
  unfold ctS at h
  split at h
  · rename_i cs p
    cases h
    obtain ⟨d, rfl, h1⟩ := isOk_of (ho (isOk cs, true) (by simp))
    have h2 := of_decide_eq_true (ho (decide (1 ≤ p ∧ p ≤ 1000000), true) (by simp))
    have key := cut_ok d h1 p 1020 ⟨by omega, by omega, h2.1, h2.2⟩
    unfold ctA ctB ctC ctD
    rw [ofCells_at, ofCells_at, ofCells_at, ofCells_at]
    cases hc : (cutD d 1020 p).1 with
    | mk k n s ks =>
      rw [hc] at key
      exact key
  · exact linS_ok f args r o h ho hp
noncomputable def SWid (l : List (Nat × List (Nat × Bool))) (v : List (Nat × List (Nat × PV))) : Cfg G0 := { F := F, hF := hF, S := ctS, hS := ctS_ok, W := rlW, hW := rlW_ok, orc := orcM l, val := valM v }
/-- A sink that counts lines. -/
def cS : Snk Nat := ⟨fun _ x => x, fun _ x => x + 1, fun _ => true⟩
theorem sim_mc : Sim mS cS (fun x y => x.1 = y) := ⟨fun t x y h => h, fun n x y h => by simp only [mS, cS, h], (fun x y h _ => by cases h), fun y => rfl⟩
theorem cnt_le (w : Nat) : ∀ N : Nat, (∀ (d : Dat), d.size < N → ∀ (c r x : Nat), x ≤ layG cS w d c r x) ∧ (∀ (ks : Dats), ks.size < N → ∀ (f : Bool) (c r : Nat) (l : Bool) (x : Nat), x ≤ layGL cS w ks f c r l x) := by
  intro N
  induction N with
  | zero => exact ⟨fun d h => by omega, fun d h => by omega⟩
  | succ N ih =>
    refine ⟨fun d hd c r x => ?_, fun ks hk f c r l x => ?_⟩
    · obtain ⟨k, n, s, ks⟩ := d
      rw [layG]
      show x ≤ if _ then x else layGL cS w ks true c r true x
      split
      · exact Nat.le_refl _
      · exact ih.2 ks (by simp only [Dat.size] at hd; omega) _ _ _ _ _
    · cases ks with
      | nil => exact Nat.le_refl _
      | cons d ds =>
        rw [layGL]
        refine Nat.le_trans ?_ (ih.2 ds (by simp only [Dats.size] at hk; omega) _ _ _ _ _)
        refine Nat.le_trans ?_ (ih.1 d (by simp only [Dats.size] at hk; omega) _ _ _)
        split
        · exact Nat.le_refl _
        · exact Nat.le_succ _
theorem cnt_anti (v w : Nat) (h : v ≤ w) : ∀ N : Nat, (∀ (d : Dat), d.size < N → ∀ (c r x y : Nat), x ≤ y → layG cS w d c r x ≤ layG cS v d c r y) ∧ (∀ (ks : Dats), ks.size < N → ∀ (f : Bool) (c r : Nat) (l : Bool) (x y : Nat), x ≤ y → layGL cS w ks f c r l x ≤ layGL cS v ks f c r l y) := by
  intro N
  induction N with
  | zero => exact ⟨fun d h => by omega, fun d h => by omega⟩
  | succ N ih =>
    refine ⟨fun d hd c r x y hxy => ?_, fun ks hk f c r l x y hxy => ?_⟩
    · obtain ⟨k, n, s, ks⟩ := d
      rw [layG, layG]
      show (if _ then x else layGL cS w ks true c r true x) ≤ if _ then y else layGL cS v ks true c r true y
      have hks : ks.size < N := by simp only [Dat.size] at hd; omega
      by_cases h1 : ks.len = 0 ∨ c + (textD (.mk k n s ks)).length + r ≤ v
      · rw [if_pos (h1.imp id fun g => by omega), if_pos h1]; exact hxy
      · rw [if_neg h1]
        split
        · exact Nat.le_trans hxy ((cnt_le v (ks.size + 1)).2 ks (by omega) _ _ _ _ _)
        · exact ih.2 ks hks _ _ _ _ _ _ hxy
    · cases ks with
      | nil => exact hxy
      | cons d ds =>
        rw [layGL, layGL]
        refine ih.2 ds (by simp only [Dats.size] at hk; omega) _ _ _ _ _ _ (ih.1 d (by simp only [Dats.size] at hk; omega) _ _ _ _ ?_)
        split
        · exact hxy
        · exact Nat.succ_le_succ hxy
theorem lines_anti (v w : Nat) (h : v ≤ w) (d : Dat) : 1 ≤ (layG mS w d 0 0 (1, 0, 0)).1 ∧ (layG mS w d 0 0 (1, 0, 0)).1 ≤ (layG mS v d 0 0 (1, 0, 0)).1 := by
  have e1 : (layG mS w d 0 0 (1, 0, 0)).1 = layG cS w d 0 0 1 := (sim sim_mc w).1 d 0 0 (1, 0, 0) 1 rfl
  have e2 : (layG mS v d 0 0 (1, 0, 0)).1 = layG cS v d 0 0 1 := (sim sim_mc v).1 d 0 0 (1, 0, 0) 1 rfl
  rw [e1, e2]
  exact ⟨(cnt_le w (d.size + 1)).1 d (by omega) _ _ _, (cnt_anti v w h (d.size + 1)).1 d (by omega) _ _ _ _ (Nat.le_refl _)⟩
theorem cutP_cells (p : Int) (k n k' n' : Int) (s s' : ByteArray) (ks ks' : Dats) (hc : (cutD (.mk k n s ks) 1020 p).1 = .mk k' n' s' ks') :
    same (PV.agg [.int .i64 (ctA p [PV.int IntKind.i64 k, PV.int IntKind.i64 n, PV.str s, PV.slice (Dats.len ks) (Dats.cells ks)]), .int .i64 (ctB p [PV.int IntKind.i64 k, PV.int IntKind.i64 n, PV.str s, PV.slice (Dats.len ks) (Dats.cells ks)]), .str (ctC p [PV.int IntKind.i64 k, PV.int IntKind.i64 n, PV.str s, PV.slice (Dats.len ks) (Dats.cells ks)]), .slice (ctD p [PV.int IntKind.i64 k, PV.int IntKind.i64 n, PV.str s, PV.slice (Dats.len ks) (Dats.cells ks)]).len (ctD p [PV.int IntKind.i64 k, PV.int IntKind.i64 n, PV.str s, PV.slice (Dats.len ks) (Dats.cells ks)]).cells]) (PV.agg [PV.int IntKind.i64 k', PV.int IntKind.i64 n', PV.str s', PV.slice (Dats.len ks') (Dats.cells ks')]) = true := same_of (by
  have a1 : ctA p [PV.int IntKind.i64 k, PV.int IntKind.i64 n, PV.str s, PV.slice (Dats.len ks) (Dats.cells ks)] = _ := ofCells_at _ _ (.mk k n s ks)
  have a2 : ctB p [PV.int IntKind.i64 k, PV.int IntKind.i64 n, PV.str s, PV.slice (Dats.len ks) (Dats.cells ks)] = _ := ofCells_at _ _ (.mk k n s ks)
  have a3 : ctC p [PV.int IntKind.i64 k, PV.int IntKind.i64 n, PV.str s, PV.slice (Dats.len ks) (Dats.cells ks)] = _ := ofCells_at _ _ (.mk k n s ks)
  have a4 : ctD p [PV.int IntKind.i64 k, PV.int IntKind.i64 n, PV.str s, PV.slice (Dats.len ks) (Dats.cells ks)] = _ := ofCells_at _ _ (.mk k n s ks)
  rw [a1, a2, a3, a4, hc]
  rfl)
theorem alE_wid {c : Dat} {w : Int} (h : alE (.cons c .nil) w = 0) : 10 ≤ w := (alE_zero h).2.1
theorem wider_law (d : Dat) (hd : d.ok) (hr : d.rng) (v w : Int) : Pure G0 5 [.agg d.cells, .int .i64 v, .int .i64 w] (fun r => r = .bool true) := by
  obtain ⟨k', n', s', ks', hc⟩ := Dat.is_mk (cutD d 1020 1000).1
  have hS : Small (cutD d 1020 1000).1 := cut_small d hd hr 1000 1020 (by omega) (by omega)
  rw [hc] at hS
  obtain ⟨k, n, s, ks⟩ := d
  have a1 : isOk [PV.int IntKind.i64 k, PV.int IntKind.i64 n, PV.str s, PV.slice (Dats.len ks) (Dats.cells ks)] = true := isOk_at (d := .mk k n s ks) hd
  have a2 := cutP_cells 1000 k n k' n' s s' ks ks' hc
  have a3 : isSml [PV.int IntKind.i64 k', PV.int IntKind.i64 n', PV.str s', PV.slice (Dats.len ks') (Dats.cells ks')] = true := isSml_at (d := .mk k' n' s' ks') hS
  have ll : ∀ w, llC w [PV.int IntKind.i64 k', PV.int IntKind.i64 n', PV.str s', PV.slice (Dats.len ks') (Dats.cells ks')] = (metR (.mk k' n' s' ks') w).1 := fun w => ofCells_at _ _ (.mk k' n' s' ks')
  have le : ∀ w, loEC w [PV.int IntKind.i64 k', PV.int IntKind.i64 n', PV.str s', PV.slice (Dats.len ks') (Dats.cells ks')] = alE (.cons (.mk k' n' s' ks') .nil) w := fun w => ofCells_at _ _ (.mk k' n' s' ks')
  refine Fn.enterB Tryd.func5 Tryd.ntmps5 rfl (Nat.le_of_ble_eq_true rfl) fun C fr fp hnt hnb hp hfr hfp => ?_
  have fin : ∀ st H, nrm [6] st = ⟨[(6, .bool true)], H⟩ → fr st := fun st H hst => hfr st [6] (by
    rw [hst]
    exact ⟨0, .bool true, Nat.le_refl _, Nat.zero_le _, rfl, rfl, rfl, rfl, _, rfl, rfl⟩)
  obtain ⟨a, ha⟩ : ∃ a, a = if w < v then w else v := ⟨_, rfl⟩
  obtain ⟨b, hb⟩ : ∃ b, b = if w > v then w else v := ⟨_, rfl⟩
  have hab : a ≤ b := by rw [ha, hb]; split <;> split <;> omega
  have b1 : same (PV.int IntKind.i64 (if w < v then w else v)) (PV.int IntKind.i64 a) = true := same_of (by rw [ha])
  have b2 : same (PV.int IntKind.i64 (if w > v then w else v)) (PV.int IntKind.i64 b) = true := same_of (by rw [hb])
  clear ha hb
  by_cases h1 : alE (.cons (.mk k' n' s' ks') .nil) a = 0
  · have c1 : (!loEC a [PV.int IntKind.i64 k', PV.int IntKind.i64 n', PV.str s', PV.slice (Dats.len ks') (Dats.cells ks')] == (0 : Int)) = false := by rw [le, h1]; rfl
    by_cases h2 : alE (.cons (.mk k' n' s' ks') .nil) b = 0
    · have c2 : (!loEC b [PV.int IntKind.i64 k', PV.int IntKind.i64 n', PV.str s', PV.slice (Dats.len ks') (Dats.cells ks')] == (0 : Int)) = false := by rw [le, h2]; rfl
      have g1 := alE_wid h1
      have e1 : metR (.mk k' n' s' ks') a = layG mS a.toNat (.mk k' n' s' ks') 0 0 (1, 0, 0) := by rw [metR, if_pos h1]
      have e2 : metR (.mk k' n' s' ks') b = layG mS b.toNat (.mk k' n' s' ks') 0 0 (1, 0, 0) := by rw [metR, if_pos h2]
      obtain ⟨q1, q2⟩ := lines_anti a.toNat b.toNat (by omega) (.mk k' n' s' ks')
      have c3 : decide ((1 : Int) ≤ Int.ofNat (llC b [PV.int IntKind.i64 k', PV.int IntKind.i64 n', PV.str s', PV.slice (Dats.len ks') (Dats.cells ks')])) = true := by rw [ll, e2, decide_eq_true_eq]; exact Int.ofNat_le.2 q1
      have c4 : decide (Int.ofNat (llC b [PV.int IntKind.i64 k', PV.int IntKind.i64 n', PV.str s', PV.slice (Dats.len ks') (Dats.cells ks')]) ≤ Int.ofNat (llC a [PV.int IntKind.i64 k', PV.int IntKind.i64 n', PV.str s', PV.slice (Dats.len ks') (Dats.cells ks')])) = true := by rw [ll, ll, e1, e2, decide_eq_true_eq]; exact Int.ofNat_le.2 q2
      exact SWP.runQ (SWid [(47, [(31, false), (34, false), (38, true), (42, true)])] [(47, [(13, .agg [.int .i64 k', .int .i64 n', .str s', .slice ks'.len ks'.cells]), (18, .int .i64 a), (26, .int .i64 b)])]) 100 47 hnt [6] (e := .ret) (z := ⟨[(6, .bool true)], ⟨[DB k n s ks, DB k' n' s' ks'], []⟩⟩) (o := [(true, true), (isOk [PV.int IntKind.i64 k, PV.int IntKind.i64 n, PV.str s, PV.slice (Dats.len ks) (Dats.cells ks)], true), (true, true), (same (PV.agg [.int .i64 (ctA 1000 [PV.int IntKind.i64 k, PV.int IntKind.i64 n, PV.str s, PV.slice (Dats.len ks) (Dats.cells ks)]), .int .i64 (ctB 1000 [PV.int IntKind.i64 k, PV.int IntKind.i64 n, PV.str s, PV.slice (Dats.len ks) (Dats.cells ks)]), .str (ctC 1000 [PV.int IntKind.i64 k, PV.int IntKind.i64 n, PV.str s, PV.slice (Dats.len ks) (Dats.cells ks)]), .slice (ctD 1000 [PV.int IntKind.i64 k, PV.int IntKind.i64 n, PV.str s, PV.slice (Dats.len ks) (Dats.cells ks)]).len (ctD 1000 [PV.int IntKind.i64 k, PV.int IntKind.i64 n, PV.str s, PV.slice (Dats.len ks) (Dats.cells ks)]).cells]) (PV.agg [PV.int IntKind.i64 k', PV.int IntKind.i64 n', PV.str s', PV.slice (Dats.len ks') (Dats.cells ks')]), true), (same (PV.int IntKind.i64 (if w < v then w else v)) (PV.int IntKind.i64 a), true), (true, true), (isSml [PV.int IntKind.i64 k', PV.int IntKind.i64 n', PV.str s', PV.slice (Dats.len ks') (Dats.cells ks')], true), (same (PV.int IntKind.i64 (if w > v then w else v)) (PV.int IntKind.i64 b), true), (true, true), (isSml [PV.int IntKind.i64 k', PV.int IntKind.i64 n', PV.str s', PV.slice (Dats.len ks') (Dats.cells ks')], true), (!loEC a [PV.int IntKind.i64 k', PV.int IntKind.i64 n', PV.str s', PV.slice (Dats.len ks') (Dats.cells ks')] == (0 : Int), false), (!loEC b [PV.int IntKind.i64 k', PV.int IntKind.i64 n', PV.str s', PV.slice (Dats.len ks') (Dats.cells ks')] == (0 : Int), false), (decide ((1 : Int) ≤ Int.ofNat (llC b [PV.int IntKind.i64 k', PV.int IntKind.i64 n', PV.str s', PV.slice (Dats.len ks') (Dats.cells ks')])), true), (decide (Int.ofNat (llC b [PV.int IntKind.i64 k', PV.int IntKind.i64 n', PV.str s', PV.slice (Dats.len ks') (Dats.cells ks')]) ≤ Int.ofNat (llC a [PV.int IntKind.i64 k', PV.int IntKind.i64 n', PV.str s', PV.slice (Dats.len ks') (Dats.cells ks')])), true), (true, true)]) (by kernel_rfl) (by ((repeat' (first | exact okO_nil | refine okN ?_ ?_)); all_goals first | assumption | rfl | exact same_of rfl | exact sameS_self _ | (simp only [decide_eq_true_eq, decide_eq_false_iff_not, Nat.ble_eq, Nat.beq_eq, beq_eq_false_iff_ne, beq_iff_eq, ne_eq] <;> omega))) (fun st hs => fin st _ hs)
    · have c2 : (!loEC b [PV.int IntKind.i64 k', PV.int IntKind.i64 n', PV.str s', PV.slice (Dats.len ks') (Dats.cells ks')] == (0 : Int)) = true := by rw [le, beqF h2]; rfl
      exact SWP.runQ (SWid [(47, [(31, false), (34, true)])] [(47, [(13, .agg [.int .i64 k', .int .i64 n', .str s', .slice ks'.len ks'.cells]), (18, .int .i64 a), (26, .int .i64 b)])]) 100 47 hnt [6] (e := .ret) (z := ⟨[(6, .bool true)], ⟨[DB k n s ks, DB k' n' s' ks'], []⟩⟩) (o := [(true, true), (isOk [PV.int IntKind.i64 k, PV.int IntKind.i64 n, PV.str s, PV.slice (Dats.len ks) (Dats.cells ks)], true), (true, true), (same (PV.agg [.int .i64 (ctA 1000 [PV.int IntKind.i64 k, PV.int IntKind.i64 n, PV.str s, PV.slice (Dats.len ks) (Dats.cells ks)]), .int .i64 (ctB 1000 [PV.int IntKind.i64 k, PV.int IntKind.i64 n, PV.str s, PV.slice (Dats.len ks) (Dats.cells ks)]), .str (ctC 1000 [PV.int IntKind.i64 k, PV.int IntKind.i64 n, PV.str s, PV.slice (Dats.len ks) (Dats.cells ks)]), .slice (ctD 1000 [PV.int IntKind.i64 k, PV.int IntKind.i64 n, PV.str s, PV.slice (Dats.len ks) (Dats.cells ks)]).len (ctD 1000 [PV.int IntKind.i64 k, PV.int IntKind.i64 n, PV.str s, PV.slice (Dats.len ks) (Dats.cells ks)]).cells]) (PV.agg [PV.int IntKind.i64 k', PV.int IntKind.i64 n', PV.str s', PV.slice (Dats.len ks') (Dats.cells ks')]), true), (same (PV.int IntKind.i64 (if w < v then w else v)) (PV.int IntKind.i64 a), true), (true, true), (isSml [PV.int IntKind.i64 k', PV.int IntKind.i64 n', PV.str s', PV.slice (Dats.len ks') (Dats.cells ks')], true), (same (PV.int IntKind.i64 (if w > v then w else v)) (PV.int IntKind.i64 b), true), (true, true), (isSml [PV.int IntKind.i64 k', PV.int IntKind.i64 n', PV.str s', PV.slice (Dats.len ks') (Dats.cells ks')], true), (!loEC a [PV.int IntKind.i64 k', PV.int IntKind.i64 n', PV.str s', PV.slice (Dats.len ks') (Dats.cells ks')] == (0 : Int), false), (!loEC b [PV.int IntKind.i64 k', PV.int IntKind.i64 n', PV.str s', PV.slice (Dats.len ks') (Dats.cells ks')] == (0 : Int), true), (true, true)]) (by kernel_rfl) (by ((repeat' (first | exact okO_nil | refine okN ?_ ?_)); all_goals first | assumption | rfl | exact same_of rfl | exact sameS_self _ | (simp only [decide_eq_true_eq, decide_eq_false_iff_not, Nat.ble_eq, Nat.beq_eq, beq_eq_false_iff_ne, beq_iff_eq, ne_eq] <;> omega))) (fun st hs => fin st _ hs)
  · have c1 : (!loEC a [PV.int IntKind.i64 k', PV.int IntKind.i64 n', PV.str s', PV.slice (Dats.len ks') (Dats.cells ks')] == (0 : Int)) = true := by rw [le, beqF h1]; rfl
    exact SWP.runQ (SWid [(47, [(31, true)])] [(47, [(13, .agg [.int .i64 k', .int .i64 n', .str s', .slice ks'.len ks'.cells]), (18, .int .i64 a), (26, .int .i64 b)])]) 100 47 hnt [6] (e := .ret) (z := ⟨[(6, .bool true)], ⟨[DB k n s ks, DB k' n' s' ks'], []⟩⟩) (o := [(true, true), (isOk [PV.int IntKind.i64 k, PV.int IntKind.i64 n, PV.str s, PV.slice (Dats.len ks) (Dats.cells ks)], true), (true, true), (same (PV.agg [.int .i64 (ctA 1000 [PV.int IntKind.i64 k, PV.int IntKind.i64 n, PV.str s, PV.slice (Dats.len ks) (Dats.cells ks)]), .int .i64 (ctB 1000 [PV.int IntKind.i64 k, PV.int IntKind.i64 n, PV.str s, PV.slice (Dats.len ks) (Dats.cells ks)]), .str (ctC 1000 [PV.int IntKind.i64 k, PV.int IntKind.i64 n, PV.str s, PV.slice (Dats.len ks) (Dats.cells ks)]), .slice (ctD 1000 [PV.int IntKind.i64 k, PV.int IntKind.i64 n, PV.str s, PV.slice (Dats.len ks) (Dats.cells ks)]).len (ctD 1000 [PV.int IntKind.i64 k, PV.int IntKind.i64 n, PV.str s, PV.slice (Dats.len ks) (Dats.cells ks)]).cells]) (PV.agg [PV.int IntKind.i64 k', PV.int IntKind.i64 n', PV.str s', PV.slice (Dats.len ks') (Dats.cells ks')]), true), (same (PV.int IntKind.i64 (if w < v then w else v)) (PV.int IntKind.i64 a), true), (true, true), (isSml [PV.int IntKind.i64 k', PV.int IntKind.i64 n', PV.str s', PV.slice (Dats.len ks') (Dats.cells ks')], true), (same (PV.int IntKind.i64 (if w > v then w else v)) (PV.int IntKind.i64 b), true), (true, true), (isSml [PV.int IntKind.i64 k', PV.int IntKind.i64 n', PV.str s', PV.slice (Dats.len ks') (Dats.cells ks')], true), (!loEC a [PV.int IntKind.i64 k', PV.int IntKind.i64 n', PV.str s', PV.slice (Dats.len ks') (Dats.cells ks')] == (0 : Int), true), (true, true)]) (by kernel_rfl) (by ((repeat' (first | exact okO_nil | refine okN ?_ ?_)); all_goals first | assumption | rfl | exact same_of rfl | exact sameS_self _ | (simp only [decide_eq_true_eq, decide_eq_false_iff_not, Nat.ble_eq, Nat.beq_eq, beq_eq_false_iff_ne, beq_iff_eq, ne_eq] <;> omega))) (fun st hs => fin st _ hs)
end Seat
end Go.Proofs.YtkblfapbakfgpaaDoor
/- Layout: pagodaref01.Num and List; rows that are let go. Printed by dev/law8.py and dev/nfsub.py (this session's). -/
namespace Go.Proofs.YtkblfapbakfgpaaDoor
open Go.AS Go.RowKit
set_option linter.unusedVariables false
set_option linter.unusedSimpArgs false
set_option maxRecDepth 100000
set_option maxHeartbeats 4000000
namespace Seat
/-- The last rows are let go. -/
theorem swp_dropR {C : Ctx} {c : Code} {Q : AEx → AS → Prop} {st : AS} (n : Nat) (h2 : n ≤ st.h.rw.length) (h3 : (st.h.bx.all fun b => scPL (belowN st.h.bx.length) (belowN n) b.cs) = true) (h4 : (st.t.all fun p => p.2.scP (belowN st.h.bx.length) (belowN n)) = true)
    (h : SWP G0 C c Q ⟨st.t, ⟨st.h.bx, st.h.rw.take n⟩⟩) : SWP G0 C c Q st := fun E a w hr => by
  have hc := closeH hr (m := st.h.bx.length) (n := n) (Nat.le_refl _) h2 (by simp only [Hp.scB, Hp.take, List.take_length]; exact h3)
  simp only [Hp.take, List.take_length] at hc
  have hlk : ∀ s, (lk st.t s).scP (belowN st.h.bx.length) (belowN n) = true := by
    intro s
    revert h4
    generalize st.t = t
    intro h4
    induction t with
    | nil => rfl
    | cons p t ih =>
      obtain ⟨i, x⟩ := p
      simp only [List.all_cons, Bool.and_eq_true] at h4
      simp only [lk]
      split
      · exact h4.1
      · exact ih h4.2
  refine h { E with nb := st.h.bx.length, nr := n } a w ⟨hr.defers, hr.size, fun s => (hr.fr s).sc2 (hlk s) (Nat.le_refl _) (Nat.le_refl _) (fun _ _ => rfl) (fun _ _ => rfl) (fun _ h => h), hc, hr.lo, by rw [← hr.hp.nb]; exact hr.nb, hr.β, fun i hi hj => hr.own i hi (by have := hr.hp.nb; simp only [] at hj; omega), hr.up, hr.dn, hr.keep, hr.os, hr.tape, hr.out, hr.sz, fun j s k hj hk => hr.rows j s k (by
    rw [List.getElem?_take] at hj
    split at hj
    · exact hj
    · cases hj) hk⟩
theorem num_ok (n : Int) : Pure G0 25 [.int .i64 n] (fun r => r = .agg [.int .i64 1, .int .i64 n, .str ⟨#[]⟩, .slice 0 []]) := by
  refine Pure.weak (fun E w v => VRep.nil0) ?_
  refine Fn.enterB Tryd.func25 Tryd.ntmps25 rfl (Nat.le_of_ble_eq_true rfl) fun C fr fp hnt hnb hp hfr hfp => ?_
  refine SWP.runQ (SRk [] []) 100 5 hnt [2] (e := .ret) (z := { t := [(2, PV.ptr 0 0)], h := { bx := [{ cs := [PV.int IntKind.i64 (1 : Int), PV.int IntKind.i64 n, PV.str { data := #[] }, PV.nil], ty := 24 }], rw := [] } }) (o := []) (by kernel_rfl) (by ((repeat' (first | exact okO_nil | refine okN ?_ ?_)); all_goals first | assumption | rfl | exact same_of rfl | exact sameS_self _ | (simp only [decide_eq_true_eq, decide_eq_false_iff_not, Nat.ble_eq, Nat.beq_eq, beq_eq_false_iff_ne, beq_iff_eq, ne_eq] <;> omega))) (fun st hs => hfr st [2] ?_)
  rw [hs]
  exact ⟨0, .agg [.int .i64 1, .int .i64 n, .str ⟨#[]⟩, .nil], Nat.le_refl _, Nat.zero_le _, rfl, rfl, rfl, rfl, _, rfl, rfl⟩
theorem list_ok (ks : Dats) (hl : ks.len ≤ 1099511627776) : Pure G0 24 [.slice ks.len ks.cells] (fun r => r = .agg [.int .i64 3, .int .i64 0, .str ⟨#[]⟩, .slice ks.len ks.cells]) := by
  refine Fn.enterB Tryd.func24 Tryd.ntmps24 rfl (Nat.le_of_ble_eq_true rfl) fun C fr fp hnt hnb hp hfr hfp => ?_
  have d1 : Nat.beq (List.length (Dats.cells ks)) (Dats.len ks * 4) = true := by rw [Nat.beq_eq, Dats.cells_len]
  obtain ⟨m, hm⟩ : ∃ m, m = ks.len := ⟨_, rfl⟩
  refine Q.runSeq (SRk [] []) 100 7 hnt [0, 2] (z := { t := [(0, PV.slice (Dats.len ks) (Dats.cells ks)), (2, PV.ptr 0 0)], h := { bx := [{ cs := [PV.int IntKind.i64 (0 : Int), PV.int IntKind.i64 (0 : Int), PV.str { data := #[] }, PV.nil], ty := 24 }], rw := [] } }) (o := []) (by kernel_rfl) (by ((repeat' (first | exact okO_nil | refine okN ?_ ?_)); all_goals first | assumption | rfl | exact same_of rfl | exact sameS_self _ | (simp only [decide_eq_true_eq, decide_eq_false_iff_not, Nat.ble_eq, Nat.beq_eq, beq_eq_false_iff_ne, beq_iff_eq, ne_eq] <;> omega))) ?_
  refine Q.seq fun K hK => ?_
  refine SWP.runQ (SRk [(7, [(5, true)])] []) 100 7 hnt [2] (e := .normal) (z := { t := [(2, PV.ptr 0 0)], h := { bx := [{ cs := [PV.int IntKind.i64 (3 : Int), PV.int IntKind.i64 (0 : Int), PV.str { data := #[] }, PV.own 0 (0 + Dats.len ks)], ty := 24 }], rw := [some { cs := Dats.cells ks, n := 0 + Dats.len ks, ty := 24, sz := 4 }] } }) (o := [(Nat.beq (List.length (Dats.cells ks)) (Dats.len ks * 4), true), (Nat.ble ((0 + Dats.len ks) * 56) 140737488355328, true), (Nat.ble (0 + Dats.len ks) 9223372036854775807, true)]) (by kernel_rfl) (by ((repeat' (first | exact okO_nil | refine okN ?_ ?_)); all_goals first | assumption | rfl | exact same_of rfl | exact sameS_self _ | (simp only [decide_eq_true_eq, decide_eq_false_iff_not, Nat.ble_eq, Nat.beq_eq, beq_eq_false_iff_ne, beq_iff_eq, ne_eq] <;> omega))) (fun st hs => hK st (.norm [2] ?_))
  rw [hs, Nat.zero_add]
  refine SWP.frz [0] ?_
  refine .ret (hfr _ [2] ?_)
  exact ⟨0, .agg [.int .i64 3, .int .i64 0, .str ⟨#[]⟩, .slice ks.len ks.cells], Nat.le_refl _, Nat.zero_le _, rfl, rfl, rfl, rfl, _, rfl, rfl⟩
theorem list_nil : RCalls G0 24 [.nil] ⟨[], []⟩ (fun o H => o = .ret (.agg [.int .i64 3, .int .i64 0, .str ⟨#[]⟩, .own 0 0]) ∧ H = ⟨[], [some (dR [] 0)]⟩) := by
  refine Fn.enterH Tryd.func24 Tryd.ntmps24 rfl (Nat.le_of_ble_eq_true rfl) fun C fr fp hnt hnb hfr => ?_
  refine SWP.runQ (SRk [] []) 100 7 hnt [2] (e := .ret) (z := { t := [(2, PV.ptr 0 0)], h := { bx := [{ cs := [PV.int IntKind.i64 (3 : Int), PV.int IntKind.i64 (0 : Int), PV.str { data := #[] }, PV.own 0 0], ty := 24 }], rw := [some { cs := [], n := 0, ty := 24, sz := 4 }] } }) (o := []) (by kernel_rfl) (by ((repeat' (first | exact okO_nil | refine okN ?_ ?_)); all_goals first | assumption | rfl | exact same_of rfl | exact sameS_self _ | (simp only [decide_eq_true_eq, decide_eq_false_iff_not, Nat.ble_eq, Nat.beq_eq, beq_eq_false_iff_ne, beq_iff_eq, ne_eq] <;> omega))) (fun st hs => hfr st [2] ?_)
  rw [hs]
  exact ⟨0, 1, .agg [.int .i64 3, .int .i64 0, .str ⟨#[]⟩, .own 0 0], Nat.le_refl _, Nat.zero_le _, Nat.zero_le _, Nat.le_refl _, rfl, rfl, rfl, rfl, rfl⟩
end Seat
end Go.Proofs.YtkblfapbakfgpaaDoor
/- Layout: the statement LayoutLong. Printed by dev/law9.py and dev/nfsub.py (this session's). -/
namespace Go.Proofs.YtkblfapbakfgpaaDoor
open Go.AS Go.RowKit
set_option linter.unusedVariables false
set_option linter.unusedSimpArgs false
set_option maxRecDepth 100000
set_option maxHeartbeats 4000000
namespace Seat
open Classical in
noncomputable def isSlc (m : Nat) (cs : List PV) : Bool := decide (∃ ks : Dats, ks.len = m ∧ ks.cells = cs ∧ ks.len ≤ 1099511627776)
theorem isSlc_at {ks : Dats} (h : ks.len ≤ 1099511627776) : isSlc ks.len ks.cells = true := by
  unfold isSlc
  classical exact decide_eq_true ⟨ks, rfl, rfl, h⟩
theorem isSlc_of {m : Nat} {cs : List PV} (h : isSlc m cs = true) : ∃ ks : Dats, ks.len = m ∧ ks.cells = cs ∧ ks.len ≤ 1099511627776 := by
  unfold isSlc at h
  classical exact of_decide_eq_true h
noncomputable def logS (f : Nat) (args : List PV) : Option (PV × Ob) := match f, args with
  | 25, [.int .i64 n] => some (.agg [.int .i64 1, .int .i64 n, .str ⟨#[]⟩, .slice 0 []], [])
  | 24, [.slice m cs] => some (.agg [.int .i64 3, .int .i64 0, .str ⟨#[]⟩, .slice m cs], [(isSlc m cs, true)])
  | f, args => ctS f args
theorem logS_ok (f : Nat) (args : List PV) (r : PV) (o : Ob) (h : logS f args = some (r, o)) (ho : ∀ p ∈ o, p.1 = p.2) (hp : pureL args = true) : Pure G0 f args (fun x => x = r) := by
  unfold logS at h
  split at h
  · cases h
    exact num_ok _
  · rename_i m cs
    cases h
    obtain ⟨ks, rfl, rfl, h1⟩ := isSlc_of (ho (isSlc m cs, true) (List.mem_singleton.2 rfl))
    exact list_ok ks h1
  · exact ctS_ok f args r o h ho hp
noncomputable def logV (f : Nat) (xs : List PV) (H : Hp) : Option (PV × Hp × Ob) := match f, xs, H with
  | 24, [.nil], ⟨[], []⟩ => some (.agg [.int .i64 3, .int .i64 0, .str ⟨#[]⟩, .own 0 0], ⟨[], [some (dR [] 0)]⟩, [])
  | _, _, _ => none
theorem logV_ok (f : Nat) (xs : List PV) (H : Hp) (r : PV) (H' : Hp) (o : Ob) (h : logV f xs H = some (r, H', o)) (ho : ∀ p ∈ o, p.1 = p.2) : RCalls G0 f xs H (fun o' H2 => o' = .ret r ∧ H2 = H') ∧ r.scP (belowN H'.bx.length) (belowN H'.rw.length) = true ∧ H'.scB H'.bx.length H'.rw.length = true := by
  unfold logV at h
  split at h
  · cases h
    exact ⟨list_nil, rfl, rfl⟩
  · cases h
noncomputable def SLo (l : List (Nat × List (Nat × Bool))) (v : List (Nat × List (Nat × PV))) : Cfg G0 := { F := F, hF := hF, S := logS, hS := logS_ok, W := rlW, hW := rlW_ok, V := logV, hV := logV_ok, orc := orcM l, val := valM v }
def DBx (x : PV) : Box := ⟨[.int .i64 3, .int .i64 0, .str ⟨#[]⟩, x], 24⟩
theorem chk_zero {d : Dat} (hf : formedD d = true) (hp : parts d ≤ 100000) (hd : deepN d ≤ 1000) : chkD d = 0 := by
  unfold chkD
  rw [if_neg (by rw [hf]; decide), wrap_in _ (by omega), if_neg (by omega), if_neg (by omega)]
def lNum : Dat := .mk 1 1234567 ⟨#[]⟩ .nil
def lOne : Dat := .mk 1 1 ⟨#[]⟩ .nil
def nums : Nat → Dats
  | 0 => .nil
  | j + 1 => .cons lNum (nums j)
theorem nums_len : ∀ j, (nums j).len = j
  | 0 => rfl
  | j + 1 => by simp only [nums, Dats.len, nums_len j]
theorem nums_snoc : ∀ j, (nums (j + 1)).cells = (nums j).cells ++ lNum.cells
  | 0 => rfl
  | j + 1 => by
    show lNum.cells ++ (nums (j + 1)).cells = (lNum.cells ++ (nums j).cells) ++ lNum.cells
    rw [nums_snoc j, List.append_assoc]
theorem nums_ok : ∀ j, (nums j).ok ∧ (nums j).rng ∧ partsL (nums j) = j ∧ formedL (nums j) = true ∧ deepNL (nums j) ≤ 1
  | 0 => ⟨trivial, trivial, rfl, rfl, by decide⟩
  | j + 1 => by
    obtain ⟨h1, h2, h3, h4, h5⟩ := nums_ok j
    refine ⟨⟨⟨by decide, trivial⟩, h1⟩, ⟨⟨by decide, trivial⟩, h2⟩, ?_, ?_, ?_⟩
    · show parts lNum + partsL (nums j) = j + 1
      rw [h3, show parts lNum = 1 from rfl]; omega
    · show (formedD lNum && formedL (nums j)) = true
      rw [h4]; rfl
    · show max (deepN lNum) (deepNL (nums j)) ≤ 1
      rw [show deepN lNum = 1 from rfl]; omega
def nest (m : Nat) : Nat → Dats
  | 0 => nums m
  | j + 1 => .cons lOne (.cons (.mk 3 0 ⟨#[]⟩ (nest m j)) .nil)
theorem nest_ok (m : Nat) (hm : m ≤ 9223372036854775807) : ∀ j, (nest m j).len ≤ 9223372036854775807 ∧ (nest m j).ok ∧ (nest m j).rng ∧ partsL (nest m j) = m + 2 * j ∧ formedL (nest m j) = true ∧ deepNL (nest m j) ≤ j + 1
  | 0 => by
    obtain ⟨h1, h2, h3, h4, h5⟩ := nums_ok m
    exact ⟨by show (nums m).len ≤ _; rw [nums_len]; exact hm, h1, h2, by show partsL (nums m) = _; omega, h4, h5⟩
  | j + 1 => by
    obtain ⟨h0, h1, h2, h3, h4, h5⟩ := nest_ok m hm j
    refine ⟨by show 2 ≤ _; omega, ⟨⟨by decide, trivial⟩, ⟨h0, h1⟩, trivial⟩, ⟨⟨by decide, trivial⟩, ⟨by decide, h2⟩, trivial⟩, ?_, ?_, ?_⟩
    · show parts lOne + (parts (.mk 3 0 ⟨#[]⟩ (nest m j)) + partsL .nil) = _
      simp only [parts, partsL, h3, show parts lOne = 1 from rfl]; omega
    · show (formedD lOne && (formedD (.mk 3 0 ⟨#[]⟩ (nest m j)) && formedL .nil)) = true
      simp only [formedD, h4]; rfl
    · show max (deepN lOne) (max (deepN (.mk 3 0 ⟨#[]⟩ (nest m j))) (deepNL .nil)) ≤ _
      simp only [deepN, deepNL, show deepN lOne = 1 from rfl]; omega
theorem nest_len2 (m j : Nat) (h : m ≤ 3000) : (nest m j).len ≤ 3000 := by
  cases j with
  | zero => show (nums m).len ≤ _; rw [nums_len]; exact h
  | succ j => show 2 ≤ _; omega
theorem long_law (b : Int) (hb : 0 ≤ b ∧ b < 256) : Pure G0 7 [.int .u8 b] (fun r => r = .bool true) := by
  obtain ⟨a, rfl⟩ : ∃ a : Nat, b = (a : Int) := ⟨b.toNat, by omega⟩
  refine Fn.enterB Tryd.func7 Tryd.ntmps7 rfl (Nat.le_of_ble_eq_true rfl) fun C fr fp hnt hnb hp hfr hfp => ?_
  have fin : ∀ st H, nrm [2] st = ⟨[(2, .bool true)], H⟩ → fr st := fun st H hst => hfr st [2] (by
    rw [hst]
    exact ⟨0, .bool true, Nat.le_refl _, Nat.zero_le _, rfl, rfl, rfl, rfl, _, rfl, rfl⟩)
  refine Q.runSeq (SLo [] []) 100 114 hnt [0] (z := { t := [(0, PV.int IntKind.u8 (Int.ofNat a))], h := { bx := [], rw := [] } }) (o := []) (by kernel_rfl) (by ((repeat' (first | exact okO_nil | refine okN ?_ ?_)); all_goals first | assumption | rfl | exact same_of rfl | exact sameS_self _ | (simp only [decide_eq_true_eq, decide_eq_false_iff_not, Nat.ble_eq, Nat.beq_eq, beq_eq_false_iff_ne, beq_iff_eq, ne_eq] <;> omega))) ?_
  by_cases h24 : 24 ≤ a
  · have d1 : decide (24 ≤ (a : Int)) = true := by rw [decide_eq_true_eq]; omega
    refine Q.seq fun K hK => ?_
    exact SWP.runQ (SLo [(114, [(14, true)])] []) 100 114 hnt [2] (e := .ret) (z := { t := [(2, PV.bool true)], h := { bx := [], rw := [] } }) (o := [(decide (24 ≤ (↑a : Int)), true), (true, true), (true, true)]) (by kernel_rfl) (by ((repeat' (first | exact okO_nil | refine okN ?_ ?_)); all_goals first | assumption | rfl | exact same_of rfl | exact sameS_self _ | (simp only [decide_eq_true_eq, decide_eq_false_iff_not, Nat.ble_eq, Nat.beq_eq, beq_eq_false_iff_ne, beq_iff_eq, ne_eq] <;> omega))) (fun st hst => fin st _ hst)
  have d1 : decide (24 ≤ (a : Int)) = false := by rw [decide_eq_false_iff_not]; omega
  refine Q.runSeq (SLo [(114, [(14, false)])] []) 100 114 hnt [0] (z := { t := [(0, PV.int IntKind.u8 (Int.ofNat a))], h := { bx := [], rw := [] } }) (o := [(decide (24 ≤ (↑a : Int)), false), (false, false)]) (by kernel_rfl) (by ((repeat' (first | exact okO_nil | refine okN ?_ ?_)); all_goals first | assumption | rfl | exact same_of rfl | exact sameS_self _ | (simp only [decide_eq_true_eq, decide_eq_false_iff_not, Nat.ble_eq, Nat.beq_eq, beq_eq_false_iff_ne, beq_iff_eq, ne_eq] <;> omega))) ?_
  refine Q.runSeq (SLo [] []) 100 114 hnt [0, 3] (z := { t := [(0, PV.int IntKind.u8 (Int.ofNat a)), (3, PV.ptr 0 0)], h := { bx := [{ cs := [PV.int IntKind.i64 (3 : Int), PV.int IntKind.i64 (0 : Int), PV.str { data := #[] }, PV.own 0 0], ty := 24 }], rw := [some { cs := [], n := 0, ty := 24, sz := 4 }] } }) (o := []) (by kernel_rfl) (by ((repeat' (first | exact okO_nil | refine okN ?_ ?_)); all_goals first | assumption | rfl | exact same_of rfl | exact sameS_self _ | (simp only [decide_eq_true_eq, decide_eq_false_iff_not, Nat.ble_eq, Nat.beq_eq, beq_eq_false_iff_ne, beq_iff_eq, ne_eq] <;> omega))) ?_
  refine Q.seq fun K hK => ?_
  obtain ⟨m, hm⟩ : ∃ m, m = 2286 + a := ⟨_, rfl⟩
  have w1 : same (PV.int IntKind.i64 (IntKind.wrap IntKind.i64 ((2286 : Int) + IntKind.wrap IntKind.i64 (Int.ofNat a)))) (PV.int IntKind.i64 (Int.ofNat m)) = true := same_of (by
    rw [wrapI a (by omega), show ((2286 : Int) + (a : Int)) = Int.ofNat m by rw [hm]; simp, wrapI m (by omega)]; rfl)
  have rest : ∀ st, nrm [3] st = ⟨[(3, .ptr 0 0)], ⟨[DBx (.own 0 m)], [some (dR (nums m).cells m)]⟩⟩ → K st := fun st hst => hK st (.norm [3] (by
    rw [hst]
    clear hst hK
    refine SWP.frz [0] ?_
    refine swp_dropR 0 (Nat.zero_le _) rfl rfl ?_
    refine swp_st (st' := ⟨[(3, .ptr 0 0)], ⟨[DB 3 0 ⟨#[]⟩ (nest m 0)], []⟩⟩) (by show _ = (⟨[(3, .ptr 0 0)], ⟨[DB 3 0 ⟨#[]⟩ (nums m)], []⟩⟩ : AS); unfold DB; rw [nums_len]; rfl) ?_
    refine Q.seq fun K hK => ?_
    obtain ⟨ks, hks⟩ : ∃ ks, ks = nest m 0 := ⟨_, rfl⟩
    rw [← hks]
    refine Q.runSeq (SLo [] []) 100 114 hnt [3, 5] (z := { t := [(3, PV.ptr 0 0), (5, PV.int IntKind.i64 (0 : Int))], h := { bx := [{ cs := [PV.int IntKind.i64 (3 : Int), PV.int IntKind.i64 (0 : Int), PV.str { data := #[] }, PV.slice (Dats.len ks) (Dats.cells ks)], ty := 24 }], rw := [] } }) (o := []) (by kernel_rfl) (by ((repeat' (first | exact okO_nil | refine okN ?_ ?_)); all_goals first | assumption | rfl | exact same_of rfl | exact sameS_self _ | (simp only [decide_eq_true_eq, decide_eq_false_iff_not, Nat.ble_eq, Nat.beq_eq, beq_eq_false_iff_ne, beq_iff_eq, ne_eq] <;> omega))) ?_
    refine Q.block ?_
    let T (j : Nat) : AS := ⟨[(3, .ptr 0 0), (5, .int .i64 j)], ⟨[DB 3 0 ⟨#[]⟩ (nest m j)], []⟩⟩
    refine Q.loopI (σ := { j : Nat // j ≤ 396 }) [3, 5] (fun j => T j.1) (fun j => 396 - j.1) ⟨0, Nat.zero_le _⟩ (by rw [hks]; rfl) fun ⟨j, hj⟩ => ?_
    show SWP G0 C _ _ ⟨[(3, .ptr 0 0), (5, .int .i64 j)], ⟨[DB 3 0 ⟨#[]⟩ (nest m j)], []⟩⟩
    clear hks
    obtain ⟨ks, hks⟩ : ∃ ks, ks = nest m j := ⟨_, rfl⟩
    refine swp_st (st' := ⟨[(3, .ptr 0 0), (5, .int .i64 j)], ⟨[DB 3 0 ⟨#[]⟩ ks], []⟩⟩) (by rw [hks]) ?_
    rcases Nat.lt_or_ge j 396 with hlt | hge
    · have e1 : decide ((j : Int) < 396) = true := by rw [decide_eq_true_eq]; omega
      have wj : IntKind.wrap IntKind.i64 (Int.ofNat (j + 1)) = ((j + 1 : Nat) : Int) := wrapI (j + 1) (by omega)
      refine Q.runSeq (SLo [(114, [(31, true)])] []) 100 114 hnt [3, 5] (z := { t := [(3, PV.ptr 0 0), (5, PV.int IntKind.i64 (Int.ofNat j))], h := { bx := [{ cs := [PV.int IntKind.i64 (3 : Int), PV.int IntKind.i64 (0 : Int), PV.str { data := #[] }, PV.slice (Dats.len ks) (Dats.cells ks)], ty := 24 }], rw := [] } }) (o := [(decide ((↑j : Int) < 396), true), (true, true)]) (by kernel_rfl) (by ((repeat' (first | exact okO_nil | refine okN ?_ ?_)); all_goals first | assumption | rfl | exact same_of rfl | exact sameS_self _ | (simp only [decide_eq_true_eq, decide_eq_false_iff_not, Nat.ble_eq, Nat.beq_eq, beq_eq_false_iff_ne, beq_iff_eq, ne_eq] <;> omega))) ?_
      refine Q.seq fun K3 hK3 => ?_
      refine Q.block ?_
      have e2 : isSlc 2 [PV.int IntKind.i64 (1 : Int), PV.int IntKind.i64 (1 : Int), PV.str { data := #[] }, PV.slice 0 [], PV.int IntKind.i64 3, PV.int IntKind.i64 0, PV.str ⟨#[]⟩, PV.slice (Dats.len ks) (Dats.cells ks)] = true :=
        isSlc_at (ks := .cons lOne (.cons (.mk 3 0 ⟨#[]⟩ ks) .nil)) (by show 2 ≤ _; omega)
      refine SWP.runLQ (SLo [] []) 100 114 hnt [3, 5] (l := [{ t := [(3, PV.ptr 0 0), (5, PV.int IntKind.i64 (Int.ofNat j))], h := { bx := [{ cs := [PV.int IntKind.i64 (3 : Int), PV.int IntKind.i64 (0 : Int), PV.str { data := #[] }, PV.slice 2 [PV.int IntKind.i64 (1 : Int), PV.int IntKind.i64 (1 : Int), PV.str { data := #[] }, PV.slice 0 [], PV.int IntKind.i64 (3 : Int), PV.int IntKind.i64 (0 : Int), PV.str { data := #[] }, PV.slice (Dats.len ks) (Dats.cells ks)]], ty := 24 }], rw := [] } }]) (o := [(true, true), (true, true), (isSlc 2 [PV.int IntKind.i64 (1 : Int), PV.int IntKind.i64 (1 : Int), PV.str { data := #[] }, PV.slice 0 [], PV.int IntKind.i64 (3 : Int), PV.int IntKind.i64 (0 : Int), PV.str { data := #[] }, PV.slice (Dats.len ks) (Dats.cells ks)], true)]) (by kernel_rfl) (by ((repeat' (first | exact okO_nil | refine okN ?_ ?_)); all_goals first | assumption | rfl | exact same_of rfl | exact sameS_self _ | (simp only [decide_eq_true_eq, decide_eq_false_iff_not, Nat.ble_eq, Nat.beq_eq, beq_eq_false_iff_ne, beq_iff_eq, ne_eq] <;> omega))) (fun st hst => hK3 st (.norm [3, 5] ?_))
      have hst2 : nrm [3, 5] st = ⟨[(3, .ptr 0 0), (5, .int .i64 j)], ⟨[DB 3 0 ⟨#[]⟩ (nest m (j + 1))], []⟩⟩ := by
        simp only [List.mem_cons, List.not_mem_nil, or_false, or_self] at hst
        rw [hst, hks]
        rfl
      rw [hst2]
      clear hst hst2 hks
      obtain ⟨ks, hks⟩ : ∃ ks, ks = nest m (j + 1) := ⟨_, rfl⟩
      rw [← hks]
      exact SWP.runQ (SLo [] []) 100 114 hnt [3, 5] (e := .normal) (z := { t := [(3, PV.ptr 0 0), (5, PV.int IntKind.i64 (IntKind.wrap IntKind.i64 (Int.ofNat (j + 1))))], h := { bx := [{ cs := [PV.int IntKind.i64 (3 : Int), PV.int IntKind.i64 (0 : Int), PV.str { data := #[] }, PV.slice (Dats.len ks) (Dats.cells ks)], ty := 24 }], rw := [] } }) (o := []) (by kernel_rfl) (by ((repeat' (first | exact okO_nil | refine okN ?_ ?_)); all_goals first | assumption | rfl | exact same_of rfl | exact sameS_self _ | (simp only [decide_eq_true_eq, decide_eq_false_iff_not, Nat.ble_eq, Nat.beq_eq, beq_eq_false_iff_ne, beq_iff_eq, ne_eq] <;> omega))) (fun st hst => ⟨⟨j + 1, hlt⟩, Nat.sub_lt_sub_left hlt (Nat.lt_succ_self j), by rw [hst, wj, hks]; rfl⟩)
    · have e1 : decide ((j : Int) < 396) = false := by rw [decide_eq_false_iff_not]; omega
      refine SWP.runQ (SLo [(114, [(31, false)])] []) 100 114 hnt [3] (e := .exit 2) (z := { t := [(3, PV.ptr 0 0)], h := { bx := [{ cs := [PV.int IntKind.i64 (3 : Int), PV.int IntKind.i64 (0 : Int), PV.str { data := #[] }, PV.slice (Dats.len ks) (Dats.cells ks)], ty := 24 }], rw := [] } }) (o := [(decide ((↑j : Int) < 396), false), (false, false)]) (by kernel_rfl) (by ((repeat' (first | exact okO_nil | refine okN ?_ ?_)); all_goals first | assumption | rfl | exact same_of rfl | exact sameS_self _ | (simp only [decide_eq_true_eq, decide_eq_false_iff_not, Nat.ble_eq, Nat.beq_eq, beq_eq_false_iff_ne, beq_iff_eq, ne_eq] <;> omega))) (fun st hst => hK st (.norm [3] ?_))
      rw [hst]
      clear hst hK
      obtain ⟨g0, g1, g2, g3, g4, g5⟩ := nest_ok m (by omega) j
      rw [← hks] at g0 g1 g2 g3 g4 g5
      have hS : Small (.mk 3 0 ⟨#[]⟩ ks) := ⟨⟨g0, g1⟩, ⟨by decide, g2⟩, by simp only [parts]; omega⟩
      have hF : formedD (.mk 3 0 ⟨#[]⟩ ks) = true := by simp only [formedD, g4]; rfl
      have hC : chkD (.mk 3 0 ⟨#[]⟩ ks) = 0 := by
        have hdn : deepN (.mk 3 0 ⟨#[]⟩ ks) = deepNL ks + 1 := by simp only [deepN]
        have hp : parts (.mk 3 0 ⟨#[]⟩ ks) ≤ 4000 := by simp only [parts]; omega
        exact chk_zero hF (by omega) (by omega)
      have h0 : lawE (.mk 3 0 ⟨#[]⟩ ks) 10 = 0 := by rw [lawE, if_pos hC]; rfl
      have a1 : isSml [PV.int IntKind.i64 3, PV.int IntKind.i64 0, PV.str ⟨#[]⟩, PV.slice (Dats.len ks) (Dats.cells ks)] = true := isSml_at (d := .mk 3 0 ⟨#[]⟩ ks) hS
      have a6 : isLy [PV.int IntKind.i64 3, PV.int IntKind.i64 0, PV.str ⟨#[]⟩, PV.slice (Dats.len ks) (Dats.cells ks)] = true := isLy_at (d := .mk 3 0 ⟨#[]⟩ ks) hS hF
      have lb : loBC 10 [PV.int IntKind.i64 3, PV.int IntKind.i64 0, PV.str ⟨#[]⟩, PV.slice (Dats.len ks) (Dats.cells ks)] = alB (.cons (.mk 3 0 ⟨#[]⟩ ks) .nil) 10 := ofCells_at _ _ (.mk 3 0 ⟨#[]⟩ ks)
      have ll : llC 10 [PV.int IntKind.i64 3, PV.int IntKind.i64 0, PV.str ⟨#[]⟩, PV.slice (Dats.len ks) (Dats.cells ks)] = (metR (.mk 3 0 ⟨#[]⟩ ks) 10).1 := ofCells_at _ _ (.mk 3 0 ⟨#[]⟩ ks)
      have lv : lvC 10 [PV.int IntKind.i64 3, PV.int IntKind.i64 0, PV.str ⟨#[]⟩, PV.slice (Dats.len ks) (Dats.cells ks)] = (metR (.mk 3 0 ⟨#[]⟩ ks) 10).2.2 := ofCells_at _ _ (.mk 3 0 ⟨#[]⟩ ks)
      have le : loEC 10 [PV.int IntKind.i64 3, PV.int IntKind.i64 0, PV.str ⟨#[]⟩, PV.slice (Dats.len ks) (Dats.cells ks)] = alE (.cons (.mk 3 0 ⟨#[]⟩ ks) .nil) 10 := ofCells_at _ _ (.mk 3 0 ⟨#[]⟩ ks)
      have la : laC 10 [PV.int IntKind.i64 3, PV.int IntKind.i64 0, PV.str ⟨#[]⟩, PV.slice (Dats.len ks) (Dats.cells ks)] = layT 10 (.mk 3 0 ⟨#[]⟩ ks) 0 0 ++ [10] := ofCells_at _ _ (.mk 3 0 ⟨#[]⟩ ks)
      obtain ⟨y, hy⟩ : ∃ y, y = mkS (layT 10 (.mk 3 0 ⟨#[]⟩ ks) 0 0 ++ [10]) := ⟨_, rfl⟩
      have b2 : same (PV.str (mkS (laC 10 [PV.int IntKind.i64 3, PV.int IntKind.i64 0, PV.str ⟨#[]⟩, PV.slice (Dats.len ks) (Dats.cells ks)]))) (PV.str y) = true := same_of (by rw [la, hy])
      have hsz : y.size = (layT 10 (.mk 3 0 ⟨#[]⟩ ks) 0 0 ++ [10]).length := by rw [hy]; rfl
      by_cases hl : 2000000 < (layT 10 (.mk 3 0 ⟨#[]⟩ ks) 0 0 ++ [10]).length
      · obtain ⟨q1, q2⟩ := al_long (w := 10) h0 hl
        have em : metR (.mk 3 0 ⟨#[]⟩ ks) 10 = (0, 0, 0) := by rw [metR, if_neg (by rw [q1]; decide)]
        have m1 : (Int.ofNat (llC 10 [PV.int IntKind.i64 3, PV.int IntKind.i64 0, PV.str ⟨#[]⟩, PV.slice (Dats.len ks) (Dats.cells ks)]) == (0 : Int)) = true := by rw [ll, em]; rfl
        have m2 : (Int.ofNat (lvC 10 [PV.int IntKind.i64 3, PV.int IntKind.i64 0, PV.str ⟨#[]⟩, PV.slice (Dats.len ks) (Dats.cells ks)]) == (0 : Int)) = true := by rw [lv, em]; rfl
        have b3 : decide (2000000 < ((ByteArray.size y : Nat) : Int)) = true := by rw [hsz, decide_eq_true_eq]; omega
        have b4 : (loEC 10 [PV.int IntKind.i64 3, PV.int IntKind.i64 0, PV.str ⟨#[]⟩, PV.slice (Dats.len ks) (Dats.cells ks)] == (3 : Int)) = true := by rw [le, q1]; rfl
        have b5 : (ByteArray.toList (loBC 10 [PV.int IntKind.i64 3, PV.int IntKind.i64 0, PV.str ⟨#[]⟩, PV.slice (Dats.len ks) (Dats.cells ks)]) == []) = true := by rw [lb, q2]; exact emp _ rfl
        exact SWP.runQ (SLo [(114, [(57, true), (59, true), (62, true), (66, true), (70, true), (74, true), (78, true)])] [(114, [(54, .str y)])]) 100 114 hnt [2] (e := .ret) (z := ⟨[(2, .bool true)], ⟨[DB 3 0 ⟨#[]⟩ ks], []⟩⟩) (o := [(true, true), (isSml [PV.int IntKind.i64 3, PV.int IntKind.i64 0, PV.str ⟨#[]⟩, PV.slice (Dats.len ks) (Dats.cells ks)], true), (true, true), (isSml [PV.int IntKind.i64 3, PV.int IntKind.i64 0, PV.str ⟨#[]⟩, PV.slice (Dats.len ks) (Dats.cells ks)], true), (true, true), (isSml [PV.int IntKind.i64 3, PV.int IntKind.i64 0, PV.str ⟨#[]⟩, PV.slice (Dats.len ks) (Dats.cells ks)], true), (true, true), (isLy [PV.int IntKind.i64 3, PV.int IntKind.i64 0, PV.str ⟨#[]⟩, PV.slice (Dats.len ks) (Dats.cells ks)], true), (true, true), (same (PV.str (mkS (laC 10 [PV.int IntKind.i64 3, PV.int IntKind.i64 0, PV.str ⟨#[]⟩, PV.slice (Dats.len ks) (Dats.cells ks)]))) (PV.str y), true), (decide (2000000 < ((ByteArray.size y : Nat) : Int)), true), (true, true), (ByteArray.toList (loBC 10 [PV.int IntKind.i64 3, PV.int IntKind.i64 0, PV.str ⟨#[]⟩, PV.slice (Dats.len ks) (Dats.cells ks)]) == [], true), (loEC 10 [PV.int IntKind.i64 3, PV.int IntKind.i64 0, PV.str ⟨#[]⟩, PV.slice (Dats.len ks) (Dats.cells ks)] == (3 : Int), true), (Int.ofNat (llC 10 [PV.int IntKind.i64 3, PV.int IntKind.i64 0, PV.str ⟨#[]⟩, PV.slice (Dats.len ks) (Dats.cells ks)]) == (0 : Int), true), (loEC 10 [PV.int IntKind.i64 3, PV.int IntKind.i64 0, PV.str ⟨#[]⟩, PV.slice (Dats.len ks) (Dats.cells ks)] == (3 : Int), true), (Int.ofNat (lvC 10 [PV.int IntKind.i64 3, PV.int IntKind.i64 0, PV.str ⟨#[]⟩, PV.slice (Dats.len ks) (Dats.cells ks)]) == (0 : Int), true), (loEC 10 [PV.int IntKind.i64 3, PV.int IntKind.i64 0, PV.str ⟨#[]⟩, PV.slice (Dats.len ks) (Dats.cells ks)] == (3 : Int), true), (true, true)]) (by kernel_rfl) (by ((repeat' (first | exact okO_nil | refine okN ?_ ?_)); all_goals first | assumption | rfl | exact same_of rfl | exact sameS_self _ | (simp only [decide_eq_true_eq, decide_eq_false_iff_not, Nat.ble_eq, Nat.beq_eq, beq_eq_false_iff_ne, beq_iff_eq, ne_eq] <;> omega))) (fun st hs => fin st _ hs)
      · obtain ⟨q1, q2⟩ := al_ok (w := 10) h0 (Nat.le_of_not_lt hl)
        have b3 : decide (2000000 < ((ByteArray.size y : Nat) : Int)) = false := by rw [hsz, decide_eq_false_iff_not]; omega
        have b4 : (loEC 10 [PV.int IntKind.i64 3, PV.int IntKind.i64 0, PV.str ⟨#[]⟩, PV.slice (Dats.len ks) (Dats.cells ks)] == (0 : Int)) = true := by rw [le, q1]; rfl
        have b4' : (ByteArray.toList (loBC 10 [PV.int IntKind.i64 3, PV.int IntKind.i64 0, PV.str ⟨#[]⟩, PV.slice (Dats.len ks) (Dats.cells ks)]) == ByteArray.toList y) = true := by rw [lb, q2, hy, beq_iff_eq]; rfl
        obtain ⟨p1, p2, p3⟩ := lines_meter 10 (.mk 3 0 ⟨#[]⟩ ks) hF
        rw [← hy] at p1 p3
        have em : metR (.mk 3 0 ⟨#[]⟩ ks) 10 = layG mS 10 (.mk 3 0 ⟨#[]⟩ ks) 0 0 (1, 0, 0) := by rw [metR, if_pos q1]; rfl
        have b5 : Nat.ble (ByteArray.size y) 1099511627776 = true := by rw [Nat.ble_eq, hsz]; omega
        have b6 : Nat.ble 1 (List.length (rowL y y.size)) = true := by rw [Nat.ble_eq, p1]; exact p2
        have b7 : (Int.ofNat (llC 10 [PV.int IntKind.i64 3, PV.int IntKind.i64 0, PV.str ⟨#[]⟩, PV.slice (Dats.len ks) (Dats.cells ks)]) == Int.ofNat (List.length (rowL y y.size))) = true := by rw [ll, em, p1, beq_iff_eq]
        have b8 : (Int.ofNat (lvC 10 [PV.int IntKind.i64 3, PV.int IntKind.i64 0, PV.str ⟨#[]⟩, PV.slice (Dats.len ks) (Dats.cells ks)]) == Int.ofNat (wdN (rowL y y.size) (List.length (rowL y y.size)))) = true := by rw [lv, em, p3, beq_iff_eq]
        exact SWP.runQ (SLo [(114, [(57, false), (84, true), (88, true), (92, true), (99, true), (103, true), (109, true)])] [(114, [(54, .str y)])]) 100 114 hnt [2] (e := .ret) (z := ⟨[(2, .bool true)], ⟨[DB 3 0 ⟨#[]⟩ ks], [some (sR (rowL y y.size) (List.length (rowL y y.size)))]⟩⟩) (o := [(true, true), (isSml [PV.int IntKind.i64 3, PV.int IntKind.i64 0, PV.str ⟨#[]⟩, PV.slice (Dats.len ks) (Dats.cells ks)], true), (true, true), (isSml [PV.int IntKind.i64 3, PV.int IntKind.i64 0, PV.str ⟨#[]⟩, PV.slice (Dats.len ks) (Dats.cells ks)], true), (true, true), (isSml [PV.int IntKind.i64 3, PV.int IntKind.i64 0, PV.str ⟨#[]⟩, PV.slice (Dats.len ks) (Dats.cells ks)], true), (true, true), (isLy [PV.int IntKind.i64 3, PV.int IntKind.i64 0, PV.str ⟨#[]⟩, PV.slice (Dats.len ks) (Dats.cells ks)], true), (true, true), (same (PV.str (mkS (laC 10 [PV.int IntKind.i64 3, PV.int IntKind.i64 0, PV.str ⟨#[]⟩, PV.slice (Dats.len ks) (Dats.cells ks)]))) (PV.str y), true), (decide (2000000 < ((ByteArray.size y : Nat) : Int)), false), (false, false), (loEC 10 [PV.int IntKind.i64 3, PV.int IntKind.i64 0, PV.str ⟨#[]⟩, PV.slice (Dats.len ks) (Dats.cells ks)] == (0 : Int), true), (ByteArray.toList (loBC 10 [PV.int IntKind.i64 3, PV.int IntKind.i64 0, PV.str ⟨#[]⟩, PV.slice (Dats.len ks) (Dats.cells ks)]) == ByteArray.toList y, true), (loEC 10 [PV.int IntKind.i64 3, PV.int IntKind.i64 0, PV.str ⟨#[]⟩, PV.slice (Dats.len ks) (Dats.cells ks)] == (0 : Int), true), (true, true), (Nat.ble (ByteArray.size y) 1099511627776, true), (Nat.ble 1 (List.length (rowL y y.size)), true), (Int.ofNat (llC 10 [PV.int IntKind.i64 3, PV.int IntKind.i64 0, PV.str ⟨#[]⟩, PV.slice (Dats.len ks) (Dats.cells ks)]) == Int.ofNat (List.length (rowL y y.size)), true), (loEC 10 [PV.int IntKind.i64 3, PV.int IntKind.i64 0, PV.str ⟨#[]⟩, PV.slice (Dats.len ks) (Dats.cells ks)] == (0 : Int), true), (true, true), (Nat.ble (ByteArray.size y) 1099511627776, true), (Nat.ble 1 (List.length (rowL y y.size)), true), (Int.ofNat (lvC 10 [PV.int IntKind.i64 3, PV.int IntKind.i64 0, PV.str ⟨#[]⟩, PV.slice (Dats.len ks) (Dats.cells ks)]) == Int.ofNat (wdN (rowL y y.size) (List.length (rowL y y.size))), true), (true, true)]) (by kernel_rfl) (by ((repeat' (first | exact okO_nil | refine okN ?_ ?_)); all_goals first | assumption | rfl | exact same_of rfl | exact sameS_self _ | (simp only [decide_eq_true_eq, decide_eq_false_iff_not, Nat.ble_eq, Nat.beq_eq, beq_eq_false_iff_ne, beq_iff_eq, ne_eq] <;> omega))) (fun st hs => fin st _ hs)))
  refine Q.runSeq (SLo [] []) 100 114 hnt [0, 3, 4] (z := { t := [(0, PV.int IntKind.u8 (Int.ofNat a)), (3, PV.ptr 0 0), (4, PV.int IntKind.i64 (0 : Int))], h := { bx := [{ cs := [PV.int IntKind.i64 (3 : Int), PV.int IntKind.i64 (0 : Int), PV.str { data := #[] }, PV.own 0 0], ty := 24 }], rw := [some { cs := [], n := 0, ty := 24, sz := 4 }] } }) (o := []) (by kernel_rfl) (by ((repeat' (first | exact okO_nil | refine okN ?_ ?_)); all_goals first | assumption | rfl | exact same_of rfl | exact sameS_self _ | (simp only [decide_eq_true_eq, decide_eq_false_iff_not, Nat.ble_eq, Nat.beq_eq, beq_eq_false_iff_ne, beq_iff_eq, ne_eq] <;> omega))) ?_
  refine Q.block ?_
  let T (j : Nat) : AS := ⟨[(0, .int .u8 a), (3, .ptr 0 0), (4, .int .i64 j)], ⟨[DBx (.own 0 j)], [some (dR (nums j).cells j)]⟩⟩
  refine Q.loopI (σ := { j : Nat // j ≤ m }) [0, 3, 4] (fun j => T j.1) (fun j => m - j.1) ⟨0, Nat.zero_le _⟩ rfl fun ⟨j, hj⟩ => ?_
  show SWP G0 C _ _ ⟨[(0, .int .u8 a), (3, .ptr 0 0), (4, .int .i64 j)], ⟨[DBx (.own 0 j)], [some (dR (nums j).cells j)]⟩⟩
  obtain ⟨rc, hrc⟩ : ∃ rc, rc = (nums j).cells := ⟨_, rfl⟩
  refine swp_st (st' := ⟨[(0, .int .u8 a), (3, .ptr 0 0), (4, .int .i64 j)], ⟨[DBx (.own 0 j)], [some (dR rc j)]⟩⟩) (by rw [hrc]) ?_
  rcases Nat.lt_or_ge j m with hlt | hge
  · have e1 := lt_at hlt
    have wj : IntKind.wrap IntKind.i64 (Int.ofNat (j + 1)) = ((j + 1 : Nat) : Int) := wrapI (j + 1) (by omega)
    refine Q.runSeq (SLo [(114, [(21, true)])] [(114, [(20, .int .i64 m)])]) 100 114 hnt [0, 3, 4] (z := { t := [(0, PV.int IntKind.u8 (Int.ofNat a)), (3, PV.ptr 0 0), (4, PV.int IntKind.i64 (Int.ofNat j))], h := { bx := [{ cs := [PV.int IntKind.i64 (3 : Int), PV.int IntKind.i64 (0 : Int), PV.str { data := #[] }, PV.own 0 j], ty := 24 }], rw := [some { cs := rc, n := j, ty := 24, sz := 4 }] } }) (o := [(same (PV.int IntKind.i64 (IntKind.wrap IntKind.i64 ((2286 : Int) + IntKind.wrap IntKind.i64 (Int.ofNat a)))) (PV.int IntKind.i64 (Int.ofNat m)), true), (decide ((↑j : Int) < (↑m : Int)), true), (true, true)]) (by kernel_rfl) (by ((repeat' (first | exact okO_nil | refine okN ?_ ?_)); all_goals first | assumption | rfl | exact same_of rfl | exact sameS_self _ | (simp only [decide_eq_true_eq, decide_eq_false_iff_not, Nat.ble_eq, Nat.beq_eq, beq_eq_false_iff_ne, beq_iff_eq, ne_eq] <;> omega))) ?_
    refine Q.seq fun K3 hK3 => ?_
    refine Q.block ?_
    refine SWP.runLQ (SLo [(114, [(28, true)])] []) 100 114 hnt [0, 3, 4] (l := [{ t := [(0, PV.int IntKind.u8 (Int.ofNat a)), (3, PV.ptr 0 0), (4, PV.int IntKind.i64 (Int.ofNat j))], h := { bx := [{ cs := [PV.int IntKind.i64 (3 : Int), PV.int IntKind.i64 (0 : Int), PV.str { data := #[] }, PV.own 0 (j + 1)], ty := 24 }], rw := [some { cs := rc ++ [PV.int IntKind.i64 (1 : Int), PV.int IntKind.i64 (1234567 : Int), PV.str { data := #[] }, PV.slice 0 []], n := j + 1, ty := 24, sz := 4 }] } }]) (o := [(true, true), (true, true), (Nat.ble ((j + 1) * 56) 140737488355328, true), (Nat.ble (j + 1) 9223372036854775807, true)]) (by kernel_rfl) (by ((repeat' (first | exact okO_nil | refine okN ?_ ?_)); all_goals first | assumption | rfl | exact same_of rfl | exact sameS_self _ | (simp only [decide_eq_true_eq, decide_eq_false_iff_not, Nat.ble_eq, Nat.beq_eq, beq_eq_false_iff_ne, beq_iff_eq, ne_eq] <;> omega))) (fun st hst => hK3 st (.norm [0, 3, 4] ?_))
    have hst2 : nrm [0, 3, 4] st = ⟨[(0, .int .u8 a), (3, .ptr 0 0), (4, .int .i64 j)], ⟨[DBx (.own 0 (j + 1))], [some (dR (rc ++ lNum.cells) (j + 1))]⟩⟩ := by
      simp only [List.mem_cons, List.not_mem_nil, or_false, or_self] at hst
      exact hst
    rw [hst2]
    have hr2 : rc ++ lNum.cells = (nums (j + 1)).cells := by rw [nums_snoc, hrc]
    rw [hr2]
    obtain ⟨rr, hrr⟩ : ∃ rr, rr = (nums (j + 1)).cells := ⟨_, rfl⟩
    rw [← hrr]
    exact SWP.runQ (SLo [] []) 100 114 hnt [0, 3, 4] (e := .normal) (z := { t := [(0, PV.int IntKind.u8 (Int.ofNat a)), (3, PV.ptr 0 0), (4, PV.int IntKind.i64 (IntKind.wrap IntKind.i64 (Int.ofNat (j + 1))))], h := { bx := [{ cs := [PV.int IntKind.i64 (3 : Int), PV.int IntKind.i64 (0 : Int), PV.str { data := #[] }, PV.own 0 (j + 1)], ty := 24 }], rw := [some { cs := rr, n := j + 1, ty := 24, sz := 4 }] } }) (o := []) (by kernel_rfl) (by ((repeat' (first | exact okO_nil | refine okN ?_ ?_)); all_goals first | assumption | rfl | exact same_of rfl | exact sameS_self _ | (simp only [decide_eq_true_eq, decide_eq_false_iff_not, Nat.ble_eq, Nat.beq_eq, beq_eq_false_iff_ne, beq_iff_eq, ne_eq] <;> omega))) (fun st hst => ⟨⟨j + 1, hlt⟩, Nat.sub_lt_sub_left hlt (Nat.lt_succ_self j), by rw [hst, wj, hrr]; rfl⟩)
  · have e1 := ge_at hge
    have hje : j = m := by omega
    exact SWP.runQ (SLo [(114, [(21, false)])] [(114, [(20, .int .i64 m)])]) 100 114 hnt [3] (e := .exit 0) (z := { t := [(3, PV.ptr 0 0)], h := { bx := [{ cs := [PV.int IntKind.i64 (3 : Int), PV.int IntKind.i64 (0 : Int), PV.str { data := #[] }, PV.own 0 j], ty := 24 }], rw := [some { cs := rc, n := j, ty := 24, sz := 4 }] } }) (o := [(same (PV.int IntKind.i64 (IntKind.wrap IntKind.i64 ((2286 : Int) + IntKind.wrap IntKind.i64 (Int.ofNat a)))) (PV.int IntKind.i64 (Int.ofNat m)), true), (decide ((↑j : Int) < (↑m : Int)), false), (false, false)]) (by kernel_rfl) (by ((repeat' (first | exact okO_nil | refine okN ?_ ?_)); all_goals first | assumption | rfl | exact same_of rfl | exact sameS_self _ | (simp only [decide_eq_true_eq, decide_eq_false_iff_not, Nat.ble_eq, Nat.beq_eq, beq_eq_false_iff_ne, beq_iff_eq, ne_eq] <;> omega))) (fun st hst => rest st (by rw [hst, hrc, hje]; rfl))
end Seat
end Go.Proofs.YtkblfapbakfgpaaDoor
/- Layout: numbers that are handed in. -/
namespace Go.Proofs.YtkblfapbakfgpaaDoor.Seat
open Go.ChangeShapes Go.WideShapes Go.ChangeAt Go.RowKit Go.AS
set_option linter.unusedVariables false
set_option maxRecDepth 100000
def flatBT (t : TypeId) : Prop := t = 5
theorem flatB : Flat Tryd.prog flatBT := ⟨fun t ht => by
  rw [ht]
  exact .inr (.inl ⟨_, Tryd.underlying5⟩)⟩
theorem range8 {b : Int} (h : (Lit.int .u8 b).wf = true) : 0 ≤ b ∧ b < 256 := by
  have : 0 ≤ b ∧ b ≤ 255 := by simpa [Lit.wf, IntKind.min, IntKind.max, IntKind.signed, IntKind.bits] using h
  omega
end Go.Proofs.YtkblfapbakfgpaaDoor.Seat
