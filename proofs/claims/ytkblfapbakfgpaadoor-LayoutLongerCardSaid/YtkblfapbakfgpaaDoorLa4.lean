/- Texts of this session, packed: Text3, Text4, Lay0, Lay1, Lay2, Lay3, Lay4, Lay5. -/
import Derived.Test.YtkblfapbakfgpaaDoorLa3
/- Text: the written form of a datum, as the document writes it; both texts. -/
namespace Go.Proofs.YtkblfapbakfgpaaDoor
open Go.AS Go.RowKit
set_option linter.unusedVariables false
set_option linter.unusedSimpArgs false
set_option maxRecDepth 100000
namespace Seat
def RPutAt (N : Nat) : Prop := ∀ d : Dat, d.size < N → d.ok → d.rng → ∀ (rc : List PV) (m : Nat), m + (textD d).length ≤ 140737488355328 →
  RCalls G0 60 [.own 0 m, .agg d.cells] ⟨[], [some (bR rc m)]⟩ (fun o H => o = .ret (.own 0 (m + (textD d).length)) ∧ H = ⟨[], [some (bR (rc ++ bytesPL (textD d)) (m + (textD d).length))]⟩)
noncomputable def rputV (N : Nat) (f : Nat) (xs : List PV) (H : Hp) : Option (PV × Hp × Ob) := match f, xs, H with
  | 60, [.own 0 n, .agg cs], ⟨[], [some ⟨rc, m, e, 1⟩]⟩ => match Nat.beq e 5 with
    | true => some (.own 0 (m + (txC cs).length), ⟨[], [some ⟨rc ++ bytesPL (txC cs), m + (txC cs).length, e, 1⟩]⟩, [(isTx N cs, true), (Nat.beq n m, true), (Nat.ble (m + (txC cs).length) 140737488355328, true)])
    | false => none
  | _, _, _ => none
theorem rputV_ok {N : Nat} (ih : RPutAt N) (f : Nat) (xs : List PV) (H : Hp) (r : PV) (H' : Hp) (o : Ob) (h : rputV N f xs H = some (r, H', o)) (ho : ∀ p ∈ o, p.1 = p.2) : RCalls G0 f xs H (fun o' H2 => o' = .ret r ∧ H2 = H') ∧ r.scP (belowN H'.bx.length) (belowN H'.rw.length) = true ∧ H'.scB H'.bx.length H'.rw.length = true := by
  unfold rputV at h
  split at h
  · rename_i n cs rc m e
    split at h
    · rename_i hc
      cases h
      simp only [Nat.beq_eq] at hc
      subst hc
      obtain ⟨d, rfl, h1, h2, h3⟩ := isTx_of (ho (isTx N cs, true) (by simp))
      have h4 := ho (Nat.beq n m, true) (by simp)
      have h5 := ho (Nat.ble (m + (txC d.cells).length) 140737488355328, true) (by simp)
      simp only [Nat.beq_eq, Nat.ble_eq] at h4 h5
      subst h4
      rw [txC_at] at h5 ⊢
      exact ⟨ih d h1 h2 h3 rc n h5, rfl, rfl⟩
    · cases h
  · cases h
noncomputable def SR {N : Nat} (ih : RPutAt N) (l : List (Nat × List (Nat × Bool))) (v : List (Nat × List (Nat × PV))) : Cfg G0 := { F := F, hF := hF, S := fmtS, hS := fmtS_ok, V := rputV N, hV := rputV_ok ih, hp := hpB, D := hpB, orc := orcM l, val := valM v }
def RSt (x : PV) (rws : List (Option Row)) (rc : List PV) (m : Nat) : Prop := (x = .own 0 m ∧ rws = [some (bR rc m)]) ∨ (x = .nil ∧ rws = [] ∧ rc = [] ∧ m = 0)
theorem rput_gen {N : Nat} (ih : RPutAt N) (d : Dat) (hN : d.size < N + 1) (hok : d.ok) (hrng : d.rng) (x : PV) (rws : List (Option Row)) (rc : List PV) (m : Nat) (hB : RSt x rws rc m) (hm : m + (textD d).length ≤ 140737488355328) :
    RCalls G0 60 [x, .agg d.cells] ⟨[], rws⟩ (fun o H => o = .ret (.own 0 (m + (textD d).length)) ∧ H = ⟨[], [some (bR (rc ++ bytesPL (textD d)) (m + (textD d).length))]⟩) := by
  obtain ⟨k, n, s, ks⟩ := d
  have hlen := hok.1
  refine Fn.enterH Tryd.func60 Tryd.ntmps60 rfl (Nat.le_of_ble_eq_true rfl) fun C fr fp hnt hnb hfr => ?_
  have fin : ∀ st l, l = textD (.mk k n s ks) → nrm [4] st = ⟨[(4, .own 0 (m + l.length))], ⟨[DB k n s ks], [some (bR (rc ++ bytesPL l) (m + l.length))]⟩⟩ → fr st := fun st l hl hs => hfr st [4] (by
    rw [hs, ← hl]
    rcases hB with ⟨rfl, rfl⟩ | ⟨rfl, rfl, _, _⟩
    · exact ⟨0, 1, .own 0 (m + l.length), Nat.le_refl _, Nat.zero_le _, Nat.le_refl _, Nat.le_refl _, rfl, rfl, rfl, rfl, rfl⟩
    · exact ⟨0, 1, .own 0 (m + l.length), Nat.le_refl _, Nat.zero_le _, Nat.zero_le _, Nat.le_refl _, rfl, rfl, rfl, rfl, rfl⟩)
  by_cases h1 : k = 1
  · have c1 : (k == (1 : Int)) = true := by simpa using h1
    have c2 : decide (-9223372036854775808 ≤ n ∧ n ≤ 9223372036854775807) = true := decide_eq_true hrng.1
    have ht : textD (.mk k n s ks) = Go.Lib.itoa n := by rw [textD, if_pos h1]
    rw [ht] at hm
    have c3 : Nat.ble (m + ByteArray.size (mkS (Lib.itoa n))) 140737488355328 = true := by rw [Nat.ble_eq, mkS_size]; exact hm
    rcases hB with ⟨rfl, rfl⟩ | ⟨rfl, rfl, rfl, rfl⟩
    · exact SWP.runQ (SR ih [(46, [(9, true), (14, true)])] []) 100 46 hnt [4] (e := .ret) (z := { t := [(4, PV.own 0 (m + ByteArray.size (mkS (Lib.itoa n))))], h := { bx := [{ cs := [PV.int IntKind.i64 k, PV.int IntKind.i64 n, PV.str s, PV.slice (Dats.len ks) (Dats.cells ks)], ty := 24 }], rw := [some { cs := rc ++ bytesPV (mkS (Lib.itoa n)), n := m + ByteArray.size (mkS (Lib.itoa n)), ty := 5, sz := 1 }] } }) (o := [(k == (1 : Int), true), (true, true), (decide (-9223372036854775808 ≤ n ∧ n ≤ 9223372036854775807), true), (Nat.ble (m + ByteArray.size (mkS (Lib.itoa n))) 140737488355328, true)]) (by kernel_rfl) (by ((repeat' (first | exact okO_nil | refine okN ?_ ?_)); all_goals first | assumption | rfl | exact same_of rfl | exact sameS_self _ | (simp only [decide_eq_true_eq, decide_eq_false_iff_not, Nat.ble_eq, Nat.beq_eq, beq_eq_false_iff_ne, beq_iff_eq, ne_eq] <;> omega))) (fun st hs => fin st _ ht.symm hs)
    · exact SWP.runQ (SR ih [(46, [(9, true), (14, true)])] []) 100 46 hnt [4] (e := .ret) (z := { t := [(4, PV.own 0 (0 + ByteArray.size (mkS (Lib.itoa n))))], h := { bx := [{ cs := [PV.int IntKind.i64 k, PV.int IntKind.i64 n, PV.str s, PV.slice (Dats.len ks) (Dats.cells ks)], ty := 24 }], rw := [some { cs := [] ++ bytesPV (mkS (Lib.itoa n)), n := 0 + ByteArray.size (mkS (Lib.itoa n)), ty := 5, sz := 1 }] } }) (o := [(k == (1 : Int), true), (true, true), (decide (-9223372036854775808 ≤ n ∧ n ≤ 9223372036854775807), true), (Nat.ble (0 + ByteArray.size (mkS (Lib.itoa n))) 140737488355328, true)]) (by kernel_rfl) (by ((repeat' (first | exact okO_nil | refine okN ?_ ?_)); all_goals first | assumption | rfl | exact same_of rfl | exact sameS_self _ | (simp only [decide_eq_true_eq, decide_eq_false_iff_not, Nat.ble_eq, Nat.beq_eq, beq_eq_false_iff_ne, beq_iff_eq, ne_eq] <;> omega))) (fun st hs => fin st _ ht.symm hs)
  by_cases h2 : k = 2
  · have c1 : (k == (1 : Int)) = false := by simpa using h1
    have c2 : (k == (2 : Int)) = true := by simpa using h2
    have ht : textD (.mk k n s ks) = s.data.toList := by rw [textD, if_neg h1, if_pos h2]
    rw [ht] at hm
    have c3 : Nat.ble (m + ByteArray.size s) 140737488355328 = true := by rw [Nat.ble_eq]; exact hm
    rcases hB with ⟨rfl, rfl⟩ | ⟨rfl, rfl, rfl, rfl⟩
    · exact SWP.runQ (SR ih [(46, [(9, false), (16, true), (20, true)])] []) 100 46 hnt [4] (e := .ret) (z := { t := [(4, PV.own 0 (m + ByteArray.size s))], h := { bx := [{ cs := [PV.int IntKind.i64 k, PV.int IntKind.i64 n, PV.str s, PV.slice (Dats.len ks) (Dats.cells ks)], ty := 24 }], rw := [some { cs := rc ++ bytesPV s, n := m + ByteArray.size s, ty := 5, sz := 1 }] } }) (o := [(k == (1 : Int), false), (k == (2 : Int), true), (Nat.ble (m + ByteArray.size s) 140737488355328, true)]) (by kernel_rfl) (by ((repeat' (first | exact okO_nil | refine okN ?_ ?_)); all_goals first | assumption | rfl | exact same_of rfl | exact sameS_self _ | (simp only [decide_eq_true_eq, decide_eq_false_iff_not, Nat.ble_eq, Nat.beq_eq, beq_eq_false_iff_ne, beq_iff_eq, ne_eq] <;> omega))) (fun st hs => fin st _ ht.symm hs)
    · exact SWP.runQ (SR ih [(46, [(9, false), (16, true), (20, true)])] []) 100 46 hnt [4] (e := .ret) (z := { t := [(4, PV.own 0 (0 + ByteArray.size s))], h := { bx := [{ cs := [PV.int IntKind.i64 k, PV.int IntKind.i64 n, PV.str s, PV.slice (Dats.len ks) (Dats.cells ks)], ty := 24 }], rw := [some { cs := [] ++ bytesPV s, n := 0 + ByteArray.size s, ty := 5, sz := 1 }] } }) (o := [(k == (1 : Int), false), (k == (2 : Int), true), (Nat.ble (0 + ByteArray.size s) 140737488355328, true)]) (by kernel_rfl) (by ((repeat' (first | exact okO_nil | refine okN ?_ ?_)); all_goals first | assumption | rfl | exact same_of rfl | exact sameS_self _ | (simp only [decide_eq_true_eq, decide_eq_false_iff_not, Nat.ble_eq, Nat.beq_eq, beq_eq_false_iff_ne, beq_iff_eq, ne_eq] <;> omega))) (fun st hs => fin st _ ht.symm hs)
  have ht : textD (.mk k n s ks) = 40 :: (textL true ks ++ [41]) := by rw [textD, if_neg h1, if_neg h2]
  have htl : (textD (.mk k n s ks)).length = (textL true ks).length + 2 := by rw [ht]; simp
  rw [htl] at hm
  have c1 : (k == (1 : Int)) = false := by simpa using h1
  have c2 : (k == (2 : Int)) = false := by simpa using h2
  have hks : ks.size < N + 1 := by simp only [Dat.size] at hN; omega
  refine Q.runSeq S0 50 46 hnt [0, 3] (z := ⟨[(0, x), (3, .ptr 0 0)], ⟨[DB k n s ks], rws⟩⟩) (o := []) (by kernel_rfl) okO_nil ?_
  refine Q.runSeq (SR ih [(46, [(9, false), (16, false)])] []) 50 46 hnt [0, 3] (z := ⟨[(0, x), (3, .ptr 0 0)], ⟨[DB k n s ks], rws⟩⟩) (o := [(k == (1 : Int), false), (k == (2 : Int), false)]) (by kernel_rfl) (by ((repeat' (first | exact okO_nil | refine okN ?_ ?_)); all_goals first | assumption | rfl | exact same_of rfl | exact sameS_self _ | (simp only [decide_eq_true_eq, decide_eq_false_iff_not, Nat.ble_eq, Nat.beq_eq, beq_eq_false_iff_ne, beq_iff_eq, ne_eq] <;> omega))) ?_
  refine Q.seq fun K hK => ?_
  have rest : ∀ st, nrm [0, 3] st = ⟨[(0, .own 0 (m + 1)), (3, .ptr 0 0)], ⟨[DB k n s ks], [some (bR (rc ++ [.int .u8 40]) (m + 1))]⟩⟩ → K st := fun st hs => hK st (.norm [0, 3] (by
    rw [hs]
    clear hs hK
    let P (j : Nat) : List UInt8 := 40 :: textL true (ks.take j)
    have hP : ∀ j, j ≤ ks.len → (P j).length ≤ (textL true ks).length + 1 := fun j hj => by
      have := textL_mono ks true j hj
      simp only [P, List.length_cons]
      omega
    let T (j : Nat) : AS := ⟨[(0, .own 0 (m + (P j).length)), (3, .ptr 0 0), (5, .int .i64 j)], ⟨[DB k n s ks], [some (bR (rc ++ bytesPL (P j)) (m + (P j).length))]⟩⟩
    refine Q.seq fun K2 hK2 => ?_
    have h0 : bytesPL (P 0) = [.int .u8 40] := by
      have : P 0 = [40] := by simp only [P]; cases ks <;> rfl
      rw [this]; rfl
    have hP0 : (P 0).length = 1 := by
      have : P 0 = [40] := by simp only [P]; cases ks <;> rfl
      rw [this]; rfl
    refine Q.runSeq S0 50 46 hnt [0, 3, 5] (z := T 0) (o := []) (by simp only [T, hP0, h0]; kernel_rfl) okO_nil ?_
    refine Q.block ?_
    refine Q.loopI (σ := { j : Nat // j ≤ ks.len }) [0, 3, 5] (fun j => T j.1) (fun j => ks.len - j.1) ⟨0, Nat.zero_le _⟩ rfl fun ⟨j, hj⟩ => ?_
    rcases Nat.lt_or_ge j ks.len with hlt | hge
    · obtain ⟨k', n', s', ks', hget⟩ := Dats.get_mk ks j
      have hsz := Dats.get_size ks j hlt
      have hoj := Dats.get_ok ks j hlt hok.2
      have hrj := Dats.get_rng ks j hlt hrng.2
      have htk := textL_take ks true j hlt
      have hPj := hP (j + 1) hlt
      rw [hget] at hsz hoj hrj htk
      have tx : txC [PV.int IntKind.i64 k', PV.int IntKind.i64 n', PV.str s', PV.slice (Dats.len ks') (Dats.cells ks')] = textD (.mk k' n' s' ks') := txC_at (.mk k' n' s' ks')
      have d1 : isTx N [PV.int IntKind.i64 k', PV.int IntKind.i64 n', PV.str s', PV.slice (Dats.len ks') (Dats.cells ks')] = true := isTx_at (d := .mk k' n' s' ks') (by omega) hoj hrj
      have d2 := lt_at hlt
      have d3 := in_at hlt
      have d4 : decide (TD.size d24 ≤ List.length (List.drop (Int.toNat (j : Int) * TD.size d24) (Dats.cells ks))) = true := kid_len hlt
      have d5 := kid_same' hlt hget
      have wj := wrap1 j (by omega)
      obtain ⟨rcj, hrc⟩ : ∃ x, x = rc ++ bytesPL (P j) := ⟨_, rfl⟩
      obtain ⟨mj, hmj⟩ : ∃ x, x = m + (P j).length := ⟨_, rfl⟩
      show SWP G0 C _ _ ⟨[(0, .own 0 (m + (P j).length)), (3, .ptr 0 0), (5, .int .i64 j)], ⟨[DB k n s ks], [some (bR (rc ++ bytesPL (P j)) (m + (P j).length))]⟩⟩
      rw [← hrc, ← hmj]
      by_cases hj0 : j = 0
      · have hPs : P (j + 1) = P j ++ textD (.mk k' n' s' ks') := by
          simp only [P, htk]
          rw [if_pos ⟨hj0, trivial⟩]; rfl
        have d6 : decide (0 < (j : Int)) = false := by simp [hj0]
        rw [hPs, List.length_append] at hPj
        have d7 : Nat.ble (mj + List.length (txC [PV.int IntKind.i64 k', PV.int IntKind.i64 n', PV.str s', PV.slice (Dats.len ks') (Dats.cells ks')])) 140737488355328 = true := by rw [tx, Nat.ble_eq]; omega
        refine SWP.runQ (SR ih [(46, [(28, true), (32, false), (35, true), (40, true), (41, true)])] [(46, [(41, .agg [.int .i64 k', .int .i64 n', .str s', .slice ks'.len ks'.cells])])]) 100 46 hnt [0, 3, 5] (e := .normal) (z := { t := [(0, PV.own 0 (mj + List.length (txC [PV.int IntKind.i64 k', PV.int IntKind.i64 n', PV.str s', PV.slice (Dats.len ks') (Dats.cells ks')]))), (3, PV.ptr 0 0), (5, PV.int IntKind.i64 (IntKind.wrap IntKind.i64 (Int.ofNat (j + 1))))], h := { bx := [{ cs := [PV.int IntKind.i64 k, PV.int IntKind.i64 n, PV.str s, PV.slice (Dats.len ks) (Dats.cells ks)], ty := 24 }], rw := [some { cs := rcj ++ bytesPL (txC [PV.int IntKind.i64 k', PV.int IntKind.i64 n', PV.str s', PV.slice (Dats.len ks') (Dats.cells ks')]), n := mj + List.length (txC [PV.int IntKind.i64 k', PV.int IntKind.i64 n', PV.str s', PV.slice (Dats.len ks') (Dats.cells ks')]), ty := 5, sz := 1 }] } }) (o := [(decide ((↑j : Int) < (↑(Dats.len ks) : Int)), true), (true, true), (decide (0 < (↑j : Int)), false), (false, false), (decide (0 ≤ (↑j : Int) ∧ (↑j : Int) < (↑(Dats.len ks) : Int)), true), (decide (TD.size d24 ≤ List.length (List.drop (Int.toNat (↑j : Int) * TD.size d24) (Dats.cells ks))), true), (same (PV.agg (List.take 4 (List.drop (Int.toNat (Int.ofNat j) * 4) (Dats.cells ks)))) (PV.agg [PV.int IntKind.i64 k', PV.int IntKind.i64 n', PV.str s', PV.slice (Dats.len ks') (Dats.cells ks')]), true), (isTx N [PV.int IntKind.i64 k', PV.int IntKind.i64 n', PV.str s', PV.slice (Dats.len ks') (Dats.cells ks')], true), (Nat.beq mj mj, true), (Nat.ble (mj + List.length (txC [PV.int IntKind.i64 k', PV.int IntKind.i64 n', PV.str s', PV.slice (Dats.len ks') (Dats.cells ks')])) 140737488355328, true)]) (by kernel_rfl) (by ((repeat' (first | exact okO_nil | refine okN ?_ ?_)); all_goals first | assumption | rfl | exact same_of rfl | exact sameS_self _ | (simp only [decide_eq_true_eq, decide_eq_false_iff_not, Nat.ble_eq, Nat.beq_eq, beq_eq_false_iff_ne, beq_iff_eq, ne_eq] <;> omega))) (fun st hs => ⟨⟨j + 1, hlt⟩, Nat.sub_lt_sub_left hlt (Nat.lt_succ_self j), ?_⟩)
        rw [hs, tx, hrc, hmj]
        simp only [T, hPs, bytesPL_append, List.length_append]
        rw [show IntKind.wrap IntKind.i64 (Int.ofNat (j + 1)) = ((j + 1 : Nat) : Int) from wj, List.append_assoc, Nat.add_assoc]
        rfl
      · have hPs : P (j + 1) = P j ++ [32] ++ textD (.mk k' n' s' ks') := by
          simp only [P, htk]
          rw [if_neg (fun h => hj0 h.1)]
          simp
        have d6 : decide (0 < (j : Int)) = true := by simp; omega
        rw [hPs, List.length_append, List.length_append] at hPj
        simp only [List.length_cons, List.length_nil] at hPj
        have d7 : Nat.ble (mj + 1 + List.length (txC [PV.int IntKind.i64 k', PV.int IntKind.i64 n', PV.str s', PV.slice (Dats.len ks') (Dats.cells ks')])) 140737488355328 = true := by rw [tx, Nat.ble_eq]; omega
        have d8 : Nat.ble ((mj + 1) * 1) 140737488355328 = true := by rw [Nat.ble_eq]; omega
        have d9 : Nat.ble (mj + 1) 9223372036854775807 = true := by rw [Nat.ble_eq]; omega
        refine SWP.runQ (SR ih [(46, [(28, true), (32, true), (35, true), (40, true), (41, true)])] [(46, [(41, .agg [.int .i64 k', .int .i64 n', .str s', .slice ks'.len ks'.cells])])]) 100 46 hnt [0, 3, 5] (e := .normal) (z := { t := [(0, PV.own 0 (mj + 1 + List.length (txC [PV.int IntKind.i64 k', PV.int IntKind.i64 n', PV.str s', PV.slice (Dats.len ks') (Dats.cells ks')]))), (3, PV.ptr 0 0), (5, PV.int IntKind.i64 (IntKind.wrap IntKind.i64 (Int.ofNat (j + 1))))], h := { bx := [{ cs := [PV.int IntKind.i64 k, PV.int IntKind.i64 n, PV.str s, PV.slice (Dats.len ks) (Dats.cells ks)], ty := 24 }], rw := [some { cs := rcj ++ [PV.int IntKind.u8 (32 : Int)] ++ bytesPL (txC [PV.int IntKind.i64 k', PV.int IntKind.i64 n', PV.str s', PV.slice (Dats.len ks') (Dats.cells ks')]), n := mj + 1 + List.length (txC [PV.int IntKind.i64 k', PV.int IntKind.i64 n', PV.str s', PV.slice (Dats.len ks') (Dats.cells ks')]), ty := 5, sz := 1 }] } }) (o := [(decide ((↑j : Int) < (↑(Dats.len ks) : Int)), true), (true, true), (decide (0 < (↑j : Int)), true), (true, true), (true, true), (Nat.ble ((mj + 1) * 1) 140737488355328, true), (Nat.ble (mj + 1) 9223372036854775807, true), (decide (0 ≤ (↑j : Int) ∧ (↑j : Int) < (↑(Dats.len ks) : Int)), true), (decide (TD.size d24 ≤ List.length (List.drop (Int.toNat (↑j : Int) * TD.size d24) (Dats.cells ks))), true), (same (PV.agg (List.take 4 (List.drop (Int.toNat (Int.ofNat j) * 4) (Dats.cells ks)))) (PV.agg [PV.int IntKind.i64 k', PV.int IntKind.i64 n', PV.str s', PV.slice (Dats.len ks') (Dats.cells ks')]), true), (isTx N [PV.int IntKind.i64 k', PV.int IntKind.i64 n', PV.str s', PV.slice (Dats.len ks') (Dats.cells ks')], true), (Nat.beq (mj + 1) (mj + 1), true), (Nat.ble (mj + 1 + List.length (txC [PV.int IntKind.i64 k', PV.int IntKind.i64 n', PV.str s', PV.slice (Dats.len ks') (Dats.cells ks')])) 140737488355328, true)]) (by kernel_rfl) (by ((repeat' (first | exact okO_nil | refine okN ?_ ?_)); all_goals first | assumption | rfl | exact same_of rfl | exact sameS_self _ | (simp only [decide_eq_true_eq, decide_eq_false_iff_not, Nat.ble_eq, Nat.beq_eq, beq_eq_false_iff_ne, beq_iff_eq, ne_eq] <;> omega))) (fun st hs => ⟨⟨j + 1, hlt⟩, Nat.sub_lt_sub_left hlt (Nat.lt_succ_self j), ?_⟩)
        rw [hs, tx, hrc, hmj]
        simp only [T, hPs, bytesPL_append, List.length_append]
        rw [show IntKind.wrap IntKind.i64 (Int.ofNat (j + 1)) = ((j + 1 : Nat) : Int) from wj]
        simp only [List.append_assoc, Nat.add_assoc]
        rfl
    · obtain rfl : j = ks.len := by omega
      have d2 := ge_at hge
      have hPl : P ks.len = 40 :: textL true ks := by simp only [P, take_all]
      refine SWP.runQ (SR ih [(46, [(28, false)])] []) 100 46 hnt [0] (e := .exit 1) (z := ⟨[(0, .own 0 (m + (P ks.len).length))], ⟨[DB k n s ks], [some (bR (rc ++ bytesPL (P ks.len)) (m + (P ks.len).length))]⟩⟩) (o := [(decide ((ks.len : Int) < (ks.len : Int)), false), (false, false)]) (by kernel_rfl) (by ((repeat' (first | exact okO_nil | refine okN ?_ ?_)); all_goals first | assumption | rfl | exact same_of rfl | exact sameS_self _ | (simp only [decide_eq_true_eq, decide_eq_false_iff_not, Nat.ble_eq, Nat.beq_eq, beq_eq_false_iff_ne, beq_iff_eq, ne_eq] <;> omega))) (fun st hs => hK2 st (.norm [0] ?_))
      rw [hs]
      have hl2 : (P ks.len).length = (textL true ks).length + 1 := by rw [hPl]; rfl
      have d8 : Nat.ble ((m + (P ks.len).length + 1) * 1) 140737488355328 = true := by rw [Nat.ble_eq]; omega
      have d9 : Nat.ble (m + (P ks.len).length + 1) 9223372036854775807 = true := by rw [Nat.ble_eq]; omega
      refine SWP.runQ (SR ih [(46, [(45, true)])] []) 100 46 hnt [4] (e := .ret) (z := ⟨[(4, .own 0 (m + (P ks.len).length + 1))], ⟨[DB k n s ks], [some (bR (rc ++ bytesPL (P ks.len) ++ [.int .u8 41]) (m + (P ks.len).length + 1))]⟩⟩) (o := [(true, true), (Nat.ble ((m + (P ks.len).length + 1) * 1) 140737488355328, true), (Nat.ble (m + (P ks.len).length + 1) 9223372036854775807, true)]) (by kernel_rfl) (by ((repeat' (first | exact okO_nil | refine okN ?_ ?_)); all_goals first | assumption | rfl | exact same_of rfl | exact sameS_self _ | (simp only [decide_eq_true_eq, decide_eq_false_iff_not, Nat.ble_eq, Nat.beq_eq, beq_eq_false_iff_ne, beq_iff_eq, ne_eq] <;> omega))) (fun st hs => fin st (P ks.len ++ [41]) ?_ ?_)
      · rw [ht, hPl]; rfl
      · rw [hs]
        simp only [bytesPL_append, List.length_append, List.append_assoc, Nat.add_assoc]
        rfl))
  rcases hB with ⟨rfl, rfl⟩ | ⟨rfl, rfl, rfl, rfl⟩
  · have d8 : Nat.ble ((m + 1) * 1) 140737488355328 = true := by rw [Nat.ble_eq]; omega
    have d9 : Nat.ble (m + 1) 9223372036854775807 = true := by rw [Nat.ble_eq]; omega
    exact SWP.runQ (SR ih [(46, [(23, true)])] []) 100 46 hnt [0, 3] (e := .normal) (z := { t := [(0, PV.own 0 (m + 1)), (3, PV.ptr 0 0)], h := { bx := [{ cs := [PV.int IntKind.i64 k, PV.int IntKind.i64 n, PV.str s, PV.slice (Dats.len ks) (Dats.cells ks)], ty := 24 }], rw := [some { cs := rc ++ [PV.int IntKind.u8 (40 : Int)], n := m + 1, ty := 5, sz := 1 }] } }) (o := [(true, true), (Nat.ble ((m + 1) * 1) 140737488355328, true), (Nat.ble (m + 1) 9223372036854775807, true)]) (by kernel_rfl) (by ((repeat' (first | exact okO_nil | refine okN ?_ ?_)); all_goals first | assumption | rfl | exact same_of rfl | exact sameS_self _ | (simp only [decide_eq_true_eq, decide_eq_false_iff_not, Nat.ble_eq, Nat.beq_eq, beq_eq_false_iff_ne, beq_iff_eq, ne_eq] <;> omega))) (fun st hs => rest st hs)
  · exact SWP.runQ (SR ih [(46, [(23, true)])] []) 100 46 hnt [0, 3] (e := .normal) (z := { t := [(0, PV.own 0 1), (3, PV.ptr 0 0)], h := { bx := [{ cs := [PV.int IntKind.i64 k, PV.int IntKind.i64 n, PV.str s, PV.slice (Dats.len ks) (Dats.cells ks)], ty := 24 }], rw := [some { cs := [PV.int IntKind.u8 (40 : Int)], n := 1, ty := 5, sz := 1 }] } }) (o := [(true, true), (true, true), (true, true)]) (by kernel_rfl) (by ((repeat' (first | exact okO_nil | refine okN ?_ ?_)); all_goals first | assumption | rfl | exact same_of rfl | exact sameS_self _ | (simp only [decide_eq_true_eq, decide_eq_false_iff_not, Nat.ble_eq, Nat.beq_eq, beq_eq_false_iff_ne, beq_iff_eq, ne_eq] <;> omega))) (fun st hs => rest st hs)
theorem rputAt (N : Nat) : RPutAt N := by
  induction N with
  | zero => intro d h; omega
  | succ N ih => exact fun d hN hok hrng rc m hm => rput_gen ih d hN hok hrng _ _ rc m (.inl ⟨rfl, rfl⟩) hm
theorem rput_new (d : Dat) (hok : d.ok) (hrng : d.rng) (hm : (textD d).length ≤ 140737488355328) :
    RCalls G0 60 [.nil, .agg d.cells] ⟨[], []⟩ (fun o H => o = .ret (.own 0 (textD d).length) ∧ H = ⟨[], [some (bR (bytesPL (textD d)) ((textD d).length))]⟩) := by
  have := rput_gen (rputAt (d.size + 1)) d (by omega) hok hrng .nil [] [] 0 (.inr ⟨rfl, rfl, rfl, rfl⟩) (by omega)
  simpa using this
end Seat
end Go.Proofs.YtkblfapbakfgpaaDoor
/- Text: Text of both. -/
namespace Go.Proofs.YtkblfapbakfgpaaDoor
open Go.AS Go.RowKit
set_option linter.unusedVariables false
set_option linter.unusedSimpArgs false
set_option maxRecDepth 100000
namespace Seat
open Classical in
noncomputable def isTxt (cs : List PV) : Bool := decide (∃ d : Dat, d.cells = cs ∧ d.ok ∧ d.rng ∧ (textD d).length ≤ 140737488355328)
theorem isTxt_at {d : Dat} (ho : d.ok) (hr : d.rng) (hl : (textD d).length ≤ 140737488355328) : isTxt d.cells = true := by
  unfold isTxt
  classical exact decide_eq_true ⟨d, rfl, ho, hr, hl⟩
theorem isTxt_of {cs : List PV} (h : isTxt cs = true) : ∃ d : Dat, d.cells = cs ∧ d.ok ∧ d.rng ∧ (textD d).length ≤ 140737488355328 := by
  unfold isTxt at h
  classical exact of_decide_eq_true h
noncomputable def newV (f : Nat) (xs : List PV) (H : Hp) : Option (PV × Hp × Ob) := match f, xs, H with
  | 68, [.ptr 0 0, .agg cs], ⟨[⟨[.nilptr, .nil], ty⟩], []⟩ => match Nat.beq ty 65 with
    | true => some (.tup [], ⟨[⟨[.ptr 0 0, .own 0 (txC cs).length], ty⟩], [some ⟨bytesPL (txC cs), (txC cs).length, 5, 1⟩]⟩, [(isTxt cs, true)])
    | false => none
  | 60, [.nil, .agg cs], ⟨[], []⟩ => some (.own 0 (txC cs).length, ⟨[], [some ⟨bytesPL (txC cs), (txC cs).length, 5, 1⟩]⟩, [(isTxt cs, true)])
  | _, _, _ => none
theorem newV_ok (f : Nat) (xs : List PV) (H : Hp) (r : PV) (H' : Hp) (o : Ob) (h : newV f xs H = some (r, H', o)) (ho : ∀ p ∈ o, p.1 = p.2) : RCalls G0 f xs H (fun o' H2 => o' = .ret r ∧ H2 = H') ∧ r.scP (belowN H'.bx.length) (belowN H'.rw.length) = true ∧ H'.scB H'.bx.length H'.rw.length = true := by
  unfold newV at h
  split at h
  · rename_i cs ty
    split at h
    · rename_i hc
      cases h
      simp only [Nat.beq_eq] at hc
      subst hc
      obtain ⟨d, rfl, h1, h2, h3⟩ := isTxt_of (ho (isTxt cs, true) (by simp))
      rw [txC_at]
      exact ⟨put_new d h1 h2 h3, rfl, rfl⟩
    · cases h
  · rename_i cs
    cases h
    obtain ⟨d, rfl, h1, h2, h3⟩ := isTxt_of (ho (isTxt cs, true) (by simp))
    rw [txC_at]
    exact ⟨rput_new d h1 h2 h3, rfl, rfl⟩
  · cases h
noncomputable def ST (l : List (Nat × List (Nat × Bool))) : Cfg G0 := { F := F, hF := hF, S := fmtS, hS := fmtS_ok, V := newV, hV := newV_ok, hp := hpB, D := hpB, orc := orcM l }
theorem text_prog (d : Dat) (hok : d.ok) (hrng : d.rng) (h0 : 0 < (textD d).length) (hm : (textD d).length ≤ 140737488355328) : Pure G0 54 [.agg d.cells] (fun r => r = .str (mkS (textD d))) := by
  obtain ⟨k, n, s, ks⟩ := d
  have tx : txC [PV.int IntKind.i64 k, PV.int IntKind.i64 n, PV.str s, PV.slice (Dats.len ks) (Dats.cells ks)] = textD (.mk k n s ks) := txC_at (.mk k n s ks)
  have d1 : isTxt [PV.int IntKind.i64 k, PV.int IntKind.i64 n, PV.str s, PV.slice (Dats.len ks) (Dats.cells ks)] = true := isTxt_at (d := .mk k n s ks) hok hrng hm
  obtain ⟨x, hx⟩ : ∃ x, x = txC [PV.int IntKind.i64 k, PV.int IntKind.i64 n, PV.str s, PV.slice (Dats.len ks) (Dats.cells ks)] := ⟨_, rfl⟩
  have d2 : Nat.ble 1 (List.length x) = true := by rw [hx, tx, Nat.ble_eq]; exact h0
  have d3 : Nat.beq (List.length (bytesPL x)) (List.length x) = true := by rw [Nat.beq_eq, bytesPL_length]
  have d4 : Nat.ble (List.length x) 9223372036854775807 = true := by rw [hx, tx, Nat.ble_eq]; omega
  have d5 : isBytes8 (bytesPL x) = true := isBytes8_PL _
  rw [hx] at d2 d3 d4 d5
  refine Fn.enterB Tryd.func54 Tryd.ntmps54 rfl (Nat.le_of_ble_eq_true rfl) fun C fr fp hnt hnb hp hfr hfp => ?_
  refine SWP.runQ (ST [(14, [(7, true), (13, true)])]) 100 7 hnt [2] (e := .ret) (z := { t := [(2, PV.str (strOf (bytesPL (txC [PV.int IntKind.i64 k, PV.int IntKind.i64 n, PV.str s, PV.slice (Dats.len ks) (Dats.cells ks)]))))], h := { bx := [{ cs := [PV.int IntKind.i64 k, PV.int IntKind.i64 n, PV.str s, PV.slice (Dats.len ks) (Dats.cells ks)], ty := 24 }, { cs := [PV.ptr 1 0, PV.own 0 (List.length (txC [PV.int IntKind.i64 k, PV.int IntKind.i64 n, PV.str s, PV.slice (Dats.len ks) (Dats.cells ks)]))], ty := 65 }], rw := [none] } }) (o := [(isTxt [PV.int IntKind.i64 k, PV.int IntKind.i64 n, PV.str s, PV.slice (Dats.len ks) (Dats.cells ks)], true), (Nat.ble 1 (List.length (txC [PV.int IntKind.i64 k, PV.int IntKind.i64 n, PV.str s, PV.slice (Dats.len ks) (Dats.cells ks)])), true), (Nat.beq (List.length (txC [PV.int IntKind.i64 k, PV.int IntKind.i64 n, PV.str s, PV.slice (Dats.len ks) (Dats.cells ks)])) (List.length (txC [PV.int IntKind.i64 k, PV.int IntKind.i64 n, PV.str s, PV.slice (Dats.len ks) (Dats.cells ks)])), true), (Nat.beq (List.length (bytesPL (txC [PV.int IntKind.i64 k, PV.int IntKind.i64 n, PV.str s, PV.slice (Dats.len ks) (Dats.cells ks)]))) (List.length (txC [PV.int IntKind.i64 k, PV.int IntKind.i64 n, PV.str s, PV.slice (Dats.len ks) (Dats.cells ks)])), true), (Nat.ble 1 (List.length (txC [PV.int IntKind.i64 k, PV.int IntKind.i64 n, PV.str s, PV.slice (Dats.len ks) (Dats.cells ks)])), true), (Nat.ble (List.length (txC [PV.int IntKind.i64 k, PV.int IntKind.i64 n, PV.str s, PV.slice (Dats.len ks) (Dats.cells ks)])) 9223372036854775807, true), (isBytes8 (bytesPL (txC [PV.int IntKind.i64 k, PV.int IntKind.i64 n, PV.str s, PV.slice (Dats.len ks) (Dats.cells ks)])), true)]) (by kernel_rfl) (by ((repeat' (first | exact okO_nil | refine okN ?_ ?_)); all_goals first | assumption | rfl | exact same_of rfl | exact sameS_self _ | (simp only [decide_eq_true_eq, decide_eq_false_iff_not, Nat.ble_eq, Nat.beq_eq, beq_eq_false_iff_ne, beq_iff_eq, ne_eq] <;> omega))) (fun st hs => hfr st [2] ?_)
  rw [hs, tx]
  exact ⟨0, .str (strOf (bytesPL (textD (.mk k n s ks)))), Nat.le_refl _, Nat.zero_le _, rfl, rfl, rfl, rfl, _, rfl, congrArg PV.str (strOf_PV (mkS (textD (.mk k n s ks))))⟩
theorem text_ref (d : Dat) (hok : d.ok) (hrng : d.rng) (hm : (textD d).length ≤ 140737488355328) : Pure G0 49 [.agg d.cells] (fun r => r = .str (mkS (textD d))) := by
  obtain ⟨k, n, s, ks⟩ := d
  have tx : txC [PV.int IntKind.i64 k, PV.int IntKind.i64 n, PV.str s, PV.slice (Dats.len ks) (Dats.cells ks)] = textD (.mk k n s ks) := txC_at (.mk k n s ks)
  have d1 : isTxt [PV.int IntKind.i64 k, PV.int IntKind.i64 n, PV.str s, PV.slice (Dats.len ks) (Dats.cells ks)] = true := isTxt_at (d := .mk k n s ks) hok hrng hm
  obtain ⟨x, hx⟩ : ∃ x, x = txC [PV.int IntKind.i64 k, PV.int IntKind.i64 n, PV.str s, PV.slice (Dats.len ks) (Dats.cells ks)] := ⟨_, rfl⟩
  have d3 : Nat.beq (List.length (bytesPL x)) (List.length x) = true := by rw [Nat.beq_eq, bytesPL_length]
  have d5 : isBytes (bytesPL x) = true := isBytes_PL _
  rw [hx] at d3 d5
  refine Fn.enterB Tryd.func49 Tryd.ntmps49 rfl (Nat.le_of_ble_eq_true rfl) fun C fr fp hnt hnb hp hfr hfp => ?_
  refine SWP.runQ (ST [(6, [(5, true)])]) 100 6 hnt [2] (e := .ret) (z := { t := [(2, PV.str (strOf (bytesPL (txC [PV.int IntKind.i64 k, PV.int IntKind.i64 n, PV.str s, PV.slice (Dats.len ks) (Dats.cells ks)]))))], h := { bx := [{ cs := [PV.int IntKind.i64 k, PV.int IntKind.i64 n, PV.str s, PV.slice (Dats.len ks) (Dats.cells ks)], ty := 24 }], rw := [some { cs := bytesPL (txC [PV.int IntKind.i64 k, PV.int IntKind.i64 n, PV.str s, PV.slice (Dats.len ks) (Dats.cells ks)]), n := List.length (txC [PV.int IntKind.i64 k, PV.int IntKind.i64 n, PV.str s, PV.slice (Dats.len ks) (Dats.cells ks)]), ty := 5, sz := 1 }] } }) (o := [(isTxt [PV.int IntKind.i64 k, PV.int IntKind.i64 n, PV.str s, PV.slice (Dats.len ks) (Dats.cells ks)], true), (Nat.beq (List.length (bytesPL (txC [PV.int IntKind.i64 k, PV.int IntKind.i64 n, PV.str s, PV.slice (Dats.len ks) (Dats.cells ks)]))) (List.length (txC [PV.int IntKind.i64 k, PV.int IntKind.i64 n, PV.str s, PV.slice (Dats.len ks) (Dats.cells ks)])), true), (isBytes (bytesPL (txC [PV.int IntKind.i64 k, PV.int IntKind.i64 n, PV.str s, PV.slice (Dats.len ks) (Dats.cells ks)])), true)]) (by kernel_rfl) (by ((repeat' (first | exact okO_nil | refine okN ?_ ?_)); all_goals first | assumption | rfl | exact same_of rfl | exact sameS_self _ | (simp only [decide_eq_true_eq, decide_eq_false_iff_not, Nat.ble_eq, Nat.beq_eq, beq_eq_false_iff_ne, beq_iff_eq, ne_eq] <;> omega))) (fun st hs => hfr st [2] ?_)
  rw [hs, tx]
  exact ⟨0, .str (strOf (bytesPL (textD (.mk k n s ks)))), Nat.le_refl _, Nat.zero_le _, rfl, rfl, rfl, rfl, _, rfl, congrArg PV.str (strOf_PV (mkS (textD (.mk k n s ks))))⟩
end Seat
end Go.Proofs.YtkblfapbakfgpaaDoor
/- Layout: what a layout is, over any sink; what the interpreter takes of texts and blanks. -/
namespace Go.Proofs.YtkblfapbakfgpaaDoor
open Go.AS Go.RowKit
set_option linter.unusedVariables false
set_option linter.unusedSimpArgs false
set_option maxRecDepth 100000
namespace Seat
/-- What takes lines. -/
structure Snk (σ : Type) where
  text : List UInt8 → σ → σ
  line : Nat → σ → σ
  more : σ → Bool
mutual
def layG {σ : Type} (S : Snk σ) (w : Nat) : Dat → Nat → Nat → σ → σ
  | .mk k n s ks, col, br, x => match S.more x with
    | true => if ks.len = 0 ∨ col + (textD (.mk k n s ks)).length + br ≤ w then S.text (textD (.mk k n s ks)) x else S.text [41] (layGL S w ks true col br true (S.text [40] x))
    | false => x
def layGL {σ : Type} (S : Snk σ) (w : Nat) : Dats → Bool → Nat → Nat → Bool → σ → σ
  | .nil, _, _, _, _, x => x
  | .cons d ds, f, col, br, l, x => layGL S w ds false col br l (layG S w d (if f = true then col + 1 else col + 2) (if ds.len = 0 ∧ l = true then br + 1 else 0) (if f = true then x else S.line (col + 2) x))
end
theorem take_len : ∀ (ks : Dats) (j : Nat), j ≤ ks.len → (ks.take j).len = j
  | _, 0, _ => by simp [Dats.take, Dats.len]
  | .nil, j + 1, h => by simp [Dats.len] at h
  | .cons d ds, j + 1, h => by simp only [Dats.take, Dats.len, take_len ds j (by simp only [Dats.len] at h; omega)]
theorem layGL_take {σ : Type} (S : Snk σ) (w col br : Nat) : ∀ (ks : Dats) (f : Bool) (j : Nat) (l : Bool) (x : σ), j < ks.len →
    layGL S w (ks.take (j + 1)) f col br l x = layG S w (ks.get j) (if j = 0 ∧ f = true then col + 1 else col + 2) (if l = true then br + 1 else 0) (if j = 0 ∧ f = true then layGL S w (ks.take j) f col br false x else S.line (col + 2) (layGL S w (ks.take j) f col br false x))
  | .nil, f, j, l, x, h => by simp [Dats.len] at h
  | .cons d ds, f, 0, l, x, h => by
    cases f <;> simp [Dats.take, layGL, Dats.get, Dats.len]
  | .cons d ds, f, j + 1, l, x, h => by
    have hj : j < ds.len := by simp only [Dats.len] at h; omega
    have hl : (ds.take (j + 1)).len = j + 1 := take_len ds (j + 1) hj
    have ih := layGL_take S w col br ds false j l (layG S w d (if f = true then col + 1 else col + 2) 0 (if f = true then x else S.line (col + 2) x)) hj
    rw [Dats.take, layGL, hl, show (if j + 1 = 0 ∧ l = true then br + 1 else 0) = 0 from if_neg (fun h => Nat.succ_ne_zero j h.1), ih]
    simp only [Dats.get, Dats.take, layGL, Bool.false_eq_true, and_false, if_false, Nat.add_eq_zero_iff, false_and, Nat.one_ne_zero]
/-- The document's sink. -/
def rS : Snk (List UInt8) := ⟨fun t x => x ++ t, fun n x => x ++ 10 :: List.replicate n 32, fun _ => true⟩
/-- A paper. -/
def pS : Snk (List UInt8) := ⟨fun t x => x ++ t, fun n x => x ++ 10 :: List.replicate n 32, fun x => Nat.ble x.length 2000000⟩
/-- A meter. -/
def mS : Snk (Nat × Nat × Nat) := ⟨fun t x => (x.1, x.2.1 + t.length, max x.2.2 (x.2.1 + t.length)), fun n x => (x.1 + 1, n, max x.2.2 n), fun _ => true⟩
/-- Two sinks, side by side. -/
structure Sim {σ τ : Type} (S : Snk σ) (T : Snk τ) (R : σ → τ → Prop) : Prop where
  text : ∀ t x y, R x y → R (S.text t x) (T.text t y)
  line : ∀ n x y, R x y → R (S.line n x) (T.line n y)
  stop : ∀ x y, S.more x = false → R x y → (∀ t, R x (T.text t y)) ∧ ∀ n, R x (T.line n y)
  most : ∀ y, T.more y = true
theorem sim_stopL {σ τ : Type} {S : Snk σ} {T : Snk τ} {R : σ → τ → Prop} (h : Sim S T R) (w : Nat) : (∀ (d : Dat) (c r : Nat) (x : σ) (y : τ), S.more x = false → R x y → R x (layG T w d c r y)) ∧ (∀ (ks : Dats) (f : Bool) (c r : Nat) (l : Bool) (x : σ) (y : τ), S.more x = false → R x y → R x (layGL T w ks f c r l y)) := by
  have key : ∀ N : Nat, (∀ (d : Dat), d.size < N → ∀ (c r : Nat) (x : σ) (y : τ), S.more x = false → R x y → R x (layG T w d c r y)) ∧ (∀ (ks : Dats), ks.size < N → ∀ (f : Bool) (c r : Nat) (l : Bool) (x : σ) (y : τ), S.more x = false → R x y → R x (layGL T w ks f c r l y)) := by
    intro N
    induction N with
    | zero => exact ⟨fun d h => by omega, fun d h => by omega⟩
    | succ N ih =>
      refine ⟨fun d hd c r x y hx hR => ?_, fun ks hk f c r l x y hx hR => ?_⟩
      · obtain ⟨k, n, s, ks⟩ := d
        rw [layG, h.most y]
        simp only []
        split
        · exact (h.stop x y hx hR).1 _
        · exact (h.stop x _ hx (ih.2 ks (by simp only [Dat.size] at hd; omega) true c r true x _ hx ((h.stop x y hx hR).1 _))).1 _
      · cases ks with
        | nil => exact hR
        | cons d ds =>
          rw [layGL]
          refine ih.2 ds (by simp only [Dats.size] at hk; omega) _ _ _ _ x _ hx (ih.1 d (by simp only [Dats.size] at hk; omega) _ _ x _ hx ?_)
          split
          · exact hR
          · exact (h.stop x y hx hR).2 _
  exact ⟨fun d => (key (d.size + 1)).1 d (by omega), fun ks => (key (ks.size + 1)).2 ks (by omega)⟩
theorem sim {σ τ : Type} {S : Snk σ} {T : Snk τ} {R : σ → τ → Prop} (h : Sim S T R) (w : Nat) : (∀ (d : Dat) (c r : Nat) (x : σ) (y : τ), R x y → R (layG S w d c r x) (layG T w d c r y)) ∧ (∀ (ks : Dats) (f : Bool) (c r : Nat) (l : Bool) (x : σ) (y : τ), R x y → R (layGL S w ks f c r l x) (layGL T w ks f c r l y)) := by
  have key : ∀ N : Nat, (∀ (d : Dat), d.size < N → ∀ (c r : Nat) (x : σ) (y : τ), R x y → R (layG S w d c r x) (layG T w d c r y)) ∧ (∀ (ks : Dats), ks.size < N → ∀ (f : Bool) (c r : Nat) (l : Bool) (x : σ) (y : τ), R x y → R (layGL S w ks f c r l x) (layGL T w ks f c r l y)) := by
    intro N
    induction N with
    | zero => exact ⟨fun d h => by omega, fun d h => by omega⟩
    | succ N ih =>
      refine ⟨fun d hd c r x y hR => ?_, fun ks hk f c r l x y hR => ?_⟩
      · cases hm : S.more x with
        | false =>
          have e : layG S w d c r x = x := by obtain ⟨k, n, s, ks⟩ := d; rw [layG, hm]
          rw [e]
          exact (sim_stopL h w).1 d c r x y hm hR
        | true =>
          obtain ⟨k, n, s, ks⟩ := d
          rw [layG, layG, hm, h.most y]
          simp only []
          split
          · exact h.text _ _ _ hR
          · exact h.text _ _ _ (ih.2 ks (by simp only [Dat.size] at hd; omega) true c r true _ _ (h.text _ _ _ hR))
      · cases ks with
        | nil => exact hR
        | cons d ds =>
          rw [layGL, layGL]
          refine ih.2 ds (by simp only [Dats.size] at hk; omega) _ _ _ _ _ _ (ih.1 d (by simp only [Dats.size] at hk; omega) _ _ _ _ ?_)
          split
          · exact hR
          · exact h.line _ _ _ hR
  exact ⟨fun d => (key (d.size + 1)).1 d (by omega), fun ks => (key (ks.size + 1)).2 ks (by omega)⟩
/-- The document's layout, behind what was there. -/
def layT (w : Nat) (d : Dat) (c r : Nat) : List UInt8 := layG rS w d c r []
def layTL (w : Nat) (ks : Dats) (f : Bool) (c r : Nat) (l : Bool) : List UInt8 := layGL rS w ks f c r l []
theorem lay_app (w : Nat) : (∀ (d : Dat) (c r : Nat) (y : List UInt8), layG rS w d c r y = y ++ layT w d c r) ∧ (∀ (ks : Dats) (f : Bool) (c r : Nat) (l : Bool) (y : List UInt8), layGL rS w ks f c r l y = y ++ layTL w ks f c r l) := by
  have h : ∀ y0, Sim rS rS (fun x y => y = y0 ++ x) := fun y0 => ⟨fun t x y h => by subst h; simp [rS], fun n x y h => by subst h; simp [rS], fun x y h => by simp [rS] at h, fun y => rfl⟩
  exact ⟨fun d c r y => (sim (h y) w).1 d c r [] y (by simp), fun ks f c r l y => (sim (h y) w).2 ks f c r l [] y (by simp)⟩
/-- A paper's layout is no longer. -/
theorem lay_len (w : Nat) (d : Dat) (c r : Nat) (b : List UInt8) : (layG pS w d c r b).length ≤ b.length + (layT w d c r).length := by
  have h : Sim pS rS (fun x y => x.length ≤ y.length) := ⟨fun t x y h => by simp [pS, rS]; exact h, fun n x y h => by simp [pS, rS]; exact h, fun x y _ h => ⟨fun t => by simp [rS]; omega, fun n => by simp [rS]; omega⟩, fun y => rfl⟩
  have := (sim h w).1 d c r b b (Nat.le_refl _)
  rw [(lay_app w).1, List.length_append] at this
  exact this
theorem lay_lenL (w : Nat) (ks : Dats) (f : Bool) (c r : Nat) (l : Bool) (b : List UInt8) : (layGL pS w ks f c r l b).length ≤ b.length + (layTL w ks f c r l).length := by
  have h : Sim pS rS (fun x y => x.length ≤ y.length) := ⟨fun t x y h => by simp [pS, rS]; exact h, fun n x y h => by simp [pS, rS]; exact h, fun x y _ h => ⟨fun t => by simp [rS]; omega, fun n => by simp [rS]; omega⟩, fun y => rfl⟩
  have := (sim h w).2 ks f c r l b b (Nat.le_refl _)
  rw [(lay_app w).2, List.length_append] at this
  exact this
theorem layT_list (w : Nat) (k n : Int) (s : ByteArray) (ks : Dats) (c r : Nat) (h : ¬ (ks.len = 0 ∨ c + (textD (.mk k n s ks)).length + r ≤ w)) : layT w (.mk k n s ks) c r = 40 :: (layTL w ks true c r true ++ [41]) := by
  unfold layT
  rw [layG]
  simp only [rS]
  rw [if_neg h]
  have := (lay_app w).2 ks true c r true ([] ++ [40])
  simp only [rS] at this
  rw [this]
  simp
theorem layTL_take (w c r : Nat) (ks : Dats) (j : Nat) (l : Bool) (h : j < ks.len) : layTL w (ks.take (j + 1)) true c r l = layTL w (ks.take j) true c r false ++ ((if j = 0 then [] else 10 :: List.replicate (c + 2) 32) ++ layT w (ks.get j) (if j = 0 then c + 1 else c + 2) (if l = true then r + 1 else 0)) := by
  have := layGL_take rS w c r ks true j l [] h
  unfold layTL
  rw [this]
  simp only [and_true]
  rw [(lay_app w).1]
  by_cases hj : j = 0
  · simp [hj]
  · simp [hj, rS]
theorem layTL_mono (w c r : Nat) (ks : Dats) (j : Nat) (h : j < ks.len) : (layTL w (ks.take j) true c r false).length ≤ (layTL w ks true c r true).length := by
  have step : ∀ i l, i < ks.len → (layTL w (ks.take i) true c r false).length ≤ (layTL w (ks.take (i + 1)) true c r l).length := fun i l hi => by
    rw [layTL_take w c r ks i l hi, List.length_append]; omega
  have key : ∀ i, j + i < ks.len → (layTL w (ks.take j) true c r false).length ≤ (layTL w (ks.take (j + i)) true c r false).length := by
    intro i
    induction i with
    | zero => intro _; exact Nat.le_refl _
    | succ i ih => intro hi; exact Nat.le_trans (ih (by omega)) (step _ false (by omega))
  have h1 := key (ks.len - 1 - j) (by omega)
  have h2 := step (ks.len - 1) true (by omega)
  rw [show ks.len - 1 + 1 = ks.len by omega, take_all] at h2
  rw [show j + (ks.len - 1 - j) = ks.len - 1 by omega] at h1
  exact Nat.le_trans h1 h2
theorem textL_get (ks : Dats) : ∀ (f : Bool) (j : Nat), j < ks.len → (textD (ks.get j)).length ≤ (textL f ks).length := by
  intro f j h
  have h1 := textL_take ks f j h
  have h2 := textL_mono ks f (j + 1) h
  rw [h1, List.length_append, List.length_append] at h2
  omega
/-- Texts of formed data are not empty. -/
theorem text_pos (d : Dat) (h : formedD d = true) : 0 < (textD d).length := by
  obtain ⟨k, n, s, ks⟩ := d
  rw [textD]
  split
  · rw [Go.Lib.itoa]
    split
    · simp
    · rw [Go.Lib.decDigits_length]; exact Go.Lib.nDigits_pos _
  · split
    · rename_i h1 h2
      subst h2
      simp only [formedD] at h
      have hs : symOk s = true := by
        have h' : (n = 0 ∧ symOk s = true) ∧ ks.len = 0 := by simpa using h
        exact h'.1.2
      rcases Nat.eq_zero_or_pos s.size with h0 | h0
      · simp [symOk, symBad, h0] at hs
      · exact h0
    · simp
open Classical in
noncomputable def isTxp (cs : List PV) : Bool := decide (∃ d : Dat, d.cells = cs ∧ d.ok ∧ d.rng ∧ formedD d = true ∧ (textD d).length ≤ 140737488355328)
theorem isTxp_at {d : Dat} (ho : d.ok) (hr : d.rng) (hf : formedD d = true) (hl : (textD d).length ≤ 140737488355328) : isTxp d.cells = true := by
  unfold isTxp
  classical exact decide_eq_true ⟨d, rfl, ho, hr, hf, hl⟩
theorem isTxp_of {cs : List PV} (h : isTxp cs = true) : ∃ d : Dat, d.cells = cs ∧ d.ok ∧ d.rng ∧ formedD d = true ∧ (textD d).length ≤ 140737488355328 := by
  unfold isTxp at h
  classical exact of_decide_eq_true h
noncomputable def txS (f : Nat) (args : List PV) : Option (PV × Ob) := match f, args with
  | 54, [.agg cs] => some (.str (mkS (txC cs)), [(isTxp cs, true)])
  | 49, [.agg cs] => some (.str (mkS (txC cs)), [(isTxt cs, true)])
  | 111, [.str s, .int .i64 z] => match decide (s.data.toList = [32]) with
    | true => some (.str (mkS (List.replicate z.toNat 32)), [(decide (0 ≤ z ∧ z ≤ 140737488355328), true)])
    | false => none
  | _, _ => none
theorem txS_ok (f : Nat) (args : List PV) (r : PV) (o : Ob) (h : txS f args = some (r, o)) (ho : ∀ p ∈ o, p.1 = p.2) (_ : pureL args = true) : Pure G0 f args (fun x => x = r) := by
  unfold txS at h
  split at h
  · rename_i cs _
    cases h
    obtain ⟨d, rfl, h1, h2, h3, h4⟩ := isTxp_of (ho _ (List.mem_singleton.2 rfl))
    rw [txC_at]
    exact text_prog d h1 h2 (text_pos d h3) h4
  · rename_i cs _
    cases h
    obtain ⟨d, rfl, h1, h2, h4⟩ := isTxt_of (ho _ (List.mem_singleton.2 rfl))
    rw [txC_at]
    exact text_ref d h1 h2 h4
  · rename_i s z _
    split at h
    · rename_i hs
      cases h
      have hz := of_decide_eq_true (ho _ (List.mem_singleton.2 rfl))
      have := repeatB z.toNat (by omega)
      rw [Int.toNat_of_nonneg hz.1] at this
      have e : s = ⟨#[32]⟩ := by
        obtain ⟨⟨l⟩⟩ := s
        have hl : l = [32] := of_decide_eq_true hs
        subst hl
        rfl
      subst e
      exact this
    · cases h
  · cases h
end Seat
end Go.Proofs.YtkblfapbakfgpaaDoor
/- Layout: a datum laid on a paper. Printed by dev/lay1.py and dev/nfsub.py (this session's). -/
namespace Go.Proofs.YtkblfapbakfgpaaDoor
open Go.AS Go.RowKit
set_option linter.unusedVariables false
set_option linter.unusedSimpArgs false
set_option maxRecDepth 100000
set_option maxHeartbeats 4000000
namespace Seat
theorem bytesPL_of8 : ∀ cs : List PV, isBytes8 cs = true → bytesPL (bytesOf cs) = cs
  | [], _ => rfl
  | .int .u8 z :: cs, h => by
    simp only [isBytes8, Bool.and_eq_true, decide_eq_true_eq] at h
    simp only [bytesOf, byteOf, bytesPL, bytesPL_of8 cs h.2]
    have : z.toNat < 256 := by omega
    have e : (((UInt8.ofNat z.toNat).toNat : Nat) : Int) = z := by
      simp only [UInt8.toNat_ofNat']
      omega
    show PV.int IntKind.u8 (((UInt8.ofNat z.toNat).toNat : Nat) : Int) :: cs = _
    rw [e]
  | .int .i8 _ :: _, h | .int .i16 _ :: _, h | .int .i32 _ :: _, h | .int .i64 _ :: _, h | .int .u16 _ :: _, h | .int .u32 _ :: _, h | .int .u64 _ :: _, h => by simp [isBytes8] at h
  | .bool _ :: _, h | .str _ :: _, h | .slice _ _ :: _, h | .nil :: _, h | .epos _ :: _, h | .own _ _ :: _, h | .rpos _ _ :: _, h | .ptr _ _ :: _, h | .bsl _ _ _ :: _, h | .nilptr :: _, h | .func _ _ :: _, h | .nilfunc :: _, h | .agg _ :: _, h | .tup _ :: _, h | .iface _ _ :: _, h | .niliface :: _, h | .junk :: _, h => by simp [isBytes8] at h
theorem bytesOf_append : ∀ a b : List PV, bytesOf (a ++ b) = bytesOf a ++ bytesOf b
  | [], b => rfl
  | x :: a, b => by simp only [List.cons_append, bytesOf, bytesOf_append a b]
def pB (n : Nat) : Box := ⟨[.ptr 0 0, .own 0 n], 67⟩
def pB0 : Box := ⟨[.nilptr, .nil], 67⟩
open Classical in
noncomputable def isLay (N : Nat) (cs : List PV) : Bool := decide (∃ d : Dat, d.cells = cs ∧ d.size < N ∧ d.ok ∧ d.rng ∧ formedD d = true ∧ (textD d).length ≤ 4398046511104)
theorem isLay_at {N : Nat} {d : Dat} (h : d.size < N) (ho : d.ok) (hr : d.rng) (hf : formedD d = true) (hl : (textD d).length ≤ 4398046511104) : isLay N d.cells = true := by
  unfold isLay
  classical exact decide_eq_true ⟨d, rfl, h, ho, hr, hf, hl⟩
theorem isLay_of {N : Nat} {cs : List PV} (h : isLay N cs = true) : ∃ d : Dat, d.cells = cs ∧ d.size < N ∧ d.ok ∧ d.rng ∧ formedD d = true ∧ (textD d).length ≤ 4398046511104 := by
  unfold isLay at h
  classical exact of_decide_eq_true h
noncomputable def lpC (w c r : Nat) (b : List UInt8) (cs : List PV) : List UInt8 := ofCells (fun d => layG pS w d c r b) [] cs
theorem lpC_at (w c r : Nat) (b : List UInt8) (d : Dat) : lpC w c r b d.cells = layG pS w d c r b := ofCells_at _ _ d
noncomputable def lrC (w c r : Nat) (cs : List PV) : Nat := ofCells (fun d => (layT w d c r).length) 0 cs
theorem lrC_at (w c r : Nat) (d : Dat) : lrC w c r d.cells = (layT w d c r).length := ofCells_at _ _ d
def LayAt (N : Nat) : Prop := ∀ d : Dat, d.size < N → d.ok → d.rng → formedD d = true → (textD d).length ≤ 4398046511104 → ∀ w c r : Nat, w ≤ 4398046511104 → c + 2 * N ≤ 4398046511104 → r + N ≤ 4398046511104 → ∀ b : List UInt8, b.length + (layT w d c r).length ≤ 140737488355328 →
  RCalls G0 37 [.agg [.iface 62 (.ptr 0 0), .int .i64 w], .agg d.cells, .int .i64 c, .int .i64 r] ⟨[pB b.length], [some (bR (bytesPL b) b.length)]⟩ (fun o H => o = .ret (.tup []) ∧ H = ⟨[pB (layG pS w d c r b).length], [some (bR (bytesPL (layG pS w d c r b)) (layG pS w d c r b).length)]⟩)
noncomputable def layV (N : Nat) (f : Nat) (xs : List PV) (H : Hp) : Option (PV × Hp × Ob) := match f, xs, H with
  | 37, [.agg [.iface tp (.ptr 0 0), .int .i64 w], .agg cs, .int .i64 c, .int .i64 r], ⟨[⟨[.ptr 0 0, .own 0 n], ty⟩], [some ⟨rc, m, e, 1⟩]⟩ => match Nat.beq tp 62 && Nat.beq ty 67 && Nat.beq e 5 with
    | true => some (.tup [], ⟨[⟨[.ptr 0 0, .own 0 (lpC w.toNat c.toNat r.toNat (bytesOf rc) cs).length], ty⟩], [some ⟨bytesPL (lpC w.toNat c.toNat r.toNat (bytesOf rc) cs), (lpC w.toNat c.toNat r.toNat (bytesOf rc) cs).length, e, 1⟩]⟩,
        [(isLay N cs, true), (decide (0 ≤ w ∧ w ≤ 4398046511104), true), (decide (0 ≤ c ∧ c + 2 * (N : Int) ≤ 4398046511104), true), (decide (0 ≤ r ∧ r + (N : Int) ≤ 4398046511104), true), (Nat.beq n m, true), (Nat.beq rc.length m, true), (isBytes8 rc, true), (Nat.ble (m + lrC w.toNat c.toNat r.toNat cs) 140737488355328, true)])
    | false => none
  | _, _, _ => none
theorem layV_ok {N : Nat} (ih : LayAt N) (f : Nat) (xs : List PV) (H : Hp) (r : PV) (H' : Hp) (o : Ob) (h : layV N f xs H = some (r, H', o)) (ho : ∀ p ∈ o, p.1 = p.2) : RCalls G0 f xs H (fun o' H2 => o' = .ret r ∧ H2 = H') ∧ r.scP (belowN H'.bx.length) (belowN H'.rw.length) = true ∧ H'.scB H'.bx.length H'.rw.length = true := by
  unfold layV at h
  split at h
  · rename_i tp w cs c r' n ty rc m e
    split at h
    · rename_i hc
      cases h
      simp only [Bool.and_eq_true, Nat.beq_eq] at hc
      obtain ⟨⟨rfl, rfl⟩, rfl⟩ := hc
      obtain ⟨d, rfl, h1, h2, h3, h4, h5⟩ := isLay_of (ho (isLay N cs, true) (by simp))
      have g1 := of_decide_eq_true (ho (decide (0 ≤ w ∧ w ≤ 4398046511104), true) (by simp))
      have g2 := of_decide_eq_true (ho (decide (0 ≤ c ∧ c + 2 * (N : Int) ≤ 4398046511104), true) (by simp))
      have g3 := of_decide_eq_true (ho (decide (0 ≤ r' ∧ r' + (N : Int) ≤ 4398046511104), true) (by simp))
      have g4 := ho (Nat.beq n m, true) (by simp)
      have g5 := ho (Nat.beq rc.length m, true) (by simp)
      have g6 := ho (isBytes8 rc, true) (by simp)
      have g7 := ho (Nat.ble (m + lrC w.toNat c.toNat r'.toNat d.cells) 140737488355328, true) (by simp)
      simp only [Nat.beq_eq, Nat.ble_eq] at g4 g5 g7
      subst g4
      rw [lrC_at] at g7
      rw [lpC_at]
      have hb := bytesPL_of8 rc g6
      have hbl : (bytesOf rc).length = n := by rw [bytesOf_length]; exact g5
      have key := ih d h1 h2 h3 h4 h5 w.toNat c.toNat r'.toNat (by omega) (by omega) (by omega) (bytesOf rc) (by rw [hbl]; exact g7)
      rw [hbl, hb, Int.toNat_of_nonneg g1.1, Int.toNat_of_nonneg g2.1, Int.toNat_of_nonneg g3.1] at key
      exact ⟨key, rfl, rfl⟩
    · cases h
  · cases h
noncomputable def layV2 (N : Nat) (f : Nat) (xs : List PV) (H : Hp) : Option (PV × Hp × Ob) := match layV N f xs H with
  | some r => some r
  | none => ccV f xs H
theorem layV2_ok {N : Nat} (ih : LayAt N) (f : Nat) (xs : List PV) (H : Hp) (r : PV) (H' : Hp) (o : Ob) (h : layV2 N f xs H = some (r, H', o)) (ho : ∀ p ∈ o, p.1 = p.2) : RCalls G0 f xs H (fun o' H2 => o' = .ret r ∧ H2 = H') ∧ r.scP (belowN H'.bx.length) (belowN H'.rw.length) = true ∧ H'.scB H'.bx.length H'.rw.length = true := by
  unfold layV2 at h
  split at h
  · rename_i x hx
    cases h
    exact layV_ok ih f xs H r H' o hx ho
  · exact ccV_ok f xs H r H' o h ho
noncomputable def SL {N : Nat} (ih : LayAt N) (l : List (Nat × List (Nat × Bool))) (v : List (Nat × List (Nat × PV))) : Cfg G0 := { F := F, hF := hF, S := txS, hS := txS_ok, V := layV2 N, hV := layV2_ok ih, hp := hpB, D := hpB, orc := orcM l, val := valM v }
theorem toNat_of (n : Nat) : Int.toNat (Int.ofNat n) = n := rfl
def LSt (B : Box) (rws : List (Option Row)) (b : List UInt8) : Prop := (B = pB b.length ∧ rws = [some (bR (bytesPL b) b.length)]) ∨ (B = pB0 ∧ rws = [] ∧ b = [])
theorem wrap3 (a b c : Nat) (h : a + b + c ≤ 9223372036854775807) : IntKind.wrap IntKind.i64 (IntKind.wrap IntKind.i64 ((a : Int) + (b : Int)) + (c : Int)) = ((a + b + c : Nat) : Int) := by
  rw [IntKind.wrap_i64, IntKind.wrap_i64]; omega
theorem wrapO (a : Nat) (h : a ≤ 9223372036854775807) : IntKind.wrap IntKind.i64 (Int.ofNat a) = (a : Int) := by
  show IntKind.wrap IntKind.i64 (a : Int) = _
  rw [IntKind.wrap_i64]; omega
theorem wrapD (a : Nat) (h : 0 < a) (h2 : a ≤ 9223372036854775807) : IntKind.wrap IntKind.i64 (Int.ofNat a - (1 : Int)) = ((a - 1 : Nat) : Int) := by
  show IntKind.wrap IntKind.i64 ((a : Int) - 1) = _
  rw [IntKind.wrap_i64]; omega
def LB (w : Nat) : Box := ⟨[.iface 62 (.ptr 0 0), .int .i64 w], 72⟩
theorem lay_gen {N : Nat} (ih : LayAt N) (d : Dat) (hN : d.size < N + 1) (hok : d.ok) (hrng : d.rng) (hfm : formedD d = true) (htl : (textD d).length ≤ 4398046511104) (w c r : Nat) (hw : w ≤ 4398046511104) (hc : c + 2 * (N + 1) ≤ 4398046511104) (hr : r + (N + 1) ≤ 4398046511104)
    (B0 : Box) (rws : List (Option Row)) (b : List UInt8) (hB : LSt B0 rws b) (hb : b.length + (layT w d c r).length ≤ 140737488355328) :
    RCalls G0 37 [.agg [.iface 62 (.ptr 0 0), .int .i64 w], .agg d.cells, .int .i64 c, .int .i64 r] ⟨[B0], rws⟩ (fun o H => o = .ret (.tup []) ∧ H = ⟨[pB (layG pS w d c r b).length], [some (bR (bytesPL (layG pS w d c r b)) (layG pS w d c r b).length)]⟩) := by
  obtain ⟨k, n, s, ks⟩ := d
  have hlen := hok.1
  have tx : txC [PV.int IntKind.i64 k, PV.int IntKind.i64 n, PV.str s, PV.slice (Dats.len ks) (Dats.cells ks)] = textD (.mk k n s ks) := txC_at (.mk k n s ks)
  have c1 : isTxp [PV.int IntKind.i64 k, PV.int IntKind.i64 n, PV.str s, PV.slice (Dats.len ks) (Dats.cells ks)] = true := isTxp_at (d := .mk k n s ks) hok hrng hfm (by omega)
  refine Fn.enterH Tryd.func37 Tryd.ntmps37 rfl (Nat.le_of_ble_eq_true rfl) fun C fr fp hnt hnb hfr => ?_
  have fin : ∀ st l, l = layG pS w (.mk k n s ks) c r b → nrm [] st = ⟨[], ⟨[pB l.length, LB w, DB k n s ks], [some (bR (bytesPL l) l.length)]⟩⟩ → fr st := fun st l hl hs => hfr st [] (by
    rw [hs, ← hl]
    rcases hB with ⟨rfl, rfl⟩ | ⟨rfl, rfl, _⟩
    · exact ⟨1, 1, .tup [], Nat.le_refl _, (by decide : 1 ≤ 3), Nat.le_refl _, Nat.le_refl _, rfl, rfl, rfl, rfl, rfl⟩
    · exact ⟨1, 1, .tup [], Nat.le_refl _, (by decide : 1 ≤ 3), Nat.zero_le _, Nat.le_refl _, rfl, rfl, rfl, rfl, rfl⟩)
  by_cases hm : 2000000 < b.length
  · have lg : layG pS w (.mk k n s ks) c r b = b := by
      rw [layG]
      have : pS.more b = false := by
        cases h : pS.more b with
        | false => rfl
        | true => simp only [pS, Nat.ble_eq] at h; omega
      rw [this]
    have c2 : decide ((↑(List.length b) : Int) ≤ 2000000) = false := by rw [decide_eq_false_iff_not]; omega
    rcases hB with ⟨rfl, rfl⟩ | ⟨rfl, rfl, rfl⟩
    · exact SWP.runQ (SL ih [(8, [(7, false)])] []) 100 79 hnt [] (e := .ret) (z := { t := [], h := { bx := [{ cs := [PV.ptr 0 0, PV.own 0 (List.length b)], ty := 67 }, { cs := [PV.iface 62 (PV.ptr 0 0), PV.int IntKind.i64 (Int.ofNat w)], ty := 72 }, { cs := [PV.int IntKind.i64 k, PV.int IntKind.i64 n, PV.str s, PV.slice (Dats.len ks) (Dats.cells ks)], ty := 24 }], rw := [some { cs := bytesPL b, n := List.length b, ty := 5, sz := 1 }] } }) (o := [(decide ((↑(List.length b) : Int) ≤ 2000000), false)]) (by kernel_rfl) (by ((repeat' (first | exact okO_nil | refine okN ?_ ?_)); all_goals first | assumption | rfl | exact same_of rfl | exact sameS_self _ | (simp only [decide_eq_true_eq, decide_eq_false_iff_not, Nat.ble_eq, Nat.beq_eq, beq_eq_false_iff_ne, beq_iff_eq, ne_eq] <;> omega))) (fun st hs => fin st b lg.symm hs)
    · exact absurd hm (by decide)
  have c2 : decide ((↑(List.length b) : Int) ≤ 2000000) = true := by rw [decide_eq_true_eq]; omega
  have hmt : pS.more b = true := by simp only [pS, Nat.ble_eq]; omega
  have hsz : ByteArray.size (mkS (txC [PV.int IntKind.i64 k, PV.int IntKind.i64 n, PV.str s, PV.slice (Dats.len ks) (Dats.cells ks)])) = (textD (.mk k n s ks)).length := by rw [tx]; rfl
  have hwr : IntKind.wrap IntKind.i64 (IntKind.wrap IntKind.i64 ((↑c : Int) + (↑(ByteArray.size (mkS (txC [PV.int IntKind.i64 k, PV.int IntKind.i64 n, PV.str s, PV.slice (Dats.len ks) (Dats.cells ks)]))) : Int)) + (↑r : Int)) = ((c + (textD (.mk k n s ks)).length + r : Nat) : Int) := by
    rw [hsz]; exact wrap3 _ _ _ (by omega)
  have short : ∀ (hs : ks.len = 0 ∨ c + (textD (.mk k n s ks)).length + r ≤ w), layG pS w (.mk k n s ks) c r b = b ++ textD (.mk k n s ks) ∧ b.length + (textD (.mk k n s ks)).length ≤ 140737488355328 := fun hs => by
    refine ⟨by rw [layG, hmt]; simp only []; rw [if_pos hs]; rfl, ?_⟩
    have : layT w (.mk k n s ks) c r = textD (.mk k n s ks) := by
      unfold layT
      rw [layG]
      simp only [rS]
      rw [if_pos hs]
      simp
    rw [this] at hb
    exact hb
  by_cases h0 : ks.len = 0
  · obtain ⟨lg, hb2⟩ := short (.inl h0)
    have c3 : (Int.ofNat (Dats.len ks) == (0 : Int)) = true := by rw [h0]; rfl
    rcases hB with ⟨rfl, rfl⟩ | ⟨rfl, rfl, rfl⟩
    · have c4 : Nat.ble (List.length b + ByteArray.size (mkS (txC [PV.int IntKind.i64 k, PV.int IntKind.i64 n, PV.str s, PV.slice (Dats.len ks) (Dats.cells ks)]))) 140737488355328 = true := by rw [Nat.ble_eq, hsz]; exact hb2
      refine SWP.runQ (SL ih [(8, [(7, true)]), (79, [(21, true)]), (19, [(14, true)])] []) 100 79 hnt [] (e := .ret) (z := { t := [], h := { bx := [{ cs := [PV.ptr 0 0, PV.own 0 (List.length b + ByteArray.size (mkS (txC [PV.int IntKind.i64 k, PV.int IntKind.i64 n, PV.str s, PV.slice (Dats.len ks) (Dats.cells ks)])))], ty := 67 }, { cs := [PV.iface 62 (PV.ptr 0 0), PV.int IntKind.i64 (Int.ofNat w)], ty := 72 }, { cs := [PV.int IntKind.i64 k, PV.int IntKind.i64 n, PV.str s, PV.slice (Dats.len ks) (Dats.cells ks)], ty := 24 }], rw := [some { cs := bytesPL b ++ bytesPV (mkS (txC [PV.int IntKind.i64 k, PV.int IntKind.i64 n, PV.str s, PV.slice (Dats.len ks) (Dats.cells ks)])), n := List.length b + ByteArray.size (mkS (txC [PV.int IntKind.i64 k, PV.int IntKind.i64 n, PV.str s, PV.slice (Dats.len ks) (Dats.cells ks)])), ty := 5, sz := 1 }] } }) (o := [(decide ((↑(List.length b) : Int) ≤ 2000000), true), (true, true), (isTxp [PV.int IntKind.i64 k, PV.int IntKind.i64 n, PV.str s, PV.slice (Dats.len ks) (Dats.cells ks)], true), (Int.ofNat (Dats.len ks) == (0 : Int), true), (Nat.ble (List.length b + ByteArray.size (mkS (txC [PV.int IntKind.i64 k, PV.int IntKind.i64 n, PV.str s, PV.slice (Dats.len ks) (Dats.cells ks)]))) 140737488355328, true)]) (by kernel_rfl) (by ((repeat' (first | exact okO_nil | refine okN ?_ ?_)); all_goals first | assumption | rfl | exact same_of rfl | exact sameS_self _ | (simp only [decide_eq_true_eq, decide_eq_false_iff_not, Nat.ble_eq, Nat.beq_eq, beq_eq_false_iff_ne, beq_iff_eq, ne_eq] <;> omega))) (fun st hs => fin st _ lg.symm ?_)
      rw [hs, tx, bytesPL_append, List.length_append]; rfl
    · have c4 : Nat.ble (0 + ByteArray.size (mkS (txC [PV.int IntKind.i64 k, PV.int IntKind.i64 n, PV.str s, PV.slice (Dats.len ks) (Dats.cells ks)]))) 140737488355328 = true := by rw [Nat.ble_eq, hsz]; exact hb2
      refine SWP.runQ (SL ih [(79, [(21, true)]), (19, [(14, true)])] []) 100 79 hnt [] (e := .ret) (z := { t := [], h := { bx := [{ cs := [PV.ptr 0 0, PV.own 0 (0 + ByteArray.size (mkS (txC [PV.int IntKind.i64 k, PV.int IntKind.i64 n, PV.str s, PV.slice (Dats.len ks) (Dats.cells ks)])))], ty := 67 }, { cs := [PV.iface 62 (PV.ptr 0 0), PV.int IntKind.i64 (Int.ofNat w)], ty := 72 }, { cs := [PV.int IntKind.i64 k, PV.int IntKind.i64 n, PV.str s, PV.slice (Dats.len ks) (Dats.cells ks)], ty := 24 }], rw := [some { cs := [] ++ bytesPV (mkS (txC [PV.int IntKind.i64 k, PV.int IntKind.i64 n, PV.str s, PV.slice (Dats.len ks) (Dats.cells ks)])), n := 0 + ByteArray.size (mkS (txC [PV.int IntKind.i64 k, PV.int IntKind.i64 n, PV.str s, PV.slice (Dats.len ks) (Dats.cells ks)])), ty := 5, sz := 1 }] } }) (o := [(true, true), (isTxp [PV.int IntKind.i64 k, PV.int IntKind.i64 n, PV.str s, PV.slice (Dats.len ks) (Dats.cells ks)], true), (Int.ofNat (Dats.len ks) == (0 : Int), true), (Nat.ble (0 + ByteArray.size (mkS (txC [PV.int IntKind.i64 k, PV.int IntKind.i64 n, PV.str s, PV.slice (Dats.len ks) (Dats.cells ks)]))) 140737488355328, true)]) (by kernel_rfl) (by ((repeat' (first | exact okO_nil | refine okN ?_ ?_)); all_goals first | assumption | rfl | exact same_of rfl | exact sameS_self _ | (simp only [decide_eq_true_eq, decide_eq_false_iff_not, Nat.ble_eq, Nat.beq_eq, beq_eq_false_iff_ne, beq_iff_eq, ne_eq] <;> omega))) (fun st hs => fin st _ lg.symm ?_)
      rw [hs, tx, bytesPL_append, List.length_append]; rfl
  have c3 : (Int.ofNat (Dats.len ks) == (0 : Int)) = false := by rw [beq_eq_false_iff_ne]; show (ks.len : Int) ≠ 0; omega
  by_cases hft : c + (textD (.mk k n s ks)).length + r ≤ w
  · obtain ⟨lg, hb2⟩ := short (.inr hft)
    have c5 : decide (IntKind.wrap IntKind.i64 (IntKind.wrap IntKind.i64 ((↑c : Int) + (↑(ByteArray.size (mkS (txC [PV.int IntKind.i64 k, PV.int IntKind.i64 n, PV.str s, PV.slice (Dats.len ks) (Dats.cells ks)]))) : Int)) + (↑r : Int)) ≤ (↑w : Int)) = true := by rw [hwr, decide_eq_true_eq]; omega
    rcases hB with ⟨rfl, rfl⟩ | ⟨rfl, rfl, rfl⟩
    · have c4 : Nat.ble (List.length b + ByteArray.size (mkS (txC [PV.int IntKind.i64 k, PV.int IntKind.i64 n, PV.str s, PV.slice (Dats.len ks) (Dats.cells ks)]))) 140737488355328 = true := by rw [Nat.ble_eq, hsz]; exact hb2
      refine SWP.runQ (SL ih [(8, [(7, true)]), (79, [(21, false), (31, true)]), (19, [(14, true)])] []) 100 79 hnt [] (e := .ret) (z := { t := [], h := { bx := [{ cs := [PV.ptr 0 0, PV.own 0 (List.length b + ByteArray.size (mkS (txC [PV.int IntKind.i64 k, PV.int IntKind.i64 n, PV.str s, PV.slice (Dats.len ks) (Dats.cells ks)])))], ty := 67 }, { cs := [PV.iface 62 (PV.ptr 0 0), PV.int IntKind.i64 (Int.ofNat w)], ty := 72 }, { cs := [PV.int IntKind.i64 k, PV.int IntKind.i64 n, PV.str s, PV.slice (Dats.len ks) (Dats.cells ks)], ty := 24 }], rw := [some { cs := bytesPL b ++ bytesPV (mkS (txC [PV.int IntKind.i64 k, PV.int IntKind.i64 n, PV.str s, PV.slice (Dats.len ks) (Dats.cells ks)])), n := List.length b + ByteArray.size (mkS (txC [PV.int IntKind.i64 k, PV.int IntKind.i64 n, PV.str s, PV.slice (Dats.len ks) (Dats.cells ks)])), ty := 5, sz := 1 }] } }) (o := [(decide ((↑(List.length b) : Int) ≤ 2000000), true), (true, true), (isTxp [PV.int IntKind.i64 k, PV.int IntKind.i64 n, PV.str s, PV.slice (Dats.len ks) (Dats.cells ks)], true), (Int.ofNat (Dats.len ks) == (0 : Int), false), (decide (IntKind.wrap IntKind.i64 (IntKind.wrap IntKind.i64 (Int.ofNat (c + ByteArray.size (mkS (txC [PV.int IntKind.i64 k, PV.int IntKind.i64 n, PV.str s, PV.slice (Dats.len ks) (Dats.cells ks)])))) + Int.ofNat r) ≤ Int.ofNat w), true), (Nat.ble (List.length b + ByteArray.size (mkS (txC [PV.int IntKind.i64 k, PV.int IntKind.i64 n, PV.str s, PV.slice (Dats.len ks) (Dats.cells ks)]))) 140737488355328, true)]) (by kernel_rfl) (by ((repeat' (first | exact okO_nil | refine okN ?_ ?_)); all_goals first | assumption | rfl | exact same_of rfl | exact sameS_self _ | (simp only [decide_eq_true_eq, decide_eq_false_iff_not, Nat.ble_eq, Nat.beq_eq, beq_eq_false_iff_ne, beq_iff_eq, ne_eq] <;> omega))) (fun st hs => fin st _ lg.symm ?_)
      rw [hs, tx, bytesPL_append, List.length_append]; rfl
    · have c4 : Nat.ble (0 + ByteArray.size (mkS (txC [PV.int IntKind.i64 k, PV.int IntKind.i64 n, PV.str s, PV.slice (Dats.len ks) (Dats.cells ks)]))) 140737488355328 = true := by rw [Nat.ble_eq, hsz]; exact hb2
      refine SWP.runQ (SL ih [(79, [(21, false), (31, true)]), (19, [(14, true)])] []) 100 79 hnt [] (e := .ret) (z := { t := [], h := { bx := [{ cs := [PV.ptr 0 0, PV.own 0 (0 + ByteArray.size (mkS (txC [PV.int IntKind.i64 k, PV.int IntKind.i64 n, PV.str s, PV.slice (Dats.len ks) (Dats.cells ks)])))], ty := 67 }, { cs := [PV.iface 62 (PV.ptr 0 0), PV.int IntKind.i64 (Int.ofNat w)], ty := 72 }, { cs := [PV.int IntKind.i64 k, PV.int IntKind.i64 n, PV.str s, PV.slice (Dats.len ks) (Dats.cells ks)], ty := 24 }], rw := [some { cs := [] ++ bytesPV (mkS (txC [PV.int IntKind.i64 k, PV.int IntKind.i64 n, PV.str s, PV.slice (Dats.len ks) (Dats.cells ks)])), n := 0 + ByteArray.size (mkS (txC [PV.int IntKind.i64 k, PV.int IntKind.i64 n, PV.str s, PV.slice (Dats.len ks) (Dats.cells ks)])), ty := 5, sz := 1 }] } }) (o := [(true, true), (isTxp [PV.int IntKind.i64 k, PV.int IntKind.i64 n, PV.str s, PV.slice (Dats.len ks) (Dats.cells ks)], true), (Int.ofNat (Dats.len ks) == (0 : Int), false), (decide (IntKind.wrap IntKind.i64 (IntKind.wrap IntKind.i64 (Int.ofNat (c + ByteArray.size (mkS (txC [PV.int IntKind.i64 k, PV.int IntKind.i64 n, PV.str s, PV.slice (Dats.len ks) (Dats.cells ks)])))) + Int.ofNat r) ≤ Int.ofNat w), true), (Nat.ble (0 + ByteArray.size (mkS (txC [PV.int IntKind.i64 k, PV.int IntKind.i64 n, PV.str s, PV.slice (Dats.len ks) (Dats.cells ks)]))) 140737488355328, true)]) (by kernel_rfl) (by ((repeat' (first | exact okO_nil | refine okN ?_ ?_)); all_goals first | assumption | rfl | exact same_of rfl | exact sameS_self _ | (simp only [decide_eq_true_eq, decide_eq_false_iff_not, Nat.ble_eq, Nat.beq_eq, beq_eq_false_iff_ne, beq_iff_eq, ne_eq] <;> omega))) (fun st hs => fin st _ lg.symm ?_)
      rw [hs, tx, bytesPL_append, List.length_append]; rfl
  have hnot : ¬ (ks.len = 0 ∨ c + (textD (.mk k n s ks)).length + r ≤ w) := fun h => h.elim h0 hft
  have c5 : decide (IntKind.wrap IntKind.i64 (IntKind.wrap IntKind.i64 ((↑c : Int) + (↑(ByteArray.size (mkS (txC [PV.int IntKind.i64 k, PV.int IntKind.i64 n, PV.str s, PV.slice (Dats.len ks) (Dats.cells ks)]))) : Int)) + (↑r : Int)) ≤ (↑w : Int)) = false := by rw [hwr, decide_eq_false_iff_not]; omega
  have lg : layG pS w (.mk k n s ks) c r b = layGL pS w ks true c r true (b ++ [40]) ++ [41] := by
    rw [layG, hmt]; simp only []; rw [if_neg hnot]; rfl
  have hT := layT_list w k n s ks c r hnot
  rw [hT] at hb
  simp only [List.length_cons, List.length_append, List.length_nil] at hb
  have hks : ks.size < N + 1 := by simp only [Dat.size] at hN; omega
  have hfk : formedL ks = true := by
    simp only [formedD, Bool.or_eq_true, Bool.and_eq_true, decide_eq_true_eq] at hfm
    rcases hfm with (h | h) | h
    · exact absurd h.2 h0
    · exact absurd h.2 h0
    · exact h.2
  have hk3 : k = 3 := by
    simp only [formedD, Bool.or_eq_true, Bool.and_eq_true, decide_eq_true_eq] at hfm
    rcases hfm with (h | h) | h
    · exact absurd h.2 h0
    · exact absurd h.2 h0
    · exact h.1.1.1
  have htx : (textD (.mk k n s ks)).length = (textL true ks).length + 2 := by subst hk3; rw [textD, if_neg (by decide), if_neg (by decide)]; simp
  have wc1 : IntKind.wrap IntKind.i64 (Int.ofNat (c + 1)) = ((c + 1 : Nat) : Int) := wrapO _ (by omega)
  have wc1' : IntKind.wrap IntKind.i64 ((c : Int) + 1) = ((c + 1 : Nat) : Int) := wc1
  have wc2 : IntKind.wrap IntKind.i64 (Int.ofNat (c + 2)) = ((c + 2 : Nat) : Int) := wrapO _ (by omega)
  have wc2' : IntKind.wrap IntKind.i64 ((c : Int) + 2) = ((c + 2 : Nat) : Int) := wc2
  have wr1 : IntKind.wrap IntKind.i64 (Int.ofNat (r + 1)) = ((r + 1 : Nat) : Int) := wrapO _ (by omega)
  have wr1' : IntKind.wrap IntKind.i64 ((r : Int) + 1) = ((r + 1 : Nat) : Int) := wr1
  have wl : IntKind.wrap IntKind.i64 (Int.ofNat (Dats.len ks) - (1 : Int)) = ((ks.len - 1 : Nat) : Int) := wrapD _ (by omega) (by omega)
  have rl : ∀ (p : List UInt8) (m : Nat), bytesPL p ++ [PV.int IntKind.u8 (10 : Int)] ++ bytesPL (List.replicate m 32) = bytesPL (p ++ 10 :: List.replicate m 32) := fun p m => by rw [bytesPL_append, List.append_assoc]; rfl
  refine Q.runSeq (SL ih [] []) 100 79 hnt [2, 3, 4, 5] (z := ⟨[(2, .int .i64 c), (3, .int .i64 r), (4, .ptr 1 0), (5, .ptr 2 0)], ⟨[B0, LB w, DB k n s ks], rws⟩⟩) (o := []) (by kernel_rfl) okO_nil ?_
  refine Q.seq fun K hK => ?_
  have r2 : ∀ st, nrm [2, 3, 4, 5] st = ⟨[(2, .int .i64 c), (3, .int .i64 r), (4, .ptr 1 0), (5, .ptr 2 0)], ⟨[B0, LB w, DB k n s ks], rws⟩⟩ → K st := fun st hs => hK st (.norm [2, 3, 4, 5] (by
    rw [hs]
    clear hs hK
    refine Q.runSeq (SL ih [] []) 100 79 hnt [2, 3, 4, 5, 8] (z := ⟨[(2, .int .i64 c), (3, .int .i64 r), (4, .ptr 1 0), (5, .ptr 2 0), (8, .str (mkS (txC [PV.int IntKind.i64 k, PV.int IntKind.i64 n, PV.str s, PV.slice (Dats.len ks) (Dats.cells ks)])))], ⟨[B0, LB w, DB k n s ks], rws⟩⟩) (o := [(true, true), (isTxp [PV.int IntKind.i64 k, PV.int IntKind.i64 n, PV.str s, PV.slice (Dats.len ks) (Dats.cells ks)], true)]) (by kernel_rfl) (by ((repeat' (first | exact okO_nil | refine okN ?_ ?_)); all_goals first | assumption | rfl | exact same_of rfl | exact sameS_self _ | (simp only [decide_eq_true_eq, decide_eq_false_iff_not, Nat.ble_eq, Nat.beq_eq, beq_eq_false_iff_ne, beq_iff_eq, ne_eq] <;> omega))) ?_
    refine Q.runSeq (SL ih [(79, [(21, false), (31, false)])] []) 100 79 hnt [2, 3, 4, 5] (z := ⟨[(2, .int .i64 c), (3, .int .i64 r), (4, .ptr 1 0), (5, .ptr 2 0)], ⟨[B0, LB w, DB k n s ks], rws⟩⟩) (o := [(Int.ofNat (Dats.len ks) == (0 : Int), false), (decide (IntKind.wrap IntKind.i64 (IntKind.wrap IntKind.i64 ((↑c : Int) + (↑(ByteArray.size (mkS (txC [PV.int IntKind.i64 k, PV.int IntKind.i64 n, PV.str s, PV.slice (Dats.len ks) (Dats.cells ks)]))) : Int)) + (↑r : Int)) ≤ (↑w : Int)), false)]) (by kernel_rfl) (by ((repeat' (first | exact okO_nil | refine okN ?_ ?_)); all_goals first | assumption | rfl | exact same_of rfl | exact sameS_self _ | (simp only [decide_eq_true_eq, decide_eq_false_iff_not, Nat.ble_eq, Nat.beq_eq, beq_eq_false_iff_ne, beq_iff_eq, ne_eq] <;> omega))) ?_
    refine Q.seq fun K hK => ?_
    have rest : ∀ st, nrm [2, 3, 4, 5] st = ⟨[(2, .int .i64 c), (3, .int .i64 r), (4, .ptr 1 0), (5, .ptr 2 0)], ⟨[pB (b.length + 1), LB w, DB k n s ks], [some (bR (bytesPL b ++ [.int .u8 40]) (b.length + 1))]⟩⟩ → K st := fun st hs => hK st (.norm [2, 3, 4, 5] (by
      rw [hs]
      clear hs hK
      let P (j : Nat) : List UInt8 := layGL pS w (ks.take j) true c r (decide (j = ks.len)) (b ++ [40])
      have hP0 : P 0 = b ++ [40] := by
        simp only [P]
        cases ks <;> rfl
      have hPl : P ks.len = layGL pS w ks true c r true (b ++ [40]) := by simp only [P, take_all, decide_true]
      let T (j : Nat) : AS := ⟨[(2, .int .i64 c), (3, .int .i64 r), (4, .ptr 1 0), (5, .ptr 2 0), (41, .slice ks.len ks.cells), (42, .int .i64 ks.len), (43, .int .i64 j)], ⟨[pB (P j).length, LB w, DB k n s ks], [some (bR (bytesPL (P j)) (P j).length)]⟩⟩
      refine Q.seq fun K2 hK2 => ?_
      refine Q.runSeq (SL ih [] []) 100 79 hnt [2, 3, 4, 5, 41, 42, 43] (z := T 0) (o := []) (by simp only [T, hP0, bytesPL_append, List.length_append]; kernel_rfl) okO_nil ?_
      refine Q.block ?_
      refine Q.loopH (σ := { j : Nat // j ≤ ks.len }) [2, 3, 4, 5, 41, 42, 43] 3 (by rw [hnb]; exact (by decide : 1 ≤ 3)) (fun j => T j.1) (fun j => ks.len - j.1) ⟨0, Nat.zero_le _⟩ (fun j => ⟨rfl, rfl, rfl⟩) ⟨[], by simp only [List.append_nil]; rfl⟩ fun ⟨j, hj⟩ => ?_
      rcases Nat.lt_or_ge j ks.len with hlt | hge
      · obtain ⟨k', n', s', ks', hget⟩ := Dats.get_mk ks j
        have hsz := Dats.get_size ks j hlt
        have hoj := Dats.get_ok ks j hlt hok.2
        have hrj := Dats.get_rng ks j hlt hrng.2
        have hfj := (formedL_iff ks).1 hfk j hlt
        have htj := textL_get ks true j hlt
        have hPj : decide (j = ks.len) = false := decide_eq_false_iff_not.2 (by omega)
        have hPn : P (j + 1) = layG pS w (.mk k' n' s' ks') (if j = 0 ∧ true = true then c + 1 else c + 2) (if decide (j + 1 = ks.len) = true then r + 1 else 0) (if j = 0 ∧ true = true then P j else pS.line (c + 2) (P j)) := by
          have e0 : P (j + 1) = layGL pS w (ks.take (j + 1)) true c r (decide (j + 1 = ks.len)) (b ++ [40]) := rfl
          have e1 : P j = layGL pS w (ks.take j) true c r false (b ++ [40]) := by
            show layGL pS w (ks.take j) true c r (decide (j = ks.len)) (b ++ [40]) = _
            rw [hPj]
          rw [e0, e1, layGL_take pS w c r ks true j _ _ hlt, hget]
        have hbd : (P j).length + (if j = 0 then ([] : List UInt8) else 10 :: List.replicate (c + 2) 32).length + (layT w (.mk k' n' s' ks') (if j = 0 then c + 1 else c + 2) (if j + 1 = ks.len then r + 1 else 0)).length + 1 ≤ 140737488355328 := by
          have h1 : (P j).length ≤ (b ++ [40]).length + (layTL w (ks.take j) true c r false).length := by
            simp only [P, hPj]
            exact lay_lenL _ _ _ _ _ _ _
          have h2 := congrArg List.length (layTL_take w c r ks j (decide (j + 1 = ks.len)) hlt)
          have h3 : (layTL w (ks.take (j + 1)) true c r (decide (j + 1 = ks.len))).length ≤ (layTL w ks true c r true).length := by
            by_cases h : j + 1 = ks.len
            · rw [decide_eq_true h, h, take_all]; exact Nat.le_refl _
            · rw [decide_eq_false h]; exact layTL_mono w c r ks (j + 1) (by omega)
          rw [hget] at h2
          simp only [List.length_append, List.length_cons, List.length_nil, decide_eq_true_eq] at h1 h2
          omega
        rw [hget] at hsz hoj hrj hfj htj
        have hlp : ∀ w c r b, lpC w c r b [PV.int IntKind.i64 k', PV.int IntKind.i64 n', PV.str s', PV.slice (Dats.len ks') (Dats.cells ks')] = layG pS w (.mk k' n' s' ks') c r b := fun w c r b => lpC_at w c r b (.mk k' n' s' ks')
        have hlr : ∀ w c r, lrC w c r [PV.int IntKind.i64 k', PV.int IntKind.i64 n', PV.str s', PV.slice (Dats.len ks') (Dats.cells ks')] = (layT w (.mk k' n' s' ks') c r).length := fun w c r => lrC_at w c r (.mk k' n' s' ks')
        have d1 : isLay N [PV.int IntKind.i64 k', PV.int IntKind.i64 n', PV.str s', PV.slice (Dats.len ks') (Dats.cells ks')] = true := isLay_at (d := .mk k' n' s' ks') (by omega) hoj hrj hfj (by omega)
        have d2 := lt_at hlt
        have d3 := in_at hlt
        have d4 : decide (TD.size d24 ≤ List.length (List.drop (Int.toNat (j : Int) * TD.size d24) (Dats.cells ks))) = true := kid_len hlt
        have d5 := kid_same' hlt hget
        have wj := wrap1 j (by omega)
        show SWP G0 C _ _ ⟨[(2, .int .i64 c), (3, .int .i64 r), (4, .ptr 1 0), (5, .ptr 2 0), (41, .slice ks.len ks.cells), (42, .int .i64 ks.len), (43, .int .i64 j)], ⟨[pB (P j).length, LB w, DB k n s ks], [some (bR (bytesPL (P j)) (P j).length)]⟩⟩
        obtain ⟨p, hp⟩ : ∃ x, x = P j := ⟨_, rfl⟩
        rw [← hp] at hbd hPn ⊢
        clear hp hP0 hPl hK2
        by_cases hz : j = 0 <;> by_cases hl : j + 1 = ks.len
        · have e1 : (Int.ofNat j == IntKind.wrap IntKind.i64 (Int.ofNat (Dats.len ks) - (1 : Int))) = true := by
            rw [wl, beq_iff_eq]
            show (j : Int) = _
            omega
          have e2 : (Int.ofNat j == (0 : Int)) = true := by
            rw [beq_iff_eq]
            show (j : Int) = 0
            omega
          have hPs : P (j + 1) = layG pS w (.mk k' n' s' ks') (c + 1) (r + 1) p := by
            simp only [hPn, and_true, decide_eq_true_eq, if_pos hz, if_pos hl]
            try rfl
          simp only [if_pos hz, if_pos hl, List.length_nil, List.length_cons, List.length_replicate] at hbd
          clear hPn
          refine SWP.runQ (SL ih [(79, [(44, true), (46, true), (47, true), (53, true), (57, true)])] [(79, [(47, .agg [.int .i64 k', .int .i64 n', .str s', .slice ks'.len ks'.cells])])]) 100 79 hnt [2, 3, 4, 5, 41, 42, 43] (e := .normal) (z := { t := [(2, PV.int IntKind.i64 (Int.ofNat c)), (3, PV.int IntKind.i64 (Int.ofNat r)), (4, PV.ptr 1 0), (5, PV.ptr 2 0), (41, PV.slice (Dats.len ks) (Dats.cells ks)), (42, PV.int IntKind.i64 (Int.ofNat (Dats.len ks))), (43, PV.int IntKind.i64 (IntKind.wrap IntKind.i64 (Int.ofNat (j + 1))))], h := { bx := [{ cs := [PV.ptr 0 0, PV.own 0 (List.length (lpC (Int.toNat (Int.ofNat w)) (Int.toNat (IntKind.wrap IntKind.i64 (Int.ofNat (c + 1)))) (Int.toNat (IntKind.wrap IntKind.i64 (Int.ofNat (r + 1)))) (bytesOf (bytesPL p)) [PV.int IntKind.i64 k', PV.int IntKind.i64 n', PV.str s', PV.slice (Dats.len ks') (Dats.cells ks')]))], ty := 67 }, { cs := [PV.iface 62 (PV.ptr 0 0), PV.int IntKind.i64 (Int.ofNat w)], ty := 72 }, { cs := [PV.int IntKind.i64 k, PV.int IntKind.i64 n, PV.str s, PV.slice (Dats.len ks) (Dats.cells ks)], ty := 24 }, { cs := [PV.int IntKind.i64 k', PV.int IntKind.i64 n', PV.str s', PV.slice (Dats.len ks') (Dats.cells ks')], ty := 24 }], rw := [some { cs := bytesPL (lpC (Int.toNat (Int.ofNat w)) (Int.toNat (IntKind.wrap IntKind.i64 (Int.ofNat (c + 1)))) (Int.toNat (IntKind.wrap IntKind.i64 (Int.ofNat (r + 1)))) (bytesOf (bytesPL p)) [PV.int IntKind.i64 k', PV.int IntKind.i64 n', PV.str s', PV.slice (Dats.len ks') (Dats.cells ks')]), n := List.length (lpC (Int.toNat (Int.ofNat w)) (Int.toNat (IntKind.wrap IntKind.i64 (Int.ofNat (c + 1)))) (Int.toNat (IntKind.wrap IntKind.i64 (Int.ofNat (r + 1)))) (bytesOf (bytesPL p)) [PV.int IntKind.i64 k', PV.int IntKind.i64 n', PV.str s', PV.slice (Dats.len ks') (Dats.cells ks')]), ty := 5, sz := 1 }] } }) (o := [(decide ((↑j : Int) < (↑(Dats.len ks) : Int)), true), (true, true), (decide (0 ≤ (↑j : Int) ∧ (↑j : Int) < (↑(Dats.len ks) : Int)), true), (decide (TD.size d24 ≤ List.length (List.drop (Int.toNat (↑j : Int) * TD.size d24) (Dats.cells ks))), true), (same (PV.agg (List.take 4 (List.drop (Int.toNat (Int.ofNat j) * 4) (Dats.cells ks)))) (PV.agg [PV.int IntKind.i64 k', PV.int IntKind.i64 n', PV.str s', PV.slice (Dats.len ks') (Dats.cells ks')]), true), (Int.ofNat j == IntKind.wrap IntKind.i64 (Int.ofNat (Dats.len ks) - (1 : Int)), true), (true, true), (Int.ofNat j == (0 : Int), true), (true, true), (isLay N [PV.int IntKind.i64 k', PV.int IntKind.i64 n', PV.str s', PV.slice (Dats.len ks') (Dats.cells ks')], true), (decide (0 ≤ (↑w : Int) ∧ (↑w : Int) ≤ 4398046511104), true), (decide (0 ≤ IntKind.wrap IntKind.i64 ((↑c : Int) + 1) ∧ IntKind.wrap IntKind.i64 ((↑c : Int) + 1) + 2 * (↑N : Int) ≤ 4398046511104), true), (decide (0 ≤ IntKind.wrap IntKind.i64 ((↑r : Int) + 1) ∧ IntKind.wrap IntKind.i64 ((↑r : Int) + 1) + (↑N : Int) ≤ 4398046511104), true), (Nat.beq (List.length p) (List.length p), true), (Nat.beq (List.length (bytesPL p)) (List.length p), true), (isBytes8 (bytesPL p), true), (Nat.ble (List.length p + lrC (Int.toNat (Int.ofNat w)) (Int.toNat (IntKind.wrap IntKind.i64 (Int.ofNat (c + 1)))) (Int.toNat (IntKind.wrap IntKind.i64 (Int.ofNat (r + 1)))) [PV.int IntKind.i64 k', PV.int IntKind.i64 n', PV.str s', PV.slice (Dats.len ks') (Dats.cells ks')]) 140737488355328, true)]) (by kernel_rfl) (by clear hPs; (try simp only [wc1, wc1', wc2, wc2', wr1, wr1', Int.toNat_natCast, toNat_of, bytesPV_mkS, rl, isBytes8_PL, bytesPL_length, mkS_size, List.length_replicate, List.length_append, List.length_cons, List.length_nil, hlr]); (repeat' (first | exact okO_nil | refine okN ?_ ?_)); all_goals first | (with_reducible rfl) | (simp only [decide_eq_true_eq, decide_eq_false_iff_not, Nat.ble_eq, Nat.beq_eq]; omega) | (simp only [Nat.beq_eq]; done) | assumption | rfl | exact same_of rfl) (fun st hs => ⟨⟨j + 1, hlt⟩, Nat.sub_lt_sub_left hlt (Nat.lt_succ_self j), [DB k' n' s' ks'], ?_⟩)
          rw [hs]
          simp only [T, hPs]
          simp only [wc1, wc2, wr1, Int.toNat_natCast, toNat_of, bytesPV_mkS, rl, bytesOf_PL, hlp, show IntKind.wrap IntKind.i64 (Int.ofNat (j + 1)) = ((j + 1 : Nat) : Int) from wj]
          rfl
        · have e1 : (Int.ofNat j == IntKind.wrap IntKind.i64 (Int.ofNat (Dats.len ks) - (1 : Int))) = false := by
            rw [wl, beq_eq_false_iff_ne]
            show (j : Int) ≠ _
            omega
          have e2 : (Int.ofNat j == (0 : Int)) = true := by
            rw [beq_iff_eq]
            show (j : Int) = 0
            omega
          have hPs : P (j + 1) = layG pS w (.mk k' n' s' ks') (c + 1) (0) p := by
            simp only [hPn, and_true, decide_eq_true_eq, if_pos hz, if_neg hl]
            try rfl
          simp only [if_pos hz, if_neg hl, List.length_nil, List.length_cons, List.length_replicate] at hbd
          clear hPn
          refine SWP.runQ (SL ih [(79, [(44, true), (46, true), (47, true), (53, false), (57, true)])] [(79, [(47, .agg [.int .i64 k', .int .i64 n', .str s', .slice ks'.len ks'.cells])])]) 100 79 hnt [2, 3, 4, 5, 41, 42, 43] (e := .normal) (z := { t := [(2, PV.int IntKind.i64 (Int.ofNat c)), (3, PV.int IntKind.i64 (Int.ofNat r)), (4, PV.ptr 1 0), (5, PV.ptr 2 0), (41, PV.slice (Dats.len ks) (Dats.cells ks)), (42, PV.int IntKind.i64 (Int.ofNat (Dats.len ks))), (43, PV.int IntKind.i64 (IntKind.wrap IntKind.i64 (Int.ofNat (j + 1))))], h := { bx := [{ cs := [PV.ptr 0 0, PV.own 0 (List.length (lpC (Int.toNat (Int.ofNat w)) (Int.toNat (IntKind.wrap IntKind.i64 (Int.ofNat (c + 1)))) 0 (bytesOf (bytesPL p)) [PV.int IntKind.i64 k', PV.int IntKind.i64 n', PV.str s', PV.slice (Dats.len ks') (Dats.cells ks')]))], ty := 67 }, { cs := [PV.iface 62 (PV.ptr 0 0), PV.int IntKind.i64 (Int.ofNat w)], ty := 72 }, { cs := [PV.int IntKind.i64 k, PV.int IntKind.i64 n, PV.str s, PV.slice (Dats.len ks) (Dats.cells ks)], ty := 24 }, { cs := [PV.int IntKind.i64 k', PV.int IntKind.i64 n', PV.str s', PV.slice (Dats.len ks') (Dats.cells ks')], ty := 24 }], rw := [some { cs := bytesPL (lpC (Int.toNat (Int.ofNat w)) (Int.toNat (IntKind.wrap IntKind.i64 (Int.ofNat (c + 1)))) 0 (bytesOf (bytesPL p)) [PV.int IntKind.i64 k', PV.int IntKind.i64 n', PV.str s', PV.slice (Dats.len ks') (Dats.cells ks')]), n := List.length (lpC (Int.toNat (Int.ofNat w)) (Int.toNat (IntKind.wrap IntKind.i64 (Int.ofNat (c + 1)))) 0 (bytesOf (bytesPL p)) [PV.int IntKind.i64 k', PV.int IntKind.i64 n', PV.str s', PV.slice (Dats.len ks') (Dats.cells ks')]), ty := 5, sz := 1 }] } }) (o := [(decide ((↑j : Int) < (↑(Dats.len ks) : Int)), true), (true, true), (decide (0 ≤ (↑j : Int) ∧ (↑j : Int) < (↑(Dats.len ks) : Int)), true), (decide (TD.size d24 ≤ List.length (List.drop (Int.toNat (↑j : Int) * TD.size d24) (Dats.cells ks))), true), (same (PV.agg (List.take 4 (List.drop (Int.toNat (Int.ofNat j) * 4) (Dats.cells ks)))) (PV.agg [PV.int IntKind.i64 k', PV.int IntKind.i64 n', PV.str s', PV.slice (Dats.len ks') (Dats.cells ks')]), true), (Int.ofNat j == IntKind.wrap IntKind.i64 (Int.ofNat (Dats.len ks) - (1 : Int)), false), (false, false), (Int.ofNat j == (0 : Int), true), (true, true), (isLay N [PV.int IntKind.i64 k', PV.int IntKind.i64 n', PV.str s', PV.slice (Dats.len ks') (Dats.cells ks')], true), (decide (0 ≤ (↑w : Int) ∧ (↑w : Int) ≤ 4398046511104), true), (decide (0 ≤ IntKind.wrap IntKind.i64 ((↑c : Int) + 1) ∧ IntKind.wrap IntKind.i64 ((↑c : Int) + 1) + 2 * (↑N : Int) ≤ 4398046511104), true), (decide ((0 : Int) ≤ 0 ∧ 0 + (↑N : Int) ≤ 4398046511104), true), (Nat.beq (List.length p) (List.length p), true), (Nat.beq (List.length (bytesPL p)) (List.length p), true), (isBytes8 (bytesPL p), true), (Nat.ble (List.length p + lrC (Int.toNat (Int.ofNat w)) (Int.toNat (IntKind.wrap IntKind.i64 (Int.ofNat (c + 1)))) 0 [PV.int IntKind.i64 k', PV.int IntKind.i64 n', PV.str s', PV.slice (Dats.len ks') (Dats.cells ks')]) 140737488355328, true)]) (by kernel_rfl) (by clear hPs; (try simp only [wc1, wc1', wc2, wc2', wr1, wr1', Int.toNat_natCast, toNat_of, bytesPV_mkS, rl, isBytes8_PL, bytesPL_length, mkS_size, List.length_replicate, List.length_append, List.length_cons, List.length_nil, hlr]); (repeat' (first | exact okO_nil | refine okN ?_ ?_)); all_goals first | (with_reducible rfl) | (simp only [decide_eq_true_eq, decide_eq_false_iff_not, Nat.ble_eq, Nat.beq_eq]; omega) | (simp only [Nat.beq_eq]; done) | assumption | rfl | exact same_of rfl) (fun st hs => ⟨⟨j + 1, hlt⟩, Nat.sub_lt_sub_left hlt (Nat.lt_succ_self j), [DB k' n' s' ks'], ?_⟩)
          rw [hs]
          simp only [T, hPs]
          simp only [wc1, wc2, wr1, Int.toNat_natCast, toNat_of, bytesPV_mkS, rl, bytesOf_PL, hlp, show IntKind.wrap IntKind.i64 (Int.ofNat (j + 1)) = ((j + 1 : Nat) : Int) from wj]
          rfl
        · have e1 : (Int.ofNat j == IntKind.wrap IntKind.i64 (Int.ofNat (Dats.len ks) - (1 : Int))) = true := by
            rw [wl, beq_iff_eq]
            show (j : Int) = _
            omega
          have e2 : (Int.ofNat j == (0 : Int)) = false := by
            rw [beq_eq_false_iff_ne]
            show (j : Int) ≠ 0
            omega
          have hPs : P (j + 1) = layG pS w (.mk k' n' s' ks') (c + 2) (r + 1) (p ++ 10 :: List.replicate (c + 2) 32) := by
            simp only [hPn, and_true, decide_eq_true_eq, if_neg hz, if_pos hl]
            try rfl
          simp only [if_neg hz, if_pos hl, List.length_nil, List.length_cons, List.length_replicate] at hbd
          clear hPn
          refine SWP.runQ (SL ih [(79, [(44, true), (46, true), (47, true), (53, true), (57, false)]), (17, [(14, true)]), (19, [(14, true)])] [(79, [(47, .agg [.int .i64 k', .int .i64 n', .str s', .slice ks'.len ks'.cells])])]) 100 79 hnt [2, 3, 4, 5, 41, 42, 43] (e := .normal) (z := { t := [(2, PV.int IntKind.i64 (Int.ofNat c)), (3, PV.int IntKind.i64 (Int.ofNat r)), (4, PV.ptr 1 0), (5, PV.ptr 2 0), (41, PV.slice (Dats.len ks) (Dats.cells ks)), (42, PV.int IntKind.i64 (Int.ofNat (Dats.len ks))), (43, PV.int IntKind.i64 (IntKind.wrap IntKind.i64 (Int.ofNat (j + 1))))], h := { bx := [{ cs := [PV.ptr 0 0, PV.own 0 (List.length (lpC (Int.toNat (Int.ofNat w)) (Int.toNat (IntKind.wrap IntKind.i64 (Int.ofNat (c + 2)))) (Int.toNat (IntKind.wrap IntKind.i64 (Int.ofNat (r + 1)))) (bytesOf (bytesPL p ++ [PV.int IntKind.u8 (10 : Int)] ++ bytesPV (mkS (List.replicate (Int.toNat (IntKind.wrap IntKind.i64 (Int.ofNat (c + 2)))) 32)))) [PV.int IntKind.i64 k', PV.int IntKind.i64 n', PV.str s', PV.slice (Dats.len ks') (Dats.cells ks')]))], ty := 67 }, { cs := [PV.iface 62 (PV.ptr 0 0), PV.int IntKind.i64 (Int.ofNat w)], ty := 72 }, { cs := [PV.int IntKind.i64 k, PV.int IntKind.i64 n, PV.str s, PV.slice (Dats.len ks) (Dats.cells ks)], ty := 24 }, { cs := [PV.int IntKind.i64 k', PV.int IntKind.i64 n', PV.str s', PV.slice (Dats.len ks') (Dats.cells ks')], ty := 24 }], rw := [some { cs := bytesPL (lpC (Int.toNat (Int.ofNat w)) (Int.toNat (IntKind.wrap IntKind.i64 (Int.ofNat (c + 2)))) (Int.toNat (IntKind.wrap IntKind.i64 (Int.ofNat (r + 1)))) (bytesOf (bytesPL p ++ [PV.int IntKind.u8 (10 : Int)] ++ bytesPV (mkS (List.replicate (Int.toNat (IntKind.wrap IntKind.i64 (Int.ofNat (c + 2)))) 32)))) [PV.int IntKind.i64 k', PV.int IntKind.i64 n', PV.str s', PV.slice (Dats.len ks') (Dats.cells ks')]), n := List.length (lpC (Int.toNat (Int.ofNat w)) (Int.toNat (IntKind.wrap IntKind.i64 (Int.ofNat (c + 2)))) (Int.toNat (IntKind.wrap IntKind.i64 (Int.ofNat (r + 1)))) (bytesOf (bytesPL p ++ [PV.int IntKind.u8 (10 : Int)] ++ bytesPV (mkS (List.replicate (Int.toNat (IntKind.wrap IntKind.i64 (Int.ofNat (c + 2)))) 32)))) [PV.int IntKind.i64 k', PV.int IntKind.i64 n', PV.str s', PV.slice (Dats.len ks') (Dats.cells ks')]), ty := 5, sz := 1 }] } }) (o := [(decide ((↑j : Int) < (↑(Dats.len ks) : Int)), true), (true, true), (decide (0 ≤ (↑j : Int) ∧ (↑j : Int) < (↑(Dats.len ks) : Int)), true), (decide (TD.size d24 ≤ List.length (List.drop (Int.toNat (↑j : Int) * TD.size d24) (Dats.cells ks))), true), (same (PV.agg (List.take 4 (List.drop (Int.toNat (Int.ofNat j) * 4) (Dats.cells ks)))) (PV.agg [PV.int IntKind.i64 k', PV.int IntKind.i64 n', PV.str s', PV.slice (Dats.len ks') (Dats.cells ks')]), true), (Int.ofNat j == IntKind.wrap IntKind.i64 (Int.ofNat (Dats.len ks) - (1 : Int)), true), (true, true), (Int.ofNat j == (0 : Int), false), (false, false), (true, true), (Nat.ble ((List.length p + 1) * 1) 140737488355328, true), (Nat.ble (List.length p + 1) 9223372036854775807, true), (true, true), (decide (0 ≤ IntKind.wrap IntKind.i64 ((↑c : Int) + 2) ∧ IntKind.wrap IntKind.i64 ((↑c : Int) + 2) ≤ 140737488355328), true), (Nat.ble (List.length p + 1 + ByteArray.size (mkS (List.replicate (Int.toNat (IntKind.wrap IntKind.i64 (Int.ofNat (c + 2)))) 32))) 140737488355328, true), (isLay N [PV.int IntKind.i64 k', PV.int IntKind.i64 n', PV.str s', PV.slice (Dats.len ks') (Dats.cells ks')], true), (decide (0 ≤ (↑w : Int) ∧ (↑w : Int) ≤ 4398046511104), true), (decide (0 ≤ IntKind.wrap IntKind.i64 ((↑c : Int) + 2) ∧ IntKind.wrap IntKind.i64 ((↑c : Int) + 2) + 2 * (↑N : Int) ≤ 4398046511104), true), (decide (0 ≤ IntKind.wrap IntKind.i64 ((↑r : Int) + 1) ∧ IntKind.wrap IntKind.i64 ((↑r : Int) + 1) + (↑N : Int) ≤ 4398046511104), true), (Nat.beq (List.length p + 1 + ByteArray.size (mkS (List.replicate (Int.toNat (IntKind.wrap IntKind.i64 (Int.ofNat (c + 2)))) 32))) (List.length p + 1 + ByteArray.size (mkS (List.replicate (Int.toNat (IntKind.wrap IntKind.i64 (Int.ofNat (c + 2)))) 32))), true), (Nat.beq (List.length (bytesPL p ++ [PV.int IntKind.u8 (10 : Int)] ++ bytesPV (mkS (List.replicate (Int.toNat (IntKind.wrap IntKind.i64 (Int.ofNat (c + 2)))) 32)))) (List.length p + 1 + ByteArray.size (mkS (List.replicate (Int.toNat (IntKind.wrap IntKind.i64 (Int.ofNat (c + 2)))) 32))), true), (isBytes8 (bytesPL p ++ [PV.int IntKind.u8 (10 : Int)] ++ bytesPV (mkS (List.replicate (Int.toNat (IntKind.wrap IntKind.i64 (Int.ofNat (c + 2)))) 32))), true), (Nat.ble (List.length p + 1 + ByteArray.size (mkS (List.replicate (Int.toNat (IntKind.wrap IntKind.i64 (Int.ofNat (c + 2)))) 32)) + lrC (Int.toNat (Int.ofNat w)) (Int.toNat (IntKind.wrap IntKind.i64 (Int.ofNat (c + 2)))) (Int.toNat (IntKind.wrap IntKind.i64 (Int.ofNat (r + 1)))) [PV.int IntKind.i64 k', PV.int IntKind.i64 n', PV.str s', PV.slice (Dats.len ks') (Dats.cells ks')]) 140737488355328, true)]) (by kernel_rfl) (by clear hPs; (try simp only [wc1, wc1', wc2, wc2', wr1, wr1', Int.toNat_natCast, toNat_of, bytesPV_mkS, rl, isBytes8_PL, bytesPL_length, mkS_size, List.length_replicate, List.length_append, List.length_cons, List.length_nil, hlr]); (repeat' (first | exact okO_nil | refine okN ?_ ?_)); all_goals first | (with_reducible rfl) | (simp only [decide_eq_true_eq, decide_eq_false_iff_not, Nat.ble_eq, Nat.beq_eq]; omega) | (simp only [Nat.beq_eq]; done) | assumption | rfl | exact same_of rfl) (fun st hs => ⟨⟨j + 1, hlt⟩, Nat.sub_lt_sub_left hlt (Nat.lt_succ_self j), [DB k' n' s' ks'], ?_⟩)
          rw [hs]
          simp only [T, hPs]
          simp only [wc1, wc2, wr1, Int.toNat_natCast, toNat_of, bytesPV_mkS, rl, bytesOf_PL, hlp, show IntKind.wrap IntKind.i64 (Int.ofNat (j + 1)) = ((j + 1 : Nat) : Int) from wj]
          rfl
        · have e1 : (Int.ofNat j == IntKind.wrap IntKind.i64 (Int.ofNat (Dats.len ks) - (1 : Int))) = false := by
            rw [wl, beq_eq_false_iff_ne]
            show (j : Int) ≠ _
            omega
          have e2 : (Int.ofNat j == (0 : Int)) = false := by
            rw [beq_eq_false_iff_ne]
            show (j : Int) ≠ 0
            omega
          have hPs : P (j + 1) = layG pS w (.mk k' n' s' ks') (c + 2) (0) (p ++ 10 :: List.replicate (c + 2) 32) := by
            simp only [hPn, and_true, decide_eq_true_eq, if_neg hz, if_neg hl]
            try rfl
          simp only [if_neg hz, if_neg hl, List.length_nil, List.length_cons, List.length_replicate] at hbd
          clear hPn
          refine SWP.runQ (SL ih [(79, [(44, true), (46, true), (47, true), (53, false), (57, false)]), (17, [(14, true)]), (19, [(14, true)])] [(79, [(47, .agg [.int .i64 k', .int .i64 n', .str s', .slice ks'.len ks'.cells])])]) 100 79 hnt [2, 3, 4, 5, 41, 42, 43] (e := .normal) (z := { t := [(2, PV.int IntKind.i64 (Int.ofNat c)), (3, PV.int IntKind.i64 (Int.ofNat r)), (4, PV.ptr 1 0), (5, PV.ptr 2 0), (41, PV.slice (Dats.len ks) (Dats.cells ks)), (42, PV.int IntKind.i64 (Int.ofNat (Dats.len ks))), (43, PV.int IntKind.i64 (IntKind.wrap IntKind.i64 (Int.ofNat (j + 1))))], h := { bx := [{ cs := [PV.ptr 0 0, PV.own 0 (List.length (lpC (Int.toNat (Int.ofNat w)) (Int.toNat (IntKind.wrap IntKind.i64 (Int.ofNat (c + 2)))) 0 (bytesOf (bytesPL p ++ [PV.int IntKind.u8 (10 : Int)] ++ bytesPV (mkS (List.replicate (Int.toNat (IntKind.wrap IntKind.i64 (Int.ofNat (c + 2)))) 32)))) [PV.int IntKind.i64 k', PV.int IntKind.i64 n', PV.str s', PV.slice (Dats.len ks') (Dats.cells ks')]))], ty := 67 }, { cs := [PV.iface 62 (PV.ptr 0 0), PV.int IntKind.i64 (Int.ofNat w)], ty := 72 }, { cs := [PV.int IntKind.i64 k, PV.int IntKind.i64 n, PV.str s, PV.slice (Dats.len ks) (Dats.cells ks)], ty := 24 }, { cs := [PV.int IntKind.i64 k', PV.int IntKind.i64 n', PV.str s', PV.slice (Dats.len ks') (Dats.cells ks')], ty := 24 }], rw := [some { cs := bytesPL (lpC (Int.toNat (Int.ofNat w)) (Int.toNat (IntKind.wrap IntKind.i64 (Int.ofNat (c + 2)))) 0 (bytesOf (bytesPL p ++ [PV.int IntKind.u8 (10 : Int)] ++ bytesPV (mkS (List.replicate (Int.toNat (IntKind.wrap IntKind.i64 (Int.ofNat (c + 2)))) 32)))) [PV.int IntKind.i64 k', PV.int IntKind.i64 n', PV.str s', PV.slice (Dats.len ks') (Dats.cells ks')]), n := List.length (lpC (Int.toNat (Int.ofNat w)) (Int.toNat (IntKind.wrap IntKind.i64 (Int.ofNat (c + 2)))) 0 (bytesOf (bytesPL p ++ [PV.int IntKind.u8 (10 : Int)] ++ bytesPV (mkS (List.replicate (Int.toNat (IntKind.wrap IntKind.i64 (Int.ofNat (c + 2)))) 32)))) [PV.int IntKind.i64 k', PV.int IntKind.i64 n', PV.str s', PV.slice (Dats.len ks') (Dats.cells ks')]), ty := 5, sz := 1 }] } }) (o := [(decide ((↑j : Int) < (↑(Dats.len ks) : Int)), true), (true, true), (decide (0 ≤ (↑j : Int) ∧ (↑j : Int) < (↑(Dats.len ks) : Int)), true), (decide (TD.size d24 ≤ List.length (List.drop (Int.toNat (↑j : Int) * TD.size d24) (Dats.cells ks))), true), (same (PV.agg (List.take 4 (List.drop (Int.toNat (Int.ofNat j) * 4) (Dats.cells ks)))) (PV.agg [PV.int IntKind.i64 k', PV.int IntKind.i64 n', PV.str s', PV.slice (Dats.len ks') (Dats.cells ks')]), true), (Int.ofNat j == IntKind.wrap IntKind.i64 (Int.ofNat (Dats.len ks) - (1 : Int)), false), (false, false), (Int.ofNat j == (0 : Int), false), (false, false), (true, true), (Nat.ble ((List.length p + 1) * 1) 140737488355328, true), (Nat.ble (List.length p + 1) 9223372036854775807, true), (true, true), (decide (0 ≤ IntKind.wrap IntKind.i64 ((↑c : Int) + 2) ∧ IntKind.wrap IntKind.i64 ((↑c : Int) + 2) ≤ 140737488355328), true), (Nat.ble (List.length p + 1 + ByteArray.size (mkS (List.replicate (Int.toNat (IntKind.wrap IntKind.i64 (Int.ofNat (c + 2)))) 32))) 140737488355328, true), (isLay N [PV.int IntKind.i64 k', PV.int IntKind.i64 n', PV.str s', PV.slice (Dats.len ks') (Dats.cells ks')], true), (decide (0 ≤ (↑w : Int) ∧ (↑w : Int) ≤ 4398046511104), true), (decide (0 ≤ IntKind.wrap IntKind.i64 ((↑c : Int) + 2) ∧ IntKind.wrap IntKind.i64 ((↑c : Int) + 2) + 2 * (↑N : Int) ≤ 4398046511104), true), (decide ((0 : Int) ≤ 0 ∧ 0 + (↑N : Int) ≤ 4398046511104), true), (Nat.beq (List.length p + 1 + ByteArray.size (mkS (List.replicate (Int.toNat (IntKind.wrap IntKind.i64 (Int.ofNat (c + 2)))) 32))) (List.length p + 1 + ByteArray.size (mkS (List.replicate (Int.toNat (IntKind.wrap IntKind.i64 (Int.ofNat (c + 2)))) 32))), true), (Nat.beq (List.length (bytesPL p ++ [PV.int IntKind.u8 (10 : Int)] ++ bytesPV (mkS (List.replicate (Int.toNat (IntKind.wrap IntKind.i64 (Int.ofNat (c + 2)))) 32)))) (List.length p + 1 + ByteArray.size (mkS (List.replicate (Int.toNat (IntKind.wrap IntKind.i64 (Int.ofNat (c + 2)))) 32))), true), (isBytes8 (bytesPL p ++ [PV.int IntKind.u8 (10 : Int)] ++ bytesPV (mkS (List.replicate (Int.toNat (IntKind.wrap IntKind.i64 (Int.ofNat (c + 2)))) 32))), true), (Nat.ble (List.length p + 1 + ByteArray.size (mkS (List.replicate (Int.toNat (IntKind.wrap IntKind.i64 (Int.ofNat (c + 2)))) 32)) + lrC (Int.toNat (Int.ofNat w)) (Int.toNat (IntKind.wrap IntKind.i64 (Int.ofNat (c + 2)))) 0 [PV.int IntKind.i64 k', PV.int IntKind.i64 n', PV.str s', PV.slice (Dats.len ks') (Dats.cells ks')]) 140737488355328, true)]) (by kernel_rfl) (by clear hPs; (try simp only [wc1, wc1', wc2, wc2', wr1, wr1', Int.toNat_natCast, toNat_of, bytesPV_mkS, rl, isBytes8_PL, bytesPL_length, mkS_size, List.length_replicate, List.length_append, List.length_cons, List.length_nil, hlr]); (repeat' (first | exact okO_nil | refine okN ?_ ?_)); all_goals first | (with_reducible rfl) | (simp only [decide_eq_true_eq, decide_eq_false_iff_not, Nat.ble_eq, Nat.beq_eq]; omega) | (simp only [Nat.beq_eq]; done) | assumption | rfl | exact same_of rfl) (fun st hs => ⟨⟨j + 1, hlt⟩, Nat.sub_lt_sub_left hlt (Nat.lt_succ_self j), [DB k' n' s' ks'], ?_⟩)
          rw [hs]
          simp only [T, hPs]
          simp only [wc1, wc2, wr1, Int.toNat_natCast, toNat_of, bytesPV_mkS, rl, bytesOf_PL, hlp, show IntKind.wrap IntKind.i64 (Int.ofNat (j + 1)) = ((j + 1 : Nat) : Int) from wj]
          rfl
      · obtain rfl : j = ks.len := by omega
        have d2 := ge_at hge
        have hpl : (P ks.len).length ≤ b.length + 1 + (layTL w ks true c r true).length := by
          rw [hPl]
          have := lay_lenL w ks true c r true (b ++ [40])
          simpa using this
        show SWP G0 C _ _ ⟨[(2, .int .i64 c), (3, .int .i64 r), (4, .ptr 1 0), (5, .ptr 2 0), (41, .slice ks.len ks.cells), (42, .int .i64 ks.len), (43, .int .i64 ks.len)], ⟨[pB (P ks.len).length, LB w, DB k n s ks], [some (bR (bytesPL (P ks.len)) (P ks.len).length)]⟩⟩
        obtain ⟨p, hp⟩ : ∃ x, x = P ks.len := ⟨_, rfl⟩
        rw [← hp] at hpl hPl ⊢
        refine SWP.runQ (SL ih [(79, [(44, false)])] []) 100 79 hnt [2, 3, 4, 5] (e := .exit 0) (z := ⟨[(2, .int .i64 c), (3, .int .i64 r), (4, .ptr 1 0), (5, .ptr 2 0)], ⟨[pB p.length, LB w, DB k n s ks], [some (bR (bytesPL p) p.length)]⟩⟩) (o := [(decide ((ks.len : Int) < (ks.len : Int)), false), (false, false)]) (by kernel_rfl) (by ((repeat' (first | exact okO_nil | refine okN ?_ ?_)); all_goals first | assumption | rfl | exact same_of rfl | exact sameS_self _ | (simp only [decide_eq_true_eq, decide_eq_false_iff_not, Nat.ble_eq, Nat.beq_eq, beq_eq_false_iff_ne, beq_iff_eq, ne_eq] <;> omega))) (fun st hs => hK2 st (.norm [2, 3, 4, 5] ?_))
        rw [hs]
        have d8 : Nat.ble (List.length p + 1) 140737488355328 = true := by rw [Nat.ble_eq]; omega
        refine SWP.runQ (SL ih [(19, [(14, true)])] []) 100 79 hnt [] (e := .normal) (z := { t := [], h := { bx := [{ cs := [PV.ptr 0 0, PV.own 0 (List.length p + 1)], ty := 67 }, { cs := [PV.iface 62 (PV.ptr 0 0), PV.int IntKind.i64 (Int.ofNat w)], ty := 72 }, { cs := [PV.int IntKind.i64 k, PV.int IntKind.i64 n, PV.str s, PV.slice (Dats.len ks) (Dats.cells ks)], ty := 24 }], rw := [some { cs := bytesPL p ++ [PV.int IntKind.u8 (41 : Int)], n := List.length p + 1, ty := 5, sz := 1 }] } }) (o := [(Nat.ble (List.length p + 1) 140737488355328, true)]) (by kernel_rfl) (by ((repeat' (first | exact okO_nil | refine okN ?_ ?_)); all_goals first | assumption | rfl | exact same_of rfl | exact sameS_self _ | (simp only [decide_eq_true_eq, decide_eq_false_iff_not, Nat.ble_eq, Nat.beq_eq, beq_eq_false_iff_ne, beq_iff_eq, ne_eq] <;> omega))) (fun st hs => fin st (p ++ [41]) (by rw [lg, hPl]) ?_)
        rw [hs, bytesPL_append, List.length_append]; rfl))
    rcases hB with ⟨rfl, rfl⟩ | ⟨rfl, rfl, rfl⟩
    · have d8 : Nat.ble (List.length b + 1) 140737488355328 = true := by rw [Nat.ble_eq]; omega
      exact SWP.runQ (SL ih [(19, [(14, true)])] []) 100 79 hnt [2, 3, 4, 5] (e := .normal) (z := { t := [(2, PV.int IntKind.i64 (Int.ofNat c)), (3, PV.int IntKind.i64 (Int.ofNat r)), (4, PV.ptr 1 0), (5, PV.ptr 2 0)], h := { bx := [{ cs := [PV.ptr 0 0, PV.own 0 (List.length b + 1)], ty := 67 }, { cs := [PV.iface 62 (PV.ptr 0 0), PV.int IntKind.i64 (Int.ofNat w)], ty := 72 }, { cs := [PV.int IntKind.i64 k, PV.int IntKind.i64 n, PV.str s, PV.slice (Dats.len ks) (Dats.cells ks)], ty := 24 }], rw := [some { cs := bytesPL b ++ [PV.int IntKind.u8 (40 : Int)], n := List.length b + 1, ty := 5, sz := 1 }] } }) (o := [(Nat.ble (List.length b + 1) 140737488355328, true)]) (by kernel_rfl) (by ((repeat' (first | exact okO_nil | refine okN ?_ ?_)); all_goals first | assumption | rfl | exact same_of rfl | exact sameS_self _ | (simp only [decide_eq_true_eq, decide_eq_false_iff_not, Nat.ble_eq, Nat.beq_eq, beq_eq_false_iff_ne, beq_iff_eq, ne_eq] <;> omega))) (fun st hs => rest st hs)
    · exact SWP.runQ (SL ih [(19, [(14, true)])] []) 100 79 hnt [2, 3, 4, 5] (e := .normal) (z := { t := [(2, PV.int IntKind.i64 (Int.ofNat c)), (3, PV.int IntKind.i64 (Int.ofNat r)), (4, PV.ptr 1 0), (5, PV.ptr 2 0)], h := { bx := [{ cs := [PV.ptr 0 0, PV.own 0 1], ty := 67 }, { cs := [PV.iface 62 (PV.ptr 0 0), PV.int IntKind.i64 (Int.ofNat w)], ty := 72 }, { cs := [PV.int IntKind.i64 k, PV.int IntKind.i64 n, PV.str s, PV.slice (Dats.len ks) (Dats.cells ks)], ty := 24 }], rw := [some { cs := [PV.int IntKind.u8 (40 : Int)], n := 1, ty := 5, sz := 1 }] } }) (o := [(true, true)]) (by kernel_rfl) (by ((repeat' (first | exact okO_nil | refine okN ?_ ?_)); all_goals first | assumption | rfl | exact same_of rfl | exact sameS_self _ | (simp only [decide_eq_true_eq, decide_eq_false_iff_not, Nat.ble_eq, Nat.beq_eq, beq_eq_false_iff_ne, beq_iff_eq, ne_eq] <;> omega))) (fun st hs => rest st hs)))
  rcases hB with ⟨rfl, rfl⟩ | ⟨rfl, rfl, rfl⟩
  · exact SWP.runQ (SL ih [(8, [(7, true)])] []) 100 79 hnt [2, 3, 4, 5] (e := .normal) (z := { t := [(2, PV.int IntKind.i64 (Int.ofNat c)), (3, PV.int IntKind.i64 (Int.ofNat r)), (4, PV.ptr 1 0), (5, PV.ptr 2 0)], h := { bx := [{ cs := [PV.ptr 0 0, PV.own 0 (List.length b)], ty := 67 }, { cs := [PV.iface 62 (PV.ptr 0 0), PV.int IntKind.i64 (Int.ofNat w)], ty := 72 }, { cs := [PV.int IntKind.i64 k, PV.int IntKind.i64 n, PV.str s, PV.slice (Dats.len ks) (Dats.cells ks)], ty := 24 }], rw := [some { cs := bytesPL b, n := List.length b, ty := 5, sz := 1 }] } }) (o := [(decide ((↑(List.length b) : Int) ≤ 2000000), true)]) (by kernel_rfl) (by ((repeat' (first | exact okO_nil | refine okN ?_ ?_)); all_goals first | assumption | rfl | exact same_of rfl | exact sameS_self _ | (simp only [decide_eq_true_eq, decide_eq_false_iff_not, Nat.ble_eq, Nat.beq_eq, beq_eq_false_iff_ne, beq_iff_eq, ne_eq] <;> omega))) (fun st hs => r2 st hs)
  · exact SWP.runQ (SL ih [] []) 100 79 hnt [2, 3, 4, 5] (e := .normal) (z := { t := [(2, PV.int IntKind.i64 (Int.ofNat c)), (3, PV.int IntKind.i64 (Int.ofNat r)), (4, PV.ptr 1 0), (5, PV.ptr 2 0)], h := { bx := [{ cs := [PV.nilptr, PV.nil], ty := 67 }, { cs := [PV.iface 62 (PV.ptr 0 0), PV.int IntKind.i64 (Int.ofNat w)], ty := 72 }, { cs := [PV.int IntKind.i64 k, PV.int IntKind.i64 n, PV.str s, PV.slice (Dats.len ks) (Dats.cells ks)], ty := 24 }], rw := [] } }) (o := []) (by kernel_rfl) (by ((repeat' (first | exact okO_nil | refine okN ?_ ?_)); all_goals first | assumption | rfl | exact same_of rfl | exact sameS_self _ | (simp only [decide_eq_true_eq, decide_eq_false_iff_not, Nat.ble_eq, Nat.beq_eq, beq_eq_false_iff_ne, beq_iff_eq, ne_eq] <;> omega))) (fun st hs => r2 st hs)
theorem layAt (N : Nat) : LayAt N := by
  induction N with
  | zero => intro d h; omega
  | succ N ih => exact fun d hN hok hrng hf ht w c r hw hc hr b hb => lay_gen ih d hN hok hrng hf ht w c r hw hc hr _ _ b (.inl ⟨rfl, rfl⟩) hb
/-- A new paper. -/
theorem lay_new (d : Dat) (hok : d.ok) (hrng : d.rng) (hf : formedD d = true) (ht : (textD d).length ≤ 4398046511104) (w c r : Nat) (hw : w ≤ 4398046511104) (hc : c + 2 * (d.size + 2) ≤ 4398046511104) (hr : r + (d.size + 2) ≤ 4398046511104) (hb : (layT w d c r).length ≤ 140737488355328) :
    RCalls G0 37 [.agg [.iface 62 (.ptr 0 0), .int .i64 w], .agg d.cells, .int .i64 c, .int .i64 r] ⟨[pB0], []⟩ (fun o H => o = .ret (.tup []) ∧ H = ⟨[pB (layG pS w d c r []).length], [some (bR (bytesPL (layG pS w d c r [])) (layG pS w d c r []).length)]⟩) :=
  lay_gen (layAt (d.size + 1)) d (by omega) hok hrng hf ht w c r hw (by omega) (by omega) pB0 [] [] (.inr ⟨rfl, rfl, rfl⟩) (by simpa using hb)
end Seat
end Go.Proofs.YtkblfapbakfgpaaDoor
/- Layout: a datum laid on a meter. Printed by dev/lay1.py and dev/nfsub.py (this session's). -/
namespace Go.Proofs.YtkblfapbakfgpaaDoor
open Go.AS Go.RowKit
set_option linter.unusedVariables false
set_option linter.unusedSimpArgs false
set_option maxRecDepth 100000
set_option maxHeartbeats 4000000
namespace Seat
def mB (x y z : Nat) : Box := ⟨[.int .i64 x, .int .i64 y, .int .i64 z], 79⟩
def mT (t : Nat × Nat × Nat) : Box := mB t.1 t.2.1 t.2.2
noncomputable def lmC (w c r : Nat) (t : Nat × Nat × Nat) (cs : List PV) : Nat × Nat × Nat := ofCells (fun d => layG mS w d c r t) (0, 0, 0) cs
theorem lmC_at (w c r : Nat) (t : Nat × Nat × Nat) (d : Dat) : lmC w c r t d.cells = layG mS w d c r t := ofCells_at _ _ d
def MetAt (N : Nat) : Prop := ∀ d : Dat, d.size < N → d.ok → d.rng → formedD d = true → (textD d).length ≤ 4398046511104 → ∀ w c r : Nat, w ≤ 4398046511104 → c + 2 * N ≤ 4398046511104 → r + N ≤ 4398046511104 → ∀ x y z : Nat, x + (layT w d c r).length ≤ 140737488355328 → y + (layT w d c r).length ≤ 140737488355328 →
  RCalls G0 37 [.agg [.iface 75 (.ptr 0 0), .int .i64 w], .agg d.cells, .int .i64 c, .int .i64 r] ⟨[mB x y z], []⟩ (fun o H => o = .ret (.tup []) ∧ H = ⟨[mT (layG mS w d c r (x, y, z))], []⟩)
noncomputable def metV (N : Nat) (f : Nat) (xs : List PV) (H : Hp) : Option (PV × Hp × Ob) := match f, xs, H with
  | 37, [.agg [.iface tp (.ptr 0 0), .int .i64 w], .agg cs, .int .i64 c, .int .i64 r], ⟨[⟨[.int .i64 x, .int .i64 y, .int .i64 z], ty⟩], []⟩ => match Nat.beq tp 75 && Nat.beq ty 79 with
    | true => some (.tup [], ⟨[⟨[.int .i64 (lmC w.toNat c.toNat r.toNat (x.toNat, y.toNat, z.toNat) cs).1, .int .i64 (lmC w.toNat c.toNat r.toNat (x.toNat, y.toNat, z.toNat) cs).2.1, .int .i64 (lmC w.toNat c.toNat r.toNat (x.toNat, y.toNat, z.toNat) cs).2.2], ty⟩], []⟩,
        [(isLay N cs, true), (decide (0 ≤ w ∧ w ≤ 4398046511104), true), (decide (0 ≤ c ∧ c + 2 * (N : Int) ≤ 4398046511104), true), (decide (0 ≤ r ∧ r + (N : Int) ≤ 4398046511104), true), (decide (0 ≤ x), true), (decide (0 ≤ y), true), (decide (0 ≤ z), true), (Nat.ble (x.toNat + lrC w.toNat c.toNat r.toNat cs) 140737488355328, true), (Nat.ble (y.toNat + lrC w.toNat c.toNat r.toNat cs) 140737488355328, true)])
    | false => none
  | _, _, _ => none
theorem metV_ok {N : Nat} (ih : MetAt N) (f : Nat) (xs : List PV) (H : Hp) (r : PV) (H' : Hp) (o : Ob) (h : metV N f xs H = some (r, H', o)) (ho : ∀ p ∈ o, p.1 = p.2) : RCalls G0 f xs H (fun o' H2 => o' = .ret r ∧ H2 = H') ∧ r.scP (belowN H'.bx.length) (belowN H'.rw.length) = true ∧ H'.scB H'.bx.length H'.rw.length = true := by
  unfold metV at h
  split at h
  · rename_i tp w cs c r' x y z ty
    split at h
    · rename_i hc
      cases h
      simp only [Bool.and_eq_true, Nat.beq_eq] at hc
      obtain ⟨rfl, rfl⟩ := hc
      obtain ⟨d, rfl, h1, h2, h3, h4, h5⟩ := isLay_of (ho (isLay N cs, true) (by simp))
      have g1 := of_decide_eq_true (ho (decide (0 ≤ w ∧ w ≤ 4398046511104), true) (by simp))
      have g2 := of_decide_eq_true (ho (decide (0 ≤ c ∧ c + 2 * (N : Int) ≤ 4398046511104), true) (by simp))
      have g3 := of_decide_eq_true (ho (decide (0 ≤ r' ∧ r' + (N : Int) ≤ 4398046511104), true) (by simp))
      have g4 := of_decide_eq_true (ho (decide (0 ≤ x), true) (by simp))
      have g5 := of_decide_eq_true (ho (decide (0 ≤ y), true) (by simp))
      have g6 := of_decide_eq_true (ho (decide (0 ≤ z), true) (by simp))
      have g7 := ho (Nat.ble (x.toNat + lrC w.toNat c.toNat r'.toNat d.cells) 140737488355328, true) (by simp)
      have g8 := ho (Nat.ble (y.toNat + lrC w.toNat c.toNat r'.toNat d.cells) 140737488355328, true) (by simp)
      simp only [Nat.ble_eq] at g7 g8
      rw [lrC_at] at g7 g8
      rw [lmC_at]
      have key := ih d h1 h2 h3 h4 h5 w.toNat c.toNat r'.toNat (by omega) (by omega) (by omega) x.toNat y.toNat z.toNat g7 g8
      rw [mB, Int.toNat_of_nonneg g1.1, Int.toNat_of_nonneg g2.1, Int.toNat_of_nonneg g3.1, Int.toNat_of_nonneg g4, Int.toNat_of_nonneg g5, Int.toNat_of_nonneg g6] at key
      exact ⟨key, rfl, rfl⟩
    · cases h
  · cases h
def hpM (f : Nat) : Bool := hasN [122, 121, 120] f
noncomputable def SM {N : Nat} (ih : MetAt N) (l : List (Nat × List (Nat × Bool))) (v : List (Nat × List (Nat × PV))) : Cfg G0 := { F := F, hF := hF, S := txS, hS := txS_ok, V := metV N, hV := metV_ok ih, hp := hpM, D := hpM, orc := orcM l, val := valM v }
theorem mxC (a u : Nat) : (if (a : Int) > (u : Int) then (a : Int) else (u : Int)) = ((max u a : Nat) : Int) := by
  rcases Nat.lt_or_ge u a with h | h
  · rw [if_pos (by omega), Nat.max_eq_right (by omega)]
  · rw [if_neg (by omega), Nat.max_eq_left h]
theorem wrapC (a : Nat) (h : a ≤ 9223372036854775807) : IntKind.wrap IntKind.i64 ((a : Nat) : Int) = (a : Int) := wrapO a h
theorem met_len (w : Nat) (d : Dat) (c r : Nat) (t : Nat × Nat × Nat) : (layG mS w d c r t).1 ≤ t.1 + (layT w d c r).length ∧ (layG mS w d c r t).2.1 ≤ t.2.1 + (layT w d c r).length := by
  have h : Sim mS rS (fun x y => x.1 ≤ t.1 + y.length ∧ x.2.1 ≤ t.2.1 + y.length) := ⟨fun s x y h => by simp [mS, rS]; omega, fun n x y h => by simp [mS, rS]; omega, fun x y h _ => by simp [mS] at h, fun y => rfl⟩
  exact (sim h w).1 d c r t [] ⟨by simp, by simp⟩
theorem met_lenL (w : Nat) (ks : Dats) (f : Bool) (c r : Nat) (l : Bool) (t : Nat × Nat × Nat) : (layGL mS w ks f c r l t).1 ≤ t.1 + (layTL w ks f c r l).length ∧ (layGL mS w ks f c r l t).2.1 ≤ t.2.1 + (layTL w ks f c r l).length := by
  have h : Sim mS rS (fun x y => x.1 ≤ t.1 + y.length ∧ x.2.1 ≤ t.2.1 + y.length) := ⟨fun s x y h => by simp [mS, rS]; omega, fun n x y h => by simp [mS, rS]; omega, fun x y h _ => by simp [mS] at h, fun y => rfl⟩
  exact (sim h w).2 ks f c r l t [] ⟨by simp, by simp⟩
def LM (w : Nat) : Box := ⟨[.iface 75 (.ptr 0 0), .int .i64 w], 72⟩
theorem met_gen {N : Nat} (ih : MetAt N) (d : Dat) (hN : d.size < N + 1) (hok : d.ok) (hrng : d.rng) (hfm : formedD d = true) (htl : (textD d).length ≤ 4398046511104) (w c r : Nat) (hw : w ≤ 4398046511104) (hc : c + 2 * (N + 1) ≤ 4398046511104) (hr : r + (N + 1) ≤ 4398046511104)
    (x y z : Nat) (hx : x + (layT w d c r).length ≤ 140737488355328) (hy : y + (layT w d c r).length ≤ 140737488355328) :
    RCalls G0 37 [.agg [.iface 75 (.ptr 0 0), .int .i64 w], .agg d.cells, .int .i64 c, .int .i64 r] ⟨[mB x y z], []⟩ (fun o H => o = .ret (.tup []) ∧ H = ⟨[mT (layG mS w d c r (x, y, z))], []⟩) := by
  obtain ⟨k, n, s, ks⟩ := d
  have hlen := hok.1
  have tx : txC [PV.int IntKind.i64 k, PV.int IntKind.i64 n, PV.str s, PV.slice (Dats.len ks) (Dats.cells ks)] = textD (.mk k n s ks) := txC_at (.mk k n s ks)
  have c1 : isTxp [PV.int IntKind.i64 k, PV.int IntKind.i64 n, PV.str s, PV.slice (Dats.len ks) (Dats.cells ks)] = true := isTxp_at (d := .mk k n s ks) hok hrng hfm (by omega)
  refine Fn.enterH Tryd.func37 Tryd.ntmps37 rfl (Nat.le_of_ble_eq_true rfl) fun C fr fp hnt hnb hfr => ?_
  have fin : ∀ st l, l = layG mS w (.mk k n s ks) c r (x, y, z) → nrm [] st = ⟨[], ⟨[mT l, LM w, DB k n s ks], []⟩⟩ → fr st := fun st l hl hs => hfr st [] (by
    rw [hs, ← hl]
    exact ⟨1, 0, .tup [], Nat.le_refl _, (by decide : 1 ≤ 3), Nat.le_refl _, Nat.le_refl _, rfl, rfl, rfl, rfl, rfl⟩)
  have hmt : ∀ t, mS.more t = true := fun _ => rfl
  have hsz : ByteArray.size (mkS (txC [PV.int IntKind.i64 k, PV.int IntKind.i64 n, PV.str s, PV.slice (Dats.len ks) (Dats.cells ks)])) = (textD (.mk k n s ks)).length := by rw [tx]; rfl
  have hwr : IntKind.wrap IntKind.i64 (IntKind.wrap IntKind.i64 ((↑c : Int) + (↑(ByteArray.size (mkS (txC [PV.int IntKind.i64 k, PV.int IntKind.i64 n, PV.str s, PV.slice (Dats.len ks) (Dats.cells ks)]))) : Int)) + (↑r : Int)) = ((c + (textD (.mk k n s ks)).length + r : Nat) : Int) := by
    rw [hsz]; exact wrap3 _ _ _ (by omega)
  have short : ∀ (hs : ks.len = 0 ∨ c + (textD (.mk k n s ks)).length + r ≤ w), layG mS w (.mk k n s ks) c r (x, y, z) = (x, y + (textD (.mk k n s ks)).length, max z (y + (textD (.mk k n s ks)).length)) ∧ y + (textD (.mk k n s ks)).length ≤ 140737488355328 := fun hs => by
    refine ⟨by rw [layG, hmt]; simp only []; rw [if_pos hs]; rfl, ?_⟩
    have : layT w (.mk k n s ks) c r = textD (.mk k n s ks) := by
      unfold layT
      rw [layG]
      simp only [rS]
      rw [if_pos hs]
      simp
    rw [this] at hy
    exact hy
  by_cases h0 : ks.len = 0
  · obtain ⟨lg, hb2⟩ := short (.inl h0)
    have c3 : (Int.ofNat (Dats.len ks) == (0 : Int)) = true := by rw [h0]; rfl
    have wy := wrapC (y + (textD (.mk k n s ks)).length) (by omega)
    refine SWP.runQ (SM ih [(79, [(21, true)])] []) 100 79 hnt [] (e := .ret) (z := { t := [], h := { bx := [{ cs := [PV.int IntKind.i64 (Int.ofNat x), PV.int IntKind.i64 (IntKind.wrap IntKind.i64 (Int.ofNat (y + ByteArray.size (mkS (txC [PV.int IntKind.i64 k, PV.int IntKind.i64 n, PV.str s, PV.slice (Dats.len ks) (Dats.cells ks)]))))), PV.int IntKind.i64 (if IntKind.wrap IntKind.i64 (Int.ofNat (y + ByteArray.size (mkS (txC [PV.int IntKind.i64 k, PV.int IntKind.i64 n, PV.str s, PV.slice (Dats.len ks) (Dats.cells ks)])))) > Int.ofNat z then IntKind.wrap IntKind.i64 (Int.ofNat (y + ByteArray.size (mkS (txC [PV.int IntKind.i64 k, PV.int IntKind.i64 n, PV.str s, PV.slice (Dats.len ks) (Dats.cells ks)])))) else Int.ofNat z)], ty := 79 }, { cs := [PV.iface 75 (PV.ptr 0 0), PV.int IntKind.i64 (Int.ofNat w)], ty := 72 }, { cs := [PV.int IntKind.i64 k, PV.int IntKind.i64 n, PV.str s, PV.slice (Dats.len ks) (Dats.cells ks)], ty := 24 }], rw := [] } }) (o := [(true, true), (isTxp [PV.int IntKind.i64 k, PV.int IntKind.i64 n, PV.str s, PV.slice (Dats.len ks) (Dats.cells ks)], true), (Int.ofNat (Dats.len ks) == (0 : Int), true)]) (by kernel_rfl) (by ((repeat' (first | exact okO_nil | refine okN ?_ ?_)); all_goals first | assumption | rfl | exact same_of rfl | exact sameS_self _ | (simp only [decide_eq_true_eq, decide_eq_false_iff_not, Nat.ble_eq, Nat.beq_eq, beq_eq_false_iff_ne, beq_iff_eq, ne_eq] <;> omega))) (fun st hs => fin st _ lg.symm ?_)
    rw [hs]
    simp only [hsz, Int.ofNat_eq_natCast, wy, mxC]
    rfl
  have c3 : (Int.ofNat (Dats.len ks) == (0 : Int)) = false := by rw [beq_eq_false_iff_ne]; show (ks.len : Int) ≠ 0; omega
  by_cases hft : c + (textD (.mk k n s ks)).length + r ≤ w
  · obtain ⟨lg, hb2⟩ := short (.inr hft)
    have c5 : decide (IntKind.wrap IntKind.i64 (IntKind.wrap IntKind.i64 ((↑c : Int) + (↑(ByteArray.size (mkS (txC [PV.int IntKind.i64 k, PV.int IntKind.i64 n, PV.str s, PV.slice (Dats.len ks) (Dats.cells ks)]))) : Int)) + (↑r : Int)) ≤ (↑w : Int)) = true := by rw [hwr, decide_eq_true_eq]; omega
    have wy := wrapC (y + (textD (.mk k n s ks)).length) (by omega)
    refine SWP.runQ (SM ih [(79, [(21, false), (31, true)])] []) 100 79 hnt [] (e := .ret) (z := { t := [], h := { bx := [{ cs := [PV.int IntKind.i64 (Int.ofNat x), PV.int IntKind.i64 (IntKind.wrap IntKind.i64 (Int.ofNat (y + ByteArray.size (mkS (txC [PV.int IntKind.i64 k, PV.int IntKind.i64 n, PV.str s, PV.slice (Dats.len ks) (Dats.cells ks)]))))), PV.int IntKind.i64 (if IntKind.wrap IntKind.i64 (Int.ofNat (y + ByteArray.size (mkS (txC [PV.int IntKind.i64 k, PV.int IntKind.i64 n, PV.str s, PV.slice (Dats.len ks) (Dats.cells ks)])))) > Int.ofNat z then IntKind.wrap IntKind.i64 (Int.ofNat (y + ByteArray.size (mkS (txC [PV.int IntKind.i64 k, PV.int IntKind.i64 n, PV.str s, PV.slice (Dats.len ks) (Dats.cells ks)])))) else Int.ofNat z)], ty := 79 }, { cs := [PV.iface 75 (PV.ptr 0 0), PV.int IntKind.i64 (Int.ofNat w)], ty := 72 }, { cs := [PV.int IntKind.i64 k, PV.int IntKind.i64 n, PV.str s, PV.slice (Dats.len ks) (Dats.cells ks)], ty := 24 }], rw := [] } }) (o := [(true, true), (isTxp [PV.int IntKind.i64 k, PV.int IntKind.i64 n, PV.str s, PV.slice (Dats.len ks) (Dats.cells ks)], true), (Int.ofNat (Dats.len ks) == (0 : Int), false), (decide (IntKind.wrap IntKind.i64 (IntKind.wrap IntKind.i64 (Int.ofNat (c + ByteArray.size (mkS (txC [PV.int IntKind.i64 k, PV.int IntKind.i64 n, PV.str s, PV.slice (Dats.len ks) (Dats.cells ks)])))) + Int.ofNat r) ≤ Int.ofNat w), true)]) (by kernel_rfl) (by ((repeat' (first | exact okO_nil | refine okN ?_ ?_)); all_goals first | assumption | rfl | exact same_of rfl | exact sameS_self _ | (simp only [decide_eq_true_eq, decide_eq_false_iff_not, Nat.ble_eq, Nat.beq_eq, beq_eq_false_iff_ne, beq_iff_eq, ne_eq] <;> omega))) (fun st hs => fin st _ lg.symm ?_)
    rw [hs]
    simp only [hsz, Int.ofNat_eq_natCast, wy, mxC]
    rfl
  have hnot : ¬ (ks.len = 0 ∨ c + (textD (.mk k n s ks)).length + r ≤ w) := fun h => h.elim h0 hft
  have c5 : decide (IntKind.wrap IntKind.i64 (IntKind.wrap IntKind.i64 ((↑c : Int) + (↑(ByteArray.size (mkS (txC [PV.int IntKind.i64 k, PV.int IntKind.i64 n, PV.str s, PV.slice (Dats.len ks) (Dats.cells ks)]))) : Int)) + (↑r : Int)) ≤ (↑w : Int)) = false := by rw [hwr, decide_eq_false_iff_not]; omega
  have lg : layG mS w (.mk k n s ks) c r (x, y, z) = mS.text [41] (layGL mS w ks true c r true (x, y + 1, max z (y + 1))) := by
    rw [layG, hmt]; simp only []; rw [if_neg hnot]; rfl
  have hT := layT_list w k n s ks c r hnot
  rw [hT] at hx hy
  simp only [List.length_cons, List.length_append, List.length_nil] at hx hy
  have hks : ks.size < N + 1 := by simp only [Dat.size] at hN; omega
  have hfk : formedL ks = true := by
    simp only [formedD, Bool.or_eq_true, Bool.and_eq_true, decide_eq_true_eq] at hfm
    rcases hfm with (h | h) | h
    · exact absurd h.2 h0
    · exact absurd h.2 h0
    · exact h.2
  have hk3 : k = 3 := by
    simp only [formedD, Bool.or_eq_true, Bool.and_eq_true, decide_eq_true_eq] at hfm
    rcases hfm with (h | h) | h
    · exact absurd h.2 h0
    · exact absurd h.2 h0
    · exact h.1.1.1
  have htx : (textD (.mk k n s ks)).length = (textL true ks).length + 2 := by subst hk3; rw [textD, if_neg (by decide), if_neg (by decide)]; simp
  have wc1 := wrapC (c + 1) (by omega)
  have wc1' : IntKind.wrap IntKind.i64 ((c : Int) + 1) = ((c + 1 : Nat) : Int) := wc1
  have wc2 := wrapC (c + 2) (by omega)
  have wc2' : IntKind.wrap IntKind.i64 ((c : Int) + 2) = ((c + 2 : Nat) : Int) := wc2
  have wr1 := wrapC (r + 1) (by omega)
  have wr1' : IntKind.wrap IntKind.i64 ((r : Int) + 1) = ((r + 1 : Nat) : Int) := wr1
  have wl : IntKind.wrap IntKind.i64 (Int.ofNat (Dats.len ks) - (1 : Int)) = ((ks.len - 1 : Nat) : Int) := wrapD _ (by omega) (by omega)
  have wy := wrapC (y + 1) (by omega)
  have wy' : IntKind.wrap IntKind.i64 ((↑y : Int) + (↑(ByteArray.size { data := #[40] }) : Int)) = ((y + 1 : Nat) : Int) := wy
  refine Q.runSeq (SM ih [] []) 100 79 hnt [2, 3, 4, 5] (z := { t := [(2, PV.int IntKind.i64 (Int.ofNat c)), (3, PV.int IntKind.i64 (Int.ofNat r)), (4, PV.ptr 1 0), (5, PV.ptr 2 0)], h := { bx := [{ cs := [PV.int IntKind.i64 (Int.ofNat x), PV.int IntKind.i64 (Int.ofNat y), PV.int IntKind.i64 (Int.ofNat z)], ty := 79 }, { cs := [PV.iface 75 (PV.ptr 0 0), PV.int IntKind.i64 (Int.ofNat w)], ty := 72 }, { cs := [PV.int IntKind.i64 k, PV.int IntKind.i64 n, PV.str s, PV.slice (Dats.len ks) (Dats.cells ks)], ty := 24 }], rw := [] } }) (o := []) (by kernel_rfl) (by ((repeat' (first | exact okO_nil | refine okN ?_ ?_)); all_goals first | assumption | rfl | exact same_of rfl | exact sameS_self _ | (simp only [decide_eq_true_eq, decide_eq_false_iff_not, Nat.ble_eq, Nat.beq_eq, beq_eq_false_iff_ne, beq_iff_eq, ne_eq] <;> omega))) ?_
  refine Q.runSeq (SM ih [] []) 100 79 hnt [2, 3, 4, 5] (z := { t := [(2, PV.int IntKind.i64 (Int.ofNat c)), (3, PV.int IntKind.i64 (Int.ofNat r)), (4, PV.ptr 1 0), (5, PV.ptr 2 0)], h := { bx := [{ cs := [PV.int IntKind.i64 (Int.ofNat x), PV.int IntKind.i64 (Int.ofNat y), PV.int IntKind.i64 (Int.ofNat z)], ty := 79 }, { cs := [PV.iface 75 (PV.ptr 0 0), PV.int IntKind.i64 (Int.ofNat w)], ty := 72 }, { cs := [PV.int IntKind.i64 k, PV.int IntKind.i64 n, PV.str s, PV.slice (Dats.len ks) (Dats.cells ks)], ty := 24 }], rw := [] } }) (o := []) (by kernel_rfl) (by ((repeat' (first | exact okO_nil | refine okN ?_ ?_)); all_goals first | assumption | rfl | exact same_of rfl | exact sameS_self _ | (simp only [decide_eq_true_eq, decide_eq_false_iff_not, Nat.ble_eq, Nat.beq_eq, beq_eq_false_iff_ne, beq_iff_eq, ne_eq] <;> omega))) ?_
  refine Q.runSeq (SM ih [] []) 100 79 hnt [2, 3, 4, 5, 8] (z := { t := [(2, PV.int IntKind.i64 (Int.ofNat c)), (3, PV.int IntKind.i64 (Int.ofNat r)), (4, PV.ptr 1 0), (5, PV.ptr 2 0), (8, PV.str (mkS (txC [PV.int IntKind.i64 k, PV.int IntKind.i64 n, PV.str s, PV.slice (Dats.len ks) (Dats.cells ks)])))], h := { bx := [{ cs := [PV.int IntKind.i64 (Int.ofNat x), PV.int IntKind.i64 (Int.ofNat y), PV.int IntKind.i64 (Int.ofNat z)], ty := 79 }, { cs := [PV.iface 75 (PV.ptr 0 0), PV.int IntKind.i64 (Int.ofNat w)], ty := 72 }, { cs := [PV.int IntKind.i64 k, PV.int IntKind.i64 n, PV.str s, PV.slice (Dats.len ks) (Dats.cells ks)], ty := 24 }], rw := [] } }) (o := [(true, true), (isTxp [PV.int IntKind.i64 k, PV.int IntKind.i64 n, PV.str s, PV.slice (Dats.len ks) (Dats.cells ks)], true)]) (by kernel_rfl) (by ((repeat' (first | exact okO_nil | refine okN ?_ ?_)); all_goals first | assumption | rfl | exact same_of rfl | exact sameS_self _ | (simp only [decide_eq_true_eq, decide_eq_false_iff_not, Nat.ble_eq, Nat.beq_eq, beq_eq_false_iff_ne, beq_iff_eq, ne_eq] <;> omega))) ?_
  refine Q.runSeq (SM ih [(79, [(21, false), (31, false)])] []) 100 79 hnt [2, 3, 4, 5] (z := { t := [(2, PV.int IntKind.i64 (Int.ofNat c)), (3, PV.int IntKind.i64 (Int.ofNat r)), (4, PV.ptr 1 0), (5, PV.ptr 2 0)], h := { bx := [{ cs := [PV.int IntKind.i64 (Int.ofNat x), PV.int IntKind.i64 (Int.ofNat y), PV.int IntKind.i64 (Int.ofNat z)], ty := 79 }, { cs := [PV.iface 75 (PV.ptr 0 0), PV.int IntKind.i64 (Int.ofNat w)], ty := 72 }, { cs := [PV.int IntKind.i64 k, PV.int IntKind.i64 n, PV.str s, PV.slice (Dats.len ks) (Dats.cells ks)], ty := 24 }], rw := [] } }) (o := [(Int.ofNat (Dats.len ks) == (0 : Int), false), (decide (IntKind.wrap IntKind.i64 (IntKind.wrap IntKind.i64 ((↑c : Int) + (↑(ByteArray.size (mkS (txC [PV.int IntKind.i64 k, PV.int IntKind.i64 n, PV.str s, PV.slice (Dats.len ks) (Dats.cells ks)]))) : Int)) + (↑r : Int)) ≤ (↑w : Int)), false)]) (by kernel_rfl) (by ((repeat' (first | exact okO_nil | refine okN ?_ ?_)); all_goals first | assumption | rfl | exact same_of rfl | exact sameS_self _ | (simp only [decide_eq_true_eq, decide_eq_false_iff_not, Nat.ble_eq, Nat.beq_eq, beq_eq_false_iff_ne, beq_iff_eq, ne_eq] <;> omega))) ?_
  refine Q.runSeq (SM ih [] []) 100 79 hnt [2, 3, 4, 5] (z := { t := [(2, PV.int IntKind.i64 (Int.ofNat c)), (3, PV.int IntKind.i64 (Int.ofNat r)), (4, PV.ptr 1 0), (5, PV.ptr 2 0)], h := { bx := [{ cs := [PV.int IntKind.i64 (Int.ofNat x), PV.int IntKind.i64 (IntKind.wrap IntKind.i64 (Int.ofNat (y + 1))), PV.int IntKind.i64 (if IntKind.wrap IntKind.i64 ((↑y : Int) + (↑(ByteArray.size { data := #[40] }) : Int)) > (↑z : Int) then IntKind.wrap IntKind.i64 (Int.ofNat (y + 1)) else Int.ofNat z)], ty := 79 }, { cs := [PV.iface 75 (PV.ptr 0 0), PV.int IntKind.i64 (Int.ofNat w)], ty := 72 }, { cs := [PV.int IntKind.i64 k, PV.int IntKind.i64 n, PV.str s, PV.slice (Dats.len ks) (Dats.cells ks)], ty := 24 }], rw := [] } }) (o := []) (by kernel_rfl) (by ((repeat' (first | exact okO_nil | refine okN ?_ ?_)); all_goals first | assumption | rfl | exact same_of rfl | exact sameS_self _ | (simp only [decide_eq_true_eq, decide_eq_false_iff_not, Nat.ble_eq, Nat.beq_eq, beq_eq_false_iff_ne, beq_iff_eq, ne_eq] <;> omega))) ?_
  simp only [Int.ofNat_eq_natCast, wy, wy', mxC]
  let P (j : Nat) : Nat × Nat × Nat := layGL mS w (ks.take j) true c r (decide (j = ks.len)) (x, y + 1, max z (y + 1))
  have hP0 : P 0 = (x, y + 1, max z (y + 1)) := by
    simp only [P]
    cases ks <;> rfl
  have hPl : P ks.len = layGL mS w ks true c r true (x, y + 1, max z (y + 1)) := by simp only [P, take_all, decide_true]
  let T (j : Nat) : AS := ⟨[(2, .int .i64 c), (3, .int .i64 r), (4, .ptr 1 0), (5, .ptr 2 0), (41, .slice ks.len ks.cells), (42, .int .i64 ks.len), (43, .int .i64 j)], ⟨[mT (P j), LM w, DB k n s ks], []⟩⟩
  refine Q.seq fun K2 hK2 => ?_
  refine Q.runSeq (SM ih [] []) 100 79 hnt [2, 3, 4, 5, 41, 42, 43] (z := T 0) (o := []) (by simp only [T, hP0]; kernel_rfl) okO_nil ?_
  refine Q.block ?_
  refine Q.loopH (σ := { j : Nat // j ≤ ks.len }) [2, 3, 4, 5, 41, 42, 43] 3 (by rw [hnb]; exact (by decide : 1 ≤ 3)) (fun j => T j.1) (fun j => ks.len - j.1) ⟨0, Nat.zero_le _⟩ (fun j => ⟨rfl, rfl, rfl⟩) ⟨[], by simp only [List.append_nil]; rfl⟩ fun ⟨j, hj⟩ => ?_
  rcases Nat.lt_or_ge j ks.len with hlt | hge
  · obtain ⟨k', n', s', ks', hget⟩ := Dats.get_mk ks j
    have hsz := Dats.get_size ks j hlt
    have hoj := Dats.get_ok ks j hlt hok.2
    have hrj := Dats.get_rng ks j hlt hrng.2
    have hfj := (formedL_iff ks).1 hfk j hlt
    have htj := textL_get ks true j hlt
    have hPj : decide (j = ks.len) = false := decide_eq_false_iff_not.2 (by omega)
    have hPn : P (j + 1) = layG mS w (.mk k' n' s' ks') (if j = 0 ∧ true = true then c + 1 else c + 2) (if decide (j + 1 = ks.len) = true then r + 1 else 0) (if j = 0 ∧ true = true then P j else mS.line (c + 2) (P j)) := by
      have e0 : P (j + 1) = layGL mS w (ks.take (j + 1)) true c r (decide (j + 1 = ks.len)) (x, y + 1, max z (y + 1)) := rfl
      have e1 : P j = layGL mS w (ks.take j) true c r false (x, y + 1, max z (y + 1)) := by
        show layGL mS w (ks.take j) true c r (decide (j = ks.len)) (x, y + 1, max z (y + 1)) = _
        rw [hPj]
      rw [e0, e1, layGL_take mS w c r ks true j _ _ hlt, hget]
    have h2 := congrArg List.length (layTL_take w c r ks j (decide (j + 1 = ks.len)) hlt)
    have h3 : (layTL w (ks.take (j + 1)) true c r (decide (j + 1 = ks.len))).length ≤ (layTL w ks true c r true).length := by
      by_cases h : j + 1 = ks.len
      · rw [decide_eq_true h, h, take_all]; exact Nat.le_refl _
      · rw [decide_eq_false h]; exact layTL_mono w c r ks (j + 1) (by omega)
    rw [hget] at h2
    simp only [List.length_append, decide_eq_true_eq] at h2
    have hml : (P j).1 ≤ x + (layTL w (ks.take j) true c r false).length ∧ (P j).2.1 ≤ (y + 1) + (layTL w (ks.take j) true c r false).length := by
      show (layGL mS w (ks.take j) true c r (decide (j = ks.len)) (x, y + 1, max z (y + 1))).1 ≤ _ ∧ (layGL mS w (ks.take j) true c r (decide (j = ks.len)) (x, y + 1, max z (y + 1))).2.1 ≤ _
      rw [hPj]
      exact met_lenL w (ks.take j) true c r false (x, y + 1, max z (y + 1))
    have hbd : (P j).1 + (if j = 0 then ([] : List UInt8) else 10 :: List.replicate (c + 2) 32).length + (layT w (.mk k' n' s' ks') (if j = 0 then c + 1 else c + 2) (if j + 1 = ks.len then r + 1 else 0)).length + 1 ≤ 140737488355328 := by omega
    have hbd2 : (P j).2.1 + (if j = 0 then ([] : List UInt8) else 10 :: List.replicate (c + 2) 32).length + (layT w (.mk k' n' s' ks') (if j = 0 then c + 1 else c + 2) (if j + 1 = ks.len then r + 1 else 0)).length + 1 ≤ 140737488355328 := by omega
    clear h2 h3 hml
    rw [hget] at hsz hoj hrj hfj htj
    have hlm : ∀ w c r t, lmC w c r t [PV.int IntKind.i64 k', PV.int IntKind.i64 n', PV.str s', PV.slice (Dats.len ks') (Dats.cells ks')] = layG mS w (.mk k' n' s' ks') c r t := fun w c r b => lmC_at w c r b (.mk k' n' s' ks')
    have hlr : ∀ w c r, lrC w c r [PV.int IntKind.i64 k', PV.int IntKind.i64 n', PV.str s', PV.slice (Dats.len ks') (Dats.cells ks')] = (layT w (.mk k' n' s' ks') c r).length := fun w c r => lrC_at w c r (.mk k' n' s' ks')
    have d1 : isLay N [PV.int IntKind.i64 k', PV.int IntKind.i64 n', PV.str s', PV.slice (Dats.len ks') (Dats.cells ks')] = true := isLay_at (d := .mk k' n' s' ks') (by omega) hoj hrj hfj (by omega)
    have d2 := lt_at hlt
    have d3 := in_at hlt
    have d4 : decide (TD.size d24 ≤ List.length (List.drop (Int.toNat (j : Int) * TD.size d24) (Dats.cells ks))) = true := kid_len hlt
    have d5 := kid_same' hlt hget
    have wj' := wrapC (j + 1) (by omega)
    obtain ⟨p, q, u, hp⟩ : ∃ p q u, P j = (p, q, u) := ⟨_, _, _, rfl⟩
    show SWP G0 C _ _ ⟨[(2, .int .i64 c), (3, .int .i64 r), (4, .ptr 1 0), (5, .ptr 2 0), (41, .slice ks.len ks.cells), (42, .int .i64 ks.len), (43, .int .i64 j)], ⟨[mT (P j), LM w, DB k n s ks], []⟩⟩
    rw [hp] at hbd hbd2 hPn ⊢
    simp only [] at hbd hbd2
    have wp1 := wrapC (p + 1) (by omega)
    have wp1' : IntKind.wrap IntKind.i64 ((p : Int) + 1) = ((p + 1 : Nat) : Int) := wp1
    clear hp hP0 hPl hK2
    by_cases hz : j = 0 <;> by_cases hl : j + 1 = ks.len
    · have e1 : (Int.ofNat j == IntKind.wrap IntKind.i64 (Int.ofNat (Dats.len ks) - (1 : Int))) = true := by
        rw [wl, beq_iff_eq]
        show (j : Int) = _
        omega
      have e2 : (Int.ofNat j == (0 : Int)) = true := by
        rw [beq_iff_eq]
        show (j : Int) = 0
        omega
      have hPs : P (j + 1) = layG mS w (.mk k' n' s' ks') (c + 1) (r + 1) (p, q, u) := by
        simp only [hPn, and_true, decide_eq_true_eq, if_pos hz, if_pos hl]
        try rfl
      simp only [if_pos hz, if_pos hl, List.length_nil, List.length_cons, List.length_replicate] at hbd hbd2
      clear hPn
      refine SWP.runQ (SM ih [(79, [(44, true), (46, true), (47, true), (53, true), (57, true)])] [(79, [(47, .agg [.int .i64 k', .int .i64 n', .str s', .slice ks'.len ks'.cells])])]) 100 79 hnt [2, 3, 4, 5, 41, 42, 43] (e := .normal) (z := { t := [(2, PV.int IntKind.i64 (Int.ofNat c)), (3, PV.int IntKind.i64 (Int.ofNat r)), (4, PV.ptr 1 0), (5, PV.ptr 2 0), (41, PV.slice (Dats.len ks) (Dats.cells ks)), (42, PV.int IntKind.i64 (Int.ofNat (Dats.len ks))), (43, PV.int IntKind.i64 (IntKind.wrap IntKind.i64 (Int.ofNat (j + 1))))], h := { bx := [{ cs := [PV.int IntKind.i64 (Int.ofNat (Prod.fst (lmC (Int.toNat (Int.ofNat w)) (Int.toNat (IntKind.wrap IntKind.i64 (Int.ofNat (c + 1)))) (Int.toNat (IntKind.wrap IntKind.i64 (Int.ofNat (r + 1)))) (Int.toNat (Int.ofNat p), Int.toNat (Int.ofNat q), Int.toNat (Int.ofNat u)) [PV.int IntKind.i64 k', PV.int IntKind.i64 n', PV.str s', PV.slice (Dats.len ks') (Dats.cells ks')]))), PV.int IntKind.i64 (Int.ofNat (Prod.fst (Prod.snd (lmC (Int.toNat (Int.ofNat w)) (Int.toNat (IntKind.wrap IntKind.i64 (Int.ofNat (c + 1)))) (Int.toNat (IntKind.wrap IntKind.i64 (Int.ofNat (r + 1)))) (Int.toNat (Int.ofNat p), Int.toNat (Int.ofNat q), Int.toNat (Int.ofNat u)) [PV.int IntKind.i64 k', PV.int IntKind.i64 n', PV.str s', PV.slice (Dats.len ks') (Dats.cells ks')])))), PV.int IntKind.i64 (Int.ofNat (Prod.snd (Prod.snd (lmC (Int.toNat (Int.ofNat w)) (Int.toNat (IntKind.wrap IntKind.i64 (Int.ofNat (c + 1)))) (Int.toNat (IntKind.wrap IntKind.i64 (Int.ofNat (r + 1)))) (Int.toNat (Int.ofNat p), Int.toNat (Int.ofNat q), Int.toNat (Int.ofNat u)) [PV.int IntKind.i64 k', PV.int IntKind.i64 n', PV.str s', PV.slice (Dats.len ks') (Dats.cells ks')]))))], ty := 79 }, { cs := [PV.iface 75 (PV.ptr 0 0), PV.int IntKind.i64 (Int.ofNat w)], ty := 72 }, { cs := [PV.int IntKind.i64 k, PV.int IntKind.i64 n, PV.str s, PV.slice (Dats.len ks) (Dats.cells ks)], ty := 24 }, { cs := [PV.int IntKind.i64 k', PV.int IntKind.i64 n', PV.str s', PV.slice (Dats.len ks') (Dats.cells ks')], ty := 24 }], rw := [] } }) (o := [(decide ((↑j : Int) < (↑(Dats.len ks) : Int)), true), (true, true), (decide (0 ≤ (↑j : Int) ∧ (↑j : Int) < (↑(Dats.len ks) : Int)), true), (decide (TD.size d24 ≤ List.length (List.drop (Int.toNat (↑j : Int) * TD.size d24) (Dats.cells ks))), true), (same (PV.agg (List.take 4 (List.drop (Int.toNat (Int.ofNat j) * 4) (Dats.cells ks)))) (PV.agg [PV.int IntKind.i64 k', PV.int IntKind.i64 n', PV.str s', PV.slice (Dats.len ks') (Dats.cells ks')]), true), (Int.ofNat j == IntKind.wrap IntKind.i64 (Int.ofNat (Dats.len ks) - (1 : Int)), true), (true, true), (Int.ofNat j == (0 : Int), true), (true, true), (isLay N [PV.int IntKind.i64 k', PV.int IntKind.i64 n', PV.str s', PV.slice (Dats.len ks') (Dats.cells ks')], true), (decide (0 ≤ (↑w : Int) ∧ (↑w : Int) ≤ 4398046511104), true), (decide (0 ≤ IntKind.wrap IntKind.i64 ((↑c : Int) + 1) ∧ IntKind.wrap IntKind.i64 ((↑c : Int) + 1) + 2 * (↑N : Int) ≤ 4398046511104), true), (decide (0 ≤ IntKind.wrap IntKind.i64 ((↑r : Int) + 1) ∧ IntKind.wrap IntKind.i64 ((↑r : Int) + 1) + (↑N : Int) ≤ 4398046511104), true), (true, true), (true, true), (true, true), (Nat.ble (Int.toNat (Int.ofNat p) + lrC (Int.toNat (Int.ofNat w)) (Int.toNat (IntKind.wrap IntKind.i64 (Int.ofNat (c + 1)))) (Int.toNat (IntKind.wrap IntKind.i64 (Int.ofNat (r + 1)))) [PV.int IntKind.i64 k', PV.int IntKind.i64 n', PV.str s', PV.slice (Dats.len ks') (Dats.cells ks')]) 140737488355328, true), (Nat.ble (Int.toNat (Int.ofNat q) + lrC (Int.toNat (Int.ofNat w)) (Int.toNat (IntKind.wrap IntKind.i64 (Int.ofNat (c + 1)))) (Int.toNat (IntKind.wrap IntKind.i64 (Int.ofNat (r + 1)))) [PV.int IntKind.i64 k', PV.int IntKind.i64 n', PV.str s', PV.slice (Dats.len ks') (Dats.cells ks')]) 140737488355328, true)]) (by kernel_rfl) (by clear hPs; (repeat' (first | exact okO_nil | refine okN ?_ ?_)); all_goals first | (with_reducible rfl) | assumption | (simp only [Int.ofNat_eq_natCast, wc1, wc1', wc2, wc2', wr1, wr1', wp1, wp1', Int.toNat_natCast, mxC, hlr]; done) | ((try simp only [Int.ofNat_eq_natCast, wc1, wc1', wc2, wc2', wr1, wr1', wp1, wp1', Int.toNat_natCast, mxC, hlr]); simp only [decide_eq_true_eq, decide_eq_false_iff_not, Nat.ble_eq, Nat.beq_eq]; omega)) (fun st hs => ⟨⟨j + 1, hlt⟩, Nat.sub_lt_sub_left hlt (Nat.lt_succ_self j), [DB k' n' s' ks'], ?_⟩)
      rw [hs]
      simp only [T, hPs]
      simp only [Int.ofNat_eq_natCast, wc1, wc1', wc2, wc2', wr1, wr1', wp1, wp1', Int.toNat_natCast, mxC, hlr, hlm, wj']
      rfl
    · have e1 : (Int.ofNat j == IntKind.wrap IntKind.i64 (Int.ofNat (Dats.len ks) - (1 : Int))) = false := by
        rw [wl, beq_eq_false_iff_ne]
        show (j : Int) ≠ _
        omega
      have e2 : (Int.ofNat j == (0 : Int)) = true := by
        rw [beq_iff_eq]
        show (j : Int) = 0
        omega
      have hPs : P (j + 1) = layG mS w (.mk k' n' s' ks') (c + 1) (0) (p, q, u) := by
        simp only [hPn, and_true, decide_eq_true_eq, if_pos hz, if_neg hl]
        try rfl
      simp only [if_pos hz, if_neg hl, List.length_nil, List.length_cons, List.length_replicate] at hbd hbd2
      clear hPn
      refine SWP.runQ (SM ih [(79, [(44, true), (46, true), (47, true), (53, false), (57, true)])] [(79, [(47, .agg [.int .i64 k', .int .i64 n', .str s', .slice ks'.len ks'.cells])])]) 100 79 hnt [2, 3, 4, 5, 41, 42, 43] (e := .normal) (z := { t := [(2, PV.int IntKind.i64 (Int.ofNat c)), (3, PV.int IntKind.i64 (Int.ofNat r)), (4, PV.ptr 1 0), (5, PV.ptr 2 0), (41, PV.slice (Dats.len ks) (Dats.cells ks)), (42, PV.int IntKind.i64 (Int.ofNat (Dats.len ks))), (43, PV.int IntKind.i64 (IntKind.wrap IntKind.i64 (Int.ofNat (j + 1))))], h := { bx := [{ cs := [PV.int IntKind.i64 (Int.ofNat (Prod.fst (lmC (Int.toNat (Int.ofNat w)) (Int.toNat (IntKind.wrap IntKind.i64 (Int.ofNat (c + 1)))) 0 (Int.toNat (Int.ofNat p), Int.toNat (Int.ofNat q), Int.toNat (Int.ofNat u)) [PV.int IntKind.i64 k', PV.int IntKind.i64 n', PV.str s', PV.slice (Dats.len ks') (Dats.cells ks')]))), PV.int IntKind.i64 (Int.ofNat (Prod.fst (Prod.snd (lmC (Int.toNat (Int.ofNat w)) (Int.toNat (IntKind.wrap IntKind.i64 (Int.ofNat (c + 1)))) 0 (Int.toNat (Int.ofNat p), Int.toNat (Int.ofNat q), Int.toNat (Int.ofNat u)) [PV.int IntKind.i64 k', PV.int IntKind.i64 n', PV.str s', PV.slice (Dats.len ks') (Dats.cells ks')])))), PV.int IntKind.i64 (Int.ofNat (Prod.snd (Prod.snd (lmC (Int.toNat (Int.ofNat w)) (Int.toNat (IntKind.wrap IntKind.i64 (Int.ofNat (c + 1)))) 0 (Int.toNat (Int.ofNat p), Int.toNat (Int.ofNat q), Int.toNat (Int.ofNat u)) [PV.int IntKind.i64 k', PV.int IntKind.i64 n', PV.str s', PV.slice (Dats.len ks') (Dats.cells ks')]))))], ty := 79 }, { cs := [PV.iface 75 (PV.ptr 0 0), PV.int IntKind.i64 (Int.ofNat w)], ty := 72 }, { cs := [PV.int IntKind.i64 k, PV.int IntKind.i64 n, PV.str s, PV.slice (Dats.len ks) (Dats.cells ks)], ty := 24 }, { cs := [PV.int IntKind.i64 k', PV.int IntKind.i64 n', PV.str s', PV.slice (Dats.len ks') (Dats.cells ks')], ty := 24 }], rw := [] } }) (o := [(decide ((↑j : Int) < (↑(Dats.len ks) : Int)), true), (true, true), (decide (0 ≤ (↑j : Int) ∧ (↑j : Int) < (↑(Dats.len ks) : Int)), true), (decide (TD.size d24 ≤ List.length (List.drop (Int.toNat (↑j : Int) * TD.size d24) (Dats.cells ks))), true), (same (PV.agg (List.take 4 (List.drop (Int.toNat (Int.ofNat j) * 4) (Dats.cells ks)))) (PV.agg [PV.int IntKind.i64 k', PV.int IntKind.i64 n', PV.str s', PV.slice (Dats.len ks') (Dats.cells ks')]), true), (Int.ofNat j == IntKind.wrap IntKind.i64 (Int.ofNat (Dats.len ks) - (1 : Int)), false), (false, false), (Int.ofNat j == (0 : Int), true), (true, true), (isLay N [PV.int IntKind.i64 k', PV.int IntKind.i64 n', PV.str s', PV.slice (Dats.len ks') (Dats.cells ks')], true), (decide (0 ≤ (↑w : Int) ∧ (↑w : Int) ≤ 4398046511104), true), (decide (0 ≤ IntKind.wrap IntKind.i64 ((↑c : Int) + 1) ∧ IntKind.wrap IntKind.i64 ((↑c : Int) + 1) + 2 * (↑N : Int) ≤ 4398046511104), true), (decide ((0 : Int) ≤ 0 ∧ 0 + (↑N : Int) ≤ 4398046511104), true), (true, true), (true, true), (true, true), (Nat.ble (Int.toNat (Int.ofNat p) + lrC (Int.toNat (Int.ofNat w)) (Int.toNat (IntKind.wrap IntKind.i64 (Int.ofNat (c + 1)))) 0 [PV.int IntKind.i64 k', PV.int IntKind.i64 n', PV.str s', PV.slice (Dats.len ks') (Dats.cells ks')]) 140737488355328, true), (Nat.ble (Int.toNat (Int.ofNat q) + lrC (Int.toNat (Int.ofNat w)) (Int.toNat (IntKind.wrap IntKind.i64 (Int.ofNat (c + 1)))) 0 [PV.int IntKind.i64 k', PV.int IntKind.i64 n', PV.str s', PV.slice (Dats.len ks') (Dats.cells ks')]) 140737488355328, true)]) (by kernel_rfl) (by clear hPs; (repeat' (first | exact okO_nil | refine okN ?_ ?_)); all_goals first | (with_reducible rfl) | assumption | (simp only [Int.ofNat_eq_natCast, wc1, wc1', wc2, wc2', wr1, wr1', wp1, wp1', Int.toNat_natCast, mxC, hlr]; done) | ((try simp only [Int.ofNat_eq_natCast, wc1, wc1', wc2, wc2', wr1, wr1', wp1, wp1', Int.toNat_natCast, mxC, hlr]); simp only [decide_eq_true_eq, decide_eq_false_iff_not, Nat.ble_eq, Nat.beq_eq]; omega)) (fun st hs => ⟨⟨j + 1, hlt⟩, Nat.sub_lt_sub_left hlt (Nat.lt_succ_self j), [DB k' n' s' ks'], ?_⟩)
      rw [hs]
      simp only [T, hPs]
      simp only [Int.ofNat_eq_natCast, wc1, wc1', wc2, wc2', wr1, wr1', wp1, wp1', Int.toNat_natCast, mxC, hlr, hlm, wj']
      rfl
    · have e1 : (Int.ofNat j == IntKind.wrap IntKind.i64 (Int.ofNat (Dats.len ks) - (1 : Int))) = true := by
        rw [wl, beq_iff_eq]
        show (j : Int) = _
        omega
      have e2 : (Int.ofNat j == (0 : Int)) = false := by
        rw [beq_eq_false_iff_ne]
        show (j : Int) ≠ 0
        omega
      have hPs : P (j + 1) = layG mS w (.mk k' n' s' ks') (c + 2) (r + 1) (p + 1, c + 2, max u (c + 2)) := by
        simp only [hPn, and_true, decide_eq_true_eq, if_neg hz, if_pos hl]
        try rfl
      simp only [if_neg hz, if_pos hl, List.length_nil, List.length_cons, List.length_replicate] at hbd hbd2
      clear hPn
      refine SWP.runQ (SM ih [(79, [(44, true), (46, true), (47, true), (53, true), (57, false)])] [(79, [(47, .agg [.int .i64 k', .int .i64 n', .str s', .slice ks'.len ks'.cells])])]) 100 79 hnt [2, 3, 4, 5, 41, 42, 43] (e := .normal) (z := { t := [(2, PV.int IntKind.i64 (Int.ofNat c)), (3, PV.int IntKind.i64 (Int.ofNat r)), (4, PV.ptr 1 0), (5, PV.ptr 2 0), (41, PV.slice (Dats.len ks) (Dats.cells ks)), (42, PV.int IntKind.i64 (Int.ofNat (Dats.len ks))), (43, PV.int IntKind.i64 (IntKind.wrap IntKind.i64 (Int.ofNat (j + 1))))], h := { bx := [{ cs := [PV.int IntKind.i64 (Int.ofNat (Prod.fst (lmC (Int.toNat (Int.ofNat w)) (Int.toNat (IntKind.wrap IntKind.i64 (Int.ofNat (c + 2)))) (Int.toNat (IntKind.wrap IntKind.i64 (Int.ofNat (r + 1)))) (Int.toNat (IntKind.wrap IntKind.i64 (Int.ofNat (p + 1))), Int.toNat (IntKind.wrap IntKind.i64 (Int.ofNat (c + 2))), Int.toNat (if IntKind.wrap IntKind.i64 ((↑c : Int) + 2) > (↑u : Int) then IntKind.wrap IntKind.i64 (Int.ofNat (c + 2)) else Int.ofNat u)) [PV.int IntKind.i64 k', PV.int IntKind.i64 n', PV.str s', PV.slice (Dats.len ks') (Dats.cells ks')]))), PV.int IntKind.i64 (Int.ofNat (Prod.fst (Prod.snd (lmC (Int.toNat (Int.ofNat w)) (Int.toNat (IntKind.wrap IntKind.i64 (Int.ofNat (c + 2)))) (Int.toNat (IntKind.wrap IntKind.i64 (Int.ofNat (r + 1)))) (Int.toNat (IntKind.wrap IntKind.i64 (Int.ofNat (p + 1))), Int.toNat (IntKind.wrap IntKind.i64 (Int.ofNat (c + 2))), Int.toNat (if IntKind.wrap IntKind.i64 ((↑c : Int) + 2) > (↑u : Int) then IntKind.wrap IntKind.i64 (Int.ofNat (c + 2)) else Int.ofNat u)) [PV.int IntKind.i64 k', PV.int IntKind.i64 n', PV.str s', PV.slice (Dats.len ks') (Dats.cells ks')])))), PV.int IntKind.i64 (Int.ofNat (Prod.snd (Prod.snd (lmC (Int.toNat (Int.ofNat w)) (Int.toNat (IntKind.wrap IntKind.i64 (Int.ofNat (c + 2)))) (Int.toNat (IntKind.wrap IntKind.i64 (Int.ofNat (r + 1)))) (Int.toNat (IntKind.wrap IntKind.i64 (Int.ofNat (p + 1))), Int.toNat (IntKind.wrap IntKind.i64 (Int.ofNat (c + 2))), Int.toNat (if IntKind.wrap IntKind.i64 ((↑c : Int) + 2) > (↑u : Int) then IntKind.wrap IntKind.i64 (Int.ofNat (c + 2)) else Int.ofNat u)) [PV.int IntKind.i64 k', PV.int IntKind.i64 n', PV.str s', PV.slice (Dats.len ks') (Dats.cells ks')]))))], ty := 79 }, { cs := [PV.iface 75 (PV.ptr 0 0), PV.int IntKind.i64 (Int.ofNat w)], ty := 72 }, { cs := [PV.int IntKind.i64 k, PV.int IntKind.i64 n, PV.str s, PV.slice (Dats.len ks) (Dats.cells ks)], ty := 24 }, { cs := [PV.int IntKind.i64 k', PV.int IntKind.i64 n', PV.str s', PV.slice (Dats.len ks') (Dats.cells ks')], ty := 24 }], rw := [] } }) (o := [(decide ((↑j : Int) < (↑(Dats.len ks) : Int)), true), (true, true), (decide (0 ≤ (↑j : Int) ∧ (↑j : Int) < (↑(Dats.len ks) : Int)), true), (decide (TD.size d24 ≤ List.length (List.drop (Int.toNat (↑j : Int) * TD.size d24) (Dats.cells ks))), true), (same (PV.agg (List.take 4 (List.drop (Int.toNat (Int.ofNat j) * 4) (Dats.cells ks)))) (PV.agg [PV.int IntKind.i64 k', PV.int IntKind.i64 n', PV.str s', PV.slice (Dats.len ks') (Dats.cells ks')]), true), (Int.ofNat j == IntKind.wrap IntKind.i64 (Int.ofNat (Dats.len ks) - (1 : Int)), true), (true, true), (Int.ofNat j == (0 : Int), false), (false, false), (isLay N [PV.int IntKind.i64 k', PV.int IntKind.i64 n', PV.str s', PV.slice (Dats.len ks') (Dats.cells ks')], true), (decide (0 ≤ (↑w : Int) ∧ (↑w : Int) ≤ 4398046511104), true), (decide (0 ≤ IntKind.wrap IntKind.i64 ((↑c : Int) + 2) ∧ IntKind.wrap IntKind.i64 ((↑c : Int) + 2) + 2 * (↑N : Int) ≤ 4398046511104), true), (decide (0 ≤ IntKind.wrap IntKind.i64 ((↑r : Int) + 1) ∧ IntKind.wrap IntKind.i64 ((↑r : Int) + 1) + (↑N : Int) ≤ 4398046511104), true), (decide (0 ≤ IntKind.wrap IntKind.i64 ((↑p : Int) + 1)), true), (decide (0 ≤ IntKind.wrap IntKind.i64 ((↑c : Int) + 2)), true), (decide (0 ≤ if IntKind.wrap IntKind.i64 ((↑c : Int) + 2) > (↑u : Int) then IntKind.wrap IntKind.i64 ((↑c : Int) + 2) else (↑u : Int)), true), (Nat.ble (Int.toNat (IntKind.wrap IntKind.i64 (Int.ofNat (p + 1))) + lrC (Int.toNat (Int.ofNat w)) (Int.toNat (IntKind.wrap IntKind.i64 (Int.ofNat (c + 2)))) (Int.toNat (IntKind.wrap IntKind.i64 (Int.ofNat (r + 1)))) [PV.int IntKind.i64 k', PV.int IntKind.i64 n', PV.str s', PV.slice (Dats.len ks') (Dats.cells ks')]) 140737488355328, true), (Nat.ble (Int.toNat (IntKind.wrap IntKind.i64 (Int.ofNat (c + 2))) + lrC (Int.toNat (Int.ofNat w)) (Int.toNat (IntKind.wrap IntKind.i64 (Int.ofNat (c + 2)))) (Int.toNat (IntKind.wrap IntKind.i64 (Int.ofNat (r + 1)))) [PV.int IntKind.i64 k', PV.int IntKind.i64 n', PV.str s', PV.slice (Dats.len ks') (Dats.cells ks')]) 140737488355328, true)]) (by kernel_rfl) (by clear hPs; (repeat' (first | exact okO_nil | refine okN ?_ ?_)); all_goals first | (with_reducible rfl) | assumption | (simp only [Int.ofNat_eq_natCast, wc1, wc1', wc2, wc2', wr1, wr1', wp1, wp1', Int.toNat_natCast, mxC, hlr]; done) | ((try simp only [Int.ofNat_eq_natCast, wc1, wc1', wc2, wc2', wr1, wr1', wp1, wp1', Int.toNat_natCast, mxC, hlr]); simp only [decide_eq_true_eq, decide_eq_false_iff_not, Nat.ble_eq, Nat.beq_eq]; omega)) (fun st hs => ⟨⟨j + 1, hlt⟩, Nat.sub_lt_sub_left hlt (Nat.lt_succ_self j), [DB k' n' s' ks'], ?_⟩)
      rw [hs]
      simp only [T, hPs]
      simp only [Int.ofNat_eq_natCast, wc1, wc1', wc2, wc2', wr1, wr1', wp1, wp1', Int.toNat_natCast, mxC, hlr, hlm, wj']
      rfl
    · have e1 : (Int.ofNat j == IntKind.wrap IntKind.i64 (Int.ofNat (Dats.len ks) - (1 : Int))) = false := by
        rw [wl, beq_eq_false_iff_ne]
        show (j : Int) ≠ _
        omega
      have e2 : (Int.ofNat j == (0 : Int)) = false := by
        rw [beq_eq_false_iff_ne]
        show (j : Int) ≠ 0
        omega
      have hPs : P (j + 1) = layG mS w (.mk k' n' s' ks') (c + 2) (0) (p + 1, c + 2, max u (c + 2)) := by
        simp only [hPn, and_true, decide_eq_true_eq, if_neg hz, if_neg hl]
        try rfl
      simp only [if_neg hz, if_neg hl, List.length_nil, List.length_cons, List.length_replicate] at hbd hbd2
      clear hPn
      refine SWP.runQ (SM ih [(79, [(44, true), (46, true), (47, true), (53, false), (57, false)])] [(79, [(47, .agg [.int .i64 k', .int .i64 n', .str s', .slice ks'.len ks'.cells])])]) 100 79 hnt [2, 3, 4, 5, 41, 42, 43] (e := .normal) (z := { t := [(2, PV.int IntKind.i64 (Int.ofNat c)), (3, PV.int IntKind.i64 (Int.ofNat r)), (4, PV.ptr 1 0), (5, PV.ptr 2 0), (41, PV.slice (Dats.len ks) (Dats.cells ks)), (42, PV.int IntKind.i64 (Int.ofNat (Dats.len ks))), (43, PV.int IntKind.i64 (IntKind.wrap IntKind.i64 (Int.ofNat (j + 1))))], h := { bx := [{ cs := [PV.int IntKind.i64 (Int.ofNat (Prod.fst (lmC (Int.toNat (Int.ofNat w)) (Int.toNat (IntKind.wrap IntKind.i64 (Int.ofNat (c + 2)))) 0 (Int.toNat (IntKind.wrap IntKind.i64 (Int.ofNat (p + 1))), Int.toNat (IntKind.wrap IntKind.i64 (Int.ofNat (c + 2))), Int.toNat (if IntKind.wrap IntKind.i64 ((↑c : Int) + 2) > (↑u : Int) then IntKind.wrap IntKind.i64 (Int.ofNat (c + 2)) else Int.ofNat u)) [PV.int IntKind.i64 k', PV.int IntKind.i64 n', PV.str s', PV.slice (Dats.len ks') (Dats.cells ks')]))), PV.int IntKind.i64 (Int.ofNat (Prod.fst (Prod.snd (lmC (Int.toNat (Int.ofNat w)) (Int.toNat (IntKind.wrap IntKind.i64 (Int.ofNat (c + 2)))) 0 (Int.toNat (IntKind.wrap IntKind.i64 (Int.ofNat (p + 1))), Int.toNat (IntKind.wrap IntKind.i64 (Int.ofNat (c + 2))), Int.toNat (if IntKind.wrap IntKind.i64 ((↑c : Int) + 2) > (↑u : Int) then IntKind.wrap IntKind.i64 (Int.ofNat (c + 2)) else Int.ofNat u)) [PV.int IntKind.i64 k', PV.int IntKind.i64 n', PV.str s', PV.slice (Dats.len ks') (Dats.cells ks')])))), PV.int IntKind.i64 (Int.ofNat (Prod.snd (Prod.snd (lmC (Int.toNat (Int.ofNat w)) (Int.toNat (IntKind.wrap IntKind.i64 (Int.ofNat (c + 2)))) 0 (Int.toNat (IntKind.wrap IntKind.i64 (Int.ofNat (p + 1))), Int.toNat (IntKind.wrap IntKind.i64 (Int.ofNat (c + 2))), Int.toNat (if IntKind.wrap IntKind.i64 ((↑c : Int) + 2) > (↑u : Int) then IntKind.wrap IntKind.i64 (Int.ofNat (c + 2)) else Int.ofNat u)) [PV.int IntKind.i64 k', PV.int IntKind.i64 n', PV.str s', PV.slice (Dats.len ks') (Dats.cells ks')]))))], ty := 79 }, { cs := [PV.iface 75 (PV.ptr 0 0), PV.int IntKind.i64 (Int.ofNat w)], ty := 72 }, { cs := [PV.int IntKind.i64 k, PV.int IntKind.i64 n, PV.str s, PV.slice (Dats.len ks) (Dats.cells ks)], ty := 24 }, { cs := [PV.int IntKind.i64 k', PV.int IntKind.i64 n', PV.str s', PV.slice (Dats.len ks') (Dats.cells ks')], ty := 24 }], rw := [] } }) (o := [(decide ((↑j : Int) < (↑(Dats.len ks) : Int)), true), (true, true), (decide (0 ≤ (↑j : Int) ∧ (↑j : Int) < (↑(Dats.len ks) : Int)), true), (decide (TD.size d24 ≤ List.length (List.drop (Int.toNat (↑j : Int) * TD.size d24) (Dats.cells ks))), true), (same (PV.agg (List.take 4 (List.drop (Int.toNat (Int.ofNat j) * 4) (Dats.cells ks)))) (PV.agg [PV.int IntKind.i64 k', PV.int IntKind.i64 n', PV.str s', PV.slice (Dats.len ks') (Dats.cells ks')]), true), (Int.ofNat j == IntKind.wrap IntKind.i64 (Int.ofNat (Dats.len ks) - (1 : Int)), false), (false, false), (Int.ofNat j == (0 : Int), false), (false, false), (isLay N [PV.int IntKind.i64 k', PV.int IntKind.i64 n', PV.str s', PV.slice (Dats.len ks') (Dats.cells ks')], true), (decide (0 ≤ (↑w : Int) ∧ (↑w : Int) ≤ 4398046511104), true), (decide (0 ≤ IntKind.wrap IntKind.i64 ((↑c : Int) + 2) ∧ IntKind.wrap IntKind.i64 ((↑c : Int) + 2) + 2 * (↑N : Int) ≤ 4398046511104), true), (decide ((0 : Int) ≤ 0 ∧ 0 + (↑N : Int) ≤ 4398046511104), true), (decide (0 ≤ IntKind.wrap IntKind.i64 ((↑p : Int) + 1)), true), (decide (0 ≤ IntKind.wrap IntKind.i64 ((↑c : Int) + 2)), true), (decide (0 ≤ if IntKind.wrap IntKind.i64 ((↑c : Int) + 2) > (↑u : Int) then IntKind.wrap IntKind.i64 ((↑c : Int) + 2) else (↑u : Int)), true), (Nat.ble (Int.toNat (IntKind.wrap IntKind.i64 (Int.ofNat (p + 1))) + lrC (Int.toNat (Int.ofNat w)) (Int.toNat (IntKind.wrap IntKind.i64 (Int.ofNat (c + 2)))) 0 [PV.int IntKind.i64 k', PV.int IntKind.i64 n', PV.str s', PV.slice (Dats.len ks') (Dats.cells ks')]) 140737488355328, true), (Nat.ble (Int.toNat (IntKind.wrap IntKind.i64 (Int.ofNat (c + 2))) + lrC (Int.toNat (Int.ofNat w)) (Int.toNat (IntKind.wrap IntKind.i64 (Int.ofNat (c + 2)))) 0 [PV.int IntKind.i64 k', PV.int IntKind.i64 n', PV.str s', PV.slice (Dats.len ks') (Dats.cells ks')]) 140737488355328, true)]) (by kernel_rfl) (by clear hPs; (repeat' (first | exact okO_nil | refine okN ?_ ?_)); all_goals first | (with_reducible rfl) | assumption | (simp only [Int.ofNat_eq_natCast, wc1, wc1', wc2, wc2', wr1, wr1', wp1, wp1', Int.toNat_natCast, mxC, hlr]; done) | ((try simp only [Int.ofNat_eq_natCast, wc1, wc1', wc2, wc2', wr1, wr1', wp1, wp1', Int.toNat_natCast, mxC, hlr]); simp only [decide_eq_true_eq, decide_eq_false_iff_not, Nat.ble_eq, Nat.beq_eq]; omega)) (fun st hs => ⟨⟨j + 1, hlt⟩, Nat.sub_lt_sub_left hlt (Nat.lt_succ_self j), [DB k' n' s' ks'], ?_⟩)
      rw [hs]
      simp only [T, hPs]
      simp only [Int.ofNat_eq_natCast, wc1, wc1', wc2, wc2', wr1, wr1', wp1, wp1', Int.toNat_natCast, mxC, hlr, hlm, wj']
      rfl
  · obtain rfl : j = ks.len := by omega
    have d2 := ge_at hge
    have hpl : (P ks.len).2.1 ≤ y + 1 + (layTL w ks true c r true).length := by
      rw [hPl]
      exact (met_lenL w ks true c r true (x, y + 1, max z (y + 1))).2
    show SWP G0 C _ _ ⟨[(2, .int .i64 c), (3, .int .i64 r), (4, .ptr 1 0), (5, .ptr 2 0), (41, .slice ks.len ks.cells), (42, .int .i64 ks.len), (43, .int .i64 ks.len)], ⟨[mT (P ks.len), LM w, DB k n s ks], []⟩⟩
    obtain ⟨p, q, u, hp⟩ : ∃ p q u, P ks.len = (p, q, u) := ⟨_, _, _, rfl⟩
    rw [hp] at hpl hPl ⊢
    simp only [] at hpl
    have wq := wrapC (q + 1) (by omega)
    have wq' : IntKind.wrap IntKind.i64 ((↑q : Int) + (↑(ByteArray.size { data := #[41] }) : Int)) = ((q + 1 : Nat) : Int) := wq
    refine SWP.runQ (SM ih [(79, [(44, false)])] []) 100 79 hnt [2, 3, 4, 5] (e := .exit 0) (z := ⟨[(2, .int .i64 c), (3, .int .i64 r), (4, .ptr 1 0), (5, .ptr 2 0)], ⟨[mT (p, q, u), LM w, DB k n s ks], []⟩⟩) (o := [(decide ((ks.len : Int) < (ks.len : Int)), false), (false, false)]) (by kernel_rfl) (by ((repeat' (first | exact okO_nil | refine okN ?_ ?_)); all_goals first | assumption | rfl | exact same_of rfl | exact sameS_self _ | (simp only [decide_eq_true_eq, decide_eq_false_iff_not, Nat.ble_eq, Nat.beq_eq, beq_eq_false_iff_ne, beq_iff_eq, ne_eq] <;> omega))) (fun st hs => hK2 st (.norm [2, 3, 4, 5] ?_))
    rw [hs]
    refine SWP.runQ (SM ih [] []) 100 79 hnt [] (e := .normal) (z := { t := [], h := { bx := [{ cs := [PV.int IntKind.i64 (Int.ofNat p), PV.int IntKind.i64 (IntKind.wrap IntKind.i64 (Int.ofNat (q + 1))), PV.int IntKind.i64 (if IntKind.wrap IntKind.i64 ((↑q : Int) + (↑(ByteArray.size { data := #[41] }) : Int)) > (↑u : Int) then IntKind.wrap IntKind.i64 (Int.ofNat (q + 1)) else Int.ofNat u)], ty := 79 }, { cs := [PV.iface 75 (PV.ptr 0 0), PV.int IntKind.i64 (Int.ofNat w)], ty := 72 }, { cs := [PV.int IntKind.i64 k, PV.int IntKind.i64 n, PV.str s, PV.slice (Dats.len ks) (Dats.cells ks)], ty := 24 }], rw := [] } }) (o := []) (by kernel_rfl) (by ((repeat' (first | exact okO_nil | refine okN ?_ ?_)); all_goals first | assumption | rfl | exact same_of rfl | exact sameS_self _ | (simp only [decide_eq_true_eq, decide_eq_false_iff_not, Nat.ble_eq, Nat.beq_eq, beq_eq_false_iff_ne, beq_iff_eq, ne_eq] <;> omega))) (fun st hs => fin st (p, q + 1, max u (q + 1)) (by rw [lg, ← hPl]; rfl) ?_)
    rw [hs]
    simp only [Int.ofNat_eq_natCast, wq, wq', mxC]
    rfl
theorem metAt (N : Nat) : MetAt N := by
  induction N with
  | zero => intro d h; omega
  | succ N ih => exact fun d hN hok hrng hf ht w c r hw hc hr x y z hx hy => met_gen ih d hN hok hrng hf ht w c r hw hc hr x y z hx hy
end Seat
end Go.Proofs.YtkblfapbakfgpaaDoor
/- Layout: the document's layout of a datum. Printed by dev/lay3.py and dev/nfsub.py (this session's). -/
namespace Go.Proofs.YtkblfapbakfgpaaDoor
open Go.AS Go.RowKit
set_option linter.unusedVariables false
set_option linter.unusedSimpArgs false
set_option maxRecDepth 100000
set_option maxHeartbeats 4000000
namespace Seat
noncomputable def rlC (w c r : Nat) (b : List UInt8) (cs : List PV) : List UInt8 := ofCells (fun d => layG rS w d c r b) [] cs
theorem rlC_at (w c r : Nat) (b : List UInt8) (d : Dat) : rlC w c r b d.cells = layG rS w d c r b := ofCells_at _ _ d
def RLayAt (N : Nat) : Prop := ∀ d : Dat, d.size < N → d.ok → d.rng → formedD d = true → (textD d).length ≤ 4398046511104 → ∀ w c r : Nat, w ≤ 4398046511104 → c + 2 * N ≤ 4398046511104 → r + N ≤ 4398046511104 → ∀ b : List UInt8, b.length + (layT w d c r).length ≤ 140737488355328 →
  RCalls G0 32 [.own 0 b.length, .agg d.cells, .int .i64 c, .int .i64 r, .int .i64 w] ⟨[], [some (bR (bytesPL b) b.length)]⟩ (fun o H => o = .ret (.own 0 (layG rS w d c r b).length) ∧ H = ⟨[], [some (bR (bytesPL (layG rS w d c r b)) (layG rS w d c r b).length)]⟩)
noncomputable def rlayV (N : Nat) (f : Nat) (xs : List PV) (H : Hp) : Option (PV × Hp × Ob) := match f, xs, H with
  | 32, [.own 0 n, .agg cs, .int .i64 c, .int .i64 r, .int .i64 w], ⟨[], [some ⟨rc, m, e, 1⟩]⟩ => match Nat.beq e 5 with
    | true => some (.own 0 (rlC w.toNat c.toNat r.toNat (bytesOf rc) cs).length, ⟨[], [some ⟨bytesPL (rlC w.toNat c.toNat r.toNat (bytesOf rc) cs), (rlC w.toNat c.toNat r.toNat (bytesOf rc) cs).length, e, 1⟩]⟩,
        [(isLay N cs, true), (decide (0 ≤ w ∧ w ≤ 4398046511104), true), (decide (0 ≤ c ∧ c + 2 * (N : Int) ≤ 4398046511104), true), (decide (0 ≤ r ∧ r + (N : Int) ≤ 4398046511104), true), (Nat.beq n m, true), (Nat.beq rc.length m, true), (isBytes8 rc, true), (Nat.ble (m + lrC w.toNat c.toNat r.toNat cs) 140737488355328, true)])
    | false => none
  | _, _, _ => none
theorem rlayV_ok {N : Nat} (ih : RLayAt N) (f : Nat) (xs : List PV) (H : Hp) (r : PV) (H' : Hp) (o : Ob) (h : rlayV N f xs H = some (r, H', o)) (ho : ∀ p ∈ o, p.1 = p.2) : RCalls G0 f xs H (fun o' H2 => o' = .ret r ∧ H2 = H') ∧ r.scP (belowN H'.bx.length) (belowN H'.rw.length) = true ∧ H'.scB H'.bx.length H'.rw.length = true := by
  unfold rlayV at h
  split at h
  · rename_i n cs c r' w rc m e
    split at h
    · rename_i hc
      cases h
      simp only [Nat.beq_eq] at hc
      subst hc
      obtain ⟨d, rfl, h1, h2, h3, h4, h5⟩ := isLay_of (ho (isLay N cs, true) (by simp))
      have g1 := of_decide_eq_true (ho (decide (0 ≤ w ∧ w ≤ 4398046511104), true) (by simp))
      have g2 := of_decide_eq_true (ho (decide (0 ≤ c ∧ c + 2 * (N : Int) ≤ 4398046511104), true) (by simp))
      have g3 := of_decide_eq_true (ho (decide (0 ≤ r' ∧ r' + (N : Int) ≤ 4398046511104), true) (by simp))
      have g4 := ho (Nat.beq n m, true) (by simp)
      have g5 := ho (Nat.beq rc.length m, true) (by simp)
      have g6 := ho (isBytes8 rc, true) (by simp)
      have g7 := ho (Nat.ble (m + lrC w.toNat c.toNat r'.toNat d.cells) 140737488355328, true) (by simp)
      simp only [Nat.beq_eq, Nat.ble_eq] at g4 g5 g7
      subst g4
      rw [lrC_at] at g7
      rw [rlC_at]
      have hb := bytesPL_of8 rc g6
      have hbl : (bytesOf rc).length = n := by rw [bytesOf_length]; exact g5
      have key := ih d h1 h2 h3 h4 h5 w.toNat c.toNat r'.toNat (by omega) (by omega) (by omega) (bytesOf rc) (by rw [hbl]; exact g7)
      rw [hbl, hb, Int.toNat_of_nonneg g1.1, Int.toNat_of_nonneg g2.1, Int.toNat_of_nonneg g3.1] at key
      exact ⟨key, rfl, rfl⟩
    · cases h
  · cases h
noncomputable def SLR {N : Nat} (ih : RLayAt N) (l : List (Nat × List (Nat × Bool))) (v : List (Nat × List (Nat × PV))) : Cfg G0 := { F := F, hF := hF, S := txS, hS := txS_ok, V := rlayV N, hV := rlayV_ok ih, orc := orcM l, val := valM v }
def RLSt (x : PV) (rws : List (Option Row)) (b : List UInt8) : Prop := (x = .own 0 b.length ∧ rws = [some (bR (bytesPL b) b.length)]) ∨ (x = .nil ∧ rws = [] ∧ b = [])
theorem rlay_gen {N : Nat} (ih : RLayAt N) (d : Dat) (hN : d.size < N + 1) (hok : d.ok) (hrng : d.rng) (hfm : formedD d = true) (htl : (textD d).length ≤ 4398046511104) (w c r : Nat) (hw : w ≤ 4398046511104) (hc : c + 2 * (N + 1) ≤ 4398046511104) (hr : r + (N + 1) ≤ 4398046511104)
    (x : PV) (rws : List (Option Row)) (b : List UInt8) (hB : RLSt x rws b) (hb : b.length + (layT w d c r).length ≤ 140737488355328) :
    RCalls G0 32 [x, .agg d.cells, .int .i64 c, .int .i64 r, .int .i64 w] ⟨[], rws⟩ (fun o H => o = .ret (.own 0 (layG rS w d c r b).length) ∧ H = ⟨[], [some (bR (bytesPL (layG rS w d c r b)) (layG rS w d c r b).length)]⟩) := by
  obtain ⟨k, n, s, ks⟩ := d
  have hlen := hok.1
  have tx : txC [PV.int IntKind.i64 k, PV.int IntKind.i64 n, PV.str s, PV.slice (Dats.len ks) (Dats.cells ks)] = textD (.mk k n s ks) := txC_at (.mk k n s ks)
  have c1 : isTxt [PV.int IntKind.i64 k, PV.int IntKind.i64 n, PV.str s, PV.slice (Dats.len ks) (Dats.cells ks)] = true := isTxt_at (d := .mk k n s ks) hok hrng (by omega)
  refine Fn.enterH Tryd.func32 Tryd.ntmps32 rfl (Nat.le_of_ble_eq_true rfl) fun C fr fp hnt hnb hfr => ?_
  have fin : ∀ st l, l = layG rS w (.mk k n s ks) c r b → nrm [10] st = ⟨[(10, .own 0 l.length)], ⟨[DB k n s ks], [some (bR (bytesPL l) l.length)]⟩⟩ → fr st := fun st l hl hs => hfr st [10] (by
    rw [hs, ← hl]
    rcases hB with ⟨rfl, rfl⟩ | ⟨rfl, rfl, _⟩
    · exact ⟨0, 1, .own 0 l.length, Nat.le_refl _, Nat.zero_le _, Nat.le_refl _, Nat.le_refl _, rfl, rfl, rfl, rfl, rfl⟩
    · exact ⟨0, 1, .own 0 l.length, Nat.le_refl _, Nat.zero_le _, Nat.zero_le _, Nat.le_refl _, rfl, rfl, rfl, rfl, rfl⟩)
  have hmt : ∀ t, rS.more t = true := fun _ => rfl
  have hsz : ByteArray.size (mkS (txC [PV.int IntKind.i64 k, PV.int IntKind.i64 n, PV.str s, PV.slice (Dats.len ks) (Dats.cells ks)])) = (textD (.mk k n s ks)).length := by rw [tx]; rfl
  have hwr : IntKind.wrap IntKind.i64 (IntKind.wrap IntKind.i64 ((↑c : Int) + (↑(ByteArray.size (mkS (txC [PV.int IntKind.i64 k, PV.int IntKind.i64 n, PV.str s, PV.slice (Dats.len ks) (Dats.cells ks)]))) : Int)) + (↑r : Int)) = ((c + (textD (.mk k n s ks)).length + r : Nat) : Int) := by
    rw [hsz]; exact wrap3 _ _ _ (by omega)
  have short : ∀ (hs : ks.len = 0 ∨ c + (textD (.mk k n s ks)).length + r ≤ w), layG rS w (.mk k n s ks) c r b = b ++ textD (.mk k n s ks) ∧ b.length + (textD (.mk k n s ks)).length ≤ 140737488355328 := fun hs => by
    refine ⟨by rw [layG, hmt]; simp only []; rw [if_pos hs]; rfl, ?_⟩
    have : layT w (.mk k n s ks) c r = textD (.mk k n s ks) := by
      unfold layT
      rw [layG]
      simp only [rS]
      rw [if_pos hs]
      simp
    rw [this] at hb
    exact hb
  have hfk : (k ≠ 3 → ks.len = 0) ∧ (k = 3 → formedL ks = true) := by
    simp only [formedD, Bool.or_eq_true, Bool.and_eq_true, decide_eq_true_eq] at hfm
    rcases hfm with (h | h) | h
    · exact ⟨fun _ => h.2, fun h3 => absurd (h.1.1.symm.trans h3) (by decide)⟩
    · exact ⟨fun _ => h.2, fun h3 => absurd (h.1.1.1.symm.trans h3) (by decide)⟩
    · exact ⟨fun h3 => absurd h.1.1.1 h3, fun _ => h.2⟩
  by_cases hk : k = 3
  case neg =>
    obtain ⟨lg, hb2⟩ := short (.inl (hfk.1 hk))
    have c2 : (!k == (3 : Int)) = true := by rw [Bool.not_eq_true', beq_eq_false_iff_ne]; exact hk
    rcases hB with ⟨rfl, rfl⟩ | ⟨rfl, rfl, rfl⟩
    · have c4 : Nat.ble (List.length b + ByteArray.size (mkS (txC [PV.int IntKind.i64 k, PV.int IntKind.i64 n, PV.str s, PV.slice (Dats.len ks) (Dats.cells ks)]))) 140737488355328 = true := by rw [Nat.ble_eq, hsz]; exact hb2
      refine SWP.runQ (SLR ih [(88, [(20, true), (39, true)])] []) 100 88 hnt [10] (e := .ret) (z := { t := [(10, PV.own 0 (List.length b + ByteArray.size (mkS (txC [PV.int IntKind.i64 k, PV.int IntKind.i64 n, PV.str s, PV.slice (Dats.len ks) (Dats.cells ks)]))))], h := { bx := [{ cs := [PV.int IntKind.i64 k, PV.int IntKind.i64 n, PV.str s, PV.slice (Dats.len ks) (Dats.cells ks)], ty := 24 }], rw := [some { cs := bytesPL b ++ bytesPV (mkS (txC [PV.int IntKind.i64 k, PV.int IntKind.i64 n, PV.str s, PV.slice (Dats.len ks) (Dats.cells ks)])), n := List.length b + ByteArray.size (mkS (txC [PV.int IntKind.i64 k, PV.int IntKind.i64 n, PV.str s, PV.slice (Dats.len ks) (Dats.cells ks)])), ty := 5, sz := 1 }] } }) (o := [(true, true), (isTxt [PV.int IntKind.i64 k, PV.int IntKind.i64 n, PV.str s, PV.slice (Dats.len ks) (Dats.cells ks)], true), (!k == (3 : Int), true), (Nat.ble (List.length b + ByteArray.size (mkS (txC [PV.int IntKind.i64 k, PV.int IntKind.i64 n, PV.str s, PV.slice (Dats.len ks) (Dats.cells ks)]))) 140737488355328, true)]) (by kernel_rfl) (by ((repeat' (first | exact okO_nil | refine okN ?_ ?_)); all_goals first | assumption | rfl | exact same_of rfl | exact sameS_self _ | (simp only [decide_eq_true_eq, decide_eq_false_iff_not, Nat.ble_eq, Nat.beq_eq, beq_eq_false_iff_ne, beq_iff_eq, ne_eq] <;> omega))) (fun st hs => fin st _ lg.symm ?_)
      rw [hs, tx, bytesPL_append, List.length_append]; rfl
    · have c4 : Nat.ble (0 + ByteArray.size (mkS (txC [PV.int IntKind.i64 k, PV.int IntKind.i64 n, PV.str s, PV.slice (Dats.len ks) (Dats.cells ks)]))) 140737488355328 = true := by rw [Nat.ble_eq, hsz]; exact hb2
      refine SWP.runQ (SLR ih [(88, [(20, true), (39, true)])] []) 100 88 hnt [10] (e := .ret) (z := { t := [(10, PV.own 0 (0 + ByteArray.size (mkS (txC [PV.int IntKind.i64 k, PV.int IntKind.i64 n, PV.str s, PV.slice (Dats.len ks) (Dats.cells ks)]))))], h := { bx := [{ cs := [PV.int IntKind.i64 k, PV.int IntKind.i64 n, PV.str s, PV.slice (Dats.len ks) (Dats.cells ks)], ty := 24 }], rw := [some { cs := [] ++ bytesPV (mkS (txC [PV.int IntKind.i64 k, PV.int IntKind.i64 n, PV.str s, PV.slice (Dats.len ks) (Dats.cells ks)])), n := 0 + ByteArray.size (mkS (txC [PV.int IntKind.i64 k, PV.int IntKind.i64 n, PV.str s, PV.slice (Dats.len ks) (Dats.cells ks)])), ty := 5, sz := 1 }] } }) (o := [(true, true), (isTxt [PV.int IntKind.i64 k, PV.int IntKind.i64 n, PV.str s, PV.slice (Dats.len ks) (Dats.cells ks)], true), (!k == (3 : Int), true), (Nat.ble (0 + ByteArray.size (mkS (txC [PV.int IntKind.i64 k, PV.int IntKind.i64 n, PV.str s, PV.slice (Dats.len ks) (Dats.cells ks)]))) 140737488355328, true)]) (by kernel_rfl) (by ((repeat' (first | exact okO_nil | refine okN ?_ ?_)); all_goals first | assumption | rfl | exact same_of rfl | exact sameS_self _ | (simp only [decide_eq_true_eq, decide_eq_false_iff_not, Nat.ble_eq, Nat.beq_eq, beq_eq_false_iff_ne, beq_iff_eq, ne_eq] <;> omega))) (fun st hs => fin st _ lg.symm ?_)
      rw [hs, tx, bytesPL_append, List.length_append]; rfl
  have c2 : (!k == (3 : Int)) = false := by rw [Bool.not_eq_false', beq_iff_eq]; exact hk
  by_cases h0 : ks.len = 0
  case pos =>
    obtain ⟨lg, hb2⟩ := short (.inl h0)
    have c3 : (Int.ofNat (Dats.len ks) == (0 : Int)) = true := by rw [h0]; rfl
    rcases hB with ⟨rfl, rfl⟩ | ⟨rfl, rfl, rfl⟩
    · have c4 : Nat.ble (List.length b + ByteArray.size (mkS (txC [PV.int IntKind.i64 k, PV.int IntKind.i64 n, PV.str s, PV.slice (Dats.len ks) (Dats.cells ks)]))) 140737488355328 = true := by rw [Nat.ble_eq, hsz]; exact hb2
      refine SWP.runQ (SLR ih [(88, [(20, false), (25, true), (39, true)])] []) 100 88 hnt [10] (e := .ret) (z := { t := [(10, PV.own 0 (List.length b + ByteArray.size (mkS (txC [PV.int IntKind.i64 k, PV.int IntKind.i64 n, PV.str s, PV.slice (Dats.len ks) (Dats.cells ks)]))))], h := { bx := [{ cs := [PV.int IntKind.i64 k, PV.int IntKind.i64 n, PV.str s, PV.slice (Dats.len ks) (Dats.cells ks)], ty := 24 }], rw := [some { cs := bytesPL b ++ bytesPV (mkS (txC [PV.int IntKind.i64 k, PV.int IntKind.i64 n, PV.str s, PV.slice (Dats.len ks) (Dats.cells ks)])), n := List.length b + ByteArray.size (mkS (txC [PV.int IntKind.i64 k, PV.int IntKind.i64 n, PV.str s, PV.slice (Dats.len ks) (Dats.cells ks)])), ty := 5, sz := 1 }] } }) (o := [(true, true), (isTxt [PV.int IntKind.i64 k, PV.int IntKind.i64 n, PV.str s, PV.slice (Dats.len ks) (Dats.cells ks)], true), (!k == (3 : Int), false), (Int.ofNat (Dats.len ks) == (0 : Int), true), (Nat.ble (List.length b + ByteArray.size (mkS (txC [PV.int IntKind.i64 k, PV.int IntKind.i64 n, PV.str s, PV.slice (Dats.len ks) (Dats.cells ks)]))) 140737488355328, true)]) (by kernel_rfl) (by ((repeat' (first | exact okO_nil | refine okN ?_ ?_)); all_goals first | assumption | rfl | exact same_of rfl | exact sameS_self _ | (simp only [decide_eq_true_eq, decide_eq_false_iff_not, Nat.ble_eq, Nat.beq_eq, beq_eq_false_iff_ne, beq_iff_eq, ne_eq] <;> omega))) (fun st hs => fin st _ lg.symm ?_)
      rw [hs, tx, bytesPL_append, List.length_append]; rfl
    · have c4 : Nat.ble (0 + ByteArray.size (mkS (txC [PV.int IntKind.i64 k, PV.int IntKind.i64 n, PV.str s, PV.slice (Dats.len ks) (Dats.cells ks)]))) 140737488355328 = true := by rw [Nat.ble_eq, hsz]; exact hb2
      refine SWP.runQ (SLR ih [(88, [(20, false), (25, true), (39, true)])] []) 100 88 hnt [10] (e := .ret) (z := { t := [(10, PV.own 0 (0 + ByteArray.size (mkS (txC [PV.int IntKind.i64 k, PV.int IntKind.i64 n, PV.str s, PV.slice (Dats.len ks) (Dats.cells ks)]))))], h := { bx := [{ cs := [PV.int IntKind.i64 k, PV.int IntKind.i64 n, PV.str s, PV.slice (Dats.len ks) (Dats.cells ks)], ty := 24 }], rw := [some { cs := [] ++ bytesPV (mkS (txC [PV.int IntKind.i64 k, PV.int IntKind.i64 n, PV.str s, PV.slice (Dats.len ks) (Dats.cells ks)])), n := 0 + ByteArray.size (mkS (txC [PV.int IntKind.i64 k, PV.int IntKind.i64 n, PV.str s, PV.slice (Dats.len ks) (Dats.cells ks)])), ty := 5, sz := 1 }] } }) (o := [(true, true), (isTxt [PV.int IntKind.i64 k, PV.int IntKind.i64 n, PV.str s, PV.slice (Dats.len ks) (Dats.cells ks)], true), (!k == (3 : Int), false), (Int.ofNat (Dats.len ks) == (0 : Int), true), (Nat.ble (0 + ByteArray.size (mkS (txC [PV.int IntKind.i64 k, PV.int IntKind.i64 n, PV.str s, PV.slice (Dats.len ks) (Dats.cells ks)]))) 140737488355328, true)]) (by kernel_rfl) (by ((repeat' (first | exact okO_nil | refine okN ?_ ?_)); all_goals first | assumption | rfl | exact same_of rfl | exact sameS_self _ | (simp only [decide_eq_true_eq, decide_eq_false_iff_not, Nat.ble_eq, Nat.beq_eq, beq_eq_false_iff_ne, beq_iff_eq, ne_eq] <;> omega))) (fun st hs => fin st _ lg.symm ?_)
      rw [hs, tx, bytesPL_append, List.length_append]; rfl
  have c3 : (Int.ofNat (Dats.len ks) == (0 : Int)) = false := by rw [beq_eq_false_iff_ne]; show (ks.len : Int) ≠ 0; omega
  by_cases hft : c + (textD (.mk k n s ks)).length + r ≤ w
  case pos =>
    obtain ⟨lg, hb2⟩ := short (.inr hft)
    have c5 : decide (IntKind.wrap IntKind.i64 (IntKind.wrap IntKind.i64 ((↑c : Int) + (↑(ByteArray.size (mkS (txC [PV.int IntKind.i64 k, PV.int IntKind.i64 n, PV.str s, PV.slice (Dats.len ks) (Dats.cells ks)]))) : Int)) + (↑r : Int)) ≤ (↑w : Int)) = true := by rw [hwr, decide_eq_true_eq]; omega
    rcases hB with ⟨rfl, rfl⟩ | ⟨rfl, rfl, rfl⟩
    · have c4 : Nat.ble (List.length b + ByteArray.size (mkS (txC [PV.int IntKind.i64 k, PV.int IntKind.i64 n, PV.str s, PV.slice (Dats.len ks) (Dats.cells ks)]))) 140737488355328 = true := by rw [Nat.ble_eq, hsz]; exact hb2
      refine SWP.runQ (SLR ih [(88, [(20, false), (25, false), (35, true), (39, true)])] []) 100 88 hnt [10] (e := .ret) (z := { t := [(10, PV.own 0 (List.length b + ByteArray.size (mkS (txC [PV.int IntKind.i64 k, PV.int IntKind.i64 n, PV.str s, PV.slice (Dats.len ks) (Dats.cells ks)]))))], h := { bx := [{ cs := [PV.int IntKind.i64 k, PV.int IntKind.i64 n, PV.str s, PV.slice (Dats.len ks) (Dats.cells ks)], ty := 24 }], rw := [some { cs := bytesPL b ++ bytesPV (mkS (txC [PV.int IntKind.i64 k, PV.int IntKind.i64 n, PV.str s, PV.slice (Dats.len ks) (Dats.cells ks)])), n := List.length b + ByteArray.size (mkS (txC [PV.int IntKind.i64 k, PV.int IntKind.i64 n, PV.str s, PV.slice (Dats.len ks) (Dats.cells ks)])), ty := 5, sz := 1 }] } }) (o := [(true, true), (isTxt [PV.int IntKind.i64 k, PV.int IntKind.i64 n, PV.str s, PV.slice (Dats.len ks) (Dats.cells ks)], true), (!k == (3 : Int), false), (Int.ofNat (Dats.len ks) == (0 : Int), false), (decide (IntKind.wrap IntKind.i64 (IntKind.wrap IntKind.i64 (Int.ofNat (c + ByteArray.size (mkS (txC [PV.int IntKind.i64 k, PV.int IntKind.i64 n, PV.str s, PV.slice (Dats.len ks) (Dats.cells ks)])))) + Int.ofNat r) ≤ Int.ofNat w), true), (Nat.ble (List.length b + ByteArray.size (mkS (txC [PV.int IntKind.i64 k, PV.int IntKind.i64 n, PV.str s, PV.slice (Dats.len ks) (Dats.cells ks)]))) 140737488355328, true)]) (by kernel_rfl) (by ((repeat' (first | exact okO_nil | refine okN ?_ ?_)); all_goals first | assumption | rfl | exact same_of rfl | exact sameS_self _ | (simp only [decide_eq_true_eq, decide_eq_false_iff_not, Nat.ble_eq, Nat.beq_eq, beq_eq_false_iff_ne, beq_iff_eq, ne_eq] <;> omega))) (fun st hs => fin st _ lg.symm ?_)
      rw [hs, tx, bytesPL_append, List.length_append]; rfl
    · have c4 : Nat.ble (0 + ByteArray.size (mkS (txC [PV.int IntKind.i64 k, PV.int IntKind.i64 n, PV.str s, PV.slice (Dats.len ks) (Dats.cells ks)]))) 140737488355328 = true := by rw [Nat.ble_eq, hsz]; exact hb2
      refine SWP.runQ (SLR ih [(88, [(20, false), (25, false), (35, true), (39, true)])] []) 100 88 hnt [10] (e := .ret) (z := { t := [(10, PV.own 0 (0 + ByteArray.size (mkS (txC [PV.int IntKind.i64 k, PV.int IntKind.i64 n, PV.str s, PV.slice (Dats.len ks) (Dats.cells ks)]))))], h := { bx := [{ cs := [PV.int IntKind.i64 k, PV.int IntKind.i64 n, PV.str s, PV.slice (Dats.len ks) (Dats.cells ks)], ty := 24 }], rw := [some { cs := [] ++ bytesPV (mkS (txC [PV.int IntKind.i64 k, PV.int IntKind.i64 n, PV.str s, PV.slice (Dats.len ks) (Dats.cells ks)])), n := 0 + ByteArray.size (mkS (txC [PV.int IntKind.i64 k, PV.int IntKind.i64 n, PV.str s, PV.slice (Dats.len ks) (Dats.cells ks)])), ty := 5, sz := 1 }] } }) (o := [(true, true), (isTxt [PV.int IntKind.i64 k, PV.int IntKind.i64 n, PV.str s, PV.slice (Dats.len ks) (Dats.cells ks)], true), (!k == (3 : Int), false), (Int.ofNat (Dats.len ks) == (0 : Int), false), (decide (IntKind.wrap IntKind.i64 (IntKind.wrap IntKind.i64 (Int.ofNat (c + ByteArray.size (mkS (txC [PV.int IntKind.i64 k, PV.int IntKind.i64 n, PV.str s, PV.slice (Dats.len ks) (Dats.cells ks)])))) + Int.ofNat r) ≤ Int.ofNat w), true), (Nat.ble (0 + ByteArray.size (mkS (txC [PV.int IntKind.i64 k, PV.int IntKind.i64 n, PV.str s, PV.slice (Dats.len ks) (Dats.cells ks)]))) 140737488355328, true)]) (by kernel_rfl) (by ((repeat' (first | exact okO_nil | refine okN ?_ ?_)); all_goals first | assumption | rfl | exact same_of rfl | exact sameS_self _ | (simp only [decide_eq_true_eq, decide_eq_false_iff_not, Nat.ble_eq, Nat.beq_eq, beq_eq_false_iff_ne, beq_iff_eq, ne_eq] <;> omega))) (fun st hs => fin st _ lg.symm ?_)
      rw [hs, tx, bytesPL_append, List.length_append]; rfl
  have hnot : ¬ (ks.len = 0 ∨ c + (textD (.mk k n s ks)).length + r ≤ w) := fun h => h.elim h0 hft
  have c5 : decide (IntKind.wrap IntKind.i64 (IntKind.wrap IntKind.i64 ((↑c : Int) + (↑(ByteArray.size (mkS (txC [PV.int IntKind.i64 k, PV.int IntKind.i64 n, PV.str s, PV.slice (Dats.len ks) (Dats.cells ks)]))) : Int)) + (↑r : Int)) ≤ (↑w : Int)) = false := by rw [hwr, decide_eq_false_iff_not]; omega
  have lg : layG rS w (.mk k n s ks) c r b = layGL rS w ks true c r true (b ++ [40]) ++ [41] := by
    rw [layG, hmt]; simp only []; rw [if_neg hnot]; rfl
  have hT := layT_list w k n s ks c r hnot
  rw [hT] at hb
  simp only [List.length_cons, List.length_append, List.length_nil] at hb
  have hks : ks.size < N + 1 := by simp only [Dat.size] at hN; omega
  have hfk := hfk.2 hk
  have htx : (textD (.mk k n s ks)).length = (textL true ks).length + 2 := by subst hk; rw [textD, if_neg (by decide), if_neg (by decide)]; simp
  have wc1 := wrapC (c + 1) (by omega)
  have wc1' : IntKind.wrap IntKind.i64 ((c : Int) + 1) = ((c + 1 : Nat) : Int) := wc1
  have wc2 := wrapC (c + 2) (by omega)
  have wr1 := wrapC (r + 1) (by omega)
  have wr1' : IntKind.wrap IntKind.i64 ((r : Int) + 1) = ((r + 1 : Nat) : Int) := wr1
  have wl : IntKind.wrap IntKind.i64 (Int.ofNat (Dats.len ks) - (1 : Int)) = ((ks.len - 1 : Nat) : Int) := wrapD _ (by omega) (by omega)
  refine Q.runSeq (SLR ih [(88, [])] []) 100 88 hnt [0, 2, 3, 4, 6] (z := ⟨[(0, x), (2, .int .i64 c), (3, .int .i64 r), (4, .int .i64 w), (6, .ptr 0 0)], ⟨[DB k n s ks], rws⟩⟩) (o := []) (by kernel_rfl) okO_nil ?_
  refine Q.runSeq (SLR ih [(88, [])] []) 100 88 hnt [0, 2, 3, 4, 6, 11] (z := ⟨[(0, x), (2, .int .i64 c), (3, .int .i64 r), (4, .int .i64 w), (6, .ptr 0 0), (11, .str (mkS (txC [PV.int IntKind.i64 k, PV.int IntKind.i64 n, PV.str s, PV.slice (Dats.len ks) (Dats.cells ks)])))], ⟨[DB k n s ks], rws⟩⟩) (o := [(true, true), (isTxt [PV.int IntKind.i64 k, PV.int IntKind.i64 n, PV.str s, PV.slice (Dats.len ks) (Dats.cells ks)], true)]) (by kernel_rfl) (by ((repeat' (first | exact okO_nil | refine okN ?_ ?_)); all_goals first | assumption | rfl | exact same_of rfl | exact sameS_self _ | (simp only [decide_eq_true_eq, decide_eq_false_iff_not, Nat.ble_eq, Nat.beq_eq, beq_eq_false_iff_ne, beq_iff_eq, ne_eq] <;> omega))) ?_
  refine Q.runSeq (SLR ih [(88, [(20, false), (25, false), (35, false)])] []) 100 88 hnt [0, 2, 3, 4, 6] (z := ⟨[(0, x), (2, .int .i64 c), (3, .int .i64 r), (4, .int .i64 w), (6, .ptr 0 0)], ⟨[DB k n s ks], rws⟩⟩) (o := [(!k == (3 : Int), false), (Int.ofNat (Dats.len ks) == (0 : Int), false), (decide (IntKind.wrap IntKind.i64 (IntKind.wrap IntKind.i64 ((↑c : Int) + (↑(ByteArray.size (mkS (txC [PV.int IntKind.i64 k, PV.int IntKind.i64 n, PV.str s, PV.slice (Dats.len ks) (Dats.cells ks)]))) : Int)) + (↑r : Int)) ≤ (↑w : Int)), false)]) (by kernel_rfl) (by ((repeat' (first | exact okO_nil | refine okN ?_ ?_)); all_goals first | assumption | rfl | exact same_of rfl | exact sameS_self _ | (simp only [decide_eq_true_eq, decide_eq_false_iff_not, Nat.ble_eq, Nat.beq_eq, beq_eq_false_iff_ne, beq_iff_eq, ne_eq] <;> omega))) ?_
  refine Q.seq fun K hK => ?_
  have rest : ∀ st, nrm [0, 2, 3, 4, 6] st = ⟨[(0, .own 0 (b.length + 1)), (2, .int .i64 c), (3, .int .i64 r), (4, .int .i64 w), (6, .ptr 0 0)], ⟨[DB k n s ks], [some (bR (bytesPL b ++ [.int .u8 40]) (b.length + 1))]⟩⟩ → K st := fun st hs => hK st (.norm [0, 2, 3, 4, 6] (by
   rw [hs]
   clear hs hK
   let P (j : Nat) : List UInt8 := layGL rS w (ks.take j) true c r (decide (j = ks.len)) (b ++ [40])
   have hP0 : P 0 = b ++ [40] := by
     simp only [P]
     cases ks <;> rfl
   have hPl : P ks.len = layGL rS w ks true c r true (b ++ [40]) := by simp only [P, take_all, decide_true]
   let T (j : Nat) : AS := ⟨[(0, .own 0 (P j).length), (2, .int .i64 c), (3, .int .i64 r), (4, .int .i64 w), (6, .ptr 0 0), (12, .int .i64 j)], ⟨[DB k n s ks], [some (bR (bytesPL (P j)) (P j).length)]⟩⟩
   refine Q.seq fun K3 hK3 => ?_
   refine Q.runSeq (SLR ih [(88, [])] []) 100 88 hnt [0, 2, 3, 4, 6, 12] (z := T 0) (o := []) (by simp only [T, hP0, bytesPL_append, List.length_append]; kernel_rfl) okO_nil ?_
   refine Q.block ?_
   refine Q.loopI (σ := { j : Nat // j ≤ ks.len }) [0, 2, 3, 4, 6, 12] (fun j => T j.1) (fun j => ks.len - j.1) ⟨0, Nat.zero_le _⟩ rfl fun ⟨j, hj⟩ => ?_
   rcases Nat.lt_or_ge j ks.len with hlt | hge
   · obtain ⟨k', n', s', ks', hget⟩ := Dats.get_mk ks j
     have hsz := Dats.get_size ks j hlt
     have hoj := Dats.get_ok ks j hlt hok.2
     have hrj := Dats.get_rng ks j hlt hrng.2
     have hfj := (formedL_iff ks).1 hfk j hlt
     have htj := textL_get ks true j hlt
     have hPj : decide (j = ks.len) = false := decide_eq_false_iff_not.2 (by omega)
     have hPn : P (j + 1) = layG rS w (.mk k' n' s' ks') (if j = 0 ∧ true = true then c + 1 else c + 2) (if decide (j + 1 = ks.len) = true then r + 1 else 0) (if j = 0 ∧ true = true then P j else rS.line (c + 2) (P j)) := by
       have e0 : P (j + 1) = layGL rS w (ks.take (j + 1)) true c r (decide (j + 1 = ks.len)) (b ++ [40]) := rfl
       have e1 : P j = layGL rS w (ks.take j) true c r false (b ++ [40]) := by
         show layGL rS w (ks.take j) true c r (decide (j = ks.len)) (b ++ [40]) = _
         rw [hPj]
       rw [e0, e1, layGL_take rS w c r ks true j _ _ hlt, hget]
     have hbd : (P j).length + (if j = 0 then ([] : List UInt8) else 10 :: List.replicate (c + 2) 32).length + (layT w (.mk k' n' s' ks') (if j = 0 then c + 1 else c + 2) (if j + 1 = ks.len then r + 1 else 0)).length + 1 ≤ 140737488355328 := by
       have h1 : (P j).length = (b ++ [40]).length + (layTL w (ks.take j) true c r false).length := by
         show (layGL rS w (ks.take j) true c r (decide (j = ks.len)) (b ++ [40])).length = _
         rw [hPj, (lay_app w).2, List.length_append]
       have h2 := congrArg List.length (layTL_take w c r ks j (decide (j + 1 = ks.len)) hlt)
       have h3 : (layTL w (ks.take (j + 1)) true c r (decide (j + 1 = ks.len))).length ≤ (layTL w ks true c r true).length := by
         by_cases h : j + 1 = ks.len
         · rw [decide_eq_true h, h, take_all]; exact Nat.le_refl _
         · rw [decide_eq_false h]; exact layTL_mono w c r ks (j + 1) (by omega)
       rw [hget] at h2
       simp only [List.length_append, List.length_cons, List.length_nil, decide_eq_true_eq] at h1 h2
       omega
     rw [hget] at hsz hoj hrj hfj htj
     have hrl : ∀ w c r t, rlC w c r t [PV.int IntKind.i64 k', PV.int IntKind.i64 n', PV.str s', PV.slice (Dats.len ks') (Dats.cells ks')] = layG rS w (.mk k' n' s' ks') c r t := fun w c r b => rlC_at w c r b (.mk k' n' s' ks')
     have hlr : ∀ w c r, lrC w c r [PV.int IntKind.i64 k', PV.int IntKind.i64 n', PV.str s', PV.slice (Dats.len ks') (Dats.cells ks')] = (layT w (.mk k' n' s' ks') c r).length := fun w c r => lrC_at w c r (.mk k' n' s' ks')
     have d1 : isLay N [PV.int IntKind.i64 k', PV.int IntKind.i64 n', PV.str s', PV.slice (Dats.len ks') (Dats.cells ks')] = true := isLay_at (d := .mk k' n' s' ks') (by omega) hoj hrj hfj (by omega)
     have d2 := lt_at hlt
     have d3 := in_at hlt
     have d4 : decide (TD.size d24 ≤ List.length (List.drop (Int.toNat (j : Int) * TD.size d24) (Dats.cells ks))) = true := kid_len hlt
     have d5 := kid_same' hlt hget
     have wj' := wrapC (j + 1) (by omega)
     show SWP G0 C _ _ ⟨[(0, .own 0 (P j).length), (2, .int .i64 c), (3, .int .i64 r), (4, .int .i64 w), (6, .ptr 0 0), (12, .int .i64 j)], ⟨[DB k n s ks], [some (bR (bytesPL (P j)) (P j).length)]⟩⟩
     obtain ⟨p, hp⟩ : ∃ p, p = P j := ⟨_, rfl⟩
     rw [← hp] at hbd hPn ⊢
     clear hp hP0 hPl hK3
     by_cases hz : j = 0 <;> by_cases hl : j + 1 = ks.len
     · have e1 : (Int.ofNat j == IntKind.wrap IntKind.i64 (Int.ofNat (Dats.len ks) - (1 : Int))) = true := by
         rw [wl, beq_iff_eq]
         show (j : Int) = _
         omega
       have hPs : P (j + 1) = layG rS w (.mk k' n' s' ks') (c + 1) (r + 1) p := by
         simp only [hPn, and_true, decide_eq_true_eq, if_pos hz, if_pos hl]
         try rfl
       simp only [if_pos hz, if_pos hl, List.length_nil, List.length_cons, List.length_replicate] at hbd
       clear hPn
       have e2 : (Int.ofNat j == (0 : Int)) = true := by
         rw [beq_iff_eq]
         show (j : Int) = 0
         omega
       refine SWP.runQ (SLR ih [(88, [(47, true), (53, true), (72, true), (79, true), (80, true)])] [(88, [(80, .agg [.int .i64 k', .int .i64 n', .str s', .slice ks'.len ks'.cells])])]) 100 88 hnt [0, 2, 3, 4, 6, 12] (e := .normal) (z := { t := [(0, PV.own 0 (List.length (rlC (Int.toNat (Int.ofNat w)) (Int.toNat (IntKind.wrap IntKind.i64 (Int.ofNat (c + 1)))) (Int.toNat (IntKind.wrap IntKind.i64 (Int.ofNat (r + 1)))) (bytesOf (bytesPL p)) [PV.int IntKind.i64 k', PV.int IntKind.i64 n', PV.str s', PV.slice (Dats.len ks') (Dats.cells ks')]))), (2, PV.int IntKind.i64 (Int.ofNat c)), (3, PV.int IntKind.i64 (Int.ofNat r)), (4, PV.int IntKind.i64 (Int.ofNat w)), (6, PV.ptr 0 0), (12, PV.int IntKind.i64 (IntKind.wrap IntKind.i64 (Int.ofNat (j + 1))))], h := { bx := [{ cs := [PV.int IntKind.i64 k, PV.int IntKind.i64 n, PV.str s, PV.slice (Dats.len ks) (Dats.cells ks)], ty := 24 }], rw := [some { cs := bytesPL (rlC (Int.toNat (Int.ofNat w)) (Int.toNat (IntKind.wrap IntKind.i64 (Int.ofNat (c + 1)))) (Int.toNat (IntKind.wrap IntKind.i64 (Int.ofNat (r + 1)))) (bytesOf (bytesPL p)) [PV.int IntKind.i64 k', PV.int IntKind.i64 n', PV.str s', PV.slice (Dats.len ks') (Dats.cells ks')]), n := List.length (rlC (Int.toNat (Int.ofNat w)) (Int.toNat (IntKind.wrap IntKind.i64 (Int.ofNat (c + 1)))) (Int.toNat (IntKind.wrap IntKind.i64 (Int.ofNat (r + 1)))) (bytesOf (bytesPL p)) [PV.int IntKind.i64 k', PV.int IntKind.i64 n', PV.str s', PV.slice (Dats.len ks') (Dats.cells ks')]), ty := 5, sz := 1 }] } }) (o := [(decide ((↑j : Int) < (↑(Dats.len ks) : Int)), true), (true, true), (Int.ofNat j == (0 : Int), true), (true, true), (Int.ofNat j == IntKind.wrap IntKind.i64 (Int.ofNat (Dats.len ks) - (1 : Int)), true), (true, true), (decide (0 ≤ (↑j : Int) ∧ (↑j : Int) < (↑(Dats.len ks) : Int)), true), (decide (TD.size d24 ≤ List.length (List.drop (Int.toNat (↑j : Int) * TD.size d24) (Dats.cells ks))), true), (same (PV.agg (List.take 4 (List.drop (Int.toNat (Int.ofNat j) * 4) (Dats.cells ks)))) (PV.agg [PV.int IntKind.i64 k', PV.int IntKind.i64 n', PV.str s', PV.slice (Dats.len ks') (Dats.cells ks')]), true), (isLay N [PV.int IntKind.i64 k', PV.int IntKind.i64 n', PV.str s', PV.slice (Dats.len ks') (Dats.cells ks')], true), (decide (0 ≤ (↑w : Int) ∧ (↑w : Int) ≤ 4398046511104), true), (decide (0 ≤ IntKind.wrap IntKind.i64 ((↑c : Int) + 1) ∧ IntKind.wrap IntKind.i64 ((↑c : Int) + 1) + 2 * (↑N : Int) ≤ 4398046511104), true), (decide (0 ≤ IntKind.wrap IntKind.i64 ((↑r : Int) + 1) ∧ IntKind.wrap IntKind.i64 ((↑r : Int) + 1) + (↑N : Int) ≤ 4398046511104), true), (Nat.beq (List.length p) (List.length p), true), (Nat.beq (List.length (bytesPL p)) (List.length p), true), (isBytes8 (bytesPL p), true), (Nat.ble (List.length p + lrC (Int.toNat (Int.ofNat w)) (Int.toNat (IntKind.wrap IntKind.i64 (Int.ofNat (c + 1)))) (Int.toNat (IntKind.wrap IntKind.i64 (Int.ofNat (r + 1)))) [PV.int IntKind.i64 k', PV.int IntKind.i64 n', PV.str s', PV.slice (Dats.len ks') (Dats.cells ks')]) 140737488355328, true)]) (by kernel_rfl) (by clear hPs; (repeat' (first | exact okO_nil | refine okN ?_ ?_)); all_goals first | (with_reducible rfl) | assumption | (simp only [Int.ofNat_eq_natCast, wc1, wc1', wr1, wr1', Int.toNat_natCast, isBytes8_PL, bytesPL_length, hlr]; done) | ((try simp only [Int.ofNat_eq_natCast, wc1, wc1', wr1, wr1', Int.toNat_natCast, isBytes8_PL, bytesPL_length, hlr]); simp only [decide_eq_true_eq, decide_eq_false_iff_not, Nat.ble_eq, Nat.beq_eq] <;> omega)) (fun st hs => ⟨⟨j + 1, hlt⟩, Nat.sub_lt_sub_left hlt (Nat.lt_succ_self j), ?_⟩)
       rw [hs]
       simp only [T, hPs]
       simp only [Int.ofNat_eq_natCast, wc1, wr1, Int.toNat_natCast, bytesOf_PL, hrl, wj']
       rfl
     · have e1 : (Int.ofNat j == IntKind.wrap IntKind.i64 (Int.ofNat (Dats.len ks) - (1 : Int))) = false := by
         rw [wl, beq_eq_false_iff_ne]
         show (j : Int) ≠ _
         omega
       have hPs : P (j + 1) = layG rS w (.mk k' n' s' ks') (c + 1) (0) p := by
         simp only [hPn, and_true, decide_eq_true_eq, if_pos hz, if_neg hl]
         try rfl
       simp only [if_pos hz, if_neg hl, List.length_nil, List.length_cons, List.length_replicate] at hbd
       clear hPn
       have e2 : (Int.ofNat j == (0 : Int)) = true := by
         rw [beq_iff_eq]
         show (j : Int) = 0
         omega
       refine SWP.runQ (SLR ih [(88, [(47, true), (53, true), (72, false), (79, true), (80, true)])] [(88, [(80, .agg [.int .i64 k', .int .i64 n', .str s', .slice ks'.len ks'.cells])])]) 100 88 hnt [0, 2, 3, 4, 6, 12] (e := .normal) (z := { t := [(0, PV.own 0 (List.length (rlC (Int.toNat (Int.ofNat w)) (Int.toNat (IntKind.wrap IntKind.i64 (Int.ofNat (c + 1)))) 0 (bytesOf (bytesPL p)) [PV.int IntKind.i64 k', PV.int IntKind.i64 n', PV.str s', PV.slice (Dats.len ks') (Dats.cells ks')]))), (2, PV.int IntKind.i64 (Int.ofNat c)), (3, PV.int IntKind.i64 (Int.ofNat r)), (4, PV.int IntKind.i64 (Int.ofNat w)), (6, PV.ptr 0 0), (12, PV.int IntKind.i64 (IntKind.wrap IntKind.i64 (Int.ofNat (j + 1))))], h := { bx := [{ cs := [PV.int IntKind.i64 k, PV.int IntKind.i64 n, PV.str s, PV.slice (Dats.len ks) (Dats.cells ks)], ty := 24 }], rw := [some { cs := bytesPL (rlC (Int.toNat (Int.ofNat w)) (Int.toNat (IntKind.wrap IntKind.i64 (Int.ofNat (c + 1)))) 0 (bytesOf (bytesPL p)) [PV.int IntKind.i64 k', PV.int IntKind.i64 n', PV.str s', PV.slice (Dats.len ks') (Dats.cells ks')]), n := List.length (rlC (Int.toNat (Int.ofNat w)) (Int.toNat (IntKind.wrap IntKind.i64 (Int.ofNat (c + 1)))) 0 (bytesOf (bytesPL p)) [PV.int IntKind.i64 k', PV.int IntKind.i64 n', PV.str s', PV.slice (Dats.len ks') (Dats.cells ks')]), ty := 5, sz := 1 }] } }) (o := [(decide ((↑j : Int) < (↑(Dats.len ks) : Int)), true), (true, true), (Int.ofNat j == (0 : Int), true), (true, true), (Int.ofNat j == IntKind.wrap IntKind.i64 (Int.ofNat (Dats.len ks) - (1 : Int)), false), (false, false), (decide (0 ≤ (↑j : Int) ∧ (↑j : Int) < (↑(Dats.len ks) : Int)), true), (decide (TD.size d24 ≤ List.length (List.drop (Int.toNat (↑j : Int) * TD.size d24) (Dats.cells ks))), true), (same (PV.agg (List.take 4 (List.drop (Int.toNat (Int.ofNat j) * 4) (Dats.cells ks)))) (PV.agg [PV.int IntKind.i64 k', PV.int IntKind.i64 n', PV.str s', PV.slice (Dats.len ks') (Dats.cells ks')]), true), (isLay N [PV.int IntKind.i64 k', PV.int IntKind.i64 n', PV.str s', PV.slice (Dats.len ks') (Dats.cells ks')], true), (decide (0 ≤ (↑w : Int) ∧ (↑w : Int) ≤ 4398046511104), true), (decide (0 ≤ IntKind.wrap IntKind.i64 ((↑c : Int) + 1) ∧ IntKind.wrap IntKind.i64 ((↑c : Int) + 1) + 2 * (↑N : Int) ≤ 4398046511104), true), (decide ((0 : Int) ≤ 0 ∧ 0 + (↑N : Int) ≤ 4398046511104), true), (Nat.beq (List.length p) (List.length p), true), (Nat.beq (List.length (bytesPL p)) (List.length p), true), (isBytes8 (bytesPL p), true), (Nat.ble (List.length p + lrC (Int.toNat (Int.ofNat w)) (Int.toNat (IntKind.wrap IntKind.i64 (Int.ofNat (c + 1)))) 0 [PV.int IntKind.i64 k', PV.int IntKind.i64 n', PV.str s', PV.slice (Dats.len ks') (Dats.cells ks')]) 140737488355328, true)]) (by kernel_rfl) (by clear hPs; (repeat' (first | exact okO_nil | refine okN ?_ ?_)); all_goals first | (with_reducible rfl) | assumption | (simp only [Int.ofNat_eq_natCast, wc1, wc1', wr1, wr1', Int.toNat_natCast, isBytes8_PL, bytesPL_length, hlr]; done) | ((try simp only [Int.ofNat_eq_natCast, wc1, wc1', wr1, wr1', Int.toNat_natCast, isBytes8_PL, bytesPL_length, hlr]); simp only [decide_eq_true_eq, decide_eq_false_iff_not, Nat.ble_eq, Nat.beq_eq] <;> omega)) (fun st hs => ⟨⟨j + 1, hlt⟩, Nat.sub_lt_sub_left hlt (Nat.lt_succ_self j), ?_⟩)
       rw [hs]
       simp only [T, hPs]
       simp only [Int.ofNat_eq_natCast, wc1, wr1, Int.toNat_natCast, bytesOf_PL, hrl, wj']
       rfl
     · have e1 : (Int.ofNat j == IntKind.wrap IntKind.i64 (Int.ofNat (Dats.len ks) - (1 : Int))) = true := by
         rw [wl, beq_iff_eq]
         show (j : Int) = _
         omega
       have hPs : P (j + 1) = layG rS w (.mk k' n' s' ks') (c + 2) (r + 1) (p ++ 10 :: List.replicate (c + 2) 32) := by
         simp only [hPn, and_true, decide_eq_true_eq, if_neg hz, if_pos hl]
         try rfl
       simp only [if_neg hz, if_pos hl, List.length_nil, List.length_cons, List.length_replicate] at hbd
       clear hPn
       have e2 : (Int.ofNat j == (0 : Int)) = false := by
         rw [beq_eq_false_iff_ne]
         show (j : Int) ≠ 0
         omega
       refine Q.runSeq (SLR ih [(88, [(47, true)])] []) 100 88 hnt [0, 2, 3, 4, 6, 12] (z := { t := [(0, PV.own 0 (List.length p)), (2, PV.int IntKind.i64 (Int.ofNat c)), (3, PV.int IntKind.i64 (Int.ofNat r)), (4, PV.int IntKind.i64 (Int.ofNat w)), (6, PV.ptr 0 0), (12, PV.int IntKind.i64 (Int.ofNat j))], h := { bx := [{ cs := [PV.int IntKind.i64 k, PV.int IntKind.i64 n, PV.str s, PV.slice (Dats.len ks) (Dats.cells ks)], ty := 24 }], rw := [some { cs := bytesPL p, n := List.length p, ty := 5, sz := 1 }] } }) (o := [(decide ((↑j : Int) < (↑(Dats.len ks) : Int)), true), (true, true)]) (by kernel_rfl) (by ((repeat' (first | exact okO_nil | refine okN ?_ ?_)); all_goals first | assumption | rfl | exact same_of rfl | exact sameS_self _ | (simp only [decide_eq_true_eq, decide_eq_false_iff_not, Nat.ble_eq, Nat.beq_eq, beq_eq_false_iff_ne, beq_iff_eq, ne_eq] <;> omega))) ?_
       refine Q.seq fun K hK => ?_
       refine Q.block ?_
       refine Q.runSeq (SLR ih [(88, [])] []) 100 88 hnt [0, 2, 3, 4, 6, 12, 13, 14] (z := { t := [(0, PV.own 0 (List.length p)), (2, PV.int IntKind.i64 (Int.ofNat c)), (3, PV.int IntKind.i64 (Int.ofNat r)), (4, PV.int IntKind.i64 (Int.ofNat w)), (6, PV.ptr 0 0), (12, PV.int IntKind.i64 (Int.ofNat j)), (13, PV.int IntKind.i64 (IntKind.wrap IntKind.i64 (Int.ofNat (c + 2)))), (14, PV.int IntKind.i64 (0 : Int))], h := { bx := [{ cs := [PV.int IntKind.i64 k, PV.int IntKind.i64 n, PV.str s, PV.slice (Dats.len ks) (Dats.cells ks)], ty := 24 }], rw := [some { cs := bytesPL p, n := List.length p, ty := 5, sz := 1 }] } }) (o := []) (by kernel_rfl) (by ((repeat' (first | exact okO_nil | refine okN ?_ ?_)); all_goals first | assumption | rfl | exact same_of rfl | exact sameS_self _ | (simp only [decide_eq_true_eq, decide_eq_false_iff_not, Nat.ble_eq, Nat.beq_eq, beq_eq_false_iff_ne, beq_iff_eq, ne_eq] <;> omega))) ?_
       simp only [Int.ofNat_eq_natCast, wc2]
       refine Q.seq fun K2 hK2 => ?_
       refine Q.runSeq (SLR ih [(88, [(53, false)])] []) 100 88 hnt [0, 2, 3, 4, 6, 12, 13, 14, 53] (z := { t := [(0, PV.own 0 (List.length p)), (2, PV.int IntKind.i64 (Int.ofNat c)), (3, PV.int IntKind.i64 (Int.ofNat r)), (4, PV.int IntKind.i64 (Int.ofNat w)), (6, PV.ptr 0 0), (12, PV.int IntKind.i64 (Int.ofNat j)), (13, PV.int IntKind.i64 (Int.ofNat (c + 2))), (14, PV.int IntKind.i64 (0 : Int)), (53, PV.bool false)], h := { bx := [{ cs := [PV.int IntKind.i64 k, PV.int IntKind.i64 n, PV.str s, PV.slice (Dats.len ks) (Dats.cells ks)], ty := 24 }], rw := [some { cs := bytesPL p, n := List.length p, ty := 5, sz := 1 }] } }) (o := [(Int.ofNat j == (0 : Int), false)]) (by kernel_rfl) (by ((repeat' (first | exact okO_nil | refine okN ?_ ?_)); all_goals first | assumption | rfl | exact same_of rfl | exact sameS_self _ | (simp only [decide_eq_true_eq, decide_eq_false_iff_not, Nat.ble_eq, Nat.beq_eq, beq_eq_false_iff_ne, beq_iff_eq, ne_eq] <;> omega))) ?_
       refine Q.cond (b := false) rfl (fun h => by cases h) (fun _ => ?_)
       have d8 : Nat.ble ((List.length p + 1) * 1) 140737488355328 = true := by rw [Nat.ble_eq]; omega
       have d9 : Nat.ble (List.length p + 1) 9223372036854775807 = true := by rw [Nat.ble_eq]; omega
       refine Q.runSeq (SLR ih [(88, [(58, true)])] []) 100 88 hnt [0, 2, 3, 4, 6, 12, 13, 14] (z := { t := [(0, PV.own 0 (List.length p + 1)), (2, PV.int IntKind.i64 (Int.ofNat c)), (3, PV.int IntKind.i64 (Int.ofNat r)), (4, PV.int IntKind.i64 (Int.ofNat w)), (6, PV.ptr 0 0), (12, PV.int IntKind.i64 (Int.ofNat j)), (13, PV.int IntKind.i64 (Int.ofNat (c + 2))), (14, PV.int IntKind.i64 (0 : Int))], h := { bx := [{ cs := [PV.int IntKind.i64 k, PV.int IntKind.i64 n, PV.str s, PV.slice (Dats.len ks) (Dats.cells ks)], ty := 24 }], rw := [some { cs := bytesPL p ++ [PV.int IntKind.u8 (10 : Int)], n := List.length p + 1, ty := 5, sz := 1 }] } }) (o := [(true, true), (Nat.ble ((List.length p + 1) * 1) 140737488355328, true), (Nat.ble (List.length p + 1) 9223372036854775807, true)]) (by kernel_rfl) (by ((repeat' (first | exact okO_nil | refine okN ?_ ?_)); all_goals first | assumption | rfl | exact same_of rfl | exact sameS_self _ | (simp only [decide_eq_true_eq, decide_eq_false_iff_not, Nat.ble_eq, Nat.beq_eq, beq_eq_false_iff_ne, beq_iff_eq, ne_eq] <;> omega))) ?_
       let T2 (v : Nat) : AS := ⟨[(0, .own 0 (p ++ 10 :: List.replicate v 32).length), (2, .int .i64 c), (3, .int .i64 r), (4, .int .i64 w), (6, .ptr 0 0), (12, .int .i64 j), (13, .int .i64 (c + 2 : Nat)), (14, .int .i64 0), (15, .int .i64 v)], ⟨[DB k n s ks], [some (bR (bytesPL (p ++ 10 :: List.replicate v 32)) (p ++ 10 :: List.replicate v 32).length)]⟩⟩
       have hq0 : bytesPL p ++ [PV.int IntKind.u8 (10 : Int)] = bytesPL (p ++ 10 :: List.replicate 0 32) := by rw [bytesPL_append]; rfl
       have hq1 : List.length p + 1 = (p ++ 10 :: List.replicate 0 32).length := by simp
       refine Q.runSeq (SLR ih [(88, [])] []) 100 88 hnt [0, 2, 3, 4, 6, 12, 13, 14, 15] (z := T2 0) (o := []) (by rw [hq0, hq1]; kernel_rfl) (by ((repeat' (first | exact okO_nil | refine okN ?_ ?_)); all_goals first | assumption | rfl | exact same_of rfl | exact sameS_self _ | (simp only [decide_eq_true_eq, decide_eq_false_iff_not, Nat.ble_eq, Nat.beq_eq, beq_eq_false_iff_ne, beq_iff_eq, ne_eq] <;> omega))) ?_
       refine Q.block ?_
       refine Q.loopI (σ := { v : Nat // v ≤ c + 2 }) [0, 2, 3, 4, 6, 12, 13, 14, 15] (fun v => T2 v.1) (fun v => c + 2 - v.1) ⟨0, Nat.zero_le _⟩ rfl fun ⟨v, hv⟩ => ?_
       obtain ⟨q, hq⟩ : ∃ q, q = p ++ 10 :: List.replicate v 32 := ⟨_, rfl⟩
       have hql : q.length = p.length + 1 + v := by rw [hq]; simp; omega
       show SWP G0 C _ _ ⟨[(0, .own 0 (p ++ 10 :: List.replicate v 32).length), (2, .int .i64 c), (3, .int .i64 r), (4, .int .i64 w), (6, .ptr 0 0), (12, .int .i64 j), (13, .int .i64 (c + 2 : Nat)), (14, .int .i64 0), (15, .int .i64 v)], ⟨[DB k n s ks], [some (bR (bytesPL (p ++ 10 :: List.replicate v 32)) (p ++ 10 :: List.replicate v 32).length)]⟩⟩
       rw [← hq]
       rcases Nat.lt_or_ge v (c + 2) with hvl | hvg
       · have g1 : decide ((↑v : Int) < (↑(c + 2) : Int)) = true := by rw [decide_eq_true_eq]; omega
         have g8 : Nat.ble ((List.length q + 1) * 1) 140737488355328 = true := by rw [Nat.ble_eq]; omega
         have g9 : Nat.ble (List.length q + 1) 9223372036854775807 = true := by rw [Nat.ble_eq]; omega
         have wv := wrapC (v + 1) (by omega)
         have hqs : q ++ [32] = p ++ 10 :: List.replicate (v + 1) 32 := by rw [hq, List.replicate_succ']; simp
         have hqb : bytesPL q ++ [PV.int IntKind.u8 (32 : Int)] = bytesPL (p ++ 10 :: List.replicate (v + 1) 32) := by rw [← hqs, bytesPL_append]; rfl
         have hqn : List.length q + 1 = (p ++ 10 :: List.replicate (v + 1) 32).length := by rw [← hqs]; simp
         refine SWP.runQ (SLR ih [(88, [(61, true), (66, true)])] []) 100 88 hnt [0, 2, 3, 4, 6, 12, 13, 14, 15] (e := .normal) (z := { t := [(0, PV.own 0 (List.length q + 1)), (2, PV.int IntKind.i64 (Int.ofNat c)), (3, PV.int IntKind.i64 (Int.ofNat r)), (4, PV.int IntKind.i64 (Int.ofNat w)), (6, PV.ptr 0 0), (12, PV.int IntKind.i64 (Int.ofNat j)), (13, PV.int IntKind.i64 (Int.ofNat (c + 2))), (14, PV.int IntKind.i64 (0 : Int)), (15, PV.int IntKind.i64 (IntKind.wrap IntKind.i64 (Int.ofNat (v + 1))))], h := { bx := [{ cs := [PV.int IntKind.i64 k, PV.int IntKind.i64 n, PV.str s, PV.slice (Dats.len ks) (Dats.cells ks)], ty := 24 }], rw := [some { cs := bytesPL q ++ [PV.int IntKind.u8 (32 : Int)], n := List.length q + 1, ty := 5, sz := 1 }] } }) (o := [(decide ((↑v : Int) < (↑(c + 2) : Int)), true), (true, true), (true, true), (Nat.ble ((List.length q + 1) * 1) 140737488355328, true), (Nat.ble (List.length q + 1) 9223372036854775807, true)]) (by kernel_rfl) (by ((repeat' (first | exact okO_nil | refine okN ?_ ?_)); all_goals first | assumption | rfl | exact same_of rfl | exact sameS_self _ | (simp only [decide_eq_true_eq, decide_eq_false_iff_not, Nat.ble_eq, Nat.beq_eq, beq_eq_false_iff_ne, beq_iff_eq, ne_eq] <;> omega))) (fun st hs => ⟨⟨v + 1, hvl⟩, Nat.sub_lt_sub_left hvl (Nat.lt_succ_self v), ?_⟩)
         rw [hs, hqb, hqn]
         simp only [Int.ofNat_eq_natCast, wv]
         rfl
       obtain rfl : v = c + 2 := by omega
       have g1 : decide ((↑(c + 2) : Int) < (↑(c + 2) : Int)) = false := by rw [decide_eq_false_iff_not]; omega
       refine SWP.runQ (SLR ih [(88, [(61, false)])] []) 100 88 hnt [0, 2, 3, 4, 6, 12, 13, 14] (e := .exit 2) (z := ⟨[(0, .own 0 q.length), (2, .int .i64 c), (3, .int .i64 r), (4, .int .i64 w), (6, .ptr 0 0), (12, .int .i64 j), (13, .int .i64 (c + 2 : Nat)), (14, .int .i64 0)], ⟨[DB k n s ks], [some (bR (bytesPL q) q.length)]⟩⟩) (o := [(decide ((↑(c + 2) : Int) < (↑(c + 2) : Int)), false), (false, false)]) (by kernel_rfl) (by ((repeat' (first | exact okO_nil | refine okN ?_ ?_)); all_goals first | assumption | rfl | exact same_of rfl | exact sameS_self _ | (simp only [decide_eq_true_eq, decide_eq_false_iff_not, Nat.ble_eq, Nat.beq_eq, beq_eq_false_iff_ne, beq_iff_eq, ne_eq] <;> omega))) (fun st hs => hK2 st (.norm [0, 2, 3, 4, 6, 12, 13, 14] ?_))
       rw [hs]
       clear hs hK2
       rw [← hq] at hPs
       refine SWP.runQ (SLR ih [(88, [(72, true), (79, true), (80, true)])] [(88, [(80, .agg [.int .i64 k', .int .i64 n', .str s', .slice ks'.len ks'.cells])])]) 100 88 hnt [0, 2, 3, 4, 6, 12] (e := .normal) (z := { t := [(0, PV.own 0 (List.length (rlC (Int.toNat (Int.ofNat w)) (Int.toNat (Int.ofNat (c + 2))) (Int.toNat (IntKind.wrap IntKind.i64 (Int.ofNat (r + 1)))) (bytesOf (bytesPL q)) [PV.int IntKind.i64 k', PV.int IntKind.i64 n', PV.str s', PV.slice (Dats.len ks') (Dats.cells ks')]))), (2, PV.int IntKind.i64 (Int.ofNat c)), (3, PV.int IntKind.i64 (Int.ofNat r)), (4, PV.int IntKind.i64 (Int.ofNat w)), (6, PV.ptr 0 0), (12, PV.int IntKind.i64 (Int.ofNat j))], h := { bx := [{ cs := [PV.int IntKind.i64 k, PV.int IntKind.i64 n, PV.str s, PV.slice (Dats.len ks) (Dats.cells ks)], ty := 24 }], rw := [some { cs := bytesPL (rlC (Int.toNat (Int.ofNat w)) (Int.toNat (Int.ofNat (c + 2))) (Int.toNat (IntKind.wrap IntKind.i64 (Int.ofNat (r + 1)))) (bytesOf (bytesPL q)) [PV.int IntKind.i64 k', PV.int IntKind.i64 n', PV.str s', PV.slice (Dats.len ks') (Dats.cells ks')]), n := List.length (rlC (Int.toNat (Int.ofNat w)) (Int.toNat (Int.ofNat (c + 2))) (Int.toNat (IntKind.wrap IntKind.i64 (Int.ofNat (r + 1)))) (bytesOf (bytesPL q)) [PV.int IntKind.i64 k', PV.int IntKind.i64 n', PV.str s', PV.slice (Dats.len ks') (Dats.cells ks')]), ty := 5, sz := 1 }] } }) (o := [(Int.ofNat j == IntKind.wrap IntKind.i64 (Int.ofNat (Dats.len ks) - (1 : Int)), true), (true, true), (decide (0 ≤ (↑j : Int) ∧ (↑j : Int) < (↑(Dats.len ks) : Int)), true), (decide (TD.size d24 ≤ List.length (List.drop (Int.toNat (↑j : Int) * TD.size d24) (Dats.cells ks))), true), (same (PV.agg (List.take 4 (List.drop (Int.toNat (Int.ofNat j) * 4) (Dats.cells ks)))) (PV.agg [PV.int IntKind.i64 k', PV.int IntKind.i64 n', PV.str s', PV.slice (Dats.len ks') (Dats.cells ks')]), true), (isLay N [PV.int IntKind.i64 k', PV.int IntKind.i64 n', PV.str s', PV.slice (Dats.len ks') (Dats.cells ks')], true), (decide (0 ≤ (↑w : Int) ∧ (↑w : Int) ≤ 4398046511104), true), (decide (0 ≤ (↑(c + 2) : Int) ∧ (↑(c + 2) : Int) + 2 * (↑N : Int) ≤ 4398046511104), true), (decide (0 ≤ IntKind.wrap IntKind.i64 ((↑r : Int) + 1) ∧ IntKind.wrap IntKind.i64 ((↑r : Int) + 1) + (↑N : Int) ≤ 4398046511104), true), (Nat.beq (List.length q) (List.length q), true), (Nat.beq (List.length (bytesPL q)) (List.length q), true), (isBytes8 (bytesPL q), true), (Nat.ble (List.length q + lrC (Int.toNat (Int.ofNat w)) (Int.toNat (Int.ofNat (c + 2))) (Int.toNat (IntKind.wrap IntKind.i64 (Int.ofNat (r + 1)))) [PV.int IntKind.i64 k', PV.int IntKind.i64 n', PV.str s', PV.slice (Dats.len ks') (Dats.cells ks')]) 140737488355328, true)]) (by kernel_rfl) (by clear hPs; (repeat' (first | exact okO_nil | refine okN ?_ ?_)); all_goals first | (with_reducible rfl) | assumption | (simp only [Int.ofNat_eq_natCast, wc1, wc1', wr1, wr1', Int.toNat_natCast, isBytes8_PL, bytesPL_length, hlr]; done) | ((try simp only [Int.ofNat_eq_natCast, wc1, wc1', wr1, wr1', Int.toNat_natCast, isBytes8_PL, bytesPL_length, hlr]); simp only [decide_eq_true_eq, decide_eq_false_iff_not, Nat.ble_eq, Nat.beq_eq] <;> omega)) (fun st hs => hK st (.norm [0, 2, 3, 4, 6, 12] ?_))
       rw [hs]
       simp only [Int.ofNat_eq_natCast, wc2, wr1, Int.toNat_natCast, bytesOf_PL, hrl]
       rw [← hPs]
       obtain ⟨p2, hp2⟩ : ∃ x, x = P (j + 1) := ⟨_, rfl⟩
       rw [← hp2]
       refine SWP.runQ (SLR ih [(88, [])] []) 100 88 hnt [0, 2, 3, 4, 6, 12] (e := .normal) (z := { t := [(0, PV.own 0 (List.length p2)), (2, PV.int IntKind.i64 (Int.ofNat c)), (3, PV.int IntKind.i64 (Int.ofNat r)), (4, PV.int IntKind.i64 (Int.ofNat w)), (6, PV.ptr 0 0), (12, PV.int IntKind.i64 (IntKind.wrap IntKind.i64 (Int.ofNat (j + 1))))], h := { bx := [{ cs := [PV.int IntKind.i64 k, PV.int IntKind.i64 n, PV.str s, PV.slice (Dats.len ks) (Dats.cells ks)], ty := 24 }], rw := [some { cs := bytesPL p2, n := List.length p2, ty := 5, sz := 1 }] } }) (o := []) (by kernel_rfl) (by ((repeat' (first | exact okO_nil | refine okN ?_ ?_)); all_goals first | assumption | rfl | exact same_of rfl | exact sameS_self _ | (simp only [decide_eq_true_eq, decide_eq_false_iff_not, Nat.ble_eq, Nat.beq_eq, beq_eq_false_iff_ne, beq_iff_eq, ne_eq] <;> omega))) (fun st hs => ⟨⟨j + 1, hlt⟩, Nat.sub_lt_sub_left hlt (Nat.lt_succ_self j), ?_⟩)
       rw [hs, hp2]
       simp only [Int.ofNat_eq_natCast, wj']
       rfl
     · have e1 : (Int.ofNat j == IntKind.wrap IntKind.i64 (Int.ofNat (Dats.len ks) - (1 : Int))) = false := by
         rw [wl, beq_eq_false_iff_ne]
         show (j : Int) ≠ _
         omega
       have hPs : P (j + 1) = layG rS w (.mk k' n' s' ks') (c + 2) (0) (p ++ 10 :: List.replicate (c + 2) 32) := by
         simp only [hPn, and_true, decide_eq_true_eq, if_neg hz, if_neg hl]
         try rfl
       simp only [if_neg hz, if_neg hl, List.length_nil, List.length_cons, List.length_replicate] at hbd
       clear hPn
       have e2 : (Int.ofNat j == (0 : Int)) = false := by
         rw [beq_eq_false_iff_ne]
         show (j : Int) ≠ 0
         omega
       refine Q.runSeq (SLR ih [(88, [(47, true)])] []) 100 88 hnt [0, 2, 3, 4, 6, 12] (z := { t := [(0, PV.own 0 (List.length p)), (2, PV.int IntKind.i64 (Int.ofNat c)), (3, PV.int IntKind.i64 (Int.ofNat r)), (4, PV.int IntKind.i64 (Int.ofNat w)), (6, PV.ptr 0 0), (12, PV.int IntKind.i64 (Int.ofNat j))], h := { bx := [{ cs := [PV.int IntKind.i64 k, PV.int IntKind.i64 n, PV.str s, PV.slice (Dats.len ks) (Dats.cells ks)], ty := 24 }], rw := [some { cs := bytesPL p, n := List.length p, ty := 5, sz := 1 }] } }) (o := [(decide ((↑j : Int) < (↑(Dats.len ks) : Int)), true), (true, true)]) (by kernel_rfl) (by ((repeat' (first | exact okO_nil | refine okN ?_ ?_)); all_goals first | assumption | rfl | exact same_of rfl | exact sameS_self _ | (simp only [decide_eq_true_eq, decide_eq_false_iff_not, Nat.ble_eq, Nat.beq_eq, beq_eq_false_iff_ne, beq_iff_eq, ne_eq] <;> omega))) ?_
       refine Q.seq fun K hK => ?_
       refine Q.block ?_
       refine Q.runSeq (SLR ih [(88, [])] []) 100 88 hnt [0, 2, 3, 4, 6, 12, 13, 14] (z := { t := [(0, PV.own 0 (List.length p)), (2, PV.int IntKind.i64 (Int.ofNat c)), (3, PV.int IntKind.i64 (Int.ofNat r)), (4, PV.int IntKind.i64 (Int.ofNat w)), (6, PV.ptr 0 0), (12, PV.int IntKind.i64 (Int.ofNat j)), (13, PV.int IntKind.i64 (IntKind.wrap IntKind.i64 (Int.ofNat (c + 2)))), (14, PV.int IntKind.i64 (0 : Int))], h := { bx := [{ cs := [PV.int IntKind.i64 k, PV.int IntKind.i64 n, PV.str s, PV.slice (Dats.len ks) (Dats.cells ks)], ty := 24 }], rw := [some { cs := bytesPL p, n := List.length p, ty := 5, sz := 1 }] } }) (o := []) (by kernel_rfl) (by ((repeat' (first | exact okO_nil | refine okN ?_ ?_)); all_goals first | assumption | rfl | exact same_of rfl | exact sameS_self _ | (simp only [decide_eq_true_eq, decide_eq_false_iff_not, Nat.ble_eq, Nat.beq_eq, beq_eq_false_iff_ne, beq_iff_eq, ne_eq] <;> omega))) ?_
       simp only [Int.ofNat_eq_natCast, wc2]
       refine Q.seq fun K2 hK2 => ?_
       refine Q.runSeq (SLR ih [(88, [(53, false)])] []) 100 88 hnt [0, 2, 3, 4, 6, 12, 13, 14, 53] (z := { t := [(0, PV.own 0 (List.length p)), (2, PV.int IntKind.i64 (Int.ofNat c)), (3, PV.int IntKind.i64 (Int.ofNat r)), (4, PV.int IntKind.i64 (Int.ofNat w)), (6, PV.ptr 0 0), (12, PV.int IntKind.i64 (Int.ofNat j)), (13, PV.int IntKind.i64 (Int.ofNat (c + 2))), (14, PV.int IntKind.i64 (0 : Int)), (53, PV.bool false)], h := { bx := [{ cs := [PV.int IntKind.i64 k, PV.int IntKind.i64 n, PV.str s, PV.slice (Dats.len ks) (Dats.cells ks)], ty := 24 }], rw := [some { cs := bytesPL p, n := List.length p, ty := 5, sz := 1 }] } }) (o := [(Int.ofNat j == (0 : Int), false)]) (by kernel_rfl) (by ((repeat' (first | exact okO_nil | refine okN ?_ ?_)); all_goals first | assumption | rfl | exact same_of rfl | exact sameS_self _ | (simp only [decide_eq_true_eq, decide_eq_false_iff_not, Nat.ble_eq, Nat.beq_eq, beq_eq_false_iff_ne, beq_iff_eq, ne_eq] <;> omega))) ?_
       refine Q.cond (b := false) rfl (fun h => by cases h) (fun _ => ?_)
       have d8 : Nat.ble ((List.length p + 1) * 1) 140737488355328 = true := by rw [Nat.ble_eq]; omega
       have d9 : Nat.ble (List.length p + 1) 9223372036854775807 = true := by rw [Nat.ble_eq]; omega
       refine Q.runSeq (SLR ih [(88, [(58, true)])] []) 100 88 hnt [0, 2, 3, 4, 6, 12, 13, 14] (z := { t := [(0, PV.own 0 (List.length p + 1)), (2, PV.int IntKind.i64 (Int.ofNat c)), (3, PV.int IntKind.i64 (Int.ofNat r)), (4, PV.int IntKind.i64 (Int.ofNat w)), (6, PV.ptr 0 0), (12, PV.int IntKind.i64 (Int.ofNat j)), (13, PV.int IntKind.i64 (Int.ofNat (c + 2))), (14, PV.int IntKind.i64 (0 : Int))], h := { bx := [{ cs := [PV.int IntKind.i64 k, PV.int IntKind.i64 n, PV.str s, PV.slice (Dats.len ks) (Dats.cells ks)], ty := 24 }], rw := [some { cs := bytesPL p ++ [PV.int IntKind.u8 (10 : Int)], n := List.length p + 1, ty := 5, sz := 1 }] } }) (o := [(true, true), (Nat.ble ((List.length p + 1) * 1) 140737488355328, true), (Nat.ble (List.length p + 1) 9223372036854775807, true)]) (by kernel_rfl) (by ((repeat' (first | exact okO_nil | refine okN ?_ ?_)); all_goals first | assumption | rfl | exact same_of rfl | exact sameS_self _ | (simp only [decide_eq_true_eq, decide_eq_false_iff_not, Nat.ble_eq, Nat.beq_eq, beq_eq_false_iff_ne, beq_iff_eq, ne_eq] <;> omega))) ?_
       let T2 (v : Nat) : AS := ⟨[(0, .own 0 (p ++ 10 :: List.replicate v 32).length), (2, .int .i64 c), (3, .int .i64 r), (4, .int .i64 w), (6, .ptr 0 0), (12, .int .i64 j), (13, .int .i64 (c + 2 : Nat)), (14, .int .i64 0), (15, .int .i64 v)], ⟨[DB k n s ks], [some (bR (bytesPL (p ++ 10 :: List.replicate v 32)) (p ++ 10 :: List.replicate v 32).length)]⟩⟩
       have hq0 : bytesPL p ++ [PV.int IntKind.u8 (10 : Int)] = bytesPL (p ++ 10 :: List.replicate 0 32) := by rw [bytesPL_append]; rfl
       have hq1 : List.length p + 1 = (p ++ 10 :: List.replicate 0 32).length := by simp
       refine Q.runSeq (SLR ih [(88, [])] []) 100 88 hnt [0, 2, 3, 4, 6, 12, 13, 14, 15] (z := T2 0) (o := []) (by rw [hq0, hq1]; kernel_rfl) (by ((repeat' (first | exact okO_nil | refine okN ?_ ?_)); all_goals first | assumption | rfl | exact same_of rfl | exact sameS_self _ | (simp only [decide_eq_true_eq, decide_eq_false_iff_not, Nat.ble_eq, Nat.beq_eq, beq_eq_false_iff_ne, beq_iff_eq, ne_eq] <;> omega))) ?_
       refine Q.block ?_
       refine Q.loopI (σ := { v : Nat // v ≤ c + 2 }) [0, 2, 3, 4, 6, 12, 13, 14, 15] (fun v => T2 v.1) (fun v => c + 2 - v.1) ⟨0, Nat.zero_le _⟩ rfl fun ⟨v, hv⟩ => ?_
       obtain ⟨q, hq⟩ : ∃ q, q = p ++ 10 :: List.replicate v 32 := ⟨_, rfl⟩
       have hql : q.length = p.length + 1 + v := by rw [hq]; simp; omega
       show SWP G0 C _ _ ⟨[(0, .own 0 (p ++ 10 :: List.replicate v 32).length), (2, .int .i64 c), (3, .int .i64 r), (4, .int .i64 w), (6, .ptr 0 0), (12, .int .i64 j), (13, .int .i64 (c + 2 : Nat)), (14, .int .i64 0), (15, .int .i64 v)], ⟨[DB k n s ks], [some (bR (bytesPL (p ++ 10 :: List.replicate v 32)) (p ++ 10 :: List.replicate v 32).length)]⟩⟩
       rw [← hq]
       rcases Nat.lt_or_ge v (c + 2) with hvl | hvg
       · have g1 : decide ((↑v : Int) < (↑(c + 2) : Int)) = true := by rw [decide_eq_true_eq]; omega
         have g8 : Nat.ble ((List.length q + 1) * 1) 140737488355328 = true := by rw [Nat.ble_eq]; omega
         have g9 : Nat.ble (List.length q + 1) 9223372036854775807 = true := by rw [Nat.ble_eq]; omega
         have wv := wrapC (v + 1) (by omega)
         have hqs : q ++ [32] = p ++ 10 :: List.replicate (v + 1) 32 := by rw [hq, List.replicate_succ']; simp
         have hqb : bytesPL q ++ [PV.int IntKind.u8 (32 : Int)] = bytesPL (p ++ 10 :: List.replicate (v + 1) 32) := by rw [← hqs, bytesPL_append]; rfl
         have hqn : List.length q + 1 = (p ++ 10 :: List.replicate (v + 1) 32).length := by rw [← hqs]; simp
         refine SWP.runQ (SLR ih [(88, [(61, true), (66, true)])] []) 100 88 hnt [0, 2, 3, 4, 6, 12, 13, 14, 15] (e := .normal) (z := { t := [(0, PV.own 0 (List.length q + 1)), (2, PV.int IntKind.i64 (Int.ofNat c)), (3, PV.int IntKind.i64 (Int.ofNat r)), (4, PV.int IntKind.i64 (Int.ofNat w)), (6, PV.ptr 0 0), (12, PV.int IntKind.i64 (Int.ofNat j)), (13, PV.int IntKind.i64 (Int.ofNat (c + 2))), (14, PV.int IntKind.i64 (0 : Int)), (15, PV.int IntKind.i64 (IntKind.wrap IntKind.i64 (Int.ofNat (v + 1))))], h := { bx := [{ cs := [PV.int IntKind.i64 k, PV.int IntKind.i64 n, PV.str s, PV.slice (Dats.len ks) (Dats.cells ks)], ty := 24 }], rw := [some { cs := bytesPL q ++ [PV.int IntKind.u8 (32 : Int)], n := List.length q + 1, ty := 5, sz := 1 }] } }) (o := [(decide ((↑v : Int) < (↑(c + 2) : Int)), true), (true, true), (true, true), (Nat.ble ((List.length q + 1) * 1) 140737488355328, true), (Nat.ble (List.length q + 1) 9223372036854775807, true)]) (by kernel_rfl) (by ((repeat' (first | exact okO_nil | refine okN ?_ ?_)); all_goals first | assumption | rfl | exact same_of rfl | exact sameS_self _ | (simp only [decide_eq_true_eq, decide_eq_false_iff_not, Nat.ble_eq, Nat.beq_eq, beq_eq_false_iff_ne, beq_iff_eq, ne_eq] <;> omega))) (fun st hs => ⟨⟨v + 1, hvl⟩, Nat.sub_lt_sub_left hvl (Nat.lt_succ_self v), ?_⟩)
         rw [hs, hqb, hqn]
         simp only [Int.ofNat_eq_natCast, wv]
         rfl
       obtain rfl : v = c + 2 := by omega
       have g1 : decide ((↑(c + 2) : Int) < (↑(c + 2) : Int)) = false := by rw [decide_eq_false_iff_not]; omega
       refine SWP.runQ (SLR ih [(88, [(61, false)])] []) 100 88 hnt [0, 2, 3, 4, 6, 12, 13, 14] (e := .exit 2) (z := ⟨[(0, .own 0 q.length), (2, .int .i64 c), (3, .int .i64 r), (4, .int .i64 w), (6, .ptr 0 0), (12, .int .i64 j), (13, .int .i64 (c + 2 : Nat)), (14, .int .i64 0)], ⟨[DB k n s ks], [some (bR (bytesPL q) q.length)]⟩⟩) (o := [(decide ((↑(c + 2) : Int) < (↑(c + 2) : Int)), false), (false, false)]) (by kernel_rfl) (by ((repeat' (first | exact okO_nil | refine okN ?_ ?_)); all_goals first | assumption | rfl | exact same_of rfl | exact sameS_self _ | (simp only [decide_eq_true_eq, decide_eq_false_iff_not, Nat.ble_eq, Nat.beq_eq, beq_eq_false_iff_ne, beq_iff_eq, ne_eq] <;> omega))) (fun st hs => hK2 st (.norm [0, 2, 3, 4, 6, 12, 13, 14] ?_))
       rw [hs]
       clear hs hK2
       rw [← hq] at hPs
       refine SWP.runQ (SLR ih [(88, [(72, false), (79, true), (80, true)])] [(88, [(80, .agg [.int .i64 k', .int .i64 n', .str s', .slice ks'.len ks'.cells])])]) 100 88 hnt [0, 2, 3, 4, 6, 12] (e := .normal) (z := { t := [(0, PV.own 0 (List.length (rlC (Int.toNat (Int.ofNat w)) (Int.toNat (Int.ofNat (c + 2))) 0 (bytesOf (bytesPL q)) [PV.int IntKind.i64 k', PV.int IntKind.i64 n', PV.str s', PV.slice (Dats.len ks') (Dats.cells ks')]))), (2, PV.int IntKind.i64 (Int.ofNat c)), (3, PV.int IntKind.i64 (Int.ofNat r)), (4, PV.int IntKind.i64 (Int.ofNat w)), (6, PV.ptr 0 0), (12, PV.int IntKind.i64 (Int.ofNat j))], h := { bx := [{ cs := [PV.int IntKind.i64 k, PV.int IntKind.i64 n, PV.str s, PV.slice (Dats.len ks) (Dats.cells ks)], ty := 24 }], rw := [some { cs := bytesPL (rlC (Int.toNat (Int.ofNat w)) (Int.toNat (Int.ofNat (c + 2))) 0 (bytesOf (bytesPL q)) [PV.int IntKind.i64 k', PV.int IntKind.i64 n', PV.str s', PV.slice (Dats.len ks') (Dats.cells ks')]), n := List.length (rlC (Int.toNat (Int.ofNat w)) (Int.toNat (Int.ofNat (c + 2))) 0 (bytesOf (bytesPL q)) [PV.int IntKind.i64 k', PV.int IntKind.i64 n', PV.str s', PV.slice (Dats.len ks') (Dats.cells ks')]), ty := 5, sz := 1 }] } }) (o := [(Int.ofNat j == IntKind.wrap IntKind.i64 (Int.ofNat (Dats.len ks) - (1 : Int)), false), (false, false), (decide (0 ≤ (↑j : Int) ∧ (↑j : Int) < (↑(Dats.len ks) : Int)), true), (decide (TD.size d24 ≤ List.length (List.drop (Int.toNat (↑j : Int) * TD.size d24) (Dats.cells ks))), true), (same (PV.agg (List.take 4 (List.drop (Int.toNat (Int.ofNat j) * 4) (Dats.cells ks)))) (PV.agg [PV.int IntKind.i64 k', PV.int IntKind.i64 n', PV.str s', PV.slice (Dats.len ks') (Dats.cells ks')]), true), (isLay N [PV.int IntKind.i64 k', PV.int IntKind.i64 n', PV.str s', PV.slice (Dats.len ks') (Dats.cells ks')], true), (decide (0 ≤ (↑w : Int) ∧ (↑w : Int) ≤ 4398046511104), true), (decide (0 ≤ (↑(c + 2) : Int) ∧ (↑(c + 2) : Int) + 2 * (↑N : Int) ≤ 4398046511104), true), (decide ((0 : Int) ≤ 0 ∧ 0 + (↑N : Int) ≤ 4398046511104), true), (Nat.beq (List.length q) (List.length q), true), (Nat.beq (List.length (bytesPL q)) (List.length q), true), (isBytes8 (bytesPL q), true), (Nat.ble (List.length q + lrC (Int.toNat (Int.ofNat w)) (Int.toNat (Int.ofNat (c + 2))) 0 [PV.int IntKind.i64 k', PV.int IntKind.i64 n', PV.str s', PV.slice (Dats.len ks') (Dats.cells ks')]) 140737488355328, true)]) (by kernel_rfl) (by clear hPs; (repeat' (first | exact okO_nil | refine okN ?_ ?_)); all_goals first | (with_reducible rfl) | assumption | (simp only [Int.ofNat_eq_natCast, wc1, wc1', wr1, wr1', Int.toNat_natCast, isBytes8_PL, bytesPL_length, hlr]; done) | ((try simp only [Int.ofNat_eq_natCast, wc1, wc1', wr1, wr1', Int.toNat_natCast, isBytes8_PL, bytesPL_length, hlr]); simp only [decide_eq_true_eq, decide_eq_false_iff_not, Nat.ble_eq, Nat.beq_eq] <;> omega)) (fun st hs => hK st (.norm [0, 2, 3, 4, 6, 12] ?_))
       rw [hs]
       simp only [Int.ofNat_eq_natCast, wc2, wr1, Int.toNat_natCast, bytesOf_PL, hrl]
       rw [← hPs]
       obtain ⟨p2, hp2⟩ : ∃ x, x = P (j + 1) := ⟨_, rfl⟩
       rw [← hp2]
       refine SWP.runQ (SLR ih [(88, [])] []) 100 88 hnt [0, 2, 3, 4, 6, 12] (e := .normal) (z := { t := [(0, PV.own 0 (List.length p2)), (2, PV.int IntKind.i64 (Int.ofNat c)), (3, PV.int IntKind.i64 (Int.ofNat r)), (4, PV.int IntKind.i64 (Int.ofNat w)), (6, PV.ptr 0 0), (12, PV.int IntKind.i64 (IntKind.wrap IntKind.i64 (Int.ofNat (j + 1))))], h := { bx := [{ cs := [PV.int IntKind.i64 k, PV.int IntKind.i64 n, PV.str s, PV.slice (Dats.len ks) (Dats.cells ks)], ty := 24 }], rw := [some { cs := bytesPL p2, n := List.length p2, ty := 5, sz := 1 }] } }) (o := []) (by kernel_rfl) (by ((repeat' (first | exact okO_nil | refine okN ?_ ?_)); all_goals first | assumption | rfl | exact same_of rfl | exact sameS_self _ | (simp only [decide_eq_true_eq, decide_eq_false_iff_not, Nat.ble_eq, Nat.beq_eq, beq_eq_false_iff_ne, beq_iff_eq, ne_eq] <;> omega))) (fun st hs => ⟨⟨j + 1, hlt⟩, Nat.sub_lt_sub_left hlt (Nat.lt_succ_self j), ?_⟩)
       rw [hs, hp2]
       simp only [Int.ofNat_eq_natCast, wj']
       rfl
   · obtain rfl : j = ks.len := by omega
     have d2 := ge_at hge
     have hpl : (P ks.len).length = b.length + 1 + (layTL w ks true c r true).length := by
       rw [hPl, (lay_app w).2]; simp; omega
     show SWP G0 C _ _ ⟨[(0, .own 0 (P ks.len).length), (2, .int .i64 c), (3, .int .i64 r), (4, .int .i64 w), (6, .ptr 0 0), (12, .int .i64 ks.len)], ⟨[DB k n s ks], [some (bR (bytesPL (P ks.len)) (P ks.len).length)]⟩⟩
     obtain ⟨p, hp⟩ : ∃ x, x = P ks.len := ⟨_, rfl⟩
     rw [← hp] at hpl hPl ⊢
     refine SWP.runQ (SLR ih [(88, [(47, false)])] []) 100 88 hnt [0, 2, 3, 4, 6] (e := .exit 0) (z := { t := [(0, PV.own 0 (List.length p)), (2, PV.int IntKind.i64 (Int.ofNat c)), (3, PV.int IntKind.i64 (Int.ofNat r)), (4, PV.int IntKind.i64 (Int.ofNat w)), (6, PV.ptr 0 0)], h := { bx := [{ cs := [PV.int IntKind.i64 k, PV.int IntKind.i64 n, PV.str s, PV.slice (Dats.len ks) (Dats.cells ks)], ty := 24 }], rw := [some { cs := bytesPL p, n := List.length p, ty := 5, sz := 1 }] } }) (o := [(decide ((ks.len : Int) < (ks.len : Int)), false), (false, false)]) (by kernel_rfl) (by ((repeat' (first | exact okO_nil | refine okN ?_ ?_)); all_goals first | assumption | rfl | exact same_of rfl | exact sameS_self _ | (simp only [decide_eq_true_eq, decide_eq_false_iff_not, Nat.ble_eq, Nat.beq_eq, beq_eq_false_iff_ne, beq_iff_eq, ne_eq] <;> omega))) (fun st hs => hK3 st (.norm [0, 2, 3, 4, 6] ?_))
     rw [hs]
     have d8 : Nat.ble ((List.length p + 1) * 1) 140737488355328 = true := by rw [Nat.ble_eq]; omega
     have d9 : Nat.ble (List.length p + 1) 9223372036854775807 = true := by rw [Nat.ble_eq]; omega
     refine SWP.runQ (SLR ih [(88, [(87, true)])] []) 100 88 hnt [10] (e := .ret) (z := { t := [(10, PV.own 0 (List.length p + 1))], h := { bx := [{ cs := [PV.int IntKind.i64 k, PV.int IntKind.i64 n, PV.str s, PV.slice (Dats.len ks) (Dats.cells ks)], ty := 24 }], rw := [some { cs := bytesPL p ++ [PV.int IntKind.u8 (41 : Int)], n := List.length p + 1, ty := 5, sz := 1 }] } }) (o := [(true, true), (Nat.ble ((List.length p + 1) * 1) 140737488355328, true), (Nat.ble (List.length p + 1) 9223372036854775807, true)]) (by kernel_rfl) (by ((repeat' (first | exact okO_nil | refine okN ?_ ?_)); all_goals first | assumption | rfl | exact same_of rfl | exact sameS_self _ | (simp only [decide_eq_true_eq, decide_eq_false_iff_not, Nat.ble_eq, Nat.beq_eq, beq_eq_false_iff_ne, beq_iff_eq, ne_eq] <;> omega))) (fun st hs => fin st (p ++ [41]) (by rw [lg, hPl]) ?_)
     rw [hs, bytesPL_append, List.length_append]; rfl))
  rcases hB with ⟨rfl, rfl⟩ | ⟨rfl, rfl, rfl⟩
  · have d8 : Nat.ble ((List.length b + 1) * 1) 140737488355328 = true := by rw [Nat.ble_eq]; omega
    have d9 : Nat.ble (List.length b + 1) 9223372036854775807 = true := by rw [Nat.ble_eq]; omega
    exact SWP.runQ (SLR ih [(88, [(42, true)])] []) 100 88 hnt [0, 2, 3, 4, 6] (e := .normal) (z := { t := [(0, PV.own 0 (List.length b + 1)), (2, PV.int IntKind.i64 (Int.ofNat c)), (3, PV.int IntKind.i64 (Int.ofNat r)), (4, PV.int IntKind.i64 (Int.ofNat w)), (6, PV.ptr 0 0)], h := { bx := [{ cs := [PV.int IntKind.i64 k, PV.int IntKind.i64 n, PV.str s, PV.slice (Dats.len ks) (Dats.cells ks)], ty := 24 }], rw := [some { cs := bytesPL b ++ [PV.int IntKind.u8 (40 : Int)], n := List.length b + 1, ty := 5, sz := 1 }] } }) (o := [(true, true), (Nat.ble ((List.length b + 1) * 1) 140737488355328, true), (Nat.ble (List.length b + 1) 9223372036854775807, true)]) (by kernel_rfl) (by ((repeat' (first | exact okO_nil | refine okN ?_ ?_)); all_goals first | assumption | rfl | exact same_of rfl | exact sameS_self _ | (simp only [decide_eq_true_eq, decide_eq_false_iff_not, Nat.ble_eq, Nat.beq_eq, beq_eq_false_iff_ne, beq_iff_eq, ne_eq] <;> omega))) (fun st hs => rest st hs)
  · exact SWP.runQ (SLR ih [(88, [(42, true)])] []) 100 88 hnt [0, 2, 3, 4, 6] (e := .normal) (z := { t := [(0, PV.own 0 1), (2, PV.int IntKind.i64 (Int.ofNat c)), (3, PV.int IntKind.i64 (Int.ofNat r)), (4, PV.int IntKind.i64 (Int.ofNat w)), (6, PV.ptr 0 0)], h := { bx := [{ cs := [PV.int IntKind.i64 k, PV.int IntKind.i64 n, PV.str s, PV.slice (Dats.len ks) (Dats.cells ks)], ty := 24 }], rw := [some { cs := [PV.int IntKind.u8 (40 : Int)], n := 1, ty := 5, sz := 1 }] } }) (o := [(true, true), (true, true), (true, true)]) (by kernel_rfl) (by ((repeat' (first | exact okO_nil | refine okN ?_ ?_)); all_goals first | assumption | rfl | exact same_of rfl | exact sameS_self _ | (simp only [decide_eq_true_eq, decide_eq_false_iff_not, Nat.ble_eq, Nat.beq_eq, beq_eq_false_iff_ne, beq_iff_eq, ne_eq] <;> omega))) (fun st hs => rest st hs)
theorem rlayAt (N : Nat) : RLayAt N := by
  induction N with
  | zero => intro d h; omega
  | succ N ih => exact fun d hN hok hrng hf ht w c r hw hc hr b hb => rlay_gen ih d hN hok hrng hf ht w c r hw hc hr _ _ b (.inl ⟨rfl, rfl⟩) hb
/-- From nothing. -/
theorem rlay_new (d : Dat) (hok : d.ok) (hrng : d.rng) (hf : formedD d = true) (ht : (textD d).length ≤ 4398046511104) (w c r : Nat) (hw : w ≤ 4398046511104) (hc : c + 2 * (d.size + 2) ≤ 4398046511104) (hr : r + (d.size + 2) ≤ 4398046511104) (hb : (layT w d c r).length ≤ 140737488355328) :
    RCalls G0 32 [.nil, .agg d.cells, .int .i64 c, .int .i64 r, .int .i64 w] ⟨[], []⟩ (fun o H => o = .ret (.own 0 (layT w d c r).length) ∧ H = ⟨[], [some (bR (bytesPL (layT w d c r)) (layT w d c r).length)]⟩) :=
  rlay_gen (rlayAt (d.size + 1)) d (by omega) hok hrng hf ht w c r hw (by omega) (by omega) .nil [] [] (.inr ⟨rfl, rfl, rfl⟩) (by simpa using hb)
end Seat
end Go.Proofs.YtkblfapbakfgpaaDoor
/- Layout: how long texts and layouts may be. -/
namespace Go.Proofs.YtkblfapbakfgpaaDoor
open Go.AS Go.RowKit
set_option linter.unusedVariables false
set_option linter.unusedSimpArgs false
set_option maxRecDepth 100000
namespace Seat
mutual
theorem size_parts : ∀ d : Dat, d.size + 1 = 2 * parts d
  | .mk k n s ks => by simp only [Dat.size, parts]; have := size_partsL ks; omega
theorem size_partsL : ∀ ks : Dats, ks.size = 2 * partsL ks
  | .nil => rfl
  | .cons d ds => by simp only [Dats.size, partsL]; have := size_parts d; have := size_partsL ds; omega
end
theorem itoa_len (n : Int) (h0 : -9223372036854775808 ≤ n) (h1 : n ≤ 9223372036854775807) : (Go.Lib.itoa n).length ≤ 21 := by
  have h10 : ∀ u : Nat, u ≤ 9223372036854775808 → Go.Lib.nDigits u ≤ 20 := fun u hu => nd_le 19 u (by rw [show (10 : Nat) ^ (19 + 1) = 100000000000000000000 from rfl]; omega)
  rw [Go.Lib.itoa]
  split
  · simp only [List.length_cons, Go.Lib.decDigits_length]
    have := h10 n.natAbs (by omega)
    omega
  · rw [Go.Lib.decDigits_length]
    have := h10 n.toNat (by omega)
    omega
mutual
theorem text_len : ∀ d : Dat, d.rng → formedD d = true → (textD d).length ≤ 42 * d.size
  | .mk k n s ks, hr, hf => by
    simp only [formedD, Bool.or_eq_true, Bool.and_eq_true, decide_eq_true_eq] at hf
    simp only [Dat.size]
    rw [textD]
    split
    · have := itoa_len n hr.1.1 hr.1.2
      omega
    · split
      · rename_i h1 h2
        have hs : s.size ≤ 40 := by
          rcases hf with (h | h) | h
          · omega
          · have := h.1.2
            simp only [symOk, symBad, Bool.and_eq_true, Bool.not_eq_true', Bool.or_eq_false_iff, decide_eq_false_iff_not] at this
            omega
          · omega
        show s.size ≤ _
        omega
      · have hk : formedL ks = true := by
          rcases hf with (h | h) | h
          · omega
          · omega
          · exact h.2
        have := text_lenL ks true hr.2 hk
        simp only [List.length_cons, List.length_append, List.length_nil]
        omega
theorem text_lenL : ∀ (ks : Dats) (f : Bool), ks.rng → formedL ks = true → (textL f ks).length ≤ 42 * ks.size
  | .nil, f, hr, hf => by simp [textL]
  | .cons d ds, f, hr, hf => by
    simp only [formedL, Bool.and_eq_true] at hf
    have h1 := text_len d hr.1 hf.1
    have h2 := text_lenL ds false hr.2 hf.2
    simp only [textL, List.length_append, Dats.size]
    cases f <;> simp <;> omega
end
theorem layTL_cons (w : Nat) (d : Dat) (ds : Dats) (f : Bool) (c r : Nat) (l : Bool) : layTL w (.cons d ds) f c r l = ((if f = true then [] else 10 :: List.replicate (c + 2) 32) ++ layT w d (if f = true then c + 1 else c + 2) (if ds.len = 0 ∧ l = true then r + 1 else 0)) ++ layTL w ds false c r l := by
  unfold layTL
  rw [layGL, (lay_app w).2, (lay_app w).1]
  cases f <;> rfl
mutual
theorem layT_len (K : Nat) : ∀ (d : Dat), d.rng → formedD d = true → ∀ w c r, c + 2 * d.size ≤ K → (layT w d c r).length ≤ d.size * (K + 45)
  | .mk k n s ks, hr, hf, w, c, r, h => by
    by_cases hc : ks.len = 0 ∨ c + (textD (.mk k n s ks)).length + r ≤ w
    · have : layT w (.mk k n s ks) c r = textD (.mk k n s ks) := by
        unfold layT
        rw [layG]
        simp only [rS]
        rw [if_pos hc]
        simp
      rw [this]
      have h1 := text_len (.mk k n s ks) hr hf
      have h2 : (Dat.mk k n s ks).size * 42 ≤ (Dat.mk k n s ks).size * (K + 45) := Nat.mul_le_mul_left _ (by omega)
      omega
    · rw [layT_list w k n s ks c r hc]
      have hk : formedL ks = true := by
        simp only [formedD, Bool.or_eq_true, Bool.and_eq_true, decide_eq_true_eq] at hf
        rcases hf with (h | h) | h
        · exact absurd (.inl h.2) hc
        · exact absurd (.inl h.2) hc
        · exact h.2
      simp only [Dat.size] at h ⊢
      have := layTL_len K ks hr.2 hk w true c r true (by omega)
      simp only [List.length_cons, List.length_append, List.length_nil, Nat.add_mul]
      omega
theorem layTL_len (K : Nat) : ∀ (ks : Dats), ks.rng → formedL ks = true → ∀ w f c r l, c + 2 * ks.size + 2 ≤ K → (layTL w ks f c r l).length ≤ ks.size * (K + 45)
  | .nil, hr, hf, w, f, c, r, l, h => by simp [layTL, layGL]
  | .cons d ds, hr, hf, w, f, c, r, l, h => by
    simp only [formedL, Bool.and_eq_true] at hf
    simp only [Dats.size] at h ⊢
    rw [layTL_cons, List.length_append, List.length_append]
    have h2 := layTL_len K ds hr.2 hf.2 w false c r l (by omega)
    have h1 := layT_len K d hr.1 hf.1 w (if f = true then c + 1 else c + 2) (if ds.len = 0 ∧ l = true then r + 1 else 0) (by split <;> omega)
    simp only [Nat.add_mul]
    cases f <;> simp at h1 ⊢ <;> omega
end
/-- A datum that is small enough to lay. -/
def Small (d : Dat) : Prop := d.ok ∧ d.rng ∧ parts d ≤ 400000
theorem Small.text {d : Dat} (h : Small d) (hf : formedD d = true) : (textD d).length ≤ 4398046511104 := by
  have := text_len d h.2.1 hf
  have := size_parts d
  have := h.2.2
  omega
theorem Small.lay {d : Dat} (h : Small d) (hf : formedD d = true) (w : Nat) : (layT w d 0 0).length ≤ d.size * 1600045 := by
  have := size_parts d
  have h2 := h.2.2
  exact layT_len 1600000 d h.2.1 hf w 0 0 (by omega)
theorem deepN_parts : ∀ d : Dat, deepN d ≤ parts d := by
  have key : (∀ N, (∀ d : Dat, d.size < N → deepN d ≤ parts d) ∧ (∀ ks : Dats, ks.size < N → deepNL ks ≤ partsL ks)) := by
    intro N
    induction N with
    | zero => exact ⟨fun d h => by omega, fun d h => by omega⟩
    | succ N ih =>
      refine ⟨fun d hd => ?_, fun ks hk => ?_⟩
      · obtain ⟨k, n, s, ks⟩ := d
        simp only [Dat.size] at hd
        have := ih.2 ks (by omega)
        simp only [deepN, parts]
        omega
      · cases ks with
        | nil => exact Nat.le_refl _
        | cons d ds =>
          simp only [Dats.size] at hk
          have h1 := ih.1 d (by omega)
          have h2 := ih.2 ds (by omega)
          simp only [deepNL, partsL]
          omega
  exact fun d => (key (d.size + 1)).1 d (by omega)
mutual
theorem cutD_rng : ∀ (d : Dat) (dp p : Int), d.rng → (cutD d dp p).1.rng
  | .mk k n s ks, dp, p, h => ⟨h.1, cutL_rng ks dp (p - 1) h.2⟩
theorem cutL_rng : ∀ (ks : Dats) (dp p : Int), ks.rng → (cutL ks dp p).1.rng
  | .nil, dp, p, h => by simp only [cutL, Dats.rng]
  | .cons d ds, dp, p, h => by
    simp only [cutL]
    split
    · exact ⟨cutD_rng d (dp - 1) p h.1, cutL_rng ds dp _ h.2⟩
    · trivial
end
theorem cut_small (d : Dat) (ho : d.ok) (hr : d.rng) (p dp : Int) (h1 : 1 ≤ p) (h2 : p ≤ 400000) : Small (cutD d dp p).1 := ⟨cutD_ok d dp p ho, cutD_rng d dp p hr, by have := cutD_parts d dp p h1; omega⟩
theorem Small.good {d : Dat} (h : Small d) : Good d := ⟨h.1, by have := deepN_parts d; have := h.2.2; omega⟩
end Seat
end Go.Proofs.YtkblfapbakfgpaaDoor
/- Layout: several data. Printed by dev/lay5.py and dev/nfsub.py (this session's). -/
namespace Go.Proofs.YtkblfapbakfgpaaDoor
open Go.AS Go.RowKit
set_option linter.unusedVariables false
set_option linter.unusedSimpArgs false
set_option maxRecDepth 100000
set_option maxHeartbeats 4000000
namespace Seat
def fitE (w : Int) : Int := if w < 10 then 2 else if 200 < w then 2 else 0
theorem fits_ok (w : Int) : Pure G0 35 [.int .i64 w] (fun r => r = .int .i64 (fitE w)) := by
  by_cases h1 : w < 10
  · have : fitE w = 2 := by rw [fitE, if_pos h1]
    rw [this]
    exact Pure.runO (S := SK [(9, [(4, true)])]) 60 (o := [(decide (w < 10), true)]) (by kernel_rfl) (by simp [okO, h1])
  · by_cases h2 : 200 < w
    · have : fitE w = 2 := by rw [fitE, if_neg h1, if_pos h2]
      rw [this]
      exact Pure.runO (S := SK [(9, [(4, false), (7, true)])]) 60 (o := [(decide (w < 10), false), (decide (w > 200), true)]) (by kernel_rfl) (by simp [okO, h1, h2])
    · have : fitE w = 0 := by rw [fitE, if_neg h1, if_neg h2]
      rw [this]
      exact Pure.runO (S := SK [(9, [(4, false), (7, false)])]) 60 (o := [(decide (w < 10), false), (decide (w > 200), false)]) (by kernel_rfl) (by simp [okO, h1, h2])
open Classical in
noncomputable def isLy (cs : List PV) : Bool := decide (∃ d : Dat, d.cells = cs ∧ Small d ∧ formedD d = true)
theorem isLy_at {d : Dat} (h : Small d) (hf : formedD d = true) : isLy d.cells = true := by
  unfold isLy
  classical exact decide_eq_true ⟨d, rfl, h, hf⟩
theorem isLy_of {cs : List PV} (h : isLy cs = true) : ∃ d : Dat, d.cells = cs ∧ Small d ∧ formedD d = true := by
  unfold isLy at h
  classical exact of_decide_eq_true h
noncomputable def alS (f : Nat) (args : List PV) : Option (PV × Ob) := match f, args with
  | 34, [.agg cs] => some (.int .i64 (ofCells chkD 0 cs), [(isGood cs, true)])
  | 35, [.int .i64 w] => some (.int .i64 (fitE w), [])
  | _, _ => none
theorem alS_ok (f : Nat) (args : List PV) (r : PV) (o : Ob) (h : alS f args = some (r, o)) (ho : ∀ p ∈ o, p.1 = p.2) (_ : pureL args = true) : Pure G0 f args (fun x => x = r) := by
  unfold alS at h
  split at h
  · cases h
    obtain ⟨d, rfl, h1⟩ := isGood_of (ho _ (List.mem_singleton.2 rfl))
    rw [ofCells_at]; exact dcheck_ok d h1
  · cases h
    exact fits_ok _
  · cases h
/-- A small datum is laid, on a new paper or on one that has been used. -/
noncomputable def lyV (f : Nat) (xs : List PV) (H : Hp) : Option (PV × Hp × Ob) := match f, xs, H with
  | 37, [.agg [.iface tp (.ptr 0 0), .int .i64 w], .agg cs, .int .i64 0, .int .i64 0], ⟨[⟨[.ptr 0 0, .own 0 n], ty⟩], [some ⟨rc, m, e, 1⟩]⟩ => match Nat.beq tp 62 && Nat.beq ty 67 && Nat.beq e 5 with
    | true => some (.tup [], ⟨[⟨[.ptr 0 0, .own 0 (lpC w.toNat 0 0 (bytesOf rc) cs).length], ty⟩], [some ⟨bytesPL (lpC w.toNat 0 0 (bytesOf rc) cs), (lpC w.toNat 0 0 (bytesOf rc) cs).length, e, 1⟩]⟩,
        [(isLy cs, true), (decide (0 ≤ w ∧ w ≤ 4398046511104), true), (Nat.beq n m, true), (Nat.beq rc.length m, true), (isBytes8 rc, true), (Nat.ble (m + lrC w.toNat 0 0 cs) 140737488355328, true)])
    | false => none
  | 37, [.agg [.iface tp (.ptr 0 0), .int .i64 w], .agg cs, .int .i64 0, .int .i64 0], ⟨[⟨[.nilptr, .nil], ty⟩], []⟩ => match Nat.beq tp 62 && Nat.beq ty 67 with
    | true => some (.tup [], ⟨[⟨[.ptr 0 0, .own 0 (lpC w.toNat 0 0 [] cs).length], ty⟩], [some ⟨bytesPL (lpC w.toNat 0 0 [] cs), (lpC w.toNat 0 0 [] cs).length, 5, 1⟩]⟩,
        [(isLy cs, true), (decide (0 ≤ w ∧ w ≤ 4398046511104), true)])
    | false => none
  | _, _, _ => none
theorem lyV_ok (f : Nat) (xs : List PV) (H : Hp) (r : PV) (H' : Hp) (o : Ob) (h : lyV f xs H = some (r, H', o)) (ho : ∀ p ∈ o, p.1 = p.2) : RCalls G0 f xs H (fun o' H2 => o' = .ret r ∧ H2 = H') ∧ r.scP (belowN H'.bx.length) (belowN H'.rw.length) = true ∧ H'.scB H'.bx.length H'.rw.length = true := by
  unfold lyV at h
  split at h
  · rename_i tp w cs n ty rc m e
    split at h
    · rename_i hc
      cases h
      simp only [Bool.and_eq_true, Nat.beq_eq] at hc
      obtain ⟨⟨rfl, rfl⟩, rfl⟩ := hc
      obtain ⟨d, rfl, h1, h2⟩ := isLy_of (ho (isLy cs, true) (by simp))
      have g1 := of_decide_eq_true (ho (decide (0 ≤ w ∧ w ≤ 4398046511104), true) (by simp))
      have g4 := ho (Nat.beq n m, true) (by simp)
      have g5 := ho (Nat.beq rc.length m, true) (by simp)
      have g6 := ho (isBytes8 rc, true) (by simp)
      have g7 := ho (Nat.ble (m + lrC w.toNat 0 0 d.cells) 140737488355328, true) (by simp)
      simp only [Nat.beq_eq, Nat.ble_eq] at g4 g5 g7
      subst g4
      rw [lrC_at] at g7
      rw [lpC_at]
      have hb := bytesPL_of8 rc g6
      have hbl : (bytesOf rc).length = n := by rw [bytesOf_length]; exact g5
      have hs := size_parts d
      have hp := h1.2.2
      have key := layAt (d.size + 1) d (by omega) h1.1 h1.2.1 h2 (h1.text h2) w.toNat 0 0 (by omega) (by omega) (by omega) (bytesOf rc) (by rw [hbl]; exact g7)
      rw [hbl, hb, Int.toNat_of_nonneg g1.1] at key
      exact ⟨key, rfl, rfl⟩
    · cases h
  · rename_i tp w cs ty
    split at h
    · rename_i hc
      cases h
      simp only [Bool.and_eq_true, Nat.beq_eq] at hc
      obtain ⟨rfl, rfl⟩ := hc
      obtain ⟨d, rfl, h1, h2⟩ := isLy_of (ho (isLy cs, true) (by simp))
      have g1 := of_decide_eq_true (ho (decide (0 ≤ w ∧ w ≤ 4398046511104), true) (by simp))
      rw [lpC_at]
      have hs := size_parts d
      have hp := h1.2.2
      have hl := h1.lay h2 w.toNat
      have key := lay_new d h1.1 h1.2.1 h2 (h1.text h2) w.toNat 0 0 (by omega) (by omega) (by omega) (by omega)
      rw [Int.toNat_of_nonneg g1.1] at key
      exact ⟨key, rfl, rfl⟩
    · cases h
  · cases h
noncomputable def lyV2 (f : Nat) (xs : List PV) (H : Hp) : Option (PV × Hp × Ob) := match lyV f xs H with
  | some r => some r
  | none => ccV f xs H
theorem lyV2_ok (f : Nat) (xs : List PV) (H : Hp) (r : PV) (H' : Hp) (o : Ob) (h : lyV2 f xs H = some (r, H', o)) (ho : ∀ p ∈ o, p.1 = p.2) : RCalls G0 f xs H (fun o' H2 => o' = .ret r ∧ H2 = H') ∧ r.scP (belowN H'.bx.length) (belowN H'.rw.length) = true ∧ H'.scB H'.bx.length H'.rw.length = true := by
  unfold lyV2 at h
  split at h
  · rename_i x hx
    cases h
    exact lyV_ok f xs H r H' o hx ho
  · exact ccV_ok f xs H r H' o h ho
noncomputable def SA (l : List (Nat × List (Nat × Bool))) (v : List (Nat × List (Nat × PV))) : Cfg G0 := { F := F, hF := hF, S := alS, hS := alS_ok, V := lyV2, hV := lyV2_ok, hp := hpB, D := hpB, orc := orcM l, val := valM v }
def allGL {σ : Type} (S : Snk σ) (w : Nat) : Dats → Bool → σ → σ
  | .nil, _, x => x
  | .cons d ds, f, x => allGL S w ds false (S.text [10] (layG S w d 0 0 (if f = true then x else S.text [10] x)))
theorem allGL_take {σ : Type} (S : Snk σ) (w : Nat) : ∀ (ks : Dats) (f : Bool) (j : Nat) (x : σ), j < ks.len →
    allGL S w (ks.take (j + 1)) f x = S.text [10] (layG S w (ks.get j) 0 0 (if j = 0 ∧ f = true then allGL S w (ks.take j) f x else S.text [10] (allGL S w (ks.take j) f x)))
  | .nil, f, j, x, h => by simp [Dats.len] at h
  | .cons d ds, f, 0, x, h => by cases f <;> simp [Dats.take, allGL, Dats.get]
  | .cons d ds, f, j + 1, x, h => by
    have hj : j < ds.len := by simp only [Dats.len] at h; omega
    have ih := allGL_take S w ds false j (S.text [10] (layG S w d 0 0 (if f = true then x else S.text [10] x))) hj
    rw [Dats.take, allGL, ih]
    simp only [Dats.get, Dats.take, allGL, Bool.false_eq_true, and_false, if_false, Nat.add_eq_zero_iff, false_and, Nat.one_ne_zero]
theorem simA {σ τ : Type} {S : Snk σ} {T : Snk τ} {R : σ → τ → Prop} (h : Sim S T R) (w : Nat) : ∀ (ks : Dats) (f : Bool) (x : σ) (y : τ), R x y → R (allGL S w ks f x) (allGL T w ks f y)
  | .nil, _, _, _, hR => hR
  | .cons d ds, f, x, y, hR => by
    rw [allGL, allGL]
    refine simA h w ds _ _ _ (h.text _ _ _ ((sim h w).1 d 0 0 _ _ ?_))
    split
    · exact hR
    · exact h.text _ _ _ hR
theorem sim_le : Sim pS rS (fun x y => x.length ≤ y.length) := ⟨fun t x y h => by simp [pS, rS]; exact h, fun n x y h => by simp [pS, rS]; exact h, fun x y _ h => ⟨fun t => by simp [rS]; omega, fun n => by simp [rS]; omega⟩, fun y => rfl⟩
theorem sim_eq : Sim pS rS (fun x y => x = y ∨ (2000000 < x.length ∧ 2000000 < y.length)) :=
  ⟨fun t x y h => by
    rcases h with rfl | h
    · exact .inl rfl
    · refine .inr ?_; simp [pS, rS]; omega, fun n x y h => by
    rcases h with rfl | h
    · exact .inl rfl
    · refine .inr ?_; simp [pS, rS]; omega, fun x y hm h => by
    have hl : 2000000 < x.length := by
      rcases Nat.lt_or_ge 2000000 x.length with h | h
      · exact h
      · have : pS.more x = true := by simp only [pS, Nat.ble_eq]; exact h
        rw [this] at hm; cases hm
    have hy : 2000000 < y.length := by
      rcases h with rfl | h
      · exact hl
      · exact h.2
    exact ⟨fun t => .inr ⟨hl, by simp [rS]; omega⟩, fun n => .inr ⟨hl, by simp [rS]; omega⟩⟩, fun y => rfl⟩
/-- The document's layouts of several data. -/
def aT (w : Nat) (ks : Dats) : List UInt8 := allGL rS w ks true []
def aP (w : Nat) (ks : Dats) : List UInt8 := allGL pS w ks true []
theorem aP_aT (w : Nat) (ks : Dats) : aP w ks = aT w ks ∨ (2000000 < (aP w ks).length ∧ 2000000 < (aT w ks).length) := simA sim_eq w ks true [] [] (.inl rfl)
theorem all_len (w : Nat) : ∀ (ks : Dats) (f : Bool) (x : List UInt8), ks.rng → formedL ks = true → ks.size ≤ 800000 → (allGL rS w ks f x).length ≤ x.length + ks.size * 1600047
  | .nil, f, x, _, _, _ => by simp [allGL]
  | .cons d ds, f, x, hr, hf, hs => by
    simp only [formedL, Bool.and_eq_true] at hf
    simp only [Dats.size] at hs ⊢
    rw [allGL]
    refine Nat.le_trans (all_len w ds false _ hr.2 hf.2 (by omega)) ?_
    have h1 := layT_len 1600000 d hr.1 hf.1 w 0 0 (by omega)
    rw [(lay_app w).1]
    simp only [rS, List.length_append, List.length_cons, List.length_nil]
    have h2 : (if f = true then x else x ++ [10]).length ≤ x.length + 1 := by split <;> simp
    omega
theorem take_size : ∀ (ks : Dats) (j : Nat), (ks.take j).size ≤ ks.size
  | .nil, 0 => by simp [Dats.take]
  | .nil, j + 1 => by simp [Dats.take]
  | .cons d ds, 0 => by simp [Dats.take, Dats.size]
  | .cons d ds, j + 1 => by simp only [Dats.take, Dats.size]; have := take_size ds j; omega
theorem take_rng : ∀ (ks : Dats) (j : Nat), ks.rng → (ks.take j).rng
  | .nil, 0, h => by simp [Dats.take, Dats.rng]
  | .nil, j + 1, h => by simp [Dats.take, Dats.rng]
  | .cons d ds, 0, h => by simp [Dats.take, Dats.rng]
  | .cons d ds, j + 1, h => ⟨h.1, take_rng ds j h.2⟩
theorem take_formed : ∀ (ks : Dats) (j : Nat), formedL ks = true → formedL (ks.take j) = true
  | .nil, 0, h => by simp [Dats.take, formedL]
  | .nil, j + 1, h => by simp [Dats.take, formedL]
  | .cons d ds, 0, h => by simp [Dats.take, formedL]
  | .cons d ds, j + 1, h => by
    simp only [formedL, Bool.and_eq_true] at h
    simp only [Dats.take, formedL, Bool.and_eq_true]
    exact ⟨h.1, take_formed ds j h.2⟩
theorem parts_get : ∀ (ks : Dats) (j : Nat), j < ks.len → parts (ks.get j) ≤ partsL ks
  | .nil, j, h => by simp [Dats.len] at h
  | .cons d ds, 0, h => by simp only [Dats.get, partsL]; omega
  | .cons d ds, j + 1, h => by
    have := parts_get ds j (by simp only [Dats.len] at h; omega)
    simp only [Dats.get, partsL]; omega
theorem parts_pos : ∀ d : Dat, 1 ≤ parts d
  | .mk _ _ _ ks => by simp only [parts]; omega
theorem len_parts : ∀ ks : Dats, ks.len ≤ partsL ks
  | .nil => Nat.le_refl _
  | .cons d ds => by simp only [Dats.len, partsL]; have := len_parts ds; have := parts_pos d; omega
def chkA : Dats → Int
  | .nil => 0
  | .cons d ds => if chkD d = 0 then chkA ds else chkD d
theorem chkA_at : ∀ (ks : Dats) (j : Nat), j < ks.len → (∀ i, i < j → chkD (ks.get i) = 0) → chkD (ks.get j) ≠ 0 → chkA ks = chkD (ks.get j)
  | .nil, j, h, _, _ => by simp [Dats.len] at h
  | .cons d ds, 0, h, _, hn => by
    have hn' : chkD d ≠ 0 := hn
    rw [chkA, if_neg hn']; rfl
  | .cons d ds, j + 1, h, hl, hn => by
    have h0 : chkD d = 0 := hl 0 (by omega)
    rw [chkA, if_pos h0]
    exact chkA_at ds j (by simp only [Dats.len] at h; omega) (fun i hi => hl (i + 1) (by omega)) hn
theorem chkA_none : ∀ (ks : Dats), (∀ i, i < ks.len → chkD (ks.get i) = 0) → chkA ks = 0
  | .nil, _ => rfl
  | .cons d ds, h => by
    have h0 : chkD d = 0 := h 0 (by simp only [Dats.len]; omega)
    rw [chkA, if_pos h0]
    exact chkA_none ds fun i hi => h (i + 1) (by simp only [Dats.len]; omega)
theorem chk_formed {d : Dat} (h : chkD d = 0) : formedD d = true := by
  unfold chkD at h
  cases hf : formedD d with
  | true => rfl
  | false => rw [hf] at h; simp at h
/-- A list of data that are small together. -/
def SmallL (ks : Dats) : Prop := ks.ok ∧ ks.rng ∧ partsL ks ≤ 400000
theorem SmallL.get {ks : Dats} (h : SmallL ks) {j : Nat} (hj : j < ks.len) : Small (ks.get j) := ⟨Dats.get_ok ks j hj h.1, Dats.get_rng ks j hj h.2.1, Nat.le_trans (parts_get ks j hj) h.2.2⟩
def allR (ks : Dats) (w : Int) : PV := if chkA ks = 0 then if fitE w = 0 then if (aT w.toNat ks).length ≤ 2000000 then .tup [.str (mkS (aT w.toNat ks)), .int .i64 0] else .tup [.str ⟨#[]⟩, .int .i64 3] else .tup [.str ⟨#[]⟩, .int .i64 (fitE w)] else .tup [.str ⟨#[]⟩, .int .i64 (chkA ks)]
def HqP (j : Nat) (p : List UInt8) : Hp := if j = 0 then ⟨[pB0], []⟩ else ⟨[pB p.length], [some (bR (bytesPL p) p.length)]⟩
theorem all_ok (ks : Dats) (hs : SmallL ks) (w : Int) : Pure G0 17 [.slice ks.len ks.cells, .int .i64 w] (fun r => r = allR ks w) := by
  have hlen := len_parts ks
  have hls := size_partsL ks
  have hpl := hs.2.2
  refine Fn.enterB Tryd.func17 Tryd.ntmps17 rfl (Nat.le_of_ble_eq_true rfl) fun C fr fp hnt hnb hp hfr hfp => ?_
  have fin : ∀ st s e H, allR ks w = .tup [.str s, .int .i64 e] → nrm [4, 5] st = ⟨[(4, .str s), (5, .int .i64 e)], H⟩ → fr st := fun st s e H hr hst => hfr st [4, 5] (by
    rw [hst]
    exact ⟨0, .tup [.str s, .int .i64 e], Nat.le_refl _, Nat.zero_le _, rfl, rfl, rfl, rfl, _, rfl, hr.symm⟩)
  refine Q.runSeq (SA [] []) 100 59 hnt [0, 1] (z := { t := [(0, PV.slice (Dats.len ks) (Dats.cells ks)), (1, PV.int IntKind.i64 w)], h := { bx := [], rw := [] } }) (o := []) (by kernel_rfl) (by ((repeat' (first | exact okO_nil | refine okN ?_ ?_)); all_goals first | assumption | rfl | exact same_of rfl | exact sameS_self _ | (simp only [decide_eq_true_eq, decide_eq_false_iff_not, Nat.ble_eq, Nat.beq_eq, beq_eq_false_iff_ne, beq_iff_eq, ne_eq] <;> omega))) ?_
  refine Q.seq fun K1 hK1 => ?_
  have r1 : (∀ i, i < ks.len → chkD (ks.get i) = 0) → ∀ st bs, nrm [0, 1] st = ⟨[(0, .slice ks.len ks.cells), (1, .int .i64 w)], ⟨bs, []⟩⟩ → K1 st := fun hall st bs hst => hK1 st (.norm [0, 1] (by
    rw [hst]
    clear hst hK1
    refine SWP.dropB 0 (by rw [hnb]; exact Nat.le_refl _) (Nat.zero_le _) rfl rfl ?_
    show SWP G0 C _ _ ⟨[(0, .slice ks.len ks.cells), (1, .int .i64 w)], ⟨[], []⟩⟩
    have hA := chkA_none ks hall
    by_cases hfit : fitE w = 0
    case neg =>
      have c1 : (!fitE w == (0 : Int)) = true := by rw [Bool.not_eq_true', beq_eq_false_iff_ne]; exact hfit
      refine Q.seq fun K2 hK2 => ?_
      exact SWP.runQ (SA [(59, [(28, true)])] []) 100 59 hnt [4, 5] (e := .ret) (z := { t := [(4, PV.str { data := #[] }), (5, PV.int IntKind.i64 (fitE w))], h := { bx := [], rw := [] } }) (o := [(true, true), (!fitE w == (0 : Int), true), (true, true)]) (by kernel_rfl) (by ((repeat' (first | exact okO_nil | refine okN ?_ ?_)); all_goals first | assumption | rfl | exact same_of rfl | exact sameS_self _ | (simp only [decide_eq_true_eq, decide_eq_false_iff_not, Nat.ble_eq, Nat.beq_eq, beq_eq_false_iff_ne, beq_iff_eq, ne_eq] <;> omega))) (fun st hs => fin st _ _ _ (by rw [allR, if_pos hA, if_neg hfit]) hs)
    have c1 : (!fitE w == (0 : Int)) = false := by rw [Bool.not_eq_false', beq_iff_eq]; exact hfit
    refine Q.runSeq (SA [(59, [(28, false)])] []) 100 59 hnt [0, 1] (z := { t := [(0, PV.slice (Dats.len ks) (Dats.cells ks)), (1, PV.int IntKind.i64 w)], h := { bx := [], rw := [] } }) (o := [(true, true), (!fitE w == (0 : Int), false), (false, false)]) (by kernel_rfl) (by ((repeat' (first | exact okO_nil | refine okN ?_ ?_)); all_goals first | assumption | rfl | exact same_of rfl | exact sameS_self _ | (simp only [decide_eq_true_eq, decide_eq_false_iff_not, Nat.ble_eq, Nat.beq_eq, beq_eq_false_iff_ne, beq_iff_eq, ne_eq] <;> omega))) ?_
    refine Q.runSeq (SA [] []) 100 59 hnt [0, 1, 10] (z := { t := [(0, PV.slice (Dats.len ks) (Dats.cells ks)), (1, PV.int IntKind.i64 w), (10, PV.ptr 0 0)], h := { bx := [{ cs := [PV.nilptr, PV.nil], ty := 67 }], rw := [] } }) (o := []) (by kernel_rfl) (by ((repeat' (first | exact okO_nil | refine okN ?_ ?_)); all_goals first | assumption | rfl | exact same_of rfl | exact sameS_self _ | (simp only [decide_eq_true_eq, decide_eq_false_iff_not, Nat.ble_eq, Nat.beq_eq, beq_eq_false_iff_ne, beq_iff_eq, ne_eq] <;> omega))) ?_
    have hw : 10 ≤ w ∧ w ≤ 200 := by
      unfold fitE at hfit
      split at hfit
      · cases hfit
      · split at hfit
        · cases hfit
        · omega
    have hR : allR ks w = if (aT w.toNat ks).length ≤ 2000000 then .tup [.str (mkS (aT w.toNat ks)), .int .i64 0] else .tup [.str ⟨#[]⟩, .int .i64 3] := by rw [allR, if_pos hA, if_pos hfit]
    clear c1 hfit hA
    obtain ⟨w, rfl⟩ : ∃ n : Nat, w = n := ⟨w.toNat, by omega⟩
    rw [Int.toNat_natCast] at hR
    have hfk : formedL ks = true := (formedL_iff ks).2 fun j hj => chk_formed (hall j hj)
    have hpb : ∀ j, (allGL pS w (ks.take j) true []).length ≤ 1280037600000 := fun j => by
      have h1 := simA sim_le w (ks.take j) true [] [] (Nat.le_refl _)
      have h2 := take_size ks j
      have h3 := all_len w (ks.take j) true [] (take_rng ks j hs.2.1) (take_formed ks j hfk) (by omega)
      simp only [List.length_nil] at h3
      omega
    refine Q.seq fun K2 hK2 => ?_
    let P (j : Nat) : List UInt8 := allGL pS w (ks.take j) true []
    have hPe : P ks.len = aP w ks := by simp only [P, aP, take_all]
    have hPx := aP_aT w ks
    let T (j : Nat) : AS := ⟨[(1, .int .i64 w), (10, .ptr 0 0), (32, .slice ks.len ks.cells), (33, .int .i64 ks.len), (34, .int .i64 j)], HqP j (P j)⟩
    refine Q.runSeq (SA [] []) 100 59 hnt [1, 10, 32, 33, 34] (z := T 0) (o := []) (by kernel_rfl) okO_nil ?_
    refine Q.block ?_
    refine Q.loopH (σ := { j : Nat // j ≤ ks.len }) [1, 10, 32, 33, 34] 1 (by rw [hnb]; exact (by decide : 0 ≤ 1)) (fun j => T j.1) (fun j => ks.len - j.1) ⟨0, Nat.zero_le _⟩ (fun j => by simp only [T, HqP]; split <;> exact ⟨rfl, rfl, rfl⟩) ⟨[], by simp only [List.append_nil]; rfl⟩ fun ⟨j, hj⟩ => ?_
    rcases Nat.lt_or_ge j ks.len with hlt | hge
    · obtain ⟨k', n', s', ks', hget⟩ := Dats.get_mk ks j
      have hsm := hs.get hlt
      have hfj := chk_formed (hall j hlt)
      have hPn : P (j + 1) = pS.text [10] (layG pS w (.mk k' n' s' ks') 0 0 (if j = 0 ∧ true = true then P j else pS.text [10] (P j))) := by
        show allGL pS w (ks.take (j + 1)) true [] = _
        rw [allGL_take pS w ks true j _ hlt, hget]
      have hbn := hpb (j + 1)
      have hbj := hpb j
      have hl := hsm.lay hfj w
      have hsz := size_parts (ks.get j)
      have hsp := hsm.2.2
      rw [hget] at hsm hfj hl hsz hsp
      have hlp : ∀ w c r b, lpC w c r b [PV.int IntKind.i64 k', PV.int IntKind.i64 n', PV.str s', PV.slice (Dats.len ks') (Dats.cells ks')] = layG pS w (.mk k' n' s' ks') c r b := fun w c r b => lpC_at w c r b (.mk k' n' s' ks')
      have hlr : ∀ w c r, lrC w c r [PV.int IntKind.i64 k', PV.int IntKind.i64 n', PV.str s', PV.slice (Dats.len ks') (Dats.cells ks')] = (layT w (.mk k' n' s' ks') c r).length := fun w c r => lrC_at w c r (.mk k' n' s' ks')
      have d1 : isLy [PV.int IntKind.i64 k', PV.int IntKind.i64 n', PV.str s', PV.slice (Dats.len ks') (Dats.cells ks')] = true := isLy_at (d := .mk k' n' s' ks') hsm hfj
      have d2 := lt_at hlt
      have d3 := in_at hlt
      have d4 : decide (TD.size d24 ≤ List.length (List.drop (Int.toNat (j : Int) * TD.size d24) (Dats.cells ks))) = true := kid_len hlt
      have d5 := kid_same' hlt hget
      have wj' := wrapC (j + 1) (by omega)
      have hbn' : (P (j + 1)).length ≤ 1280037600000 := hbn
      have hbj' : (P j).length ≤ 1280037600000 := hbj
      clear hbn hbj hpb
      by_cases hz : j = 0
      · have d6 : decide (0 < (j : Int)) = false := by rw [decide_eq_false_iff_not]; omega
        have h0 : P j = [] := by
          show allGL pS w (ks.take j) true [] = []
          rw [hz]; cases ks <;> rfl
        have hPs : P (j + 1) = layG pS w (.mk k' n' s' ks') 0 0 [] ++ [10] := by
          rw [hPn, h0]
          simp only [and_true, if_pos hz]; rfl
        rw [hPs, List.length_append] at hbn'
        simp only [List.length_cons, List.length_nil] at hbn'
        show SWP G0 C _ _ ⟨[(1, .int .i64 w), (10, .ptr 0 0), (32, .slice ks.len ks.cells), (33, .int .i64 ks.len), (34, .int .i64 j)], HqP j (P j)⟩
        rw [HqP, if_pos hz]
        clear hPn h0
        refine SWP.runQ (SA [(59, [(35, true), (37, true), (38, true), (40, false)]), (19, [(14, true)])] [(59, [(38, .agg [.int .i64 k', .int .i64 n', .str s', .slice ks'.len ks'.cells])])]) 100 59 hnt [1, 10, 32, 33, 34] (e := .normal) (z := { t := [(1, PV.int IntKind.i64 (Int.ofNat w)), (10, PV.ptr 0 0), (32, PV.slice (Dats.len ks) (Dats.cells ks)), (33, PV.int IntKind.i64 (Int.ofNat (Dats.len ks))), (34, PV.int IntKind.i64 (IntKind.wrap IntKind.i64 (Int.ofNat (j + 1))))], h := { bx := [{ cs := [PV.ptr 0 0, PV.own 0 (List.length (lpC (Int.toNat (Int.ofNat w)) 0 0 [] [PV.int IntKind.i64 k', PV.int IntKind.i64 n', PV.str s', PV.slice (Dats.len ks') (Dats.cells ks')]) + 1)], ty := 67 }, { cs := [PV.int IntKind.i64 k', PV.int IntKind.i64 n', PV.str s', PV.slice (Dats.len ks') (Dats.cells ks')], ty := 24 }], rw := [some { cs := bytesPL (lpC (Int.toNat (Int.ofNat w)) 0 0 [] [PV.int IntKind.i64 k', PV.int IntKind.i64 n', PV.str s', PV.slice (Dats.len ks') (Dats.cells ks')]) ++ [PV.int IntKind.u8 (10 : Int)], n := List.length (lpC (Int.toNat (Int.ofNat w)) 0 0 [] [PV.int IntKind.i64 k', PV.int IntKind.i64 n', PV.str s', PV.slice (Dats.len ks') (Dats.cells ks')]) + 1, ty := 5, sz := 1 }] } }) (o := [(decide ((↑j : Int) < (↑(Dats.len ks) : Int)), true), (true, true), (decide (0 ≤ (↑j : Int) ∧ (↑j : Int) < (↑(Dats.len ks) : Int)), true), (decide (TD.size d24 ≤ List.length (List.drop (Int.toNat (↑j : Int) * TD.size d24) (Dats.cells ks))), true), (same (PV.agg (List.take 4 (List.drop (Int.toNat (Int.ofNat j) * 4) (Dats.cells ks)))) (PV.agg [PV.int IntKind.i64 k', PV.int IntKind.i64 n', PV.str s', PV.slice (Dats.len ks') (Dats.cells ks')]), true), (decide (0 < (↑j : Int)), false), (false, false), (isLy [PV.int IntKind.i64 k', PV.int IntKind.i64 n', PV.str s', PV.slice (Dats.len ks') (Dats.cells ks')], true), (decide (0 ≤ (↑w : Int) ∧ (↑w : Int) ≤ 4398046511104), true), (Nat.ble (List.length (lpC (Int.toNat (Int.ofNat w)) 0 0 [] [PV.int IntKind.i64 k', PV.int IntKind.i64 n', PV.str s', PV.slice (Dats.len ks') (Dats.cells ks')]) + 1) 140737488355328, true)]) (by kernel_rfl) (by clear hPs hR hPx hPe; (repeat' (first | exact okO_nil | refine okN ?_ ?_)); all_goals first | (with_reducible rfl) | assumption | (simp only [Int.ofNat_eq_natCast, Int.toNat_natCast, hlp, hlr, bytesPL_length, isBytes8_PL, List.length_append, List.length_cons, List.length_nil]; done) | ((try simp only [Int.ofNat_eq_natCast, Int.toNat_natCast, hlp, hlr, bytesPL_length, isBytes8_PL, List.length_append, List.length_cons, List.length_nil]); simp only [decide_eq_true_eq, decide_eq_false_iff_not, Nat.ble_eq, Nat.beq_eq] <;> omega)) (fun st hs => ⟨⟨j + 1, hlt⟩, Nat.sub_lt_sub_left hlt (Nat.lt_succ_self j), [DB k' n' s' ks'], ?_⟩)
        rw [hs]
        simp only [T, hPs, HqP, if_neg (Nat.succ_ne_zero j)]
        simp only [Int.ofNat_eq_natCast, Int.toNat_natCast, hlp, wj', bytesPL_append, List.length_append]
        rfl
      · have d6 : decide (0 < (j : Int)) = true := by rw [decide_eq_true_eq]; omega
        show SWP G0 C _ _ ⟨[(1, .int .i64 w), (10, .ptr 0 0), (32, .slice ks.len ks.cells), (33, .int .i64 ks.len), (34, .int .i64 j)], HqP j (P j)⟩
        rw [HqP, if_neg hz]
        obtain ⟨p, hp⟩ : ∃ x, x = P j := ⟨_, rfl⟩
        rw [← hp] at hbj' hPn ⊢
        have hPs : P (j + 1) = layG pS w (.mk k' n' s' ks') 0 0 (p ++ [10]) ++ [10] := by
          rw [hPn]
          simp only [and_true, if_neg hz]; rfl
        rw [hPs, List.length_append] at hbn'
        simp only [List.length_cons, List.length_nil] at hbn'
        have hq : bytesPL p ++ [PV.int IntKind.u8 (10 : Int)] = bytesPL (p ++ [10]) := by rw [bytesPL_append]; rfl
        clear hPn
        refine SWP.runQ (SA [(59, [(35, true), (37, true), (38, true), (40, true)]), (19, [(14, true)])] [(59, [(38, .agg [.int .i64 k', .int .i64 n', .str s', .slice ks'.len ks'.cells])])]) 100 59 hnt [1, 10, 32, 33, 34] (e := .normal) (z := { t := [(1, PV.int IntKind.i64 (Int.ofNat w)), (10, PV.ptr 0 0), (32, PV.slice (Dats.len ks) (Dats.cells ks)), (33, PV.int IntKind.i64 (Int.ofNat (Dats.len ks))), (34, PV.int IntKind.i64 (IntKind.wrap IntKind.i64 (Int.ofNat (j + 1))))], h := { bx := [{ cs := [PV.ptr 0 0, PV.own 0 (List.length (lpC (Int.toNat (Int.ofNat w)) 0 0 (bytesOf (bytesPL p ++ [PV.int IntKind.u8 (10 : Int)])) [PV.int IntKind.i64 k', PV.int IntKind.i64 n', PV.str s', PV.slice (Dats.len ks') (Dats.cells ks')]) + 1)], ty := 67 }, { cs := [PV.int IntKind.i64 k', PV.int IntKind.i64 n', PV.str s', PV.slice (Dats.len ks') (Dats.cells ks')], ty := 24 }], rw := [some { cs := bytesPL (lpC (Int.toNat (Int.ofNat w)) 0 0 (bytesOf (bytesPL p ++ [PV.int IntKind.u8 (10 : Int)])) [PV.int IntKind.i64 k', PV.int IntKind.i64 n', PV.str s', PV.slice (Dats.len ks') (Dats.cells ks')]) ++ [PV.int IntKind.u8 (10 : Int)], n := List.length (lpC (Int.toNat (Int.ofNat w)) 0 0 (bytesOf (bytesPL p ++ [PV.int IntKind.u8 (10 : Int)])) [PV.int IntKind.i64 k', PV.int IntKind.i64 n', PV.str s', PV.slice (Dats.len ks') (Dats.cells ks')]) + 1, ty := 5, sz := 1 }] } }) (o := [(decide ((↑j : Int) < (↑(Dats.len ks) : Int)), true), (true, true), (decide (0 ≤ (↑j : Int) ∧ (↑j : Int) < (↑(Dats.len ks) : Int)), true), (decide (TD.size d24 ≤ List.length (List.drop (Int.toNat (↑j : Int) * TD.size d24) (Dats.cells ks))), true), (same (PV.agg (List.take 4 (List.drop (Int.toNat (Int.ofNat j) * 4) (Dats.cells ks)))) (PV.agg [PV.int IntKind.i64 k', PV.int IntKind.i64 n', PV.str s', PV.slice (Dats.len ks') (Dats.cells ks')]), true), (decide (0 < (↑j : Int)), true), (true, true), (Nat.ble (List.length p + 1) 140737488355328, true), (isLy [PV.int IntKind.i64 k', PV.int IntKind.i64 n', PV.str s', PV.slice (Dats.len ks') (Dats.cells ks')], true), (decide (0 ≤ (↑w : Int) ∧ (↑w : Int) ≤ 4398046511104), true), (Nat.beq (List.length p + 1) (List.length p + 1), true), (Nat.beq (List.length (bytesPL p ++ [PV.int IntKind.u8 (10 : Int)])) (List.length p + 1), true), (isBytes8 (bytesPL p ++ [PV.int IntKind.u8 (10 : Int)]), true), (Nat.ble (List.length p + 1 + lrC (Int.toNat (Int.ofNat w)) 0 0 [PV.int IntKind.i64 k', PV.int IntKind.i64 n', PV.str s', PV.slice (Dats.len ks') (Dats.cells ks')]) 140737488355328, true), (Nat.ble (List.length (lpC (Int.toNat (Int.ofNat w)) 0 0 (bytesOf (bytesPL p ++ [PV.int IntKind.u8 (10 : Int)])) [PV.int IntKind.i64 k', PV.int IntKind.i64 n', PV.str s', PV.slice (Dats.len ks') (Dats.cells ks')]) + 1) 140737488355328, true)]) (by kernel_rfl) (by clear hPs hR hPx hPe; (repeat' (first | exact okO_nil | refine okN ?_ ?_)); all_goals first | (with_reducible rfl) | assumption | (simp only [Int.ofNat_eq_natCast, Int.toNat_natCast, hlp, hlr, bytesPL_length, isBytes8_PL, hq, bytesOf_PL, List.length_append, List.length_cons, List.length_nil]; done) | ((try simp only [Int.ofNat_eq_natCast, Int.toNat_natCast, hlp, hlr, bytesPL_length, isBytes8_PL, hq, bytesOf_PL, List.length_append, List.length_cons, List.length_nil]); simp only [decide_eq_true_eq, decide_eq_false_iff_not, Nat.ble_eq, Nat.beq_eq] <;> omega)) (fun st hs => ⟨⟨j + 1, hlt⟩, Nat.sub_lt_sub_left hlt (Nat.lt_succ_self j), [DB k' n' s' ks'], ?_⟩)
        rw [hs]
        simp only [T, hPs, HqP, if_neg (Nat.succ_ne_zero j)]
        simp only [Int.ofNat_eq_natCast, Int.toNat_natCast, hq, bytesOf_PL, hlp, wj']
        simp only [bytesPL_append, List.length_append]
        rfl
    · obtain rfl : j = ks.len := by omega
      have d2 := ge_at hge
      show SWP G0 C _ _ ⟨[(1, .int .i64 w), (10, .ptr 0 0), (32, .slice ks.len ks.cells), (33, .int .i64 ks.len), (34, .int .i64 ks.len)], HqP ks.len (P ks.len)⟩
      by_cases hz : ks.len = 0
      · have hn : ks = .nil := by cases ks with | nil => rfl | cons d ds => simp [Dats.len] at hz
        have hT0 : aT w ks = [] := by rw [hn]; rfl
        rw [HqP, if_pos hz]
        refine SWP.runQ (SA [(59, [(35, false)])] []) 100 59 hnt [10] (e := .exit 2) (z := { t := [(10, PV.ptr 0 0)], h := { bx := [{ cs := [PV.nilptr, PV.nil], ty := 67 }], rw := [] } }) (o := [(decide ((ks.len : Int) < (ks.len : Int)), false), (false, false)]) (by kernel_rfl) (by ((repeat' (first | exact okO_nil | refine okN ?_ ?_)); all_goals first | assumption | rfl | exact same_of rfl | exact sameS_self _ | (simp only [decide_eq_true_eq, decide_eq_false_iff_not, Nat.ble_eq, Nat.beq_eq, beq_eq_false_iff_ne, beq_iff_eq, ne_eq] <;> omega))) (fun st hs => hK2 st (.norm [10] ?_))
        rw [hs]
        exact SWP.runQ (SA [] []) 100 59 hnt [4, 5] (e := .ret) (z := { t := [(4, PV.str { data := #[] }), (5, PV.int IntKind.i64 (0 : Int))], h := { bx := [{ cs := [PV.nilptr, PV.nil], ty := 67 }], rw := [] } }) (o := []) (by kernel_rfl) (by ((repeat' (first | exact okO_nil | refine okN ?_ ?_)); all_goals first | assumption | rfl | exact same_of rfl | exact sameS_self _ | (simp only [decide_eq_true_eq, decide_eq_false_iff_not, Nat.ble_eq, Nat.beq_eq, beq_eq_false_iff_ne, beq_iff_eq, ne_eq] <;> omega))) (fun st hs => fin st _ _ _ (by rw [hR, hT0]; rfl) hs)
      · rw [HqP, if_neg hz]
        have hp1 : 1 ≤ (P ks.len).length := by
          have e1 : P (ks.len - 1 + 1) = pS.text [10] (layG pS w (ks.get (ks.len - 1)) 0 0 (if ks.len - 1 = 0 ∧ true = true then P (ks.len - 1) else pS.text [10] (P (ks.len - 1)))) := allGL_take pS w ks true (ks.len - 1) [] (by omega)
          rw [show ks.len - 1 + 1 = ks.len by omega] at e1
          rw [e1]
          simp [pS]
        have hbn : (P ks.len).length ≤ 1280037600000 := hpb ks.len
        obtain ⟨p, hp⟩ : ∃ x, x = P ks.len := ⟨_, rfl⟩
        rw [← hp] at hp1 hPe hbn ⊢
        refine SWP.runQ (SA [(59, [(35, false)])] []) 100 59 hnt [10] (e := .exit 2) (z := { t := [(10, PV.ptr 0 0)], h := { bx := [{ cs := [PV.ptr 0 0, PV.own 0 (List.length p)], ty := 67 }], rw := [some { cs := bytesPL p, n := List.length p, ty := 5, sz := 1 }] } }) (o := [(decide ((ks.len : Int) < (ks.len : Int)), false), (false, false)]) (by kernel_rfl) (by ((repeat' (first | exact okO_nil | refine okN ?_ ?_)); all_goals first | assumption | rfl | exact same_of rfl | exact sameS_self _ | (simp only [decide_eq_true_eq, decide_eq_false_iff_not, Nat.ble_eq, Nat.beq_eq, beq_eq_false_iff_ne, beq_iff_eq, ne_eq] <;> omega))) (fun st hs => hK2 st (.norm [10] ?_))
        rw [hs]
        rw [← hPe] at hPx
        by_cases hm : p.length ≤ 2000000
        · have c1 : decide ((↑(List.length p) : Int) ≤ 2000000) = true := by rw [decide_eq_true_eq]; omega
          have c2 : Nat.ble 1 (List.length p) = true := by rw [Nat.ble_eq]; exact hp1
          have c3 : Nat.beq (List.length (bytesPL p)) (List.length p) = true := by rw [Nat.beq_eq, bytesPL_length]
          have c4 : Nat.ble (List.length p) 9223372036854775807 = true := by rw [Nat.ble_eq]; omega
          have c5 : isBytes8 (bytesPL p) = true := isBytes8_PL _
          have c6 : Nat.beq (List.length p) (List.length p) = true := by rw [Nat.beq_eq]
          have hpe : p = aT w ks := by
            rcases hPx with h | h
            · exact h
            · omega
          refine SWP.runQ (SA [(8, [(7, true)]), (14, [(7, true), (13, true)])] []) 100 59 hnt [4, 5] (e := .ret) (z := { t := [(4, PV.str (strOf (bytesPL p))), (5, PV.int IntKind.i64 (0 : Int))], h := { bx := [{ cs := [PV.ptr 0 0, PV.own 0 (List.length p)], ty := 67 }], rw := [none] } }) (o := [(decide ((↑(List.length p) : Int) ≤ 2000000), true), (Nat.ble 1 (List.length p), true), (Nat.beq (List.length p) (List.length p), true), (Nat.beq (List.length (bytesPL p)) (List.length p), true), (Nat.ble 1 (List.length p), true), (Nat.ble (List.length p) 9223372036854775807, true), (isBytes8 (bytesPL p), true)]) (by kernel_rfl) (by ((repeat' (first | exact okO_nil | refine okN ?_ ?_)); all_goals first | assumption | rfl | exact same_of rfl | exact sameS_self _ | (simp only [decide_eq_true_eq, decide_eq_false_iff_not, Nat.ble_eq, Nat.beq_eq, beq_eq_false_iff_ne, beq_iff_eq, ne_eq] <;> omega))) (fun st hs => fin st _ _ _ ?_ hs)
          rw [hR, ← hpe, if_pos hm]
          exact congrArg (fun x => PV.tup [.str x, .int .i64 0]) (strOf_PV (mkS p)).symm
        · have c1 : decide ((↑(List.length p) : Int) ≤ 2000000) = false := by rw [decide_eq_false_iff_not]; omega
          have hpe : ¬ (aT w ks).length ≤ 2000000 := by
            rcases hPx with h | h
            · rw [← h]; exact hm
            · omega
          exact SWP.runQ (SA [(8, [(7, false)])] []) 100 59 hnt [4, 5] (e := .ret) (z := { t := [(4, PV.str { data := #[] }), (5, PV.int IntKind.i64 (3 : Int))], h := { bx := [{ cs := [PV.ptr 0 0, PV.own 0 (List.length p)], ty := 67 }], rw := [some { cs := bytesPL p, n := List.length p, ty := 5, sz := 1 }] } }) (o := [(decide ((↑(List.length p) : Int) ≤ 2000000), false)]) (by kernel_rfl) (by ((repeat' (first | exact okO_nil | refine okN ?_ ?_)); all_goals first | assumption | rfl | exact same_of rfl | exact sameS_self _ | (simp only [decide_eq_true_eq, decide_eq_false_iff_not, Nat.ble_eq, Nat.beq_eq, beq_eq_false_iff_ne, beq_iff_eq, ne_eq] <;> omega))) (fun st hs => fin st _ _ _ (by rw [hR, if_neg hpe]) hs)))
  refine Q.runSeq (SA [] []) 100 59 hnt [0, 1, 13, 14, 15] (z := { t := [(0, PV.slice (Dats.len ks) (Dats.cells ks)), (1, PV.int IntKind.i64 w), (13, PV.slice (Dats.len ks) (Dats.cells ks)), (14, PV.int IntKind.i64 (Int.ofNat (Dats.len ks))), (15, PV.int IntKind.i64 (0 : Int))], h := { bx := [], rw := [] } }) (o := []) (by kernel_rfl) (by ((repeat' (first | exact okO_nil | refine okN ?_ ?_)); all_goals first | assumption | rfl | exact same_of rfl | exact sameS_self _ | (simp only [decide_eq_true_eq, decide_eq_false_iff_not, Nat.ble_eq, Nat.beq_eq, beq_eq_false_iff_ne, beq_iff_eq, ne_eq] <;> omega))) ?_
  refine Q.block ?_
  refine Q.loopH (σ := { j : Nat // j ≤ ks.len ∧ ∀ i, i < j → chkD (ks.get i) = 0 }) [0, 1, 13, 14, 15] 0 (by rw [hnb]; exact Nat.le_refl _) (fun j => ⟨[(0, .slice ks.len ks.cells), (1, .int .i64 w), (13, .slice ks.len ks.cells), (14, .int .i64 ks.len), (15, .int .i64 j.1)], ⟨[], []⟩⟩) (fun j => ks.len - j.1) ⟨0, Nat.zero_le _, fun i h => absurd h (Nat.not_lt_zero _)⟩ (fun j => ⟨rfl, rfl, rfl⟩) ⟨[], by simp only [List.append_nil]; rfl⟩ fun ⟨j, hj, hall⟩ => ?_
  rcases Nat.lt_or_ge j ks.len with hlt | hge
  · obtain ⟨k', n', s', ks', hget⟩ := Dats.get_mk ks j
    have hsm := hs.get hlt
    have hAt := chkA_at ks j hlt hall
    have hck : ofCells chkD (0 : Int) [PV.int IntKind.i64 k', PV.int IntKind.i64 n', PV.str s', PV.slice (Dats.len ks') (Dats.cells ks')] = chkD (ks.get j) := by rw [hget]; exact ofCells_at _ _ (.mk k' n' s' ks')
    rw [hget] at hsm
    have d1 : isGood [PV.int IntKind.i64 k', PV.int IntKind.i64 n', PV.str s', PV.slice (Dats.len ks') (Dats.cells ks')] = true := isGood_at (d := .mk k' n' s' ks') hsm.good
    have d2 := lt_at hlt
    have d3 := in_at hlt
    have d4 : decide (TD.size d24 ≤ List.length (List.drop (Int.toNat (j : Int) * TD.size d24) (Dats.cells ks))) = true := kid_len hlt
    have d5 := kid_same' hlt hget
    have wj' : IntKind.wrap IntKind.i64 (Int.ofNat (j + 1)) = ((j + 1 : Nat) : Int) := wrapC (j + 1) (by omega)
    by_cases hc : chkD (ks.get j) = 0
    · have d6 : (!ofCells chkD (0 : Int) [PV.int IntKind.i64 k', PV.int IntKind.i64 n', PV.str s', PV.slice (Dats.len ks') (Dats.cells ks')] == (0 : Int)) = false := by rw [hck, Bool.not_eq_false', beq_iff_eq]; exact hc
      refine SWP.runQ (SA [(59, [(16, true), (17, true), (18, true), (22, false)])] [(59, [(18, .agg [.int .i64 k', .int .i64 n', .str s', .slice ks'.len ks'.cells])])]) 100 59 hnt [0, 1, 13, 14, 15] (e := .normal) (z := { t := [(0, PV.slice (Dats.len ks) (Dats.cells ks)), (1, PV.int IntKind.i64 w), (13, PV.slice (Dats.len ks) (Dats.cells ks)), (14, PV.int IntKind.i64 (Int.ofNat (Dats.len ks))), (15, PV.int IntKind.i64 (IntKind.wrap IntKind.i64 (Int.ofNat (j + 1))))], h := { bx := [{ cs := [PV.int IntKind.i64 k', PV.int IntKind.i64 n', PV.str s', PV.slice (Dats.len ks') (Dats.cells ks')], ty := 24 }], rw := [] } }) (o := [(decide ((↑j : Int) < (↑(Dats.len ks) : Int)), true), (true, true), (decide (0 ≤ (↑j : Int) ∧ (↑j : Int) < (↑(Dats.len ks) : Int)), true), (decide (TD.size d24 ≤ List.length (List.drop (Int.toNat (↑j : Int) * TD.size d24) (Dats.cells ks))), true), (same (PV.agg (List.take 4 (List.drop (Int.toNat (Int.ofNat j) * 4) (Dats.cells ks)))) (PV.agg [PV.int IntKind.i64 k', PV.int IntKind.i64 n', PV.str s', PV.slice (Dats.len ks') (Dats.cells ks')]), true), (true, true), (isGood [PV.int IntKind.i64 k', PV.int IntKind.i64 n', PV.str s', PV.slice (Dats.len ks') (Dats.cells ks')], true), (!ofCells chkD (0 : Int) [PV.int IntKind.i64 k', PV.int IntKind.i64 n', PV.str s', PV.slice (Dats.len ks') (Dats.cells ks')] == (0 : Int), false), (false, false)]) (by kernel_rfl) (by ((repeat' (first | exact okO_nil | refine okN ?_ ?_)); all_goals first | assumption | rfl | exact same_of rfl | exact sameS_self _ | (simp only [decide_eq_true_eq, decide_eq_false_iff_not, Nat.ble_eq, Nat.beq_eq, beq_eq_false_iff_ne, beq_iff_eq, ne_eq] <;> omega))) (fun st hs => ⟨⟨j + 1, hlt, fun i hi => by rcases Nat.lt_or_ge i j with h | h; exact hall i h; rw [show i = j by omega]; exact hc⟩, Nat.sub_lt_sub_left hlt (Nat.lt_succ_self j), [DB k' n' s' ks'], ?_⟩)
      rw [hs, wj']
      rfl
    · have d6 : (!ofCells chkD (0 : Int) [PV.int IntKind.i64 k', PV.int IntKind.i64 n', PV.str s', PV.slice (Dats.len ks') (Dats.cells ks')] == (0 : Int)) = true := by rw [hck, Bool.not_eq_true', beq_eq_false_iff_ne]; exact hc
      exact SWP.runQ (SA [(59, [(16, true), (17, true), (18, true), (22, true)])] [(59, [(18, .agg [.int .i64 k', .int .i64 n', .str s', .slice ks'.len ks'.cells])])]) 100 59 hnt [4, 5] (e := .ret) (z := { t := [(4, PV.str { data := #[] }), (5, PV.int IntKind.i64 (ofCells chkD (0 : Int) [PV.int IntKind.i64 k', PV.int IntKind.i64 n', PV.str s', PV.slice (Dats.len ks') (Dats.cells ks')]))], h := { bx := [{ cs := [PV.int IntKind.i64 k', PV.int IntKind.i64 n', PV.str s', PV.slice (Dats.len ks') (Dats.cells ks')], ty := 24 }], rw := [] } }) (o := [(decide ((↑j : Int) < (↑(Dats.len ks) : Int)), true), (true, true), (decide (0 ≤ (↑j : Int) ∧ (↑j : Int) < (↑(Dats.len ks) : Int)), true), (decide (TD.size d24 ≤ List.length (List.drop (Int.toNat (↑j : Int) * TD.size d24) (Dats.cells ks))), true), (same (PV.agg (List.take 4 (List.drop (Int.toNat (Int.ofNat j) * 4) (Dats.cells ks)))) (PV.agg [PV.int IntKind.i64 k', PV.int IntKind.i64 n', PV.str s', PV.slice (Dats.len ks') (Dats.cells ks')]), true), (true, true), (isGood [PV.int IntKind.i64 k', PV.int IntKind.i64 n', PV.str s', PV.slice (Dats.len ks') (Dats.cells ks')], true), (!ofCells chkD (0 : Int) [PV.int IntKind.i64 k', PV.int IntKind.i64 n', PV.str s', PV.slice (Dats.len ks') (Dats.cells ks')] == (0 : Int), true), (true, true)]) (by kernel_rfl) (by ((repeat' (first | exact okO_nil | refine okN ?_ ?_)); all_goals first | assumption | rfl | exact same_of rfl | exact sameS_self _ | (simp only [decide_eq_true_eq, decide_eq_false_iff_not, Nat.ble_eq, Nat.beq_eq, beq_eq_false_iff_ne, beq_iff_eq, ne_eq] <;> omega))) (fun st hs => fin st _ _ _ (by rw [hck, allR, if_neg (by rw [hAt hc]; exact hc), hAt hc]) hs)
  · obtain rfl : j = ks.len := by omega
    have d2 := ge_at hge
    exact SWP.runQ (SA [(59, [(16, false)])] []) 100 59 hnt [0, 1] (e := .exit 0) (z := { t := [(0, PV.slice (Dats.len ks) (Dats.cells ks)), (1, PV.int IntKind.i64 w)], h := { bx := [], rw := [] } }) (o := [(decide ((ks.len : Int) < (ks.len : Int)), false), (false, false)]) (by kernel_rfl) (by ((repeat' (first | exact okO_nil | refine okN ?_ ?_)); all_goals first | assumption | rfl | exact same_of rfl | exact sameS_self _ | (simp only [decide_eq_true_eq, decide_eq_false_iff_not, Nat.ble_eq, Nat.beq_eq, beq_eq_false_iff_ne, beq_iff_eq, ne_eq] <;> omega))) (fun st hs => r1 hall st _ hs)
end Seat
end Go.Proofs.YtkblfapbakfgpaaDoor
