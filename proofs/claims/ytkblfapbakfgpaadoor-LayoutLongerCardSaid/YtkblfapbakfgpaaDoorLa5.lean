/- Texts of this session, packed: Lay6, Lay7, Lay8, Lay9, Lay10, Lay11, Lay16, Lay17, Lay18, Read0, Read1, Read2, Read3, Read4, Read5, Read6. -/
import Derived.Test.YtkblfapbakfgpaaDoorLa4
/- Layout: one datum, by the program and by the document. -/
namespace Go.Proofs.YtkblfapbakfgpaaDoor
open Go.AS Go.RowKit
set_option linter.unusedVariables false
set_option linter.unusedSimpArgs false
set_option maxRecDepth 100000
set_option maxHeartbeats 4000000
namespace Seat
def alE (ks : Dats) (w : Int) : Int := if chkA ks = 0 then if fitE w = 0 then if (aT w.toNat ks).length ≤ 2000000 then 0 else 3 else fitE w else chkA ks
def alB (ks : Dats) (w : Int) : ByteArray := if alE ks w = 0 then mkS (aT w.toNat ks) else ⟨#[]⟩
theorem allR_eq (ks : Dats) (w : Int) : allR ks w = .tup [.str (alB ks w), .int .i64 (alE ks w)] := by
  unfold allR alB alE
  by_cases h1 : chkA ks = 0
  · rw [if_pos h1, if_pos h1]
    by_cases h2 : fitE w = 0
    · rw [if_pos h2, if_pos h2]
      by_cases h3 : (aT w.toNat ks).length ≤ 2000000
      · rw [if_pos h3, if_pos h3, if_pos rfl]
      · rw [if_neg h3, if_neg h3, if_neg (by decide)]
    · rw [if_neg h2, if_neg h2, if_neg h2]
  · rw [if_neg h1, if_neg h1, if_neg h1]
open Classical in
noncomputable def isSmL (m : Nat) (cs : List PV) : Bool := decide (∃ ks : Dats, ks.len = m ∧ ks.cells = cs ∧ SmallL ks)
theorem isSmL_at {ks : Dats} (h : SmallL ks) : isSmL ks.len ks.cells = true := by
  unfold isSmL
  classical exact decide_eq_true ⟨ks, rfl, rfl, h⟩
theorem isSmL_of {m : Nat} {cs : List PV} (h : isSmL m cs = true) : ∃ ks : Dats, ks.len = m ∧ ks.cells = cs ∧ SmallL ks := by
  unfold isSmL at h
  classical exact of_decide_eq_true h
noncomputable def alBC (w : Int) (cs : List PV) : ByteArray := ofCellsL (fun ks => alB ks w) ⟨#[]⟩ cs
noncomputable def alEC (w : Int) (cs : List PV) : Int := ofCellsL (fun ks => alE ks w) 0 cs
noncomputable def lyS (f : Nat) (args : List PV) : Option (PV × Ob) := match f, args with
  | 17, [.slice m cs, .int .i64 w] => some (.tup [.str (alBC w cs), .int .i64 (alEC w cs)], [(isSmL m cs, true)])
  | _, _ => none
theorem lyS_ok (f : Nat) (args : List PV) (r : PV) (o : Ob) (h : lyS f args = some (r, o)) (ho : ∀ p ∈ o, p.1 = p.2) (_ : pureL args = true) : Pure G0 f args (fun x => x = r) := by
  unfold lyS at h
  split at h
  · rename_i m cs w _
    cases h
    obtain ⟨ks, rfl, rfl, h1⟩ := isSmL_of (ho _ (List.mem_singleton.2 rfl))
    have := all_ok ks h1 w
    rw [allR_eq] at this
    unfold alBC alEC
    rw [ofCellsL_at, ofCellsL_at]
    exact this
  · cases h
noncomputable def rnV (f : Nat) (xs : List PV) (H : Hp) : Option (PV × Hp × Ob) := match f, xs, H with
  | 32, [.nil, .agg cs, .int .i64 0, .int .i64 0, .int .i64 w], ⟨[], []⟩ => some (.own 0 (rlC w.toNat 0 0 [] cs).length, ⟨[], [some ⟨bytesPL (rlC w.toNat 0 0 [] cs), (rlC w.toNat 0 0 [] cs).length, 5, 1⟩]⟩, [(isLy cs, true), (decide (0 ≤ w ∧ w ≤ 4398046511104), true)])
  | _, _, _ => none
theorem rnV_ok (f : Nat) (xs : List PV) (H : Hp) (r : PV) (H' : Hp) (o : Ob) (h : rnV f xs H = some (r, H', o)) (ho : ∀ p ∈ o, p.1 = p.2) : RCalls G0 f xs H (fun o' H2 => o' = .ret r ∧ H2 = H') ∧ r.scP (belowN H'.bx.length) (belowN H'.rw.length) = true ∧ H'.scB H'.bx.length H'.rw.length = true := by
  unfold rnV at h
  split at h
  · rename_i cs w
    cases h
    obtain ⟨d, rfl, h1, h2⟩ := isLy_of (ho (isLy cs, true) (by simp))
    have g1 := of_decide_eq_true (ho (decide (0 ≤ w ∧ w ≤ 4398046511104), true) (by simp))
    rw [rlC_at]
    have hs := size_parts d
    have hp := h1.2.2
    have hl := h1.lay h2 w.toNat
    have key := rlay_new d h1.1 h1.2.1 h2 (h1.text h2) w.toNat 0 0 (by omega) (by omega) (by omega) (by omega)
    rw [Int.toNat_of_nonneg g1.1] at key
    exact ⟨key, rfl, rfl⟩
  · cases h
noncomputable def SLy (l : List (Nat × List (Nat × Bool))) : Cfg G0 := { F := F, hF := hF, S := lyS, hS := lyS_ok, V := rnV, hV := rnV_ok, orc := orcM l }
theorem aT_one (w : Nat) (d : Dat) : aT w (.cons d .nil) = layT w d 0 0 ++ [10] := rfl
theorem SmallL_one {d : Dat} (h : Small d) : SmallL (.cons d .nil) := ⟨⟨h.1, trivial⟩, ⟨h.2.1, trivial⟩, by simp only [partsL]; have := h.2.2; omega⟩
theorem lay_ok (d : Dat) (hd : Small d) (w : Int) : Pure G0 11 [.agg d.cells, .int .i64 w] (fun r => r = .tup [.str (alB (.cons d .nil) w), .int .i64 (alE (.cons d .nil) w)]) := by
  have hL := SmallL_one hd
  obtain ⟨k, n, s, ks⟩ := d
  have d1 : isSmL 1 [PV.int IntKind.i64 k, PV.int IntKind.i64 n, PV.str s, PV.slice (Dats.len ks) (Dats.cells ks)] = true := isSmL_at (ks := .cons (.mk k n s ks) .nil) hL
  have e1 : alBC w [PV.int IntKind.i64 k, PV.int IntKind.i64 n, PV.str s, PV.slice (Dats.len ks) (Dats.cells ks)] = alB (.cons (.mk k n s ks) .nil) w := ofCellsL_at _ _ (.cons (.mk k n s ks) .nil)
  have e2 : alEC w [PV.int IntKind.i64 k, PV.int IntKind.i64 n, PV.str s, PV.slice (Dats.len ks) (Dats.cells ks)] = alE (.cons (.mk k n s ks) .nil) w := ofCellsL_at _ _ (.cons (.mk k n s ks) .nil)
  refine Fn.enterB Tryd.func11 Tryd.ntmps11 rfl (Nat.le_of_ble_eq_true rfl) fun C fr fp hnt hnb hp hfr hfp => ?_
  refine SWP.runQ (SLy []) 100 12 hnt [4, 5] (e := .ret) (z := { t := [(4, PV.str (alBC w [PV.int IntKind.i64 k, PV.int IntKind.i64 n, PV.str s, PV.slice (Dats.len ks) (Dats.cells ks)])), (5, PV.int IntKind.i64 (alEC w [PV.int IntKind.i64 k, PV.int IntKind.i64 n, PV.str s, PV.slice (Dats.len ks) (Dats.cells ks)]))], h := { bx := [{ cs := [PV.int IntKind.i64 k, PV.int IntKind.i64 n, PV.str s, PV.slice (Dats.len ks) (Dats.cells ks)], ty := 24 }], rw := [] } }) (o := [(true, true), (isSmL 1 [PV.int IntKind.i64 k, PV.int IntKind.i64 n, PV.str s, PV.slice (Dats.len ks) (Dats.cells ks)], true)]) (by kernel_rfl) (by ((repeat' (first | exact okO_nil | refine okN ?_ ?_)); all_goals first | assumption | rfl | exact same_of rfl | exact sameS_self _ | (simp only [decide_eq_true_eq, decide_eq_false_iff_not, Nat.ble_eq, Nat.beq_eq, beq_eq_false_iff_ne, beq_iff_eq, ne_eq] <;> omega))) (fun st hs => hfr st [4, 5] ?_)
  rw [hs, e1, e2]
  exact ⟨0, .tup [.str (alB (.cons (.mk k n s ks) .nil) w), .int .i64 (alE (.cons (.mk k n s ks) .nil) w)], Nat.le_refl _, Nat.zero_le _, rfl, rfl, rfl, rfl, _, rfl, rfl⟩
theorem reflay_ok (d : Dat) (hd : Small d) (hf : formedD d = true) (w : Nat) (hw : w ≤ 4398046511104) : Pure G0 14 [.agg d.cells, .int .i64 w] (fun r => r = .str (mkS (layT w d 0 0 ++ [10]))) := by
  have hl := hd.lay hf w
  have hsz := size_parts d
  have hsp := hd.2.2
  obtain ⟨k, n, s, ks⟩ := d
  have d1 : isLy [PV.int IntKind.i64 k, PV.int IntKind.i64 n, PV.str s, PV.slice (Dats.len ks) (Dats.cells ks)] = true := isLy_at (d := .mk k n s ks) hd hf
  have e1 : rlC (Int.toNat (Int.ofNat w)) 0 0 [] [PV.int IntKind.i64 k, PV.int IntKind.i64 n, PV.str s, PV.slice (Dats.len ks) (Dats.cells ks)] = layT w (.mk k n s ks) 0 0 := rlC_at w 0 0 [] (.mk k n s ks)
  have hq : ∀ p : List UInt8, bytesPL p ++ [PV.int IntKind.u8 (10 : Int)] = bytesPL (p ++ [10]) := fun p => by rw [bytesPL_append]; rfl
  refine Fn.enterB Tryd.func14 Tryd.ntmps14 rfl (Nat.le_of_ble_eq_true rfl) fun C fr fp hnt hnb hp hfr hfp => ?_
  refine SWP.runQ (SLy [(11, [(9, true), (10, true)])]) 100 11 hnt [4] (e := .ret) (z := { t := [(4, PV.str (strOf (bytesPL (rlC (Int.toNat (Int.ofNat w)) 0 0 [] [PV.int IntKind.i64 k, PV.int IntKind.i64 n, PV.str s, PV.slice (Dats.len ks) (Dats.cells ks)]) ++ [PV.int IntKind.u8 (10 : Int)])))], h := { bx := [{ cs := [PV.int IntKind.i64 k, PV.int IntKind.i64 n, PV.str s, PV.slice (Dats.len ks) (Dats.cells ks)], ty := 24 }], rw := [some { cs := bytesPL (rlC (Int.toNat (Int.ofNat w)) 0 0 [] [PV.int IntKind.i64 k, PV.int IntKind.i64 n, PV.str s, PV.slice (Dats.len ks) (Dats.cells ks)]) ++ [PV.int IntKind.u8 (10 : Int)], n := List.length (rlC (Int.toNat (Int.ofNat w)) 0 0 [] [PV.int IntKind.i64 k, PV.int IntKind.i64 n, PV.str s, PV.slice (Dats.len ks) (Dats.cells ks)]) + 1, ty := 5, sz := 1 }] } }) (o := [(isLy [PV.int IntKind.i64 k, PV.int IntKind.i64 n, PV.str s, PV.slice (Dats.len ks) (Dats.cells ks)], true), (decide (0 ≤ (↑w : Int) ∧ (↑w : Int) ≤ 4398046511104), true), (true, true), (Nat.ble ((List.length (rlC (Int.toNat (Int.ofNat w)) 0 0 [] [PV.int IntKind.i64 k, PV.int IntKind.i64 n, PV.str s, PV.slice (Dats.len ks) (Dats.cells ks)]) + 1) * 1) 140737488355328, true), (Nat.ble (List.length (rlC (Int.toNat (Int.ofNat w)) 0 0 [] [PV.int IntKind.i64 k, PV.int IntKind.i64 n, PV.str s, PV.slice (Dats.len ks) (Dats.cells ks)]) + 1) 9223372036854775807, true), (Nat.beq (List.length (bytesPL (rlC (Int.toNat (Int.ofNat w)) 0 0 [] [PV.int IntKind.i64 k, PV.int IntKind.i64 n, PV.str s, PV.slice (Dats.len ks) (Dats.cells ks)]) ++ [PV.int IntKind.u8 (10 : Int)])) (List.length (rlC (Int.toNat (Int.ofNat w)) 0 0 [] [PV.int IntKind.i64 k, PV.int IntKind.i64 n, PV.str s, PV.slice (Dats.len ks) (Dats.cells ks)]) + 1), true), (isBytes (bytesPL (rlC (Int.toNat (Int.ofNat w)) 0 0 [] [PV.int IntKind.i64 k, PV.int IntKind.i64 n, PV.str s, PV.slice (Dats.len ks) (Dats.cells ks)]) ++ [PV.int IntKind.u8 (10 : Int)]), true)]) (by kernel_rfl) ?_ (fun st hs => hfr st [4] ?_)
  · simp only [e1, hq, bytesPL_length, isBytes_PL, List.length_append, List.length_cons, List.length_nil]
    (repeat' (first | exact okO_nil | refine okN ?_ ?_)); all_goals first | (with_reducible rfl) | assumption | (simp only [decide_eq_true_eq, Nat.ble_eq, Nat.beq_eq] <;> omega)
  · rw [hs, e1, hq]
    exact ⟨0, .str (strOf (bytesPL (layT w (.mk k n s ks) 0 0 ++ [10]))), Nat.le_refl _, Nat.zero_le _, rfl, rfl, rfl, rfl, _, rfl, congrArg PV.str (strOf_PV (mkS (layT w (.mk k n s ks) 0 0 ++ [10])))⟩
end Seat
end Go.Proofs.YtkblfapbakfgpaaDoor
/- The document's formed and Check. Printed by dev/lay7.py and dev/nfsub.py (this session's). -/
namespace Go.Proofs.YtkblfapbakfgpaaDoor
open Go.AS Go.RowKit
set_option linter.unusedVariables false
set_option linter.unusedSimpArgs false
set_option maxRecDepth 100000
set_option maxHeartbeats 4000000
namespace Seat
def RFormAt (N : Nat) : Prop := ∀ d : Dat, d.size < N → d.ok → Pure G0 40 [.agg d.cells] (fun r => r = .bool (formedD d))
noncomputable def rfS (N : Nat) (f : Nat) (args : List PV) : Option (PV × Ob) := match f, args with
  | 40, [.agg cs] => some (.bool (ofCells formedD false cs), [(isDat N cs, true)])
  | 56, [.str s] => some (.bool (symOk s), [])
  | _, _ => none
theorem rfS_ok {N : Nat} (ih : RFormAt N) (f : Nat) (args : List PV) (r : PV) (o : Ob) (h : rfS N f args = some (r, o)) (ho : ∀ p ∈ o, p.1 = p.2) (_ : pureL args = true) : Pure G0 f args (fun x => x = r) := by
  unfold rfS at h
  split at h
  · cases h
    obtain ⟨d, rfl, h1, h2⟩ := isDat_of (ho _ (List.mem_singleton.2 rfl))
    rw [ofCells_at]
    exact ih d h1 h2
  · cases h
    exact symbol_ok _
  · cases h
noncomputable def SRF {N : Nat} (ih : RFormAt N) (l : List (Nat × List (Nat × Bool))) (v : List (Nat × List (Nat × PV))) : Cfg G0 := { F := F, hF := hF, S := rfS N, hS := rfS_ok ih, orc := orcM l, val := valM v }
theorem rformAt (N : Nat) : RFormAt N := by
  induction N with
  | zero => intro d h; omega
  | succ N ih =>
    intro d hN hok
    obtain ⟨k, n, s, ks⟩ := d
    have hlen := hok.1
    have hks : ks.size < N + 1 := by simp only [Dat.size] at hN; omega
    refine Fn.enterB Tryd.func40 Tryd.ntmps40 rfl (Nat.le_of_ble_eq_true rfl) fun C fr fp hnt hnb hp hfr hfp => ?_
    have fin : ∀ st b H, b = formedD (.mk k n s ks) → nrm [2] st = ⟨[(2, .bool b)], H⟩ → fr st := fun st b H hr hst => hfr st [2] (by
      rw [hst]
      exact ⟨0, .bool b, Nat.le_refl _, Nat.zero_le _, rfl, rfl, rfl, rfl, _, rfl, congrArg PV.bool hr⟩)
    have hl0 : ∀ b, (decide (ks.len = 0)) = b → (Int.ofNat (Dats.len ks) == (0 : Int)) = b := fun b h => by
      rw [← h]
      rcases Nat.eq_zero_or_pos ks.len with h | h
      · rw [h]; rfl
      · rw [decide_eq_false (by omega), beq_eq_false_iff_ne]; show (ks.len : Int) ≠ 0; omega
    have hs0 : ∀ b, (decide (s.size = 0)) = b → (ByteArray.toList s == []) = b := fun b h => by
      rw [← h]
      by_cases h : s.size = 0 <;> simp [str_nil, h]
    by_cases h1 : k = 1
    · have c1 : (k == (1 : Int)) = true := by simpa using h1
      by_cases h2 : s.size = 0
      · have c2 := hs0 true (by simpa using h2)
        by_cases h3 : ks.len = 0
        · have c3 := hl0 true (by simpa using h3)
          exact SWP.runQ (SRF ih [(57, [(7, true), (10, true), (15, true)])] []) 100 57 hnt [2] (e := .ret) (z := { t := [(2, PV.bool true)], h := { bx := [{ cs := [PV.int IntKind.i64 k, PV.int IntKind.i64 n, PV.str s, PV.slice (Dats.len ks) (Dats.cells ks)], ty := 24 }], rw := [] } }) (o := [(k == (1 : Int), true), (ByteArray.toList s == [], true), (Int.ofNat (Dats.len ks) == (0 : Int), true)]) (by kernel_rfl) (by ((repeat' (first | exact okO_nil | refine okN ?_ ?_)); all_goals first | assumption | rfl | exact same_of rfl | exact sameS_self _ | (simp only [decide_eq_true_eq, decide_eq_false_iff_not, Nat.ble_eq, Nat.beq_eq, beq_eq_false_iff_ne, beq_iff_eq, ne_eq] <;> omega))) (fun st hs => fin st _ _ (by simp [formedD, h1, h2, h3]) hs)
        · have c3 := hl0 false (by simpa using h3)
          exact SWP.runQ (SRF ih [(57, [(7, true), (10, true), (15, false)])] []) 100 57 hnt [2] (e := .ret) (z := { t := [(2, PV.bool false)], h := { bx := [{ cs := [PV.int IntKind.i64 k, PV.int IntKind.i64 n, PV.str s, PV.slice (Dats.len ks) (Dats.cells ks)], ty := 24 }], rw := [] } }) (o := [(k == (1 : Int), true), (ByteArray.toList s == [], true), (Int.ofNat (Dats.len ks) == (0 : Int), false)]) (by kernel_rfl) (by ((repeat' (first | exact okO_nil | refine okN ?_ ?_)); all_goals first | assumption | rfl | exact same_of rfl | exact sameS_self _ | (simp only [decide_eq_true_eq, decide_eq_false_iff_not, Nat.ble_eq, Nat.beq_eq, beq_eq_false_iff_ne, beq_iff_eq, ne_eq] <;> omega))) (fun st hs => fin st _ _ (by simp [formedD, h1, h2, h3]) hs)
      · have c2 := hs0 false (by simpa using h2)
        exact SWP.runQ (SRF ih [(57, [(7, true), (10, false)])] []) 100 57 hnt [2] (e := .ret) (z := { t := [(2, PV.bool false)], h := { bx := [{ cs := [PV.int IntKind.i64 k, PV.int IntKind.i64 n, PV.str s, PV.slice (Dats.len ks) (Dats.cells ks)], ty := 24 }], rw := [] } }) (o := [(k == (1 : Int), true), (ByteArray.toList s == [], false)]) (by kernel_rfl) (by ((repeat' (first | exact okO_nil | refine okN ?_ ?_)); all_goals first | assumption | rfl | exact same_of rfl | exact sameS_self _ | (simp only [decide_eq_true_eq, decide_eq_false_iff_not, Nat.ble_eq, Nat.beq_eq, beq_eq_false_iff_ne, beq_iff_eq, ne_eq] <;> omega))) (fun st hs => fin st _ _ (by simp [formedD, h1, h2]) hs)
    have c1 : (k == (1 : Int)) = false := by simpa using h1
    by_cases h2 : k = 2
    · have c2 : (k == (2 : Int)) = true := by simpa using h2
      by_cases h3 : n = 0
      · have c3 : (n == (0 : Int)) = true := by simpa using h3
        cases h4 : symOk s with
        | false => exact SWP.runQ (SRF ih [(57, [(7, false), (18, true), (21, true), (25, false)])] []) 100 57 hnt [2] (e := .ret) (z := { t := [(2, PV.bool false)], h := { bx := [{ cs := [PV.int IntKind.i64 k, PV.int IntKind.i64 n, PV.str s, PV.slice (Dats.len ks) (Dats.cells ks)], ty := 24 }], rw := [] } }) (o := [(k == (1 : Int), false), (k == (2 : Int), true), (n == (0 : Int), true), (true, true), (symOk s, false)]) (by kernel_rfl) (by ((repeat' (first | exact okO_nil | refine okN ?_ ?_)); all_goals first | assumption | rfl | exact same_of rfl | exact sameS_self _ | (simp only [decide_eq_true_eq, decide_eq_false_iff_not, Nat.ble_eq, Nat.beq_eq, beq_eq_false_iff_ne, beq_iff_eq, ne_eq] <;> omega))) (fun st hs => fin st _ _ (by simp [formedD, h2, h3, h4]) hs)
        | true =>
          by_cases h5 : ks.len = 0
          · have c5 := hl0 true (by simpa using h5)
            exact SWP.runQ (SRF ih [(57, [(7, false), (18, true), (21, true), (25, true), (31, true)])] []) 100 57 hnt [2] (e := .ret) (z := { t := [(2, PV.bool true)], h := { bx := [{ cs := [PV.int IntKind.i64 k, PV.int IntKind.i64 n, PV.str s, PV.slice (Dats.len ks) (Dats.cells ks)], ty := 24 }], rw := [] } }) (o := [(k == (1 : Int), false), (k == (2 : Int), true), (n == (0 : Int), true), (true, true), (symOk s, true), (Int.ofNat (Dats.len ks) == (0 : Int), true)]) (by kernel_rfl) (by ((repeat' (first | exact okO_nil | refine okN ?_ ?_)); all_goals first | assumption | rfl | exact same_of rfl | exact sameS_self _ | (simp only [decide_eq_true_eq, decide_eq_false_iff_not, Nat.ble_eq, Nat.beq_eq, beq_eq_false_iff_ne, beq_iff_eq, ne_eq] <;> omega))) (fun st hs => fin st _ _ (by simp [formedD, h2, h3, h4, h5]) hs)
          · have c5 := hl0 false (by simpa using h5)
            exact SWP.runQ (SRF ih [(57, [(7, false), (18, true), (21, true), (25, true), (31, false)])] []) 100 57 hnt [2] (e := .ret) (z := { t := [(2, PV.bool false)], h := { bx := [{ cs := [PV.int IntKind.i64 k, PV.int IntKind.i64 n, PV.str s, PV.slice (Dats.len ks) (Dats.cells ks)], ty := 24 }], rw := [] } }) (o := [(k == (1 : Int), false), (k == (2 : Int), true), (n == (0 : Int), true), (true, true), (symOk s, true), (Int.ofNat (Dats.len ks) == (0 : Int), false)]) (by kernel_rfl) (by ((repeat' (first | exact okO_nil | refine okN ?_ ?_)); all_goals first | assumption | rfl | exact same_of rfl | exact sameS_self _ | (simp only [decide_eq_true_eq, decide_eq_false_iff_not, Nat.ble_eq, Nat.beq_eq, beq_eq_false_iff_ne, beq_iff_eq, ne_eq] <;> omega))) (fun st hs => fin st _ _ (by simp [formedD, h2, h3, h4, h5]) hs)
      · have c3 : (n == (0 : Int)) = false := by simpa using h3
        exact SWP.runQ (SRF ih [(57, [(7, false), (18, true), (21, false)])] []) 100 57 hnt [2] (e := .ret) (z := { t := [(2, PV.bool false)], h := { bx := [{ cs := [PV.int IntKind.i64 k, PV.int IntKind.i64 n, PV.str s, PV.slice (Dats.len ks) (Dats.cells ks)], ty := 24 }], rw := [] } }) (o := [(k == (1 : Int), false), (k == (2 : Int), true), (n == (0 : Int), false)]) (by kernel_rfl) (by ((repeat' (first | exact okO_nil | refine okN ?_ ?_)); all_goals first | assumption | rfl | exact same_of rfl | exact sameS_self _ | (simp only [decide_eq_true_eq, decide_eq_false_iff_not, Nat.ble_eq, Nat.beq_eq, beq_eq_false_iff_ne, beq_iff_eq, ne_eq] <;> omega))) (fun st hs => fin st _ _ (by simp [formedD, h2, h3]) hs)
    have c2 : (k == (2 : Int)) = false := by simpa using h2
    by_cases h3 : k = 3
    case neg =>
      have c3 : (k == (3 : Int)) = false := by simpa using h3
      exact SWP.runQ (SRF ih [(57, [(7, false), (18, false), (34, false)])] []) 100 57 hnt [2] (e := .ret) (z := { t := [(2, PV.bool false)], h := { bx := [{ cs := [PV.int IntKind.i64 k, PV.int IntKind.i64 n, PV.str s, PV.slice (Dats.len ks) (Dats.cells ks)], ty := 24 }], rw := [] } }) (o := [(k == (1 : Int), false), (k == (2 : Int), false), (k == (3 : Int), false)]) (by kernel_rfl) (by ((repeat' (first | exact okO_nil | refine okN ?_ ?_)); all_goals first | assumption | rfl | exact same_of rfl | exact sameS_self _ | (simp only [decide_eq_true_eq, decide_eq_false_iff_not, Nat.ble_eq, Nat.beq_eq, beq_eq_false_iff_ne, beq_iff_eq, ne_eq] <;> omega))) (fun st hs => fin st _ _ (by simp [formedD, h1, h2, h3]) hs)
    have c3 : (k == (3 : Int)) = true := by simpa using h3
    refine Q.runSeq (SRF ih [(57, [])] []) 100 57 hnt [1] (z := { t := [(1, PV.ptr 0 0)], h := { bx := [{ cs := [PV.int IntKind.i64 k, PV.int IntKind.i64 n, PV.str s, PV.slice (Dats.len ks) (Dats.cells ks)], ty := 24 }], rw := [] } }) (o := []) (by kernel_rfl) (by ((repeat' (first | exact okO_nil | refine okN ?_ ?_)); all_goals first | assumption | rfl | exact same_of rfl | exact sameS_self _ | (simp only [decide_eq_true_eq, decide_eq_false_iff_not, Nat.ble_eq, Nat.beq_eq, beq_eq_false_iff_ne, beq_iff_eq, ne_eq] <;> omega))) ?_
    refine Q.seq fun K hK => ?_
    refine Q.runSeq (SRF ih [(57, [])] []) 100 57 hnt [1, 5] (z := { t := [(1, PV.ptr 0 0), (5, PV.int IntKind.i64 k)], h := { bx := [{ cs := [PV.int IntKind.i64 k, PV.int IntKind.i64 n, PV.str s, PV.slice (Dats.len ks) (Dats.cells ks)], ty := 24 }], rw := [] } }) (o := []) (by kernel_rfl) (by ((repeat' (first | exact okO_nil | refine okN ?_ ?_)); all_goals first | assumption | rfl | exact same_of rfl | exact sameS_self _ | (simp only [decide_eq_true_eq, decide_eq_false_iff_not, Nat.ble_eq, Nat.beq_eq, beq_eq_false_iff_ne, beq_iff_eq, ne_eq] <;> omega))) ?_
    refine Q.block ?_
    refine Q.runSeq (SRF ih [(57, [(7, false)])] []) 100 57 hnt [1, 5, 6] (z := { t := [(1, PV.ptr 0 0), (5, PV.int IntKind.i64 k), (6, PV.bool false)], h := { bx := [{ cs := [PV.int IntKind.i64 k, PV.int IntKind.i64 n, PV.str s, PV.slice (Dats.len ks) (Dats.cells ks)], ty := 24 }], rw := [] } }) (o := [(k == (1 : Int), false)]) (by kernel_rfl) (by ((repeat' (first | exact okO_nil | refine okN ?_ ?_)); all_goals first | assumption | rfl | exact same_of rfl | exact sameS_self _ | (simp only [decide_eq_true_eq, decide_eq_false_iff_not, Nat.ble_eq, Nat.beq_eq, beq_eq_false_iff_ne, beq_iff_eq, ne_eq] <;> omega))) ?_
    refine Q.cond (b := false) rfl (fun h => by cases h) (fun _ => ?_)
    refine Q.runSeq (SRF ih [(57, [(18, false)])] []) 100 57 hnt [1, 5, 17] (z := { t := [(1, PV.ptr 0 0), (5, PV.int IntKind.i64 k), (17, PV.bool false)], h := { bx := [{ cs := [PV.int IntKind.i64 k, PV.int IntKind.i64 n, PV.str s, PV.slice (Dats.len ks) (Dats.cells ks)], ty := 24 }], rw := [] } }) (o := [(k == (2 : Int), false)]) (by kernel_rfl) (by ((repeat' (first | exact okO_nil | refine okN ?_ ?_)); all_goals first | assumption | rfl | exact same_of rfl | exact sameS_self _ | (simp only [decide_eq_true_eq, decide_eq_false_iff_not, Nat.ble_eq, Nat.beq_eq, beq_eq_false_iff_ne, beq_iff_eq, ne_eq] <;> omega))) ?_
    refine Q.cond (b := false) rfl (fun h => by cases h) (fun _ => ?_)
    refine Q.runSeq (SRF ih [(57, [(34, true)])] []) 100 57 hnt [1, 33] (z := { t := [(1, PV.ptr 0 0), (33, PV.bool true)], h := { bx := [{ cs := [PV.int IntKind.i64 k, PV.int IntKind.i64 n, PV.str s, PV.slice (Dats.len ks) (Dats.cells ks)], ty := 24 }], rw := [] } }) (o := [(k == (3 : Int), true)]) (by kernel_rfl) (by ((repeat' (first | exact okO_nil | refine okN ?_ ?_)); all_goals first | assumption | rfl | exact same_of rfl | exact sameS_self _ | (simp only [decide_eq_true_eq, decide_eq_false_iff_not, Nat.ble_eq, Nat.beq_eq, beq_eq_false_iff_ne, beq_iff_eq, ne_eq] <;> omega))) ?_
    refine Q.cond (b := true) rfl (fun _ => ?_) (fun h => by cases h)
    refine Q.seq fun K2 hK2 => ?_
    refine Q.runSeq (SRF ih [(57, [])] []) 100 57 hnt [1, 3] (z := { t := [(1, PV.ptr 0 0), (3, PV.int IntKind.i64 (0 : Int))], h := { bx := [{ cs := [PV.int IntKind.i64 k, PV.int IntKind.i64 n, PV.str s, PV.slice (Dats.len ks) (Dats.cells ks)], ty := 24 }], rw := [] } }) (o := []) (by kernel_rfl) (by ((repeat' (first | exact okO_nil | refine okN ?_ ?_)); all_goals first | assumption | rfl | exact same_of rfl | exact sameS_self _ | (simp only [decide_eq_true_eq, decide_eq_false_iff_not, Nat.ble_eq, Nat.beq_eq, beq_eq_false_iff_ne, beq_iff_eq, ne_eq] <;> omega))) ?_
    refine Q.block ?_
    refine Q.loopI (σ := { j : Nat // j ≤ ks.len ∧ ∀ i, i < j → formedD (ks.get i) = true }) [1, 3] (fun j => ⟨[(1, .ptr 0 0), (3, .int .i64 j.1)], ⟨[DB k n s ks], []⟩⟩) (fun j => ks.len - j.1) ⟨0, Nat.zero_le _, fun i h => absurd h (Nat.not_lt_zero _)⟩ rfl fun ⟨j, hj, hl⟩ => ?_
    rcases Nat.lt_or_ge j ks.len with hlt | hge
    · obtain ⟨k', n', s', ks', hget⟩ := Dats.get_mk ks j
      have hsz := Dats.get_size ks j hlt
      have hokj := Dats.get_ok ks j hlt hok.2
      have hck : ofCells formedD false [PV.int IntKind.i64 k', PV.int IntKind.i64 n', PV.str s', PV.slice (Dats.len ks') (Dats.cells ks')] = formedD (ks.get j) := by rw [hget]; exact ofCells_at _ _ (.mk k' n' s' ks')
      rw [hget] at hsz hokj
      have d1 : isDat N [PV.int IntKind.i64 k', PV.int IntKind.i64 n', PV.str s', PV.slice (Dats.len ks') (Dats.cells ks')] = true := isDat_at (d := .mk k' n' s' ks') (by omega) hokj
      have d2 := lt_at hlt
      have d3 := in_at hlt
      have d4 : decide (TD.size d24 ≤ List.length (List.drop (Int.toNat (j : Int) * TD.size d24) (Dats.cells ks))) = true := kid_len hlt
      have d5 := kid_same' hlt hget
      have wj' : IntKind.wrap IntKind.i64 (Int.ofNat (j + 1)) = ((j + 1 : Nat) : Int) := wrapC (j + 1) (by omega)
      cases hf : formedD (ks.get j) with
      | true =>
        rw [hf] at hck
        refine SWP.runQ (SRF ih [(57, [(39, true), (45, true), (46, true), (47, true)])] [(57, [(46, .agg [.int .i64 k', .int .i64 n', .str s', .slice ks'.len ks'.cells])])]) 100 57 hnt [1, 3] (e := .normal) (z := { t := [(1, PV.ptr 0 0), (3, PV.int IntKind.i64 (IntKind.wrap IntKind.i64 (Int.ofNat (j + 1))))], h := { bx := [{ cs := [PV.int IntKind.i64 k, PV.int IntKind.i64 n, PV.str s, PV.slice (Dats.len ks) (Dats.cells ks)], ty := 24 }], rw := [] } }) (o := [(decide ((↑j : Int) < (↑(Dats.len ks) : Int)), true), (true, true), (decide (0 ≤ (↑j : Int) ∧ (↑j : Int) < (↑(Dats.len ks) : Int)), true), (decide (TD.size d24 ≤ List.length (List.drop (Int.toNat (↑j : Int) * TD.size d24) (Dats.cells ks))), true), (same (PV.agg (List.take 4 (List.drop (Int.toNat (Int.ofNat j) * 4) (Dats.cells ks)))) (PV.agg [PV.int IntKind.i64 k', PV.int IntKind.i64 n', PV.str s', PV.slice (Dats.len ks') (Dats.cells ks')]), true), (true, true), (isDat N [PV.int IntKind.i64 k', PV.int IntKind.i64 n', PV.str s', PV.slice (Dats.len ks') (Dats.cells ks')], true), (ofCells formedD false [PV.int IntKind.i64 k', PV.int IntKind.i64 n', PV.str s', PV.slice (Dats.len ks') (Dats.cells ks')], true)]) (by kernel_rfl) (by ((repeat' (first | exact okO_nil | refine okN ?_ ?_)); all_goals first | assumption | rfl | exact same_of rfl | exact sameS_self _ | (simp only [decide_eq_true_eq, decide_eq_false_iff_not, Nat.ble_eq, Nat.beq_eq, beq_eq_false_iff_ne, beq_iff_eq, ne_eq] <;> omega))) (fun st hs => ⟨⟨j + 1, hlt, fun i hi => by rcases Nat.lt_or_ge i j with h | h; exact hl i h; rw [show i = j by omega]; exact hf⟩, Nat.sub_lt_sub_left hlt (Nat.lt_succ_self j), ?_⟩)
        rw [hs, wj']
        rfl
      | false =>
        rw [hf] at hck
        have hnf := formedL_not hlt hf
        exact SWP.runQ (SRF ih [(57, [(39, true), (45, true), (46, true), (47, false)])] [(57, [(46, .agg [.int .i64 k', .int .i64 n', .str s', .slice ks'.len ks'.cells])])]) 100 57 hnt [2] (e := .ret) (z := { t := [(2, PV.bool false)], h := { bx := [{ cs := [PV.int IntKind.i64 k, PV.int IntKind.i64 n, PV.str s, PV.slice (Dats.len ks) (Dats.cells ks)], ty := 24 }], rw := [] } }) (o := [(decide ((↑j : Int) < (↑(Dats.len ks) : Int)), true), (true, true), (decide (0 ≤ (↑j : Int) ∧ (↑j : Int) < (↑(Dats.len ks) : Int)), true), (decide (TD.size d24 ≤ List.length (List.drop (Int.toNat (↑j : Int) * TD.size d24) (Dats.cells ks))), true), (same (PV.agg (List.take 4 (List.drop (Int.toNat (Int.ofNat j) * 4) (Dats.cells ks)))) (PV.agg [PV.int IntKind.i64 k', PV.int IntKind.i64 n', PV.str s', PV.slice (Dats.len ks') (Dats.cells ks')]), true), (true, true), (isDat N [PV.int IntKind.i64 k', PV.int IntKind.i64 n', PV.str s', PV.slice (Dats.len ks') (Dats.cells ks')], true), (ofCells formedD false [PV.int IntKind.i64 k', PV.int IntKind.i64 n', PV.str s', PV.slice (Dats.len ks') (Dats.cells ks')], false)]) (by kernel_rfl) (by ((repeat' (first | exact okO_nil | refine okN ?_ ?_)); all_goals first | assumption | rfl | exact same_of rfl | exact sameS_self _ | (simp only [decide_eq_true_eq, decide_eq_false_iff_not, Nat.ble_eq, Nat.beq_eq, beq_eq_false_iff_ne, beq_iff_eq, ne_eq] <;> omega))) (fun st hs => fin st _ _ (by simp [formedD, h1, h2, hnf]) hs)
    · obtain rfl : j = ks.len := by omega
      have d2 := ge_at hge
      have hfl := (formedL_iff ks).2 hl
      refine SWP.runQ (SRF ih [(57, [(39, false)])] []) 100 57 hnt [1] (e := .exit 1) (z := { t := [(1, PV.ptr 0 0)], h := { bx := [{ cs := [PV.int IntKind.i64 k, PV.int IntKind.i64 n, PV.str s, PV.slice (Dats.len ks) (Dats.cells ks)], ty := 24 }], rw := [] } }) (o := [(decide ((ks.len : Int) < (ks.len : Int)), false), (false, false)]) (by kernel_rfl) (by ((repeat' (first | exact okO_nil | refine okN ?_ ?_)); all_goals first | assumption | rfl | exact same_of rfl | exact sameS_self _ | (simp only [decide_eq_true_eq, decide_eq_false_iff_not, Nat.ble_eq, Nat.beq_eq, beq_eq_false_iff_ne, beq_iff_eq, ne_eq] <;> omega))) (fun st hs => hK2 st (.norm [1] ?_))
      rw [hs]
      by_cases h4 : n = 0
      · have c4 : (n == (0 : Int)) = true := by simpa using h4
        by_cases h5 : s.size = 0
        · have c5 := hs0 true (by simpa using h5)
          exact SWP.runQ (SRF ih [(57, [(51, true), (55, true)])] []) 100 57 hnt [2] (e := .ret) (z := { t := [(2, PV.bool true)], h := { bx := [{ cs := [PV.int IntKind.i64 k, PV.int IntKind.i64 n, PV.str s, PV.slice (Dats.len ks) (Dats.cells ks)], ty := 24 }], rw := [] } }) (o := [(n == (0 : Int), true), (ByteArray.toList s == [], true)]) (by kernel_rfl) (by ((repeat' (first | exact okO_nil | refine okN ?_ ?_)); all_goals first | assumption | rfl | exact same_of rfl | exact sameS_self _ | (simp only [decide_eq_true_eq, decide_eq_false_iff_not, Nat.ble_eq, Nat.beq_eq, beq_eq_false_iff_ne, beq_iff_eq, ne_eq] <;> omega))) (fun st hs => fin st _ _ (by simp [formedD, h3, h4, h5, hfl]) hs)
        · have c5 := hs0 false (by simpa using h5)
          exact SWP.runQ (SRF ih [(57, [(51, true), (55, false)])] []) 100 57 hnt [2] (e := .ret) (z := { t := [(2, PV.bool false)], h := { bx := [{ cs := [PV.int IntKind.i64 k, PV.int IntKind.i64 n, PV.str s, PV.slice (Dats.len ks) (Dats.cells ks)], ty := 24 }], rw := [] } }) (o := [(n == (0 : Int), true), (ByteArray.toList s == [], false)]) (by kernel_rfl) (by ((repeat' (first | exact okO_nil | refine okN ?_ ?_)); all_goals first | assumption | rfl | exact same_of rfl | exact sameS_self _ | (simp only [decide_eq_true_eq, decide_eq_false_iff_not, Nat.ble_eq, Nat.beq_eq, beq_eq_false_iff_ne, beq_iff_eq, ne_eq] <;> omega))) (fun st hs => fin st _ _ (by simp [formedD, h3, h4, h5, hfl]) hs)
      · have c4 : (n == (0 : Int)) = false := by simpa using h4
        exact SWP.runQ (SRF ih [(57, [(51, false)])] []) 100 57 hnt [2] (e := .ret) (z := { t := [(2, PV.bool false)], h := { bx := [{ cs := [PV.int IntKind.i64 k, PV.int IntKind.i64 n, PV.str s, PV.slice (Dats.len ks) (Dats.cells ks)], ty := 24 }], rw := [] } }) (o := [(n == (0 : Int), false)]) (by kernel_rfl) (by ((repeat' (first | exact okO_nil | refine okN ?_ ?_)); all_goals first | assumption | rfl | exact same_of rfl | exact sameS_self _ | (simp only [decide_eq_true_eq, decide_eq_false_iff_not, Nat.ble_eq, Nat.beq_eq, beq_eq_false_iff_ne, beq_iff_eq, ne_eq] <;> omega))) (fun st hs => fin st _ _ (by simp [formedD, h3, h4, hfl]) hs)
end Seat
end Go.Proofs.YtkblfapbakfgpaaDoor
/- The document's Check and Width; the law's check. -/
namespace Go.Proofs.YtkblfapbakfgpaaDoor
open Go.AS Go.RowKit
set_option linter.unusedVariables false
set_option linter.unusedSimpArgs false
set_option maxRecDepth 100000
set_option maxHeartbeats 4000000
namespace Seat
theorem deepL_max : ∀ (ks : Dats) (acc : Int), partsL ks ≤ 1000000 → 0 ≤ acc → (∀ d : Dat, d.size < ks.size + 1 → parts d ≤ 1000000 → deep d = deepN d) → deepL ks acc = max acc (deepNL ks : Int)
  | .nil, acc, _, h, _ => by simp only [deepL, deepNL]; omega
  | .cons d ds, acc, hp, h, ih => by
    simp only [partsL] at hp
    have h1 := ih d (by simp only [Dats.size]; omega) (by omega)
    rw [deepL, h1]
    have h2 : mx acc (deepN d : Int) = max acc (deepN d : Int) := by unfold mx; split <;> omega
    rw [h2, deepL_max ds _ (by omega) (by omega) (fun e he hpe => ih e (by simp only [Dats.size]; omega) hpe)]
    simp only [deepNL]
    omega
theorem deep_eq : ∀ d : Dat, parts d ≤ 1000000 → deep d = (deepN d : Int) := by
  have key : ∀ N, ∀ d : Dat, d.size < N → parts d ≤ 1000000 → deep d = (deepN d : Int) := by
    intro N
    induction N with
    | zero => intro d h; omega
    | succ N ih =>
      intro d hd hp
      obtain ⟨k, n, s, ks⟩ := d
      simp only [Dat.size] at hd
      simp only [parts] at hp
      have h1 := deepL_max ks 0 (by omega) (by omega) fun e he hpe => ih e (by omega) hpe
      have h2 := deepN_parts (.mk k n s ks)
      simp only [deepN, parts] at h2
      simp only [deep, deepN]
      rw [h1, wrap_in' _ (by omega)]
      omega
  exact fun d => key (d.size + 1) d (by omega)
noncomputable def rcS (f : Nat) (args : List PV) : Option (PV × Ob) := match f, args with
  | 40, [.agg cs] => some (.bool (ofCells formedD false cs), [(isOk cs, true)])
  | 41, [.agg cs] => some (.int .i64 (ofCells (fun d => w64 (parts d)) 0 cs), [(isOk cs, true)])
  | 42, [.agg cs] => some (.int .i64 (ofCells deep 0 cs), [(isOk cs, true)])
  | _, _ => none
theorem rcS_ok (f : Nat) (args : List PV) (r : PV) (o : Ob) (h : rcS f args = some (r, o)) (ho : ∀ p ∈ o, p.1 = p.2) (_ : pureL args = true) : Pure G0 f args (fun x => x = r) := by
  unfold rcS at h
  split at h
  · cases h
    obtain ⟨d, rfl, h1⟩ := isOk_of (ho _ (List.mem_singleton.2 rfl))
    rw [ofCells_at]; exact rformAt (d.size + 1) d (by omega) h1
  · cases h
    obtain ⟨d, rfl, h1⟩ := isOk_of (ho _ (List.mem_singleton.2 rfl))
    rw [ofCells_at]; exact parts_ok (d.size + 1) d (by omega) h1
  · cases h
    obtain ⟨d, rfl, h1⟩ := isOk_of (ho _ (List.mem_singleton.2 rfl))
    rw [ofCells_at]; exact deep_ok (d.size + 1) d (by omega) h1
  · cases h
noncomputable def SRC (l : List (Nat × List (Nat × Bool))) : Cfg G0 := { F := F, hF := hF, S := rcS, hS := rcS_ok, orc := orcM l }
theorem rcheck_ok (d : Dat) (hd : Small d) : Pure G0 18 [.agg d.cells] (fun r => r = .int .i64 (chkD d)) := by
  have hdp := deep_eq d (by have := hd.2.2; omega)
  have hg := isOk_at hd.1
  obtain ⟨k, n, s, ks⟩ := d
  have hg : isOk [.int .i64 k, .int .i64 n, .str s, .slice ks.len ks.cells] = true := hg
  have e1 : ∀ {α : Type} (f : Dat → α) (z : α), ofCells f z [.int .i64 k, .int .i64 n, .str s, .slice ks.len ks.cells] = f (.mk k n s ks) := fun f z => ofCells_at f z (.mk k n s ks)
  cases h1 : formedD (.mk k n s ks) with
  | false =>
    have : chkD (.mk k n s ks) = 4 := by simp [chkD, h1]
    rw [this]
    exact Pure.runO (S := SRC [(14, [(4, false)])]) 60 (o := [(true, true), (isOk [.int .i64 k, .int .i64 n, .str s, .slice ks.len ks.cells], true), (ofCells formedD false [.int .i64 k, .int .i64 n, .str s, .slice ks.len ks.cells], false)]) (by kernel_rfl) (by simp [okO, hg, e1, h1])
  | true =>
    by_cases h2 : 100000 < w64 (parts (.mk k n s ks))
    · have : chkD (.mk k n s ks) = 3 := by simp [chkD, h1, h2]
      rw [this]
      exact Pure.runO (S := SRC [(14, [(4, true), (8, true)])]) 60 (o := [(true, true), (isOk [.int .i64 k, .int .i64 n, .str s, .slice ks.len ks.cells], true), (ofCells formedD false [.int .i64 k, .int .i64 n, .str s, .slice ks.len ks.cells], true), (true, true), (isOk [.int .i64 k, .int .i64 n, .str s, .slice ks.len ks.cells], true), (decide (ofCells (fun d => w64 (parts d)) 0 [.int .i64 k, .int .i64 n, .str s, .slice ks.len ks.cells] > 100000), true)]) (by kernel_rfl) (by simp [okO, hg, e1, h1, h2])
    · by_cases h3 : 1000 < (deepN (.mk k n s ks) : Int)
      · have : chkD (.mk k n s ks) = 3 := by simp only [chkD, h1, h2, h3, if_true, if_false]; rfl
        rw [this]
        exact Pure.runO (S := SRC [(14, [(4, true), (8, false), (12, true)])]) 60 (o := [(true, true), (isOk [.int .i64 k, .int .i64 n, .str s, .slice ks.len ks.cells], true), (ofCells formedD false [.int .i64 k, .int .i64 n, .str s, .slice ks.len ks.cells], true), (true, true), (isOk [.int .i64 k, .int .i64 n, .str s, .slice ks.len ks.cells], true), (decide (ofCells (fun d => w64 (parts d)) 0 [.int .i64 k, .int .i64 n, .str s, .slice ks.len ks.cells] > 100000), false), (true, true), (isOk [.int .i64 k, .int .i64 n, .str s, .slice ks.len ks.cells], true), (decide (ofCells deep 0 [.int .i64 k, .int .i64 n, .str s, .slice ks.len ks.cells] > 1000), true)]) (by kernel_rfl) (by simp [okO, hg, e1, h1, h2, hdp]; omega)
      · have : chkD (.mk k n s ks) = 0 := by simp only [chkD, h1, h2, h3, if_true, if_false]; rfl
        rw [this]
        exact Pure.runO (S := SRC [(14, [(4, true), (8, false), (12, false)])]) 60 (o := [(true, true), (isOk [.int .i64 k, .int .i64 n, .str s, .slice ks.len ks.cells], true), (ofCells formedD false [.int .i64 k, .int .i64 n, .str s, .slice ks.len ks.cells], true), (true, true), (isOk [.int .i64 k, .int .i64 n, .str s, .slice ks.len ks.cells], true), (decide (ofCells (fun d => w64 (parts d)) 0 [.int .i64 k, .int .i64 n, .str s, .slice ks.len ks.cells] > 100000), false), (true, true), (isOk [.int .i64 k, .int .i64 n, .str s, .slice ks.len ks.cells], true), (decide (ofCells deep 0 [.int .i64 k, .int .i64 n, .str s, .slice ks.len ks.cells] > 1000), false)]) (by kernel_rfl) (by simp [okO, hg, e1, h1, h2, hdp]; omega)
def widB (w : Int) : Bool := decide (10 ≤ w ∧ w ≤ 200)
theorem width_ok (w : Int) : Pure G0 19 [.int .i64 w] (fun r => r = .bool (widB w)) := by
  by_cases h1 : 10 ≤ w
  · by_cases h2 : w ≤ 200
    · have : widB w = true := decide_eq_true ⟨h1, h2⟩
      rw [this]
      exact Pure.runO (S := SK [(9, [(4, true), (7, true)])]) 60 (o := [(decide (w ≥ 10), true), (decide (w ≤ 200), true)]) (by kernel_rfl) (by simp [okO, h1, h2])
    · have : widB w = false := decide_eq_false (by omega)
      rw [this]
      exact Pure.runO (S := SK [(9, [(4, true), (7, false)])]) 60 (o := [(decide (w ≥ 10), true), (decide (w ≤ 200), false)]) (by kernel_rfl) (by simp [okO, h1, h2])
  · have : widB w = false := decide_eq_false (by omega)
    rw [this]
    exact Pure.runO (S := SK [(9, [(4, false)])]) 60 (o := [(decide (w ≥ 10), false)]) (by kernel_rfl) (by simp [okO, h1])
theorem fitE_wid (w : Int) : fitE w = if widB w = true then 0 else 2 := by
  unfold fitE widB
  by_cases h1 : w < 10
  · rw [if_pos h1, if_neg (by simp; omega)]
  · by_cases h2 : 200 < w
    · rw [if_neg h1, if_pos h2, if_neg (by simp; omega)]
    · rw [if_neg h1, if_neg h2, if_pos (by simp; omega)]
end Seat
end Go.Proofs.YtkblfapbakfgpaaDoor
/- Layout: measured; Lines and Wide. -/
namespace Go.Proofs.YtkblfapbakfgpaaDoor
open Go.AS Go.RowKit
set_option linter.unusedVariables false
set_option linter.unusedSimpArgs false
set_option maxRecDepth 100000
set_option maxHeartbeats 4000000
namespace Seat
open Classical in
noncomputable def isSml (cs : List PV) : Bool := decide (∃ d : Dat, d.cells = cs ∧ Small d)
theorem isSml_at {d : Dat} (h : Small d) : isSml d.cells = true := by
  unfold isSml
  classical exact decide_eq_true ⟨d, rfl, h⟩
theorem isSml_of {cs : List PV} (h : isSml cs = true) : ∃ d : Dat, d.cells = cs ∧ Small d := by
  unfold isSml at h
  classical exact of_decide_eq_true h
noncomputable def loBC (w : Int) (cs : List PV) : ByteArray := ofCells (fun d => alB (.cons d .nil) w) ⟨#[]⟩ cs
noncomputable def loEC (w : Int) (cs : List PV) : Int := ofCells (fun d => alE (.cons d .nil) w) 0 cs
noncomputable def loS (f : Nat) (args : List PV) : Option (PV × Ob) := match f, args with
  | 11, [.agg cs, .int .i64 w] => some (.tup [.str (loBC w cs), .int .i64 (loEC w cs)], [(isSml cs, true)])
  | _, _ => none
theorem loS_ok (f : Nat) (args : List PV) (r : PV) (o : Ob) (h : loS f args = some (r, o)) (ho : ∀ p ∈ o, p.1 = p.2) (_ : pureL args = true) : Pure G0 f args (fun x => x = r) := by
  unfold loS at h
  split at h
  · rename_i cs w _
    cases h
    obtain ⟨d, rfl, h1⟩ := isSml_of (ho _ (List.mem_singleton.2 rfl))
    unfold loBC loEC
    rw [ofCells_at, ofCells_at]
    exact lay_ok d h1 w
  · cases h
noncomputable def meV (f : Nat) (xs : List PV) (H : Hp) : Option (PV × Hp × Ob) := match f, xs, H with
  | 37, [.agg [.iface tp (.ptr 0 0), .int .i64 w], .agg cs, .int .i64 0, .int .i64 0], ⟨[⟨[.int .i64 1, .int .i64 0, .int .i64 0], ty⟩], []⟩ => match Nat.beq tp 75 && Nat.beq ty 79 with
    | true => some (.tup [], ⟨[⟨[.int .i64 (lmC w.toNat 0 0 (1, 0, 0) cs).1, .int .i64 (lmC w.toNat 0 0 (1, 0, 0) cs).2.1, .int .i64 (lmC w.toNat 0 0 (1, 0, 0) cs).2.2], ty⟩], []⟩, [(isLy cs, true), (decide (0 ≤ w ∧ w ≤ 4398046511104), true)])
    | false => none
  | _, _, _ => none
theorem meV_ok (f : Nat) (xs : List PV) (H : Hp) (r : PV) (H' : Hp) (o : Ob) (h : meV f xs H = some (r, H', o)) (ho : ∀ p ∈ o, p.1 = p.2) : RCalls G0 f xs H (fun o' H2 => o' = .ret r ∧ H2 = H') ∧ r.scP (belowN H'.bx.length) (belowN H'.rw.length) = true ∧ H'.scB H'.bx.length H'.rw.length = true := by
  unfold meV at h
  split at h
  · rename_i tp w cs ty
    split at h
    · rename_i hc
      cases h
      simp only [Bool.and_eq_true, Nat.beq_eq] at hc
      obtain ⟨rfl, rfl⟩ := hc
      obtain ⟨d, rfl, h1, h2⟩ := isLy_of (ho (isLy cs, true) (by simp))
      have g1 := of_decide_eq_true (ho (decide (0 ≤ w ∧ w ≤ 4398046511104), true) (by simp))
      rw [lmC_at]
      have hs := size_parts d
      have hp := h1.2.2
      have hl := h1.lay h2 w.toNat
      have key := metAt (d.size + 1) d (by omega) h1.1 h1.2.1 h2 (h1.text h2) w.toNat 0 0 (by omega) (by omega) (by omega) 1 0 0 (by omega) (by omega)
      rw [Int.toNat_of_nonneg g1.1] at key
      exact ⟨key, rfl, rfl⟩
    · cases h
  · cases h
noncomputable def SMe (l : List (Nat × List (Nat × Bool))) : Cfg G0 := { F := F, hF := hF, S := loS, hS := loS_ok, V := meV, hV := meV_ok, orc := orcM l }
theorem measured_ok (d : Dat) (hd : Small d) (hf : formedD d = true) (w : Nat) (hw : w ≤ 4398046511104) : RCalls G0 46 [.agg d.cells, .int .i64 w] ⟨[], []⟩ (fun o H => o = .ret (.ptr 1 0) ∧ H = ⟨[⟨d.cells, 24⟩, mT (layG mS w d 0 0 (1, 0, 0))], []⟩) := by
  obtain ⟨k, n, s, ks⟩ := d
  have d1 : isLy [PV.int IntKind.i64 k, PV.int IntKind.i64 n, PV.str s, PV.slice (Dats.len ks) (Dats.cells ks)] = true := isLy_at (d := .mk k n s ks) hd hf
  have e1 : lmC (Int.toNat (Int.ofNat w)) 0 0 (1, 0, 0) [PV.int IntKind.i64 k, PV.int IntKind.i64 n, PV.str s, PV.slice (Dats.len ks) (Dats.cells ks)] = layG mS w (.mk k n s ks) 0 0 (1, 0, 0) := lmC_at w 0 0 _ (.mk k n s ks)
  refine Fn.enterH Tryd.func46 Tryd.ntmps46 rfl (Nat.le_of_ble_eq_true rfl) fun C fr fp hnt hnb hfr => ?_
  refine SWP.runQ (SMe []) 100 15 hnt [4] (e := .ret) (z := { t := [(4, PV.ptr 1 0)], h := { bx := [{ cs := [PV.int IntKind.i64 k, PV.int IntKind.i64 n, PV.str s, PV.slice (Dats.len ks) (Dats.cells ks)], ty := 24 }, { cs := [PV.int IntKind.i64 (Int.ofNat (Prod.fst (lmC (Int.toNat (Int.ofNat w)) 0 0 (1, 0, 0) [PV.int IntKind.i64 k, PV.int IntKind.i64 n, PV.str s, PV.slice (Dats.len ks) (Dats.cells ks)]))), PV.int IntKind.i64 (Int.ofNat (Prod.fst (Prod.snd (lmC (Int.toNat (Int.ofNat w)) 0 0 (1, 0, 0) [PV.int IntKind.i64 k, PV.int IntKind.i64 n, PV.str s, PV.slice (Dats.len ks) (Dats.cells ks)])))), PV.int IntKind.i64 (Int.ofNat (Prod.snd (Prod.snd (lmC (Int.toNat (Int.ofNat w)) 0 0 (1, 0, 0) [PV.int IntKind.i64 k, PV.int IntKind.i64 n, PV.str s, PV.slice (Dats.len ks) (Dats.cells ks)]))))], ty := 79 }], rw := [] } }) (o := [(isLy [PV.int IntKind.i64 k, PV.int IntKind.i64 n, PV.str s, PV.slice (Dats.len ks) (Dats.cells ks)], true), (decide (0 ≤ (↑w : Int) ∧ (↑w : Int) ≤ 4398046511104), true)]) (by kernel_rfl) (by ((repeat' (first | exact okO_nil | refine okN ?_ ?_)); all_goals first | assumption | rfl | exact same_of rfl | exact sameS_self _ | (simp only [decide_eq_true_eq, decide_eq_false_iff_not, Nat.ble_eq, Nat.beq_eq, beq_eq_false_iff_ne, beq_iff_eq, ne_eq] <;> omega))) (fun st hs => hfr st [4] ?_)
  rw [hs, e1]
  exact ⟨2, 0, .ptr 1 0, Nat.zero_le _, Nat.le_refl _, Nat.le_refl _, Nat.le_refl _, rfl, rfl, rfl, rfl, rfl⟩
noncomputable def msV (f : Nat) (xs : List PV) (H : Hp) : Option (PV × Hp × Ob) := match f, xs, H with
  | 46, [.agg cs, .int .i64 w], ⟨[], []⟩ => some (.ptr 1 0, ⟨[⟨cs, 24⟩, ⟨[.int .i64 (lmC w.toNat 0 0 (1, 0, 0) cs).1, .int .i64 (lmC w.toNat 0 0 (1, 0, 0) cs).2.1, .int .i64 (lmC w.toNat 0 0 (1, 0, 0) cs).2.2], 79⟩], []⟩, [(isLy cs, true), (decide (0 ≤ w ∧ w ≤ 4398046511104), true)])
  | _, _, _ => none
theorem msV_ok (f : Nat) (xs : List PV) (H : Hp) (r : PV) (H' : Hp) (o : Ob) (h : msV f xs H = some (r, H', o)) (ho : ∀ p ∈ o, p.1 = p.2) : RCalls G0 f xs H (fun o' H2 => o' = .ret r ∧ H2 = H') ∧ r.scP (belowN H'.bx.length) (belowN H'.rw.length) = true ∧ H'.scB H'.bx.length H'.rw.length = true := by
  unfold msV at h
  split at h
  · rename_i cs w
    cases h
    obtain ⟨d, rfl, h1, h2⟩ := isLy_of (ho (isLy cs, true) (by simp))
    have g1 := of_decide_eq_true (ho (decide (0 ≤ w ∧ w ≤ 4398046511104), true) (by simp))
    rw [lmC_at]
    have key := measured_ok d h1 h2 w.toNat (by omega)
    rw [Int.toNat_of_nonneg g1.1] at key
    obtain ⟨k, n, s, ks⟩ := d
    exact ⟨key, rfl, rfl⟩
  · cases h
noncomputable def SLk (l : List (Nat × List (Nat × Bool))) : Cfg G0 := { F := F, hF := hF, S := loS, hS := loS_ok, V := msV, hV := msV_ok, orc := orcM l }
end Seat
end Go.Proofs.YtkblfapbakfgpaaDoor
/- Layout: look; Lines and Wide. -/
namespace Go.Proofs.YtkblfapbakfgpaaDoor
open Go.AS Go.RowKit
set_option linter.unusedVariables false
set_option linter.unusedSimpArgs false
set_option maxRecDepth 100000
set_option maxHeartbeats 4000000
namespace Seat
theorem alE_zero {d : Dat} {w : Int} (h : alE (.cons d .nil) w = 0) : chkD d = 0 ∧ 10 ≤ w ∧ w ≤ 200 := by
  unfold alE at h
  have hc : chkA (.cons d .nil) = if chkD d = 0 then 0 else chkD d := rfl
  by_cases h1 : chkD d = 0
  · rw [hc, if_pos h1, if_pos rfl] at h
    by_cases h2 : fitE w = 0
    · refine ⟨h1, ?_⟩
      unfold fitE at h2
      split at h2
      · cases h2
      · split at h2
        · cases h2
        · omega
    · rw [if_neg h2] at h; exact absurd h h2
  · rw [hc, if_neg h1, if_neg h1] at h; exact absurd h h1
theorem look_bad (d : Dat) (hd : Small d) (w : Int) (he : alE (.cons d .nil) w ≠ 0) : RCalls G0 43 [.agg d.cells, .int .i64 w] ⟨[], []⟩ (fun o H => o = .ret (.tup [.ptr 1 0, .int .i64 (alE (.cons d .nil) w)]) ∧ H = ⟨[⟨d.cells, 24⟩, mT (0, 0, 0)], []⟩) := by
  obtain ⟨k, n, s, ks⟩ := d
  have d1 : isSml [PV.int IntKind.i64 k, PV.int IntKind.i64 n, PV.str s, PV.slice (Dats.len ks) (Dats.cells ks)] = true := isSml_at (d := .mk k n s ks) hd
  have e1 : loEC w [PV.int IntKind.i64 k, PV.int IntKind.i64 n, PV.str s, PV.slice (Dats.len ks) (Dats.cells ks)] = alE (.cons (.mk k n s ks) .nil) w := ofCells_at _ _ (.mk k n s ks)
  have d2 : (!loEC w [PV.int IntKind.i64 k, PV.int IntKind.i64 n, PV.str s, PV.slice (Dats.len ks) (Dats.cells ks)] == (0 : Int)) = true := by rw [e1, Bool.not_eq_true', beq_eq_false_iff_ne]; exact he
  refine Fn.enterH Tryd.func43 Tryd.ntmps43 rfl (Nat.le_of_ble_eq_true rfl) fun C fr fp hnt hnb hfr => ?_
  refine SWP.runQ (SLk [(22, [(15, true)])]) 100 22 hnt [4, 5] (e := .ret) (z := { t := [(4, PV.ptr 1 0), (5, PV.int IntKind.i64 (loEC w [PV.int IntKind.i64 k, PV.int IntKind.i64 n, PV.str s, PV.slice (Dats.len ks) (Dats.cells ks)]))], h := { bx := [{ cs := [PV.int IntKind.i64 k, PV.int IntKind.i64 n, PV.str s, PV.slice (Dats.len ks) (Dats.cells ks)], ty := 24 }, { cs := [PV.int IntKind.i64 (0 : Int), PV.int IntKind.i64 (0 : Int), PV.int IntKind.i64 (0 : Int)], ty := 79 }], rw := [] } }) (o := [(true, true), (isSml [PV.int IntKind.i64 k, PV.int IntKind.i64 n, PV.str s, PV.slice (Dats.len ks) (Dats.cells ks)], true), (!loEC w [PV.int IntKind.i64 k, PV.int IntKind.i64 n, PV.str s, PV.slice (Dats.len ks) (Dats.cells ks)] == (0 : Int), true), (true, true)]) (by kernel_rfl) (by ((repeat' (first | exact okO_nil | refine okN ?_ ?_)); all_goals first | assumption | rfl | exact same_of rfl | exact sameS_self _ | (simp only [decide_eq_true_eq, decide_eq_false_iff_not, Nat.ble_eq, Nat.beq_eq, beq_eq_false_iff_ne, beq_iff_eq, ne_eq] <;> omega))) (fun st hs => hfr st [4, 5] ?_)
  rw [hs, e1]
  exact ⟨2, 0, .tup [.ptr 1 0, .int .i64 (alE (.cons (.mk k n s ks) .nil) w)], Nat.zero_le _, Nat.le_refl _, Nat.le_refl _, Nat.le_refl _, rfl, rfl, rfl, rfl, rfl⟩
theorem look_ok (d : Dat) (hd : Small d) (w : Nat) (he : alE (.cons d .nil) w = 0) : RCalls G0 43 [.agg d.cells, .int .i64 w] ⟨[], []⟩ (fun o H => o = .ret (.tup [.ptr 2 0, .int .i64 0]) ∧ H = ⟨[⟨d.cells, 24⟩, ⟨d.cells, 24⟩, mT (layG mS w d 0 0 (1, 0, 0))], []⟩) := by
  obtain ⟨g1, g2, g3⟩ := alE_zero he
  have hf := chk_formed g1
  obtain ⟨k, n, s, ks⟩ := d
  have d1 : isSml [PV.int IntKind.i64 k, PV.int IntKind.i64 n, PV.str s, PV.slice (Dats.len ks) (Dats.cells ks)] = true := isSml_at (d := .mk k n s ks) hd
  have d0 : isLy [PV.int IntKind.i64 k, PV.int IntKind.i64 n, PV.str s, PV.slice (Dats.len ks) (Dats.cells ks)] = true := isLy_at (d := .mk k n s ks) hd hf
  have e1 : loEC (Int.ofNat w) [PV.int IntKind.i64 k, PV.int IntKind.i64 n, PV.str s, PV.slice (Dats.len ks) (Dats.cells ks)] = alE (.cons (.mk k n s ks) .nil) w := ofCells_at _ _ (.mk k n s ks)
  have d2 : (!loEC (Int.ofNat w) [PV.int IntKind.i64 k, PV.int IntKind.i64 n, PV.str s, PV.slice (Dats.len ks) (Dats.cells ks)] == (0 : Int)) = false := by rw [e1, Bool.not_eq_false', beq_iff_eq]; exact he
  have e2 : lmC (Int.toNat (Int.ofNat w)) 0 0 (1, 0, 0) [PV.int IntKind.i64 k, PV.int IntKind.i64 n, PV.str s, PV.slice (Dats.len ks) (Dats.cells ks)] = layG mS w (.mk k n s ks) 0 0 (1, 0, 0) := lmC_at w 0 0 _ (.mk k n s ks)
  refine Fn.enterH Tryd.func43 Tryd.ntmps43 rfl (Nat.le_of_ble_eq_true rfl) fun C fr fp hnt hnb hfr => ?_
  refine SWP.runQ (SLk [(22, [(15, false)])]) 100 22 hnt [4, 5] (e := .ret) (z := { t := [(4, PV.ptr 2 0), (5, PV.int IntKind.i64 (0 : Int))], h := { bx := [{ cs := [PV.int IntKind.i64 k, PV.int IntKind.i64 n, PV.str s, PV.slice (Dats.len ks) (Dats.cells ks)], ty := 24 }, { cs := [PV.int IntKind.i64 k, PV.int IntKind.i64 n, PV.str s, PV.slice (Dats.len ks) (Dats.cells ks)], ty := 24 }, { cs := [PV.int IntKind.i64 (Int.ofNat (Prod.fst (lmC (Int.toNat (Int.ofNat w)) 0 0 (1, 0, 0) [PV.int IntKind.i64 k, PV.int IntKind.i64 n, PV.str s, PV.slice (Dats.len ks) (Dats.cells ks)]))), PV.int IntKind.i64 (Int.ofNat (Prod.fst (Prod.snd (lmC (Int.toNat (Int.ofNat w)) 0 0 (1, 0, 0) [PV.int IntKind.i64 k, PV.int IntKind.i64 n, PV.str s, PV.slice (Dats.len ks) (Dats.cells ks)])))), PV.int IntKind.i64 (Int.ofNat (Prod.snd (Prod.snd (lmC (Int.toNat (Int.ofNat w)) 0 0 (1, 0, 0) [PV.int IntKind.i64 k, PV.int IntKind.i64 n, PV.str s, PV.slice (Dats.len ks) (Dats.cells ks)]))))], ty := 79 }], rw := [] } }) (o := [(true, true), (isSml [PV.int IntKind.i64 k, PV.int IntKind.i64 n, PV.str s, PV.slice (Dats.len ks) (Dats.cells ks)], true), (!loEC (Int.ofNat w) [PV.int IntKind.i64 k, PV.int IntKind.i64 n, PV.str s, PV.slice (Dats.len ks) (Dats.cells ks)] == (0 : Int), false), (false, false), (isLy [PV.int IntKind.i64 k, PV.int IntKind.i64 n, PV.str s, PV.slice (Dats.len ks) (Dats.cells ks)], true), (decide (0 ≤ (↑w : Int) ∧ (↑w : Int) ≤ 4398046511104), true)]) (by kernel_rfl) (by ((repeat' (first | exact okO_nil | refine okN ?_ ?_)); all_goals first | assumption | rfl | exact same_of rfl | exact sameS_self _ | (simp only [decide_eq_true_eq, decide_eq_false_iff_not, Nat.ble_eq, Nat.beq_eq, beq_eq_false_iff_ne, beq_iff_eq, ne_eq] <;> omega))) (fun st hs => hfr st [4, 5] ?_)
  rw [hs, e2]
  exact ⟨3, 0, .tup [.ptr 2 0, .int .i64 0], Nat.zero_le _, Nat.le_refl _, Nat.le_refl _, Nat.le_refl _, rfl, rfl, rfl, rfl, rfl⟩
noncomputable def lkV (b : Bool) (f : Nat) (xs : List PV) (H : Hp) : Option (PV × Hp × Ob) := match f, xs, H with
  | 43, [.agg cs, .int .i64 w], ⟨[], []⟩ => match b with
    | true => some (.tup [.ptr 2 0, .int .i64 0], ⟨[⟨cs, 24⟩, ⟨cs, 24⟩, ⟨[.int .i64 (lmC w.toNat 0 0 (1, 0, 0) cs).1, .int .i64 (lmC w.toNat 0 0 (1, 0, 0) cs).2.1, .int .i64 (lmC w.toNat 0 0 (1, 0, 0) cs).2.2], 79⟩], []⟩, [(isSml cs, true), (loEC w cs == 0, true)])
    | false => some (.tup [.ptr 1 0, .int .i64 (loEC w cs)], ⟨[⟨cs, 24⟩, ⟨[.int .i64 0, .int .i64 0, .int .i64 0], 79⟩], []⟩, [(isSml cs, true), (loEC w cs == 0, false)])
  | _, _, _ => none
theorem lkV_ok (b : Bool) (f : Nat) (xs : List PV) (H : Hp) (r : PV) (H' : Hp) (o : Ob) (h : lkV b f xs H = some (r, H', o)) (ho : ∀ p ∈ o, p.1 = p.2) : RCalls G0 f xs H (fun o' H2 => o' = .ret r ∧ H2 = H') ∧ r.scP (belowN H'.bx.length) (belowN H'.rw.length) = true ∧ H'.scB H'.bx.length H'.rw.length = true := by
  unfold lkV at h
  split at h
  · rename_i cs w
    cases b with
    | true =>
      cases h
      obtain ⟨d, rfl, h1⟩ := isSml_of (ho (isSml cs, true) (by simp))
      have h2 := ho (loEC w d.cells == 0, true) (by simp)
      have e1 : loEC w d.cells = alE (.cons d .nil) w := ofCells_at _ _ d
      simp only [e1, beq_iff_eq] at h2
      obtain ⟨g1, g2, g3⟩ := alE_zero h2
      rw [lmC_at]
      have key := look_ok d h1 w.toNat (by rw [Int.toNat_of_nonneg (by omega)]; exact h2)
      rw [Int.toNat_of_nonneg (by omega)] at key
      obtain ⟨k, n, s, ks⟩ := d
      exact ⟨key, rfl, rfl⟩
    | false =>
      cases h
      obtain ⟨d, rfl, h1⟩ := isSml_of (ho (isSml cs, true) (by simp))
      have h2 := ho (loEC w d.cells == 0, false) (by simp)
      have e1 : loEC w d.cells = alE (.cons d .nil) w := ofCells_at _ _ d
      simp only [e1, beq_eq_false_iff_ne] at h2
      rw [e1]
      have key := look_bad d h1 w h2
      obtain ⟨k, n, s, ks⟩ := d
      exact ⟨key, rfl, rfl⟩
  · cases h
noncomputable def SLi (b : Bool) : Cfg G0 := { F := F, hF := hF, S := loS, hS := loS_ok, V := lkV b, hV := lkV_ok b }
end Seat
end Go.Proofs.YtkblfapbakfgpaaDoor
/- Layout: Lines and Wide. -/
namespace Go.Proofs.YtkblfapbakfgpaaDoor
open Go.AS Go.RowKit
set_option linter.unusedVariables false
set_option linter.unusedSimpArgs false
set_option maxRecDepth 100000
set_option maxHeartbeats 4000000
namespace Seat
def metR (d : Dat) (w : Int) : Nat × Nat × Nat := if alE (.cons d .nil) w = 0 then layG mS w.toNat d 0 0 (1, 0, 0) else (0, 0, 0)
theorem lines_ok (d : Dat) (hd : Small d) (w : Int) : Pure G0 21 [.agg d.cells, .int .i64 w] (fun r => r = .tup [.int .i64 ((metR d w).1 : Nat), .int .i64 (alE (.cons d .nil) w)]) := by
  obtain ⟨k, n, s, ks⟩ := d
  have d1 : isSml [PV.int IntKind.i64 k, PV.int IntKind.i64 n, PV.str s, PV.slice (Dats.len ks) (Dats.cells ks)] = true := isSml_at (d := .mk k n s ks) hd
  have e1 : loEC w [PV.int IntKind.i64 k, PV.int IntKind.i64 n, PV.str s, PV.slice (Dats.len ks) (Dats.cells ks)] = alE (.cons (.mk k n s ks) .nil) w := ofCells_at _ _ (.mk k n s ks)
  have e2 : lmC w.toNat 0 0 (1, 0, 0) [PV.int IntKind.i64 k, PV.int IntKind.i64 n, PV.str s, PV.slice (Dats.len ks) (Dats.cells ks)] = layG mS w.toNat (.mk k n s ks) 0 0 (1, 0, 0) := lmC_at w.toNat 0 0 _ (.mk k n s ks)
  refine Fn.enterB Tryd.func21 Tryd.ntmps21 rfl (Nat.le_of_ble_eq_true rfl) fun C fr fp hnt hnb hp hfr hfp => ?_
  by_cases he : alE (.cons (.mk k n s ks) .nil) w = 0
  · have d2 : (loEC w [PV.int IntKind.i64 k, PV.int IntKind.i64 n, PV.str s, PV.slice (Dats.len ks) (Dats.cells ks)] == (0 : Int)) = true := by rw [e1, beq_iff_eq]; exact he
    refine SWP.runQ (SLi true) 100 19 hnt [4, 5] (e := .ret) (z := { t := [(4, PV.int IntKind.i64 (Int.ofNat (Prod.fst (lmC (Int.toNat w) 0 0 (1, 0, 0) [PV.int IntKind.i64 k, PV.int IntKind.i64 n, PV.str s, PV.slice (Dats.len ks) (Dats.cells ks)])))), (5, PV.int IntKind.i64 (0 : Int))], h := { bx := [{ cs := [PV.int IntKind.i64 k, PV.int IntKind.i64 n, PV.str s, PV.slice (Dats.len ks) (Dats.cells ks)], ty := 24 }, { cs := [PV.int IntKind.i64 k, PV.int IntKind.i64 n, PV.str s, PV.slice (Dats.len ks) (Dats.cells ks)], ty := 24 }, { cs := [PV.int IntKind.i64 k, PV.int IntKind.i64 n, PV.str s, PV.slice (Dats.len ks) (Dats.cells ks)], ty := 24 }, { cs := [PV.int IntKind.i64 (Int.ofNat (Prod.fst (lmC (Int.toNat w) 0 0 (1, 0, 0) [PV.int IntKind.i64 k, PV.int IntKind.i64 n, PV.str s, PV.slice (Dats.len ks) (Dats.cells ks)]))), PV.int IntKind.i64 (Int.ofNat (Prod.fst (Prod.snd (lmC (Int.toNat w) 0 0 (1, 0, 0) [PV.int IntKind.i64 k, PV.int IntKind.i64 n, PV.str s, PV.slice (Dats.len ks) (Dats.cells ks)])))), PV.int IntKind.i64 (Int.ofNat (Prod.snd (Prod.snd (lmC (Int.toNat w) 0 0 (1, 0, 0) [PV.int IntKind.i64 k, PV.int IntKind.i64 n, PV.str s, PV.slice (Dats.len ks) (Dats.cells ks)]))))], ty := 79 }], rw := [] } }) (o := [(isSml [PV.int IntKind.i64 k, PV.int IntKind.i64 n, PV.str s, PV.slice (Dats.len ks) (Dats.cells ks)], true), (loEC w [PV.int IntKind.i64 k, PV.int IntKind.i64 n, PV.str s, PV.slice (Dats.len ks) (Dats.cells ks)] == (0 : Int), true)]) (by kernel_rfl) (by ((repeat' (first | exact okO_nil | refine okN ?_ ?_)); all_goals first | assumption | rfl | exact same_of rfl | exact sameS_self _ | (simp only [decide_eq_true_eq, decide_eq_false_iff_not, Nat.ble_eq, Nat.beq_eq, beq_eq_false_iff_ne, beq_iff_eq, ne_eq] <;> omega))) (fun st hs => hfr st [4, 5] ?_)
    rw [hs, e2, metR, if_pos he, he]
    exact ⟨0, .tup [.int .i64 ((layG mS w.toNat (.mk k n s ks) 0 0 (1, 0, 0)).1 : Nat), .int .i64 0], Nat.le_refl _, Nat.zero_le _, rfl, rfl, rfl, rfl, _, rfl, rfl⟩
  · have d2 : (loEC w [PV.int IntKind.i64 k, PV.int IntKind.i64 n, PV.str s, PV.slice (Dats.len ks) (Dats.cells ks)] == (0 : Int)) = false := by rw [e1, beq_eq_false_iff_ne]; exact he
    refine SWP.runQ (SLi false) 100 19 hnt [4, 5] (e := .ret) (z := { t := [(4, PV.int IntKind.i64 (0 : Int)), (5, PV.int IntKind.i64 (loEC w [PV.int IntKind.i64 k, PV.int IntKind.i64 n, PV.str s, PV.slice (Dats.len ks) (Dats.cells ks)]))], h := { bx := [{ cs := [PV.int IntKind.i64 k, PV.int IntKind.i64 n, PV.str s, PV.slice (Dats.len ks) (Dats.cells ks)], ty := 24 }, { cs := [PV.int IntKind.i64 k, PV.int IntKind.i64 n, PV.str s, PV.slice (Dats.len ks) (Dats.cells ks)], ty := 24 }, { cs := [PV.int IntKind.i64 (0 : Int), PV.int IntKind.i64 (0 : Int), PV.int IntKind.i64 (0 : Int)], ty := 79 }], rw := [] } }) (o := [(isSml [PV.int IntKind.i64 k, PV.int IntKind.i64 n, PV.str s, PV.slice (Dats.len ks) (Dats.cells ks)], true), (loEC w [PV.int IntKind.i64 k, PV.int IntKind.i64 n, PV.str s, PV.slice (Dats.len ks) (Dats.cells ks)] == (0 : Int), false)]) (by kernel_rfl) (by ((repeat' (first | exact okO_nil | refine okN ?_ ?_)); all_goals first | assumption | rfl | exact same_of rfl | exact sameS_self _ | (simp only [decide_eq_true_eq, decide_eq_false_iff_not, Nat.ble_eq, Nat.beq_eq, beq_eq_false_iff_ne, beq_iff_eq, ne_eq] <;> omega))) (fun st hs => hfr st [4, 5] ?_)
    rw [hs, e1, metR, if_neg he]
    exact ⟨0, .tup [.int .i64 0, .int .i64 (alE (.cons (.mk k n s ks) .nil) w)], Nat.le_refl _, Nat.zero_le _, rfl, rfl, rfl, rfl, _, rfl, rfl⟩
theorem wide_ok (d : Dat) (hd : Small d) (w : Int) : Pure G0 26 [.agg d.cells, .int .i64 w] (fun r => r = .tup [.int .i64 ((metR d w).2.2 : Nat), .int .i64 (alE (.cons d .nil) w)]) := by
  obtain ⟨k, n, s, ks⟩ := d
  have d1 : isSml [PV.int IntKind.i64 k, PV.int IntKind.i64 n, PV.str s, PV.slice (Dats.len ks) (Dats.cells ks)] = true := isSml_at (d := .mk k n s ks) hd
  have e1 : loEC w [PV.int IntKind.i64 k, PV.int IntKind.i64 n, PV.str s, PV.slice (Dats.len ks) (Dats.cells ks)] = alE (.cons (.mk k n s ks) .nil) w := ofCells_at _ _ (.mk k n s ks)
  have e2 : lmC w.toNat 0 0 (1, 0, 0) [PV.int IntKind.i64 k, PV.int IntKind.i64 n, PV.str s, PV.slice (Dats.len ks) (Dats.cells ks)] = layG mS w.toNat (.mk k n s ks) 0 0 (1, 0, 0) := lmC_at w.toNat 0 0 _ (.mk k n s ks)
  refine Fn.enterB Tryd.func26 Tryd.ntmps26 rfl (Nat.le_of_ble_eq_true rfl) fun C fr fp hnt hnb hp hfr hfp => ?_
  by_cases he : alE (.cons (.mk k n s ks) .nil) w = 0
  · have d2 : (loEC w [PV.int IntKind.i64 k, PV.int IntKind.i64 n, PV.str s, PV.slice (Dats.len ks) (Dats.cells ks)] == (0 : Int)) = true := by rw [e1, beq_iff_eq]; exact he
    refine SWP.runQ (SLi true) 100 19 hnt [4, 5] (e := .ret) (z := { t := [(4, PV.int IntKind.i64 (Int.ofNat (Prod.snd (Prod.snd (lmC (Int.toNat w) 0 0 (1, 0, 0) [PV.int IntKind.i64 k, PV.int IntKind.i64 n, PV.str s, PV.slice (Dats.len ks) (Dats.cells ks)]))))), (5, PV.int IntKind.i64 (0 : Int))], h := { bx := [{ cs := [PV.int IntKind.i64 k, PV.int IntKind.i64 n, PV.str s, PV.slice (Dats.len ks) (Dats.cells ks)], ty := 24 }, { cs := [PV.int IntKind.i64 k, PV.int IntKind.i64 n, PV.str s, PV.slice (Dats.len ks) (Dats.cells ks)], ty := 24 }, { cs := [PV.int IntKind.i64 k, PV.int IntKind.i64 n, PV.str s, PV.slice (Dats.len ks) (Dats.cells ks)], ty := 24 }, { cs := [PV.int IntKind.i64 (Int.ofNat (Prod.fst (lmC (Int.toNat w) 0 0 (1, 0, 0) [PV.int IntKind.i64 k, PV.int IntKind.i64 n, PV.str s, PV.slice (Dats.len ks) (Dats.cells ks)]))), PV.int IntKind.i64 (Int.ofNat (Prod.fst (Prod.snd (lmC (Int.toNat w) 0 0 (1, 0, 0) [PV.int IntKind.i64 k, PV.int IntKind.i64 n, PV.str s, PV.slice (Dats.len ks) (Dats.cells ks)])))), PV.int IntKind.i64 (Int.ofNat (Prod.snd (Prod.snd (lmC (Int.toNat w) 0 0 (1, 0, 0) [PV.int IntKind.i64 k, PV.int IntKind.i64 n, PV.str s, PV.slice (Dats.len ks) (Dats.cells ks)]))))], ty := 79 }], rw := [] } }) (o := [(isSml [PV.int IntKind.i64 k, PV.int IntKind.i64 n, PV.str s, PV.slice (Dats.len ks) (Dats.cells ks)], true), (loEC w [PV.int IntKind.i64 k, PV.int IntKind.i64 n, PV.str s, PV.slice (Dats.len ks) (Dats.cells ks)] == (0 : Int), true)]) (by kernel_rfl) (by ((repeat' (first | exact okO_nil | refine okN ?_ ?_)); all_goals first | assumption | rfl | exact same_of rfl | exact sameS_self _ | (simp only [decide_eq_true_eq, decide_eq_false_iff_not, Nat.ble_eq, Nat.beq_eq, beq_eq_false_iff_ne, beq_iff_eq, ne_eq] <;> omega))) (fun st hs => hfr st [4, 5] ?_)
    rw [hs, e2, metR, if_pos he, he]
    exact ⟨0, .tup [.int .i64 ((layG mS w.toNat (.mk k n s ks) 0 0 (1, 0, 0)).2.2 : Nat), .int .i64 0], Nat.le_refl _, Nat.zero_le _, rfl, rfl, rfl, rfl, _, rfl, rfl⟩
  · have d2 : (loEC w [PV.int IntKind.i64 k, PV.int IntKind.i64 n, PV.str s, PV.slice (Dats.len ks) (Dats.cells ks)] == (0 : Int)) = false := by rw [e1, beq_eq_false_iff_ne]; exact he
    refine SWP.runQ (SLi false) 100 19 hnt [4, 5] (e := .ret) (z := { t := [(4, PV.int IntKind.i64 (0 : Int)), (5, PV.int IntKind.i64 (loEC w [PV.int IntKind.i64 k, PV.int IntKind.i64 n, PV.str s, PV.slice (Dats.len ks) (Dats.cells ks)]))], h := { bx := [{ cs := [PV.int IntKind.i64 k, PV.int IntKind.i64 n, PV.str s, PV.slice (Dats.len ks) (Dats.cells ks)], ty := 24 }, { cs := [PV.int IntKind.i64 k, PV.int IntKind.i64 n, PV.str s, PV.slice (Dats.len ks) (Dats.cells ks)], ty := 24 }, { cs := [PV.int IntKind.i64 (0 : Int), PV.int IntKind.i64 (0 : Int), PV.int IntKind.i64 (0 : Int)], ty := 79 }], rw := [] } }) (o := [(isSml [PV.int IntKind.i64 k, PV.int IntKind.i64 n, PV.str s, PV.slice (Dats.len ks) (Dats.cells ks)], true), (loEC w [PV.int IntKind.i64 k, PV.int IntKind.i64 n, PV.str s, PV.slice (Dats.len ks) (Dats.cells ks)] == (0 : Int), false)]) (by kernel_rfl) (by ((repeat' (first | exact okO_nil | refine okN ?_ ?_)); all_goals first | assumption | rfl | exact same_of rfl | exact sameS_self _ | (simp only [decide_eq_true_eq, decide_eq_false_iff_not, Nat.ble_eq, Nat.beq_eq, beq_eq_false_iff_ne, beq_iff_eq, ne_eq] <;> omega))) (fun st hs => hfr st [4, 5] ?_)
    rw [hs, e1, metR, if_neg he]
    exact ⟨0, .tup [.int .i64 0, .int .i64 (alE (.cons (.mk k n s ks) .nil) w)], Nat.le_refl _, Nat.zero_le _, rfl, rfl, rfl, rfl, _, rfl, rfl⟩
end Seat
end Go.Proofs.YtkblfapbakfgpaaDoor
/- Layout: the laws' own check and cut; the document's All. -/
namespace Go.Proofs.YtkblfapbakfgpaaDoor
open Go.AS Go.RowKit
set_option linter.unusedVariables false
set_option linter.unusedSimpArgs false
set_option maxRecDepth 100000
set_option maxHeartbeats 4000000
namespace Seat
noncomputable def lcS (f : Nat) (args : List PV) : Option (PV × Ob) := match f, args with
  | 18, [.agg cs] => some (.int .i64 (ofCells chkD 0 cs), [(isSml cs, true)])
  | 19, [.int .i64 w] => some (.bool (widB w), [])
  | _, _ => none
theorem lcS_ok (f : Nat) (args : List PV) (r : PV) (o : Ob) (h : lcS f args = some (r, o)) (ho : ∀ p ∈ o, p.1 = p.2) (_ : pureL args = true) : Pure G0 f args (fun x => x = r) := by
  unfold lcS at h
  split at h
  · cases h
    obtain ⟨d, rfl, h1⟩ := isSml_of (ho _ (List.mem_singleton.2 rfl))
    rw [ofCells_at]; exact rcheck_ok d h1
  · cases h
    exact width_ok _
  · cases h
noncomputable def SLc (l : List (Nat × List (Nat × Bool))) : Cfg G0 := { F := F, hF := hF, S := lcS, hS := lcS_ok, orc := orcM l }
def lawE (d : Dat) (w : Int) : Int := if chkD d = 0 then fitE w else chkD d
theorem lawcheck_ok (d : Dat) (hd : Small d) (w : Int) : Pure G0 12 [.agg d.cells, .int .i64 w] (fun r => r = .int .i64 (lawE d w)) := by
  obtain ⟨k, n, s, ks⟩ := d
  have d1 : isSml [PV.int IntKind.i64 k, PV.int IntKind.i64 n, PV.str s, PV.slice (Dats.len ks) (Dats.cells ks)] = true := isSml_at (d := .mk k n s ks) hd
  have e1 : ofCells chkD (0 : Int) [PV.int IntKind.i64 k, PV.int IntKind.i64 n, PV.str s, PV.slice (Dats.len ks) (Dats.cells ks)] = chkD (.mk k n s ks) := ofCells_at _ _ (.mk k n s ks)
  refine Fn.enterB Tryd.func12 Tryd.ntmps12 rfl (Nat.le_of_ble_eq_true rfl) fun C fr fp hnt hnb hp hfr hfp => ?_
  have fin : ∀ st e H, e = lawE (.mk k n s ks) w → nrm [4] st = ⟨[(4, .int .i64 e)], H⟩ → fr st := fun st e H he hst => hfr st [4] (by
    rw [hst]
    exact ⟨0, .int .i64 e, Nat.le_refl _, Nat.zero_le _, rfl, rfl, rfl, rfl, _, rfl, congrArg (PV.int .i64) he⟩)
  by_cases h1 : chkD (.mk k n s ks) = 0
  · have c1 : (!ofCells chkD (0 : Int) [PV.int IntKind.i64 k, PV.int IntKind.i64 n, PV.str s, PV.slice (Dats.len ks) (Dats.cells ks)] == (0 : Int)) = false := by rw [e1, Bool.not_eq_false', beq_iff_eq]; exact h1
    cases h2 : widB w with
    | false => exact SWP.runQ (SLc [(14, [(9, false), (12, false)])]) 100 14 hnt [4] (e := .ret) (z := { t := [(4, PV.int IntKind.i64 (2 : Int))], h := { bx := [{ cs := [PV.int IntKind.i64 k, PV.int IntKind.i64 n, PV.str s, PV.slice (Dats.len ks) (Dats.cells ks)], ty := 24 }], rw := [] } }) (o := [(true, true), (isSml [PV.int IntKind.i64 k, PV.int IntKind.i64 n, PV.str s, PV.slice (Dats.len ks) (Dats.cells ks)], true), (!ofCells chkD (0 : Int) [PV.int IntKind.i64 k, PV.int IntKind.i64 n, PV.str s, PV.slice (Dats.len ks) (Dats.cells ks)] == (0 : Int), false), (false, false), (true, true), (widB w, false)]) (by kernel_rfl) (by ((repeat' (first | exact okO_nil | refine okN ?_ ?_)); all_goals first | assumption | rfl | exact same_of rfl | exact sameS_self _ | (simp only [decide_eq_true_eq, decide_eq_false_iff_not, Nat.ble_eq, Nat.beq_eq, beq_eq_false_iff_ne, beq_iff_eq, ne_eq] <;> omega))) (fun st hs => fin st _ _ (by rw [lawE, if_pos h1, fitE_wid, if_neg (by rw [h2]; decide)]) hs)
    | true => exact SWP.runQ (SLc [(14, [(9, false), (12, true)])]) 100 14 hnt [4] (e := .ret) (z := { t := [(4, PV.int IntKind.i64 (0 : Int))], h := { bx := [{ cs := [PV.int IntKind.i64 k, PV.int IntKind.i64 n, PV.str s, PV.slice (Dats.len ks) (Dats.cells ks)], ty := 24 }], rw := [] } }) (o := [(true, true), (isSml [PV.int IntKind.i64 k, PV.int IntKind.i64 n, PV.str s, PV.slice (Dats.len ks) (Dats.cells ks)], true), (!ofCells chkD (0 : Int) [PV.int IntKind.i64 k, PV.int IntKind.i64 n, PV.str s, PV.slice (Dats.len ks) (Dats.cells ks)] == (0 : Int), false), (false, false), (true, true), (widB w, true)]) (by kernel_rfl) (by ((repeat' (first | exact okO_nil | refine okN ?_ ?_)); all_goals first | assumption | rfl | exact same_of rfl | exact sameS_self _ | (simp only [decide_eq_true_eq, decide_eq_false_iff_not, Nat.ble_eq, Nat.beq_eq, beq_eq_false_iff_ne, beq_iff_eq, ne_eq] <;> omega))) (fun st hs => fin st _ _ (by rw [lawE, if_pos h1, fitE_wid, if_pos h2]) hs)
  · have c1 : (!ofCells chkD (0 : Int) [PV.int IntKind.i64 k, PV.int IntKind.i64 n, PV.str s, PV.slice (Dats.len ks) (Dats.cells ks)] == (0 : Int)) = true := by rw [e1, Bool.not_eq_true', beq_eq_false_iff_ne]; exact h1
    exact SWP.runQ (SLc [(14, [(9, true)])]) 100 14 hnt [4] (e := .ret) (z := { t := [(4, PV.int IntKind.i64 (ofCells chkD (0 : Int) [PV.int IntKind.i64 k, PV.int IntKind.i64 n, PV.str s, PV.slice (Dats.len ks) (Dats.cells ks)]))], h := { bx := [{ cs := [PV.int IntKind.i64 k, PV.int IntKind.i64 n, PV.str s, PV.slice (Dats.len ks) (Dats.cells ks)], ty := 24 }], rw := [] } }) (o := [(true, true), (isSml [PV.int IntKind.i64 k, PV.int IntKind.i64 n, PV.str s, PV.slice (Dats.len ks) (Dats.cells ks)], true), (!ofCells chkD (0 : Int) [PV.int IntKind.i64 k, PV.int IntKind.i64 n, PV.str s, PV.slice (Dats.len ks) (Dats.cells ks)] == (0 : Int), true), (true, true)]) (by kernel_rfl) (by ((repeat' (first | exact okO_nil | refine okN ?_ ?_)); all_goals first | assumption | rfl | exact same_of rfl | exact sameS_self _ | (simp only [decide_eq_true_eq, decide_eq_false_iff_not, Nat.ble_eq, Nat.beq_eq, beq_eq_false_iff_ne, beq_iff_eq, ne_eq] <;> omega))) (fun st hs => fin st _ _ (by rw [e1, lawE, if_neg h1]) hs)
end Seat
end Go.Proofs.YtkblfapbakfgpaaDoor
/- Layout: the document's All. -/
namespace Go.Proofs.YtkblfapbakfgpaaDoor
open Go.AS Go.RowKit
set_option linter.unusedVariables false
set_option linter.unusedSimpArgs false
set_option maxRecDepth 100000
set_option maxHeartbeats 4000000
namespace Seat
noncomputable def laC (w : Nat) (cs : List PV) : List UInt8 := ofCells (fun d => layT w d 0 0 ++ [10]) [] cs
noncomputable def laS (f : Nat) (args : List PV) : Option (PV × Ob) := match f, args with
  | 14, [.agg cs, .int .i64 w] => some (.str (mkS (laC w.toNat cs)), [(isLy cs, true), (decide (0 ≤ w ∧ w ≤ 4398046511104), true)])
  | _, _ => none
theorem laS_ok (f : Nat) (args : List PV) (r : PV) (o : Ob) (h : laS f args = some (r, o)) (ho : ∀ p ∈ o, p.1 = p.2) (_ : pureL args = true) : Pure G0 f args (fun x => x = r) := by
  unfold laS at h
  split at h
  · rename_i cs w _
    cases h
    obtain ⟨d, rfl, h1, h2⟩ := isLy_of (ho (isLy cs, true) (by simp))
    have g1 := of_decide_eq_true (ho (decide (0 ≤ w ∧ w ≤ 4398046511104), true) (by simp))
    have key := reflay_ok d h1 h2 w.toNat (by omega)
    rw [Int.toNat_of_nonneg g1.1] at key
    unfold laC
    rw [ofCells_at]
    exact key
  · cases h
noncomputable def SLa (l : List (Nat × List (Nat × Bool))) (v : List (Nat × List (Nat × PV))) : Cfg G0 := { F := F, hF := hF, S := laS, hS := laS_ok, orc := orcM l, val := valM v }
theorem refall_ok (ks : Dats) (hs : SmallL ks) (hf : formedL ks = true) (w : Nat) (hw : w ≤ 4398046511104) : Pure G0 20 [.slice ks.len ks.cells, .int .i64 w] (fun r => r = .str (mkS (aT w ks))) := by
  have hlen := len_parts ks
  have hls := size_partsL ks
  have hpl := hs.2.2
  have hpb : ∀ j, (allGL rS w (ks.take j) true []).length ≤ 1280037600000 := fun j => by
    have h2 := take_size ks j
    have h3 := all_len w (ks.take j) true [] (take_rng ks j hs.2.1) (take_formed ks j hf) (by omega)
    simp only [List.length_nil] at h3
    omega
  refine Fn.enterB Tryd.func20 Tryd.ntmps20 rfl (Nat.le_of_ble_eq_true rfl) fun C fr fp hnt hnb hp hfr hfp => ?_
  refine Q.runSeq (SLa [] []) 100 26 hnt [0, 1] (z := { t := [(0, PV.slice (Dats.len ks) (Dats.cells ks)), (1, PV.int IntKind.i64 (Int.ofNat w))], h := { bx := [], rw := [] } }) (o := []) (by kernel_rfl) (by ((repeat' (first | exact okO_nil | refine okN ?_ ?_)); all_goals first | assumption | rfl | exact same_of rfl | exact sameS_self _ | (simp only [decide_eq_true_eq, decide_eq_false_iff_not, Nat.ble_eq, Nat.beq_eq, beq_eq_false_iff_ne, beq_iff_eq, ne_eq] <;> omega))) ?_
  refine Q.runSeq (SLa [] []) 100 26 hnt [0, 1, 5] (z := { t := [(0, PV.slice (Dats.len ks) (Dats.cells ks)), (1, PV.int IntKind.i64 (Int.ofNat w)), (5, PV.str { data := #[] })], h := { bx := [], rw := [] } }) (o := []) (by kernel_rfl) (by ((repeat' (first | exact okO_nil | refine okN ?_ ?_)); all_goals first | assumption | rfl | exact same_of rfl | exact sameS_self _ | (simp only [decide_eq_true_eq, decide_eq_false_iff_not, Nat.ble_eq, Nat.beq_eq, beq_eq_false_iff_ne, beq_iff_eq, ne_eq] <;> omega))) ?_
  refine Q.seq fun K hK => ?_
  let P (j : Nat) : List UInt8 := allGL rS w (ks.take j) true []
  let T (j : Nat) : AS := ⟨[(0, .slice ks.len ks.cells), (1, .int .i64 w), (5, .str (mkS (P j))), (6, .int .i64 j)], ⟨[], []⟩⟩
  have hPe : P ks.len = aT w ks := by simp only [P, aT, take_all]
  have hP0 : P 0 = [] := by simp only [P]; cases ks <;> rfl
  refine Q.runSeq (SLa [] []) 100 26 hnt [0, 1, 5, 6] (z := T 0) (o := []) (by simp only [T, hP0]; kernel_rfl) okO_nil ?_
  refine Q.block ?_
  refine Q.loopI (σ := { j : Nat // j ≤ ks.len }) [0, 1, 5, 6] (fun j => T j.1) (fun j => ks.len - j.1) ⟨0, Nat.zero_le _⟩ rfl fun ⟨j, hj⟩ => ?_
  show SWP G0 C _ _ ⟨[(0, .slice ks.len ks.cells), (1, .int .i64 w), (5, .str (mkS (P j))), (6, .int .i64 j)], ⟨[], []⟩⟩
  rcases Nat.lt_or_ge j ks.len with hlt | hge
  · obtain ⟨k', n', s', ks', hget⟩ := Dats.get_mk ks j
    have hsm := hs.get hlt
    have hfj := (formedL_iff ks).1 hf j hlt
    have hPn : P (j + 1) = (if j = 0 ∧ true = true then P j else P j ++ [10]) ++ (layT w (.mk k' n' s' ks') 0 0 ++ [10]) := by
      have e0 : P (j + 1) = rS.text [10] (layG rS w (ks.get j) 0 0 (if j = 0 ∧ true = true then P j else rS.text [10] (P j))) := allGL_take rS w ks true j [] hlt
      rw [e0, hget, (lay_app w).1]
      show (_ ++ _) ++ [10] = _
      rw [List.append_assoc]
      rfl
    have hbn : (P (j + 1)).length ≤ 1280037600000 := hpb (j + 1)
    rw [hget] at hsm hfj
    have hla : laC (Int.toNat (Int.ofNat w)) [PV.int IntKind.i64 k', PV.int IntKind.i64 n', PV.str s', PV.slice (Dats.len ks') (Dats.cells ks')] = layT w (.mk k' n' s' ks') 0 0 ++ [10] := ofCells_at _ _ (.mk k' n' s' ks')
    have d1 : isLy [PV.int IntKind.i64 k', PV.int IntKind.i64 n', PV.str s', PV.slice (Dats.len ks') (Dats.cells ks')] = true := isLy_at (d := .mk k' n' s' ks') hsm hfj
    have d2 := lt_at hlt
    have d3 := in_at hlt
    have d4 : decide (TD.size d24 ≤ List.length (List.drop (Int.toNat (j : Int) * TD.size d24) (Dats.cells ks))) = true := kid_len hlt
    have d5 := kid_same' hlt hget
    have wj : IntKind.wrap IntKind.i64 (Int.ofNat (j + 1)) = ((j + 1 : Nat) : Int) := wrapC (j + 1) (by omega)
    obtain ⟨p, hp⟩ : ∃ x, x = P j := ⟨_, rfl⟩
    rw [← hp] at hPn ⊢
    by_cases hz : j = 0
    · simp only [and_true, if_pos hz] at hPn
      have d6 : decide (0 < (j : Int)) = false := by rw [decide_eq_false_iff_not]; omega
      rw [hPn, List.length_append] at hbn
      have d7 : Nat.ble (ByteArray.size (mkS p) + ByteArray.size (mkS (laC (Int.toNat (Int.ofNat w)) [PV.int IntKind.i64 k', PV.int IntKind.i64 n', PV.str s', PV.slice (Dats.len ks') (Dats.cells ks')]))) 9223372036854775807 = true := by rw [hla, Nat.ble_eq, mkS_size, mkS_size]; omega
      refine SWP.runQ (SLa [(26, [(10, true), (14, false), (20, true), (21, true), (24, true)])] [(26, [(21, .agg [.int .i64 k', .int .i64 n', .str s', .slice ks'.len ks'.cells])])]) 100 26 hnt [0, 1, 5, 6] (e := .normal) (z := { t := [(0, PV.slice (Dats.len ks) (Dats.cells ks)), (1, PV.int IntKind.i64 (Int.ofNat w)), (5, PV.str (mkS p ++ mkS (laC (Int.toNat (Int.ofNat w)) [PV.int IntKind.i64 k', PV.int IntKind.i64 n', PV.str s', PV.slice (Dats.len ks') (Dats.cells ks')]))), (6, PV.int IntKind.i64 (IntKind.wrap IntKind.i64 (Int.ofNat (j + 1))))], h := { bx := [], rw := [] } }) (o := [(decide ((↑j : Int) < (↑(Dats.len ks) : Int)), true), (true, true), (decide (0 < (↑j : Int)), false), (false, false), (decide (0 ≤ (↑j : Int) ∧ (↑j : Int) < (↑(Dats.len ks) : Int)), true), (decide (TD.size d24 ≤ List.length (List.drop (Int.toNat (↑j : Int) * TD.size d24) (Dats.cells ks))), true), (same (PV.agg (List.take 4 (List.drop (Int.toNat (Int.ofNat j) * 4) (Dats.cells ks)))) (PV.agg [PV.int IntKind.i64 k', PV.int IntKind.i64 n', PV.str s', PV.slice (Dats.len ks') (Dats.cells ks')]), true), (true, true), (isLy [PV.int IntKind.i64 k', PV.int IntKind.i64 n', PV.str s', PV.slice (Dats.len ks') (Dats.cells ks')], true), (decide (0 ≤ (↑w : Int) ∧ (↑w : Int) ≤ 4398046511104), true), (Nat.ble (ByteArray.size (mkS p) + ByteArray.size (mkS (laC (Int.toNat (Int.ofNat w)) [PV.int IntKind.i64 k', PV.int IntKind.i64 n', PV.str s', PV.slice (Dats.len ks') (Dats.cells ks')]))) 9223372036854775807, true)]) (by kernel_rfl) (by ((repeat' (first | exact okO_nil | refine okN ?_ ?_)); all_goals first | assumption | rfl | exact same_of rfl | exact sameS_self _ | (simp only [decide_eq_true_eq, decide_eq_false_iff_not, Nat.ble_eq, Nat.beq_eq, beq_eq_false_iff_ne, beq_iff_eq, ne_eq] <;> omega))) (fun st hs => ⟨⟨j + 1, hlt⟩, Nat.sub_lt_sub_left hlt (Nat.lt_succ_self j), ?_⟩)
      rw [hs, wj, hla, mkS_append]
      simp only [T, hPn]
      rfl
    · simp only [and_true, if_neg hz] at hPn
      have d6 : decide (0 < (j : Int)) = true := by rw [decide_eq_true_eq]; omega
      rw [hPn, List.length_append, List.length_append] at hbn
      simp only [List.length_cons, List.length_nil] at hbn
      have d7 : Nat.ble (ByteArray.size (mkS p ++ { data := #[10] }) + ByteArray.size (mkS (laC (Int.toNat (Int.ofNat w)) [PV.int IntKind.i64 k', PV.int IntKind.i64 n', PV.str s', PV.slice (Dats.len ks') (Dats.cells ks')]))) 9223372036854775807 = true := by
        rw [show (⟨#[10]⟩ : ByteArray) = mkS [10] from rfl, mkS_append, hla, Nat.ble_eq, mkS_size, mkS_size, List.length_append]
        simp only [List.length_cons, List.length_nil]
        omega
      have d8 : Nat.ble (ByteArray.size (mkS p) + 1) 9223372036854775807 = true := by rw [Nat.ble_eq, mkS_size]; omega
      refine SWP.runQ (SLa [(26, [(10, true), (14, true), (16, true), (20, true), (21, true), (24, true)])] [(26, [(21, .agg [.int .i64 k', .int .i64 n', .str s', .slice ks'.len ks'.cells])])]) 100 26 hnt [0, 1, 5, 6] (e := .normal) (z := { t := [(0, PV.slice (Dats.len ks) (Dats.cells ks)), (1, PV.int IntKind.i64 (Int.ofNat w)), (5, PV.str (mkS p ++ { data := #[10] } ++ mkS (laC (Int.toNat (Int.ofNat w)) [PV.int IntKind.i64 k', PV.int IntKind.i64 n', PV.str s', PV.slice (Dats.len ks') (Dats.cells ks')]))), (6, PV.int IntKind.i64 (IntKind.wrap IntKind.i64 (Int.ofNat (j + 1))))], h := { bx := [], rw := [] } }) (o := [(decide ((↑j : Int) < (↑(Dats.len ks) : Int)), true), (true, true), (decide (0 < (↑j : Int)), true), (true, true), (Nat.ble (ByteArray.size (mkS p) + 1) 9223372036854775807, true), (decide (0 ≤ (↑j : Int) ∧ (↑j : Int) < (↑(Dats.len ks) : Int)), true), (decide (TD.size d24 ≤ List.length (List.drop (Int.toNat (↑j : Int) * TD.size d24) (Dats.cells ks))), true), (same (PV.agg (List.take 4 (List.drop (Int.toNat (Int.ofNat j) * 4) (Dats.cells ks)))) (PV.agg [PV.int IntKind.i64 k', PV.int IntKind.i64 n', PV.str s', PV.slice (Dats.len ks') (Dats.cells ks')]), true), (true, true), (isLy [PV.int IntKind.i64 k', PV.int IntKind.i64 n', PV.str s', PV.slice (Dats.len ks') (Dats.cells ks')], true), (decide (0 ≤ (↑w : Int) ∧ (↑w : Int) ≤ 4398046511104), true), (Nat.ble (ByteArray.size (mkS p ++ { data := #[10] }) + ByteArray.size (mkS (laC (Int.toNat (Int.ofNat w)) [PV.int IntKind.i64 k', PV.int IntKind.i64 n', PV.str s', PV.slice (Dats.len ks') (Dats.cells ks')]))) 9223372036854775807, true)]) (by kernel_rfl) (by ((repeat' (first | exact okO_nil | refine okN ?_ ?_)); all_goals first | assumption | rfl | exact same_of rfl | exact sameS_self _ | (simp only [decide_eq_true_eq, decide_eq_false_iff_not, Nat.ble_eq, Nat.beq_eq, beq_eq_false_iff_ne, beq_iff_eq, ne_eq] <;> omega))) (fun st hs => ⟨⟨j + 1, hlt⟩, Nat.sub_lt_sub_left hlt (Nat.lt_succ_self j), ?_⟩)
      rw [hs, wj, hla, show (⟨#[10]⟩ : ByteArray) = mkS [10] from rfl, mkS_append, mkS_append]
      simp only [T, hPn]
      rfl
  · obtain rfl : j = ks.len := by omega
    have d2 := ge_at hge
    obtain ⟨p, hp⟩ : ∃ x, x = P ks.len := ⟨_, rfl⟩
    rw [← hp] at hPe ⊢
    refine SWP.runQ (SLa [(26, [(10, false)])] []) 100 26 hnt [5] (e := .exit 0) (z := { t := [(5, PV.str (mkS p))], h := { bx := [], rw := [] } }) (o := [(decide ((ks.len : Int) < (ks.len : Int)), false), (false, false)]) (by kernel_rfl) (by ((repeat' (first | exact okO_nil | refine okN ?_ ?_)); all_goals first | assumption | rfl | exact same_of rfl | exact sameS_self _ | (simp only [decide_eq_true_eq, decide_eq_false_iff_not, Nat.ble_eq, Nat.beq_eq, beq_eq_false_iff_ne, beq_iff_eq, ne_eq] <;> omega))) (fun st hs => hK st (.norm [5] ?_))
    rw [hs]
    refine SWP.runQ (SLa [] []) 100 26 hnt [4] (e := .ret) (z := { t := [(4, PV.str (mkS p))], h := { bx := [], rw := [] } }) (o := []) (by kernel_rfl) (by ((repeat' (first | exact okO_nil | refine okN ?_ ?_)); all_goals first | assumption | rfl | exact same_of rfl | exact sameS_self _ | (simp only [decide_eq_true_eq, decide_eq_false_iff_not, Nat.ble_eq, Nat.beq_eq, beq_eq_false_iff_ne, beq_iff_eq, ne_eq] <;> omega))) (fun st hs => hfr st [4] ?_)
    rw [hs]
    exact ⟨0, .str (mkS p), Nat.le_refl _, Nat.zero_le _, rfl, rfl, rfl, rfl, _, rfl, by rw [hPe]⟩
end Seat
end Go.Proofs.YtkblfapbakfgpaaDoor
/- Layout: the laws' own cut. -/
namespace Go.Proofs.YtkblfapbakfgpaaDoor
open Go.AS Go.RowKit
set_option linter.unusedVariables false
set_option linter.unusedSimpArgs false
set_option maxRecDepth 100000
set_option maxHeartbeats 4000000
namespace Seat
noncomputable def cuA (cs : List PV) : Int := ofCells (fun d => match (cutD d 1020 2000).1 with | .mk k _ _ _ => k) 0 cs
noncomputable def cuB (cs : List PV) : Int := ofCells (fun d => match (cutD d 1020 2000).1 with | .mk _ n _ _ => n) 0 cs
noncomputable def cuC (cs : List PV) : ByteArray := ofCells (fun d => match (cutD d 1020 2000).1 with | .mk _ _ s _ => s) ⟨#[]⟩ cs
noncomputable def cuD (cs : List PV) : Dats := ofCells (fun d => match (cutD d 1020 2000).1 with | .mk _ _ _ ks => ks) .nil cs
noncomputable def cuS (f : Nat) (args : List PV) : Option (PV × Ob) := match f, args with
  | 16, [.agg cs, .int .i64 2000, .int .i64 1020] => some (.agg [.int .i64 (cuA cs), .int .i64 (cuB cs), .str (cuC cs), .slice (cuD cs).len (cuD cs).cells], [(isOk cs, true)])
  | _, _ => none
theorem cuS_ok (f : Nat) (args : List PV) (r : PV) (o : Ob) (h : cuS f args = some (r, o)) (ho : ∀ p ∈ o, p.1 = p.2) (_ : pureL args = true) : Pure G0 f args (fun x => x = r) := by
  unfold cuS at h
  split at h
  · rename_i cs _
    cases h
    obtain ⟨d, rfl, h1⟩ := isOk_of (ho _ (List.mem_singleton.2 rfl))
    have key := cut_ok d h1 2000 1020 (by omega)
    unfold cuA cuB cuC cuD
    rw [ofCells_at, ofCells_at, ofCells_at, ofCells_at]
    cases hc : (cutD d 1020 2000).1 with
    | mk k n s ks =>
      rw [hc] at key
      exact key
  · cases h
noncomputable def SLcu : Cfg G0 := { F := F, hF := hF, S := cuS, hS := cuS_ok }
theorem lawcut_ok (d : Dat) (hd : d.ok) : Pure G0 10 [.agg d.cells] (fun r => r = .agg (cutD d 1020 2000).1.cells) := by
  have hg := isOk_at hd
  obtain ⟨k, n, s, ks⟩ := d
  have d1 : isOk [PV.int IntKind.i64 k, PV.int IntKind.i64 n, PV.str s, PV.slice (Dats.len ks) (Dats.cells ks)] = true := hg
  have e1 : [.int .i64 (cuA [PV.int IntKind.i64 k, PV.int IntKind.i64 n, PV.str s, PV.slice (Dats.len ks) (Dats.cells ks)]), .int .i64 (cuB [PV.int IntKind.i64 k, PV.int IntKind.i64 n, PV.str s, PV.slice (Dats.len ks) (Dats.cells ks)]), .str (cuC [PV.int IntKind.i64 k, PV.int IntKind.i64 n, PV.str s, PV.slice (Dats.len ks) (Dats.cells ks)]), .slice (cuD [PV.int IntKind.i64 k, PV.int IntKind.i64 n, PV.str s, PV.slice (Dats.len ks) (Dats.cells ks)]).len (cuD [PV.int IntKind.i64 k, PV.int IntKind.i64 n, PV.str s, PV.slice (Dats.len ks) (Dats.cells ks)]).cells] = (cutD (.mk k n s ks) 1020 2000).1.cells := by
    have a1 : cuA [PV.int IntKind.i64 k, PV.int IntKind.i64 n, PV.str s, PV.slice (Dats.len ks) (Dats.cells ks)] = _ := ofCells_at _ _ (.mk k n s ks)
    have a2 : cuB [PV.int IntKind.i64 k, PV.int IntKind.i64 n, PV.str s, PV.slice (Dats.len ks) (Dats.cells ks)] = _ := ofCells_at _ _ (.mk k n s ks)
    have a3 : cuC [PV.int IntKind.i64 k, PV.int IntKind.i64 n, PV.str s, PV.slice (Dats.len ks) (Dats.cells ks)] = _ := ofCells_at _ _ (.mk k n s ks)
    have a4 : cuD [PV.int IntKind.i64 k, PV.int IntKind.i64 n, PV.str s, PV.slice (Dats.len ks) (Dats.cells ks)] = _ := ofCells_at _ _ (.mk k n s ks)
    rw [a1, a2, a3, a4]
    cases (cutD (.mk k n s ks) 1020 2000).1 with
    | mk k n s ks => rfl
  refine Fn.enterB Tryd.func10 Tryd.ntmps10 rfl (Nat.le_of_ble_eq_true rfl) fun C fr fp hnt hnb hp hfr hfp => ?_
  refine SWP.runQ SLcu 100 5 hnt [2] (e := .ret) (z := ⟨[(2, .ptr 1 0)], ⟨[DB k n s ks, ⟨[.int .i64 (cuA [PV.int IntKind.i64 k, PV.int IntKind.i64 n, PV.str s, PV.slice (Dats.len ks) (Dats.cells ks)]), .int .i64 (cuB [PV.int IntKind.i64 k, PV.int IntKind.i64 n, PV.str s, PV.slice (Dats.len ks) (Dats.cells ks)]), .str (cuC [PV.int IntKind.i64 k, PV.int IntKind.i64 n, PV.str s, PV.slice (Dats.len ks) (Dats.cells ks)]), .slice (cuD [PV.int IntKind.i64 k, PV.int IntKind.i64 n, PV.str s, PV.slice (Dats.len ks) (Dats.cells ks)]).len (cuD [PV.int IntKind.i64 k, PV.int IntKind.i64 n, PV.str s, PV.slice (Dats.len ks) (Dats.cells ks)]).cells], 24⟩], []⟩⟩) (o := [(true, true), (isOk [PV.int IntKind.i64 k, PV.int IntKind.i64 n, PV.str s, PV.slice (Dats.len ks) (Dats.cells ks)], true)]) (by kernel_rfl) (by ((repeat' (first | exact okO_nil | refine okN ?_ ?_)); all_goals first | assumption | rfl | exact same_of rfl | exact sameS_self _ | (simp only [decide_eq_true_eq, decide_eq_false_iff_not, Nat.ble_eq, Nat.beq_eq, beq_eq_false_iff_ne, beq_iff_eq, ne_eq] <;> omega))) (fun st hs => hfr st [2] ?_)
  rw [hs, ← e1]
  exact ⟨0, .agg [.int .i64 (cuA [PV.int IntKind.i64 k, PV.int IntKind.i64 n, PV.str s, PV.slice (Dats.len ks) (Dats.cells ks)]), .int .i64 (cuB [PV.int IntKind.i64 k, PV.int IntKind.i64 n, PV.str s, PV.slice (Dats.len ks) (Dats.cells ks)]), .str (cuC [PV.int IntKind.i64 k, PV.int IntKind.i64 n, PV.str s, PV.slice (Dats.len ks) (Dats.cells ks)]), .slice (cuD [PV.int IntKind.i64 k, PV.int IntKind.i64 n, PV.str s, PV.slice (Dats.len ks) (Dats.cells ks)]).len (cuD [PV.int IntKind.i64 k, PV.int IntKind.i64 n, PV.str s, PV.slice (Dats.len ks) (Dats.cells ks)]).cells], Nat.le_refl _, Nat.zero_le _, rfl, rfl, rfl, rfl, _, rfl, rfl⟩
end Seat
end Go.Proofs.YtkblfapbakfgpaaDoor
/- The reader's specification: what the document's reader computes, over bytes, offsets and errors (plain Lean). -/
namespace Go.Proofs.YtkblfapbakfgpaaDoor
open Go.AS
set_option linter.unusedVariables false
set_option linter.unusedSimpArgs false
namespace Seat
mutual
/-- A datum with the offset at which it begins. -/
inductive Nd where
  | mk (k n : Int) (t : ByteArray) (ks : Nds) (a : Int)
inductive Nds where
  | nil
  | cons (d : Nd) (ds : Nds)
end
mutual
def Nd.cells : Nd → List PV
  | .mk k n t ks a => [.int .i64 k, .int .i64 n, .str t, .slice ks.len ks.cells, .int .i64 a]
def Nds.cells : Nds → List PV
  | .nil => []
  | .cons d ds => d.cells ++ ds.cells
def Nds.len : Nds → Nat
  | .nil => 0
  | .cons _ ds => ds.len + 1
end
mutual
def Nd.dat : Nd → Dat
  | .mk k n t ks _ => .mk k n t ks.dat
def Nds.dat : Nds → Dats
  | .nil => .nil
  | .cons d ds => .cons d.dat ds.dat
end
def Nds.snoc : Nds → Nd → Nds
  | .nil, x => .cons x .nil
  | .cons d ds, x => .cons d (ds.snoc x)
def Nd.zero : Nd := .mk 0 0 ⟨#[]⟩ .nil 0
theorem Nd.cells_len (d : Nd) : d.cells.length = 5 := by cases d; rfl
theorem Nds.cells_len : ∀ ds : Nds, ds.cells.length = ds.len * 5
  | .nil => rfl
  | .cons d ds => by simp only [Nds.cells, Nds.len, List.length_append, Nd.cells_len, Nds.cells_len ds]; omega
theorem Nds.snoc_len : ∀ (ds : Nds) (x : Nd), (ds.snoc x).len = ds.len + 1
  | .nil, x => rfl
  | .cons d ds, x => by simp only [Nds.snoc, Nds.len, Nds.snoc_len ds x]
theorem Nds.snoc_cells : ∀ (ds : Nds) (x : Nd), (ds.snoc x).cells = ds.cells ++ x.cells
  | .nil, x => by simp [Nds.snoc, Nds.cells]
  | .cons d ds, x => by simp only [Nds.snoc, Nds.cells, Nds.snoc_cells ds x, List.append_assoc]
theorem Nds.dat_len : ∀ ds : Nds, ds.dat.len = ds.len
  | .nil => rfl
  | .cons d ds => by simp only [Nds.dat, Dats.len, Nds.len, Nds.dat_len ds]
mutual
theorem Nd.inj : ∀ (a b : Nd), a.cells = b.cells → a = b
  | .mk k n s ks a, .mk k' n' s' ks' a', h => by
    simp only [Nd.cells, List.cons.injEq, PV.int.injEq, PV.str.injEq, PV.slice.injEq, true_and, and_true] at h
    obtain ⟨rfl, rfl, rfl, ⟨_, h⟩, rfl⟩ := h
    rw [Nds.inj ks ks' h]
theorem Nds.inj : ∀ (a b : Nds), a.cells = b.cells → a = b
  | .nil, .nil, _ => rfl
  | .nil, .cons d ds, h => by
    have := congrArg List.length h
    simp only [Nds.cells, List.length_append, Nd.cells_len, List.length_nil] at this
    omega
  | .cons d ds, .nil, h => by
    have := congrArg List.length h
    simp only [Nds.cells, List.length_append, Nd.cells_len, List.length_nil] at this
    omega
  | .cons d ds, .cons e es, h => by
    simp only [Nds.cells] at h
    obtain ⟨h1, h2⟩ := List.append_inj h (by rw [Nd.cells_len, Nd.cells_len])
    rw [Nd.inj d e h1, Nds.inj ds es h2]
end

/-! ### Blanks and remarks -/
def blank (c : Int) : Bool := c == 32 || c == 9 || c == 10 || c == 13
/-- Where a remark ends. -/
def remK (s : ByteArray) : Nat → Nat → Nat
  | 0, a => a
  | k + 1, a => if a < s.size ∧ bt s (a : Int) ≠ 10 then remK s k (a + 1) else a
def remE (s : ByteArray) (a : Nat) : Nat := remK s (s.size - a) a
theorem remE_eq (s : ByteArray) (a : Nat) : remE s a = if a < s.size ∧ bt s (a : Int) ≠ 10 then remE s (a + 1) else a := by
  unfold remE
  by_cases h : a < s.size
  · obtain ⟨k, hk⟩ : ∃ k, s.size - a = k + 1 := ⟨s.size - a - 1, by omega⟩
    rw [hk, show s.size - (a + 1) = k by omega]
    rfl
  · rw [if_neg (fun g => h g.1), show s.size - a = 0 by omega]; rfl
theorem remK_ge (s : ByteArray) : ∀ k a, a ≤ remK s k a
  | 0, a => Nat.le_refl _
  | k + 1, a => by rw [remK]; split; exact Nat.le_trans (Nat.le_succ a) (remK_ge s k (a + 1)); exact Nat.le_refl _
theorem remE_ge (s : ByteArray) (a : Nat) : a ≤ remE s a := remK_ge s _ a
theorem remK_le (s : ByteArray) : ∀ k a, a ≤ s.size → remK s k a ≤ s.size
  | 0, a, h => h
  | k + 1, a, h => by
    rw [remK]
    split
    · rename_i g; exact remK_le s k (a + 1) g.1
    · exact h
theorem remE_le (s : ByteArray) (a : Nat) (h : a ≤ s.size) : remE s a ≤ s.size := remK_le s _ a h
def skpK (s : ByteArray) : Nat → Nat → Nat
  | 0, a => a
  | k + 1, a => if a < s.size then if blank (bt s (a : Int)) = true then skpK s k (a + 1) else if bt s (a : Int) = 59 then skpK s k (remE s a) else a else a
theorem remE_59 {s : ByteArray} {a : Nat} (h : a < s.size) (h9 : bt s (a : Int) = 59) : a + 1 ≤ remE s a := by
  rw [remE_eq, if_pos ⟨h, by rw [h9]; decide⟩]; exact remE_ge s (a + 1)
theorem skpK_more (s : ByteArray) : ∀ k m a, s.size - a ≤ k → k ≤ m → skpK s m a = skpK s k a
  | 0, m, a, h, _ => by
    cases m with
    | zero => rfl
    | succ m => simp only [skpK]; rw [if_neg (by omega)]
  | k + 1, m, a, h, hm => by
    obtain ⟨m, rfl⟩ : ∃ j, m = j + 1 := ⟨m - 1, by omega⟩
    rw [skpK, skpK]
    by_cases ha : a < s.size
    · rw [if_pos ha, if_pos ha, skpK_more s k m (a + 1) (by omega) (by omega)]
      by_cases h9 : bt s (a : Int) = 59
      · have := remE_59 ha h9
        rw [skpK_more s k m (remE s a) (by omega) (by omega)]
      · rw [if_neg h9, if_neg h9]
    · rw [if_neg ha, if_neg ha]
/-- The first byte from a on that is no blank and in no remark. -/
def skp (s : ByteArray) (a : Nat) : Nat := skpK s (s.size - a) a
theorem skp_eq (s : ByteArray) (a : Nat) : skp s a = if a < s.size then if blank (bt s (a : Int)) = true then skp s (a + 1) else if bt s (a : Int) = 59 then skp s (remE s a) else a else a := by
  by_cases h : a < s.size
  · unfold skp
    obtain ⟨k, hk⟩ : ∃ k, s.size - a = k + 1 := ⟨s.size - a - 1, by omega⟩
    rw [hk, show s.size - (a + 1) = k by omega, skpK]
    rw [if_pos h, if_pos h]
    by_cases h9 : bt s (a : Int) = 59
    · have := remE_59 h h9
      rw [skpK_more s (s.size - remE s a) k (remE s a) (Nat.le_refl _) (by omega)]
    · rw [if_neg h9, if_neg h9]
  · rw [if_neg h, skp, show s.size - a = 0 by omega]; rfl
theorem skpK_ge (s : ByteArray) : ∀ k a, a ≤ skpK s k a
  | 0, a => Nat.le_refl _
  | k + 1, a => by
    rw [skpK]
    split
    · split
      · exact Nat.le_trans (Nat.le_succ a) (skpK_ge s k (a + 1))
      · split
        · exact Nat.le_trans (remE_ge s a) (skpK_ge s k _)
        · exact Nat.le_refl _
    · exact Nat.le_refl _
theorem skp_ge (s : ByteArray) (a : Nat) : a ≤ skp s a := skpK_ge s _ a
theorem skpK_le (s : ByteArray) : ∀ k a, a ≤ s.size → skpK s k a ≤ s.size
  | 0, a, h => h
  | k + 1, a, h => by
    rw [skpK]
    split
    · rename_i h1
      split
      · exact skpK_le s k (a + 1) h1
      · split
        · exact skpK_le s k _ (remE_le s a h)
        · exact h
    · exact h
theorem skp_le (s : ByteArray) (a : Nat) (h : a ≤ s.size) : skp s a ≤ s.size := skpK_le s _ a h
theorem skp_out (s : ByteArray) (a : Nat) (h : s.size ≤ a) : skp s a = a := by rw [skp_eq, if_neg (by omega)]

/-! ### Atoms -/
def letK (s : ByteArray) : Nat → Nat → Nat
  | 0, a => a
  | k + 1, a => if a < s.size ∧ letC (bt s (a : Int)) = true then letK s k (a + 1) else a
/-- Where an atom ends. -/
def letE (s : ByteArray) (a : Nat) : Nat := letK s (s.size - a) a
theorem letE_eq (s : ByteArray) (a : Nat) : letE s a = if a < s.size ∧ letC (bt s (a : Int)) = true then letE s (a + 1) else a := by
  unfold letE
  by_cases h : a < s.size
  · obtain ⟨k, hk⟩ : ∃ k, s.size - a = k + 1 := ⟨s.size - a - 1, by omega⟩
    rw [hk, show s.size - (a + 1) = k by omega]
    rfl
  · rw [if_neg (fun g => h g.1), show s.size - a = 0 by omega]; rfl
theorem letK_ge (s : ByteArray) : ∀ k a, a ≤ letK s k a
  | 0, a => Nat.le_refl _
  | k + 1, a => by rw [letK]; split; exact Nat.le_trans (Nat.le_succ a) (letK_ge s k (a + 1)); exact Nat.le_refl _
theorem letE_ge (s : ByteArray) (a : Nat) : a ≤ letE s a := letK_ge s _ a
theorem letK_le (s : ByteArray) : ∀ k a, a ≤ s.size → letK s k a ≤ s.size
  | 0, a, h => h
  | k + 1, a, h => by
    rw [letK]
    split
    · rename_i g; exact letK_le s k (a + 1) g.1
    · exact h
theorem letE_le (s : ByteArray) (a : Nat) (h : a ≤ s.size) : letE s a ≤ s.size := letK_le s _ a h
theorem letE_gt {s : ByteArray} {a : Nat} (h : a < s.size) (hc : letC (bt s (a : Int)) = true) : a < letE s a := by
  rw [letE_eq, if_pos ⟨h, hc⟩]; exact letE_ge s (a + 1)

/-! ### Numbers -/
/-- The digits from i on, behind n: none if there is something else, or the number is greater than 2^63. -/
def numK (t : ByteArray) : Nat → Nat → Nat → Option Nat
  | 0, _, n => some n
  | k + 1, i, n => if 48 ≤ bt t (i : Int) ∧ bt t (i : Int) ≤ 57 ∧ 10 * n + (bt t (i : Int) - 48).toNat ≤ 9223372036854775808 then numK t k (i + 1) (10 * n + (bt t (i : Int) - 48).toNat) else none
/-- The number that an atom is, and whether it is one. -/
def numT (t : ByteArray) (below : Bool) : Int × Bool :=
  if t.size = 0 ∨ (bt t 0 = 48 ∧ (1 < t.size ∨ below = true)) then (0, false) else
  match numK t t.size 0 0 with
  | none => (0, false)
  | some n => if below = true then (IntKind.i64.wrap (-(n : Int)), true) else (IntKind.i64.wrap (n : Int), decide (n < 9223372036854775808))
def numB (w : ByteArray) : Bool := decide (0 < w.size ∧ bt w 0 = 45)
def numV (w : ByteArray) : Int × Bool := if numB w = true then numT (w.extract 1 w.size) true else numT w false

/-! ### Data -/
/-- Where the reader is, its error and where that is. -/
structure RS where
  a : Nat
  e : Int
  b : Int
def atomR (s : ByteArray) (a : Nat) : Nd × RS :=
  if (numV (s.extract a (letE s a))).2 = true then (.mk 1 (numV (s.extract a (letE s a))).1 ⟨#[]⟩ .nil a, ⟨letE s a, 0, 0⟩)
  else if symOk (s.extract a (letE s a)) = true then (.mk 2 0 (s.extract a (letE s a)) .nil a, ⟨letE s a, 0, 0⟩)
  else (.zero, ⟨letE s a, 4, a⟩)
def wQuote : ByteArray := ⟨#[113, 117, 111, 116, 101]⟩
/-- Does a list go on? -/
def goes (s : ByteArray) (r : RS) : Bool := r.e == 0 && !(decide (r.a < s.size) && bt s (r.a : Int) == 41)
def rdL (f : Nat → Nd × RS) (s : ByteArray) : Nat → RS → Nds → Nds × RS
  | 0, r, l => (l, r)
  | k + 1, r, l => if goes s r = true then rdL f s k ⟨skp s (f r.a).2.a, (f r.a).2.e, (f r.a).2.b⟩ (l.snoc (f r.a).1) else (l, r)
/-- A datum that may be so deep, from a on; nothing is wrong yet. -/
def rdD (s : ByteArray) : Nat → Nat → Nd × RS
  | n, a => if s.size ≤ a then (.zero, ⟨a, 4, s.size⟩) else
    if bt s (a : Int) ≠ 40 ∧ bt s (a : Int) ≠ 39 ∧ letC (bt s (a : Int)) = false then (.zero, ⟨a, 4, a⟩) else
    match n with
    | 0 => (.zero, ⟨a, 3, a⟩)
    | n + 1 => if bt s (a : Int) = 39 ∧ n = 0 then (.zero, ⟨a, 3, a⟩) else
      if letC (bt s (a : Int)) = true then atomR s a else
      if bt s (a : Int) = 39 then (.mk 3 0 ⟨#[]⟩ (.cons (.mk 2 0 wQuote .nil a) (.cons (rdD s n (skp s (a + 1))).1 .nil)) a, (rdD s n (skp s (a + 1))).2)
      else (.mk 3 0 ⟨#[]⟩ (rdL (rdD s n) s (s.size + 1) ⟨skp s (a + 1), 0, 0⟩ .nil).1 a, ⟨(rdL (rdD s n) s (s.size + 1) ⟨skp s (a + 1), 0, 0⟩ .nil).2.a + 1, (rdL (rdD s n) s (s.size + 1) ⟨skp s (a + 1), 0, 0⟩ .nil).2.e, (rdL (rdD s n) s (s.size + 1) ⟨skp s (a + 1), 0, 0⟩ .nil).2.b⟩)
/-- Where a reader may stand: within the string while nothing is wrong; not far beyond it. -/
structure RS.In (s : ByteArray) (m : Nat) (r : RS) : Prop where
  ok : r.e = 0 → r.a ≤ s.size ∧ r.b = 0
  le : r.a ≤ s.size + m
  er : r.e = 0 ∨ r.e = 3 ∨ r.e = 4
  ba : 0 ≤ r.b ∧ r.b ≤ s.size
/-- A reading goes on. -/
def Steps (s : ByteArray) (m : Nat) (f : Nat → Nd × RS) : Prop := ∀ a, a ≤ s.size → (f a).2.In s m ∧ ((f a).2.e = 0 → a < (f a).2.a)
theorem RS.In.skp {s : ByteArray} {m : Nat} {r : RS} (h : r.In s m) : RS.In s m ⟨skp s r.a, r.e, r.b⟩ where
  ok := fun he => ⟨skp_le s _ (h.ok he).1, (h.ok he).2⟩
  le := by
    rcases Nat.lt_or_ge s.size r.a with hl | hl
    · show Seat.skp s r.a ≤ _
      rw [skp_out s r.a (by omega)]; exact h.le
    · exact Nat.le_trans (skp_le s _ hl) (Nat.le_add_right _ _)
  er := h.er
  ba := h.ba
theorem n4 : ¬ (4 : Int) = 0 := by decide
theorem n3 : ¬ (3 : Int) = 0 := by decide
theorem goes_e {s : ByteArray} {r : RS} (h : goes s r = true) : r.e = 0 := by
  unfold goes at h
  simp only [Bool.and_eq_true, beq_iff_eq] at h
  exact h.1
theorem rdL_stop {f : Nat → Nd × RS} {s : ByteArray} {r : RS} (h : goes s r = false) : ∀ k l, rdL f s k r l = (l, r)
  | 0, l => rfl
  | k + 1, l => by rw [rdL, if_neg (by rw [h]; decide)]
theorem goes_err {s : ByteArray} {r : RS} (h : r.e ≠ 0) : goes s r = false := by
  unfold goes
  rw [beq_eq_false_iff_ne.2 h, Bool.false_and]
theorem rdL_steps {f : Nat → Nd × RS} {s : ByteArray} {m : Nat} (hf : Steps s m f) : ∀ k r l, r.In s m → (r.e = 0 → s.size + 1 - r.a ≤ k) → (rdL f s k r l).2.In s m ∧ goes s (rdL f s k r l).2 = false ∧ ((rdL f s k r l).2.e = 0 → r.a ≤ (rdL f s k r l).2.a) ∧ (rdL f s k r l).1.len ≤ l.len + k
  | 0, r, l, hi, hk => by
    refine ⟨hi, goes_err fun h => ?_, fun _ => Nat.le_refl _, Nat.le_refl _⟩
    have := hk h
    have := (hi.ok h).1
    omega
  | k + 1, r, l, hi, hk => by
    rw [rdL]
    by_cases hg : goes s r = true
    · rw [if_pos hg]
      have he := goes_e hg
      have h1 := hf r.a (hi.ok he).1
      have h2 := h1.1.skp
      have hge := skp_ge s (f r.a).2.a
      obtain ⟨g1, g2, g3, g4⟩ := rdL_steps hf k ⟨Seat.skp s (f r.a).2.a, (f r.a).2.e, (f r.a).2.b⟩ (l.snoc (f r.a).1) h2 (fun h => by
        have := h1.2 h
        have := hk he
        show s.size + 1 - Seat.skp s (f r.a).2.a ≤ k
        omega)
      refine ⟨g1, g2, fun h => ?_, by rw [Nds.snoc_len] at g4; omega⟩
      have g5 := g3 h
      have g6 : (f r.a).2.e = 0 := by
        by_cases h' : (f r.a).2.e = 0
        · exact h'
        · rw [rdL_stop (goes_err (r := ⟨Seat.skp s (f r.a).2.a, (f r.a).2.e, (f r.a).2.b⟩) h')] at h
          exact h
      have := h1.2 g6
      have g7 : Seat.skp s (f r.a).2.a ≤ _ := g5
      omega
    · rw [if_neg hg]
      exact ⟨hi, by simpa using hg, fun _ => Nat.le_refl _, by show l.len ≤ _; omega⟩
theorem goes_at {s : ByteArray} {r : RS} (h : goes s r = false) (he : r.e = 0) : r.a < s.size := by
  unfold goes at h
  rw [he] at h
  simp at h
  exact h.1
theorem rdD_eq (s : ByteArray) (n a : Nat) : rdD s n a = (if s.size ≤ a then (.zero, ⟨a, 4, s.size⟩) else
    if bt s (a : Int) ≠ 40 ∧ bt s (a : Int) ≠ 39 ∧ letC (bt s (a : Int)) = false then (.zero, ⟨a, 4, a⟩) else
    match n with
    | 0 => (.zero, ⟨a, 3, a⟩)
    | n + 1 => if bt s (a : Int) = 39 ∧ n = 0 then (.zero, ⟨a, 3, a⟩) else
      if letC (bt s (a : Int)) = true then atomR s a else
      if bt s (a : Int) = 39 then (.mk 3 0 ⟨#[]⟩ (.cons (.mk 2 0 wQuote .nil a) (.cons (rdD s n (skp s (a + 1))).1 .nil)) a, (rdD s n (skp s (a + 1))).2)
      else (.mk 3 0 ⟨#[]⟩ (rdL (rdD s n) s (s.size + 1) ⟨skp s (a + 1), 0, 0⟩ .nil).1 a, ⟨(rdL (rdD s n) s (s.size + 1) ⟨skp s (a + 1), 0, 0⟩ .nil).2.a + 1, (rdL (rdD s n) s (s.size + 1) ⟨skp s (a + 1), 0, 0⟩ .nil).2.e, (rdL (rdD s n) s (s.size + 1) ⟨skp s (a + 1), 0, 0⟩ .nil).2.b⟩)) := by
  cases n <;> rfl
theorem In0 {s : ByteArray} {m a : Nat} (h : a ≤ s.size) : RS.In s m ⟨a, 0, 0⟩ := ⟨fun _ => ⟨h, rfl⟩, Nat.le_trans h (Nat.le_add_right _ _), .inl rfl, Int.le_refl _, Int.natCast_nonneg _⟩
theorem rdD_steps (s : ByteArray) (n : Nat) : Steps s n (rdD s n) := by
  induction n with
  | zero =>
    intro a ha
    have hz : (0 : Int) ≤ (a : Int) ∧ (a : Int) ≤ (s.size : Int) := by omega
    rw [rdD_eq]
    split
    · exact ⟨⟨fun h => absurd h n4, ha, .inr (.inr rfl), (by omega : (0 : Int) ≤ (s.size : Int)), Int.le_refl _⟩, fun h => absurd h n4⟩
    · split
      · exact ⟨⟨fun h => absurd h n4, ha, .inr (.inr rfl), hz.1, hz.2⟩, fun h => absurd h n4⟩
      · exact ⟨⟨fun h => absurd h n3, ha, .inr (.inl rfl), hz.1, hz.2⟩, fun h => absurd h n3⟩
  | succ n ih =>
    intro a ha
    have hz : (0 : Int) ≤ (a : Int) ∧ (a : Int) ≤ (s.size : Int) := by omega
    rw [rdD_eq]
    split
    · exact ⟨⟨fun h => absurd h n4, by show a ≤ _; omega, .inr (.inr rfl), (by omega : (0 : Int) ≤ (s.size : Int)), Int.le_refl _⟩, fun h => absurd h n4⟩
    · rename_i hlt
      split
      · exact ⟨⟨fun h => absurd h n4, by show a ≤ _; omega, .inr (.inr rfl), hz.1, hz.2⟩, fun h => absurd h n4⟩
      · simp only []
        split
        · exact ⟨⟨fun h => absurd h n3, by show a ≤ _; omega, .inr (.inl rfl), hz.1, hz.2⟩, fun h => absurd h n3⟩
        · split
          · rename_i hl
            have g1 := letE_gt (by omega : a < s.size) hl
            have g2 := letE_le s a ha
            unfold atomR
            split
            · exact ⟨⟨fun _ => ⟨g2, rfl⟩, by show letE s a ≤ _; omega, .inl rfl, Int.le_refl _, Int.natCast_nonneg _⟩, fun _ => g1⟩
            · split
              · exact ⟨⟨fun _ => ⟨g2, rfl⟩, by show letE s a ≤ _; omega, .inl rfl, Int.le_refl _, Int.natCast_nonneg _⟩, fun _ => g1⟩
              · exact ⟨⟨fun h => absurd h n4, by show letE s a ≤ _; omega, .inr (.inr rfl), hz.1, hz.2⟩, fun h => absurd h n4⟩
          · have hs1 := skp_ge s (a + 1)
            have hs2 := skp_le s (a + 1) (by omega)
            split
            · have g := ih (skp s (a + 1)) hs2
              exact ⟨⟨g.1.ok, Nat.le_trans g.1.le (by omega), g.1.er, g.1.ba⟩, fun h => Nat.lt_of_lt_of_le (Nat.lt_of_succ_le hs1) (Nat.le_of_lt (g.2 h))⟩
            · obtain ⟨g1, g2, g3, g4⟩ := rdL_steps ih (s.size + 1) ⟨skp s (a + 1), 0, 0⟩ .nil (In0 hs2) (fun _ => by omega)
              refine ⟨⟨fun h => ?_, Nat.succ_le_succ g1.le, g1.er, g1.ba⟩, fun h => ?_⟩
              · exact ⟨goes_at g2 h, (g1.ok h).2⟩
              · exact Nat.lt_succ_of_le (Nat.le_trans (Nat.le_of_succ_le hs1) (g3 h))
end Seat
end Go.Proofs.YtkblfapbakfgpaaDoor
/- The document's reader: skip. Printed by dev/rd1.py and dev/nfsub.py (this session's). -/
namespace Go.Proofs.YtkblfapbakfgpaaDoor
open Go.AS Go.RowKit
set_option linter.unusedVariables false
set_option linter.unusedSimpArgs false
set_option maxRecDepth 100000
set_option maxHeartbeats 4000000
namespace Seat
def rB (s : ByteArray) (a : Nat) (e b : Int) : Box := ⟨[.str s, .int .i64 a, .int .i64 e, .int .i64 b], 98⟩
noncomputable def SRk (l : List (Nat × List (Nat × Bool))) (v : List (Nat × List (Nat × PV))) : Cfg G0 := { F := F, hF := hF, S := fun _ _ => none, hS := (fun _ _ _ _ h => by cases h), orc := orcM l, val := valM v }
theorem wrapI (a : Nat) (h : a ≤ 9223372036854775807) : IntKind.wrap IntKind.i64 (Int.ofNat a) = (a : Int) := by
  show IntKind.wrap IntKind.i64 (a : Int) = _
  rw [IntKind.wrap_i64]; omega
theorem sameB {x y : Bool} (h : x = y) : same (.bool x) (.bool y) = true := same_of (congrArg PV.bool h)
theorem beqT {x y : Int} (h : x = y) : (x == y) = true := by rw [beq_iff_eq]; exact h
theorem beqF {x y : Int} (h : ¬ x = y) : (x == y) = false := by rw [beq_eq_false_iff_ne]; exact h
theorem skip_ok (s : ByteArray) (hs : s.size ≤ 1099511627776) (a : Nat) (e b : Int) : PCalls G0 57 [.ptr 0 0] [rB s a e b] (fun o b' => o = .ret (.tup []) ∧ b' = [rB s (skp s a) e b]) := by
  refine Fn.enterN Tryd.func57 Tryd.ntmps57 rfl (Nat.le_of_ble_eq_true rfl) fun C fr fp hnt hp hfr hfp => ?_
  have fin : ∀ st x, skp s x = x → skp s x = skp s a → nrm [] st = ⟨[], ⟨[rB s x e b], []⟩⟩ → fr st := fun st x h1 h2 hst => hfr st [] (by
    rw [hst, ← h2.symm.trans h1]
    exact ⟨1, .tup [], Nat.le_refl _, Nat.le_refl _, rfl, rfl, rfl, rfl, rfl⟩)
  let T (x : Nat) : AS := ⟨[(0, .ptr 0 0)], ⟨[rB s x e b], []⟩⟩
  refine Q.block ?_
  refine Q.loopI (σ := { x : Nat // skp s x = skp s a }) [0] (fun x => T x.1) (fun x => s.size - x.1) ⟨a, rfl⟩ rfl fun ⟨x, hk⟩ => ?_
  show SWP G0 C _ _ ⟨[(0, .ptr 0 0)], ⟨[rB s x e b], []⟩⟩
  rcases Nat.lt_or_ge x s.size with hlt | hge
  · have d1 := lt_at hlt
    have d2 := in_at hlt
    have wi : IntKind.wrap IntKind.i64 (Int.ofNat (x + 1)) = ((x + 1 : Nat) : Int) := wrapI (x + 1) (by omega)
    have sk := skp_eq s x
    rw [if_pos hlt] at sk
    have bl : blank (bt s (x : Int)) = true → ∀ st, nrm [0] st = ⟨[(0, .ptr 0 0)], ⟨[⟨[.str s, .int .i64 (IntKind.wrap IntKind.i64 (Int.ofNat (x + 1))), .int .i64 e, .int .i64 b], 98⟩], []⟩⟩ → ∃ y : { x : Nat // skp s x = skp s a }, s.size - y.1 < s.size - x ∧ nrm [0] st = T y.1 := fun hb st hst =>
      ⟨⟨x + 1, by rw [← hk, sk, if_pos hb]⟩, Nat.sub_lt_sub_left hlt (Nat.lt_succ_self x), by rw [hst, wi]; rfl⟩
    by_cases c32 : bt s (x : Int) = 32
    · have e1 := beqT c32
      exact SWP.runQ (SRk [(64, [(11, true), (20, true), (22, true)])] []) 100 64 hnt [0] (e := .normal) (z := { t := [(0, PV.ptr 0 0)], h := { bx := [{ cs := [PV.str s, PV.int IntKind.i64 (IntKind.wrap IntKind.i64 (Int.ofNat (x + 1))), PV.int IntKind.i64 e, PV.int IntKind.i64 b], ty := 98 }], rw := [] } }) (o := [(decide ((↑x : Int) < (↑(ByteArray.size s) : Int)), true), (decide (0 ≤ (↑x : Int) ∧ (↑x : Int) < (↑(ByteArray.size s) : Int)), true), (bt s (Int.ofNat x) == (32 : Int), true)]) (by kernel_rfl) (by ((repeat' (first | exact okO_nil | refine okN ?_ ?_)); all_goals first | assumption | rfl | exact same_of rfl | exact sameS_self _ | (simp only [decide_eq_true_eq, decide_eq_false_iff_not, Nat.ble_eq, Nat.beq_eq, beq_eq_false_iff_ne, beq_iff_eq, ne_eq] <;> omega))) (bl (by rw [c32]; rfl))
    have e1 := beqF c32
    by_cases c9 : bt s (x : Int) = 9
    · have e2 := beqT c9
      exact SWP.runQ (SRk [(64, [(11, true), (20, true), (22, false), (23, true)])] []) 100 64 hnt [0] (e := .normal) (z := { t := [(0, PV.ptr 0 0)], h := { bx := [{ cs := [PV.str s, PV.int IntKind.i64 (IntKind.wrap IntKind.i64 (Int.ofNat (x + 1))), PV.int IntKind.i64 e, PV.int IntKind.i64 b], ty := 98 }], rw := [] } }) (o := [(decide ((↑x : Int) < (↑(ByteArray.size s) : Int)), true), (decide (0 ≤ (↑x : Int) ∧ (↑x : Int) < (↑(ByteArray.size s) : Int)), true), (bt s (Int.ofNat x) == (32 : Int), false), (bt s (Int.ofNat x) == (9 : Int), true)]) (by kernel_rfl) (by ((repeat' (first | exact okO_nil | refine okN ?_ ?_)); all_goals first | assumption | rfl | exact same_of rfl | exact sameS_self _ | (simp only [decide_eq_true_eq, decide_eq_false_iff_not, Nat.ble_eq, Nat.beq_eq, beq_eq_false_iff_ne, beq_iff_eq, ne_eq] <;> omega))) (bl (by rw [c9]; rfl))
    have e2 := beqF c9
    by_cases c10 : bt s (x : Int) = 10
    · have e3 := beqT c10
      exact SWP.runQ (SRk [(64, [(11, true), (20, true), (22, false), (23, false), (24, true)])] []) 100 64 hnt [0] (e := .normal) (z := { t := [(0, PV.ptr 0 0)], h := { bx := [{ cs := [PV.str s, PV.int IntKind.i64 (IntKind.wrap IntKind.i64 (Int.ofNat (x + 1))), PV.int IntKind.i64 e, PV.int IntKind.i64 b], ty := 98 }], rw := [] } }) (o := [(decide ((↑x : Int) < (↑(ByteArray.size s) : Int)), true), (decide (0 ≤ (↑x : Int) ∧ (↑x : Int) < (↑(ByteArray.size s) : Int)), true), (bt s (Int.ofNat x) == (32 : Int), false), (bt s (Int.ofNat x) == (9 : Int), false), (bt s (Int.ofNat x) == (10 : Int), true)]) (by kernel_rfl) (by ((repeat' (first | exact okO_nil | refine okN ?_ ?_)); all_goals first | assumption | rfl | exact same_of rfl | exact sameS_self _ | (simp only [decide_eq_true_eq, decide_eq_false_iff_not, Nat.ble_eq, Nat.beq_eq, beq_eq_false_iff_ne, beq_iff_eq, ne_eq] <;> omega))) (bl (by rw [c10]; rfl))
    have e3 := beqF c10
    by_cases c13 : bt s (x : Int) = 13
    · have e4 := beqT c13
      exact SWP.runQ (SRk [(64, [(11, true), (20, true), (22, false), (23, false), (24, false), (25, true)])] []) 100 64 hnt [0] (e := .normal) (z := { t := [(0, PV.ptr 0 0)], h := { bx := [{ cs := [PV.str s, PV.int IntKind.i64 (IntKind.wrap IntKind.i64 (Int.ofNat (x + 1))), PV.int IntKind.i64 e, PV.int IntKind.i64 b], ty := 98 }], rw := [] } }) (o := [(decide ((↑x : Int) < (↑(ByteArray.size s) : Int)), true), (decide (0 ≤ (↑x : Int) ∧ (↑x : Int) < (↑(ByteArray.size s) : Int)), true), (bt s (Int.ofNat x) == (32 : Int), false), (bt s (Int.ofNat x) == (9 : Int), false), (bt s (Int.ofNat x) == (10 : Int), false), (bt s (Int.ofNat x) == (13 : Int), true)]) (by kernel_rfl) (by ((repeat' (first | exact okO_nil | refine okN ?_ ?_)); all_goals first | assumption | rfl | exact same_of rfl | exact sameS_self _ | (simp only [decide_eq_true_eq, decide_eq_false_iff_not, Nat.ble_eq, Nat.beq_eq, beq_eq_false_iff_ne, beq_iff_eq, ne_eq] <;> omega))) (bl (by rw [c13]; rfl))
    have e4 := beqF c13
    have nb : ¬ blank (bt s (x : Int)) = true := by simp [blank, c32, c9, c10, c13]
    rw [if_neg nb] at sk
    by_cases c59 : bt s (x : Int) = 59
    · have e5 := beqT c59
      rw [if_pos c59] at sk
      refine Q.runSeq (SRk [(64, [(11, true)])] []) 100 64 hnt [0] (z := { t := [(0, PV.ptr 0 0)], h := { bx := [{ cs := [PV.str s, PV.int IntKind.i64 (Int.ofNat x), PV.int IntKind.i64 e, PV.int IntKind.i64 b], ty := 98 }], rw := [] } }) (o := [(decide ((↑x : Int) < (↑(ByteArray.size s) : Int)), true)]) (by kernel_rfl) (by ((repeat' (first | exact okO_nil | refine okN ?_ ?_)); all_goals first | assumption | rfl | exact same_of rfl | exact sameS_self _ | (simp only [decide_eq_true_eq, decide_eq_false_iff_not, Nat.ble_eq, Nat.beq_eq, beq_eq_false_iff_ne, beq_iff_eq, ne_eq] <;> omega))) ?_
      refine Q.block ?_
      refine Q.runSeq (SRk [(64, [(20, true)])] []) 100 64 hnt [0, 20] (z := { t := [(0, PV.ptr 0 0), (20, PV.int IntKind.u8 (bt s (Int.ofNat x)))], h := { bx := [{ cs := [PV.str s, PV.int IntKind.i64 (Int.ofNat x), PV.int IntKind.i64 e, PV.int IntKind.i64 b], ty := 98 }], rw := [] } }) (o := [(decide (0 ≤ (↑x : Int) ∧ (↑x : Int) < (↑(ByteArray.size s) : Int)), true)]) (by kernel_rfl) (by ((repeat' (first | exact okO_nil | refine okN ?_ ?_)); all_goals first | assumption | rfl | exact same_of rfl | exact sameS_self _ | (simp only [decide_eq_true_eq, decide_eq_false_iff_not, Nat.ble_eq, Nat.beq_eq, beq_eq_false_iff_ne, beq_iff_eq, ne_eq] <;> omega))) ?_
      refine Q.block ?_
      refine Q.runSeq (SRk [(64, [(22, false), (23, false), (24, false), (25, false)])] []) 100 64 hnt [0, 20, 21] (z := { t := [(0, PV.ptr 0 0), (20, PV.int IntKind.u8 (bt s (Int.ofNat x))), (21, PV.bool false)], h := { bx := [{ cs := [PV.str s, PV.int IntKind.i64 (Int.ofNat x), PV.int IntKind.i64 e, PV.int IntKind.i64 b], ty := 98 }], rw := [] } }) (o := [(bt s (Int.ofNat x) == (32 : Int), false), (bt s (Int.ofNat x) == (9 : Int), false), (bt s (Int.ofNat x) == (10 : Int), false), (bt s (Int.ofNat x) == (13 : Int), false)]) (by kernel_rfl) (by ((repeat' (first | exact okO_nil | refine okN ?_ ?_)); all_goals first | assumption | rfl | exact same_of rfl | exact sameS_self _ | (simp only [decide_eq_true_eq, decide_eq_false_iff_not, Nat.ble_eq, Nat.beq_eq, beq_eq_false_iff_ne, beq_iff_eq, ne_eq] <;> omega))) ?_
      refine Q.cond (b := false) rfl (fun h => by cases h) (fun _ => ?_)
      refine Q.runSeq (SRk [(64, [(34, true)])] []) 100 64 hnt [0, 33] (z := { t := [(0, PV.ptr 0 0), (33, PV.bool true)], h := { bx := [{ cs := [PV.str s, PV.int IntKind.i64 (Int.ofNat x), PV.int IntKind.i64 e, PV.int IntKind.i64 b], ty := 98 }], rw := [] } }) (o := [(bt s (Int.ofNat x) == (59 : Int), true)]) (by kernel_rfl) (by ((repeat' (first | exact okO_nil | refine okN ?_ ?_)); all_goals first | assumption | rfl | exact same_of rfl | exact sameS_self _ | (simp only [decide_eq_true_eq, decide_eq_false_iff_not, Nat.ble_eq, Nat.beq_eq, beq_eq_false_iff_ne, beq_iff_eq, ne_eq] <;> omega))) ?_
      refine Q.cond (b := true) rfl (fun _ => ?_) (fun h => by cases h)
      refine Q.block ?_
      refine Q.loopI (σ := { y : Nat // remE s y = remE s x }) [0] (fun y => T y.1) (fun y => s.size - y.1) ⟨x, rfl⟩ rfl fun ⟨y, hr⟩ => ?_
      show SWP G0 C _ _ ⟨[(0, .ptr 0 0)], ⟨[rB s y e b], []⟩⟩
      have out : remE s y = y → ∀ st, nrm [0] st = T y → ∃ z : { x : Nat // skp s x = skp s a }, s.size - z.1 < s.size - x ∧ nrm [0] st = T z.1 := fun h st hst => by
        have h2 : remE s x = y := hr.symm.trans h
        have := remE_59 hlt c59
        exact ⟨⟨y, by rw [← hk, sk, h2]⟩, by show s.size - y < _; omega, hst⟩
      have rm := remE_eq s y
      rcases Nat.lt_or_ge y s.size with hl2 | hg2
      · have d3 := sameB (lt_at hl2)
        have d4 := in_at hl2
        have wj : IntKind.wrap IntKind.i64 (Int.ofNat (y + 1)) = ((y + 1 : Nat) : Int) := wrapI (y + 1) (by omega)
        by_cases n10 : bt s (y : Int) = 10
        · have e6 := sameB (show (!bt s (y : Int) == (10 : Int)) = false by rw [beqT n10]; rfl)
          rw [if_neg (fun h => h.2 n10)] at rm
          exact SWP.runQ (SRk [(64, [(54, true)])] [(64, [(44, .bool true), (55, .bool false)])]) 100 64 hnt [0] (e := .exit 3) (z := { t := [(0, PV.ptr 0 0)], h := { bx := [{ cs := [PV.str s, PV.int IntKind.i64 (Int.ofNat y), PV.int IntKind.i64 e, PV.int IntKind.i64 b], ty := 98 }], rw := [] } }) (o := [(same (PV.bool (decide ((↑y : Int) < (↑(ByteArray.size s) : Int)))) (PV.bool true), true), (decide (0 ≤ (↑y : Int) ∧ (↑y : Int) < (↑(ByteArray.size s) : Int)), true), (same (PV.bool !bt s (Int.ofNat y) == (10 : Int)) (PV.bool false), true)]) (by kernel_rfl) (by ((repeat' (first | exact okO_nil | refine okN ?_ ?_)); all_goals first | assumption | rfl | exact same_of rfl | exact sameS_self _ | (simp only [decide_eq_true_eq, decide_eq_false_iff_not, Nat.ble_eq, Nat.beq_eq, beq_eq_false_iff_ne, beq_iff_eq, ne_eq] <;> omega))) (out rm)
        · have e6 := sameB (show (!bt s (y : Int) == (10 : Int)) = true by rw [beqF n10]; rfl)
          rw [if_pos ⟨hl2, n10⟩] at rm
          exact SWP.runQ (SRk [(64, [(54, true)])] [(64, [(44, .bool true), (55, .bool true)])]) 100 64 hnt [0] (e := .normal) (z := { t := [(0, PV.ptr 0 0)], h := { bx := [{ cs := [PV.str s, PV.int IntKind.i64 (IntKind.wrap IntKind.i64 (Int.ofNat (y + 1))), PV.int IntKind.i64 e, PV.int IntKind.i64 b], ty := 98 }], rw := [] } }) (o := [(same (PV.bool (decide ((↑y : Int) < (↑(ByteArray.size s) : Int)))) (PV.bool true), true), (decide (0 ≤ (↑y : Int) ∧ (↑y : Int) < (↑(ByteArray.size s) : Int)), true), (same (PV.bool !bt s (Int.ofNat y) == (10 : Int)) (PV.bool true), true)]) (by kernel_rfl) (by ((repeat' (first | exact okO_nil | refine okN ?_ ?_)); all_goals first | assumption | rfl | exact same_of rfl | exact sameS_self _ | (simp only [decide_eq_true_eq, decide_eq_false_iff_not, Nat.ble_eq, Nat.beq_eq, beq_eq_false_iff_ne, beq_iff_eq, ne_eq] <;> omega))) (fun st hst => ⟨⟨y + 1, rm.symm.trans hr⟩, Nat.sub_lt_sub_left hl2 (Nat.lt_succ_self y), by rw [hst, wj]; rfl⟩)
      · have d3 := sameB (ge_at hg2)
        rw [if_neg (fun h => absurd h.1 (by omega))] at rm
        exact SWP.runQ (SRk [(64, [])] [(64, [(44, .bool false)])]) 100 64 hnt [0] (e := .exit 3) (z := { t := [(0, PV.ptr 0 0)], h := { bx := [{ cs := [PV.str s, PV.int IntKind.i64 (Int.ofNat y), PV.int IntKind.i64 e, PV.int IntKind.i64 b], ty := 98 }], rw := [] } }) (o := [(same (PV.bool (decide ((↑y : Int) < (↑(ByteArray.size s) : Int)))) (PV.bool false), true)]) (by kernel_rfl) (by ((repeat' (first | exact okO_nil | refine okN ?_ ?_)); all_goals first | assumption | rfl | exact same_of rfl | exact sameS_self _ | (simp only [decide_eq_true_eq, decide_eq_false_iff_not, Nat.ble_eq, Nat.beq_eq, beq_eq_false_iff_ne, beq_iff_eq, ne_eq] <;> omega))) (out rm)
    · have e5 := beqF c59
      rw [if_neg c59] at sk
      exact SWP.runQ (SRk [(64, [(11, true), (20, true), (22, false), (23, false), (24, false), (25, false), (34, false)])] []) 100 64 hnt [] (e := .ret) (z := { t := [], h := { bx := [{ cs := [PV.str s, PV.int IntKind.i64 (Int.ofNat x), PV.int IntKind.i64 e, PV.int IntKind.i64 b], ty := 98 }], rw := [] } }) (o := [(decide ((↑x : Int) < (↑(ByteArray.size s) : Int)), true), (decide (0 ≤ (↑x : Int) ∧ (↑x : Int) < (↑(ByteArray.size s) : Int)), true), (bt s (Int.ofNat x) == (32 : Int), false), (bt s (Int.ofNat x) == (9 : Int), false), (bt s (Int.ofNat x) == (10 : Int), false), (bt s (Int.ofNat x) == (13 : Int), false), (bt s (Int.ofNat x) == (59 : Int), false)]) (by kernel_rfl) (by ((repeat' (first | exact okO_nil | refine okN ?_ ?_)); all_goals first | assumption | rfl | exact same_of rfl | exact sameS_self _ | (simp only [decide_eq_true_eq, decide_eq_false_iff_not, Nat.ble_eq, Nat.beq_eq, beq_eq_false_iff_ne, beq_iff_eq, ne_eq] <;> omega))) (fun st hst => fin st x sk hk hst)
  · have d1 := ge_at hge
    exact SWP.runQ (SRk [(64, [(11, false)])] []) 100 64 hnt [] (e := .exit 0) (z := { t := [], h := { bx := [{ cs := [PV.str s, PV.int IntKind.i64 (Int.ofNat x), PV.int IntKind.i64 e, PV.int IntKind.i64 b], ty := 98 }], rw := [] } }) (o := [(decide ((↑x : Int) < (↑(ByteArray.size s) : Int)), false)]) (by kernel_rfl) (by ((repeat' (first | exact okO_nil | refine okN ?_ ?_)); all_goals first | assumption | rfl | exact same_of rfl | exact sameS_self _ | (simp only [decide_eq_true_eq, decide_eq_false_iff_not, Nat.ble_eq, Nat.beq_eq, beq_eq_false_iff_ne, beq_iff_eq, ne_eq] <;> omega))) (fun st hst => fin st x (skp_out s x hge) hk hst)
end Seat
end Go.Proofs.YtkblfapbakfgpaaDoor
/- The document's reader: numbers. Printed by dev/rd2.py and dev/nfsub.py (this session's). -/
namespace Go.Proofs.YtkblfapbakfgpaaDoor
open Go.AS Go.RowKit
set_option linter.unusedVariables false
set_option linter.unusedSimpArgs false
set_option maxRecDepth 100000
set_option maxHeartbeats 4000000
namespace Seat
theorem emp (s : ByteArray) {b : Bool} (h : decide (s.size = 0) = b) : (ByteArray.toList s == []) = b := by
  rw [← h]
  by_cases h : s.size = 0 <;> simp [str_nil, h]
theorem wrapU (x : Int) (h0 : 0 ≤ x) (h : x ≤ 18446744073709551615) : IntKind.wrap IntKind.u64 x = x := by rw [IntKind.wrap_u64]; omega
theorem wrapIU (x : Int) : IntKind.wrap IntKind.i64 (IntKind.wrap IntKind.u64 x) = IntKind.wrap IntKind.i64 x := by rw [IntKind.wrap_u64, IntKind.wrap_i64, IntKind.wrap_i64]; omega
theorem quoF (n c : Nat) (hc : c ≤ 9) : IntKind.wrap IntKind.u64 (Int.tdiv (IntKind.wrap IntKind.u64 (9223372036854775808 - (c : Int))) 10) < (n : Int) ↔ 9223372036854775808 < 10 * n + c := by
  rw [wrapU (9223372036854775808 - (c : Int)) (by omega) (by omega), Int.tdiv_eq_ediv_of_nonneg (by omega), wrapU _ (by omega) (by omega)]
  omega
theorem decN (n : Nat) : decide ((n : Int) < 9223372036854775808) = decide (n < 9223372036854775808) := decide_eq_decide.2 (by omega)
theorem number_ok (w : ByteArray) (hw : w.size ≤ 1099511627776) : Pure G0 77 [.str w] (fun r => r = .tup [.int .i64 (numV w).1, .bool (numV w).2]) := by
  refine Fn.enterB Tryd.func77 Tryd.ntmps77 rfl (Nat.le_of_ble_eq_true rfl) fun C fr fp hnt hnb hp hfr hfp => ?_
  have fin : ∀ st p, p = numV w → nrm [2, 3] st = ⟨[(2, .int .i64 p.1), (3, .bool p.2)], ⟨[], []⟩⟩ → fr st := fun st p h hst => hfr st [2, 3] (by
    rw [hst, h]
    exact ⟨0, .tup [.int .i64 (numV w).1, .bool (numV w).2], Nat.le_refl _, Nat.zero_le _, rfl, rfl, rfl, rfl, _, rfl, rfl⟩)
  refine Q.runSeq (SRk [] []) 100 74 hnt [0, 2, 3] (z := { t := [(0, PV.str w), (2, PV.int IntKind.i64 (0 : Int)), (3, PV.bool false)], h := { bx := [], rw := [] } }) (o := []) (by kernel_rfl) (by ((repeat' (first | exact okO_nil | refine okN ?_ ?_)); all_goals first | assumption | rfl | exact same_of rfl | exact sameS_self _ | (simp only [decide_eq_true_eq, decide_eq_false_iff_not, Nat.ble_eq, Nat.beq_eq, beq_eq_false_iff_ne, beq_iff_eq, ne_eq] <;> omega))) ?_
  refine Q.runSeq (SRk [] []) 100 74 hnt [4, 5] (z := { t := [(4, PV.str w), (5, PV.bool false)], h := { bx := [], rw := [] } }) (o := []) (by kernel_rfl) (by ((repeat' (first | exact okO_nil | refine okN ?_ ?_)); all_goals first | assumption | rfl | exact same_of rfl | exact sameS_self _ | (simp only [decide_eq_true_eq, decide_eq_false_iff_not, Nat.ble_eq, Nat.beq_eq, beq_eq_false_iff_ne, beq_iff_eq, ne_eq] <;> omega))) ?_
  refine Q.seq fun K hK => ?_
  have rest : ∀ st (t : ByteArray) (b : Bool), numT t b = numV w → t.size ≤ 1099511627776 → nrm [4, 5] st = ⟨[(4, .str t), (5, .bool b)], ⟨[], []⟩⟩ → K st := fun st t b hv ht hst => hK st (.norm [4, 5] (by
    rw [hst]
    clear hst hK
    have u1 : ∀ {x : Bool}, decide (t.size = 0) = x → (ByteArray.toList t == []) = x := emp t
    by_cases h0 : t.size = 0
    · have c1 := u1 (decide_eq_true h0)
      refine Q.seq fun K2 hK2 => ?_
      exact SWP.runQ (SRk [(74, [(20, true)])] []) 100 74 hnt [2, 3] (e := .ret) (z := { t := [(2, PV.int IntKind.i64 (0 : Int)), (3, PV.bool false)], h := { bx := [], rw := [] } }) (o := [(ByteArray.toList t == [], true)]) (by kernel_rfl) (by ((repeat' (first | exact okO_nil | refine okN ?_ ?_)); all_goals first | assumption | rfl | exact same_of rfl | exact sameS_self _ | (simp only [decide_eq_true_eq, decide_eq_false_iff_not, Nat.ble_eq, Nat.beq_eq, beq_eq_false_iff_ne, beq_iff_eq, ne_eq] <;> omega))) (fun st hst => fin st (0, false) (by rw [← hv, numT, if_pos (.inl h0)]) hst)
    have c1 := u1 (decide_eq_false h0)
    have c2 : decide ((0 : Int) ≤ 0 ∧ (0 : Int) < (t.size : Int)) = true := by rw [decide_eq_true_eq]; omega
    refine Q.seq fun K2 hK2 => ?_
    have rest2 : ∀ st, ¬ (t.size = 0 ∨ (bt t 0 = 48 ∧ (1 < t.size ∨ b = true))) → nrm [4, 5] st = ⟨[(4, .str t), (5, .bool b)], ⟨[], []⟩⟩ → K2 st := fun st hn hst => hK2 st (.norm [4, 5] (by
      rw [hst]
      clear hst hK2
      rw [numT, if_neg hn] at hv
      refine Q.runSeq (SRk [] []) 100 74 hnt [4, 5, 6] (z := { t := [(4, PV.str t), (5, PV.bool b), (6, PV.int IntKind.u64 (0 : Int))], h := { bx := [], rw := [] } }) (o := []) (by kernel_rfl) (by ((repeat' (first | exact okO_nil | refine okN ?_ ?_)); all_goals first | assumption | rfl | exact same_of rfl | exact sameS_self _ | (simp only [decide_eq_true_eq, decide_eq_false_iff_not, Nat.ble_eq, Nat.beq_eq, beq_eq_false_iff_ne, beq_iff_eq, ne_eq] <;> omega))) ?_
      refine Q.seq fun K3 hK3 => ?_
      refine Q.runSeq (SRk [] []) 100 74 hnt [4, 5, 6, 7] (z := { t := [(4, PV.str t), (5, PV.bool b), (6, PV.int IntKind.u64 (0 : Int)), (7, PV.int IntKind.i64 (0 : Int))], h := { bx := [], rw := [] } }) (o := []) (by kernel_rfl) (by ((repeat' (first | exact okO_nil | refine okN ?_ ?_)); all_goals first | assumption | rfl | exact same_of rfl | exact sameS_self _ | (simp only [decide_eq_true_eq, decide_eq_false_iff_not, Nat.ble_eq, Nat.beq_eq, beq_eq_false_iff_ne, beq_iff_eq, ne_eq] <;> omega))) ?_
      refine Q.block ?_
      let T (i n : Nat) : AS := ⟨[(4, .str t), (5, .bool b), (6, .int .u64 n), (7, .int .i64 i)], ⟨[], []⟩⟩
      refine Q.loopI (σ := { x : Nat × Nat // x.1 ≤ t.size ∧ x.2 ≤ 9223372036854775808 ∧ numK t (t.size - x.1) x.1 x.2 = numK t t.size 0 0 }) [4, 5, 6, 7] (fun x => T x.1.1 x.1.2) (fun x => t.size - x.1.1) ⟨(0, 0), Nat.zero_le _, Nat.zero_le _, rfl⟩ rfl fun ⟨(i, n), hi, hn, hk⟩ => ?_
      show SWP G0 C _ _ ⟨[(4, .str t), (5, .bool b), (6, .int .u64 n), (7, .int .i64 i)], ⟨[], []⟩⟩
      have hi : i ≤ t.size := hi
      have hn : n ≤ 9223372036854775808 := hn
      have hk : numK t (t.size - i) i n = numK t t.size 0 0 := hk
      rcases Nat.lt_or_ge i t.size with hlt | hge
      · have d1 := lt_at hlt
        have d2 := in_at hlt
        obtain ⟨m, hm⟩ : ∃ m, t.size - i = m + 1 := ⟨t.size - i - 1, by omega⟩
        rw [hm, numK] at hk
        have bad : ¬ (48 ≤ bt t (i : Int) ∧ bt t (i : Int) ≤ 57 ∧ 10 * n + (bt t (i : Int) - 48).toNat ≤ 9223372036854775808) → (0, false) = numV w := fun h => by
          rw [if_neg h] at hk
          rw [← hk] at hv
          exact hv
        by_cases hl : bt t (i : Int) < 48
        · have d3 : decide (bt t (i : Int) < 48) = true := decide_eq_true hl
          exact SWP.runQ (SRk [(74, [(37, true), (42, true), (47, true), (48, true)])] []) 100 74 hnt [2, 3] (e := .ret) (z := { t := [(2, PV.int IntKind.i64 (0 : Int)), (3, PV.bool false)], h := { bx := [], rw := [] } }) (o := [(decide ((↑i : Int) < (↑(ByteArray.size t) : Int)), true), (true, true), (decide (0 ≤ (↑i : Int) ∧ (↑i : Int) < (↑(ByteArray.size t) : Int)), true), (decide (0 ≤ (↑i : Int) ∧ (↑i : Int) < (↑(ByteArray.size t) : Int)), true), (decide (bt t (↑i : Int) < 48), true)]) (by kernel_rfl) (by ((repeat' (first | exact okO_nil | refine okN ?_ ?_)); all_goals first | assumption | rfl | exact same_of rfl | exact sameS_self _ | (simp only [decide_eq_true_eq, decide_eq_false_iff_not, Nat.ble_eq, Nat.beq_eq, beq_eq_false_iff_ne, beq_iff_eq, ne_eq] <;> omega))) (fun st hst => fin st (0, false) (bad (by omega)) hst)
        have d3 : decide (bt t (i : Int) < 48) = false := decide_eq_false hl
        by_cases hg : 57 < bt t (i : Int)
        · have d4 : decide (57 < bt t (i : Int)) = true := decide_eq_true hg
          exact SWP.runQ (SRk [(74, [(37, true), (42, true), (47, true), (48, false), (52, true), (53, true)])] []) 100 74 hnt [2, 3] (e := .ret) (z := { t := [(2, PV.int IntKind.i64 (0 : Int)), (3, PV.bool false)], h := { bx := [], rw := [] } }) (o := [(decide ((↑i : Int) < (↑(ByteArray.size t) : Int)), true), (true, true), (decide (0 ≤ (↑i : Int) ∧ (↑i : Int) < (↑(ByteArray.size t) : Int)), true), (decide (0 ≤ (↑i : Int) ∧ (↑i : Int) < (↑(ByteArray.size t) : Int)), true), (decide (bt t (↑i : Int) < 48), false), (decide (0 ≤ (↑i : Int) ∧ (↑i : Int) < (↑(ByteArray.size t) : Int)), true), (decide (57 < bt t (↑i : Int)), true)]) (by kernel_rfl) (by ((repeat' (first | exact okO_nil | refine okN ?_ ?_)); all_goals first | assumption | rfl | exact same_of rfl | exact sameS_self _ | (simp only [decide_eq_true_eq, decide_eq_false_iff_not, Nat.ble_eq, Nat.beq_eq, beq_eq_false_iff_ne, beq_iff_eq, ne_eq] <;> omega))) (fun st hst => fin st (0, false) (bad (by omega)) hst)
        have d4 : decide (57 < bt t (i : Int)) = false := decide_eq_false hg
        obtain ⟨c, hc⟩ : ∃ c : Nat, bt t (i : Int) = ((48 + c : Nat) : Int) := ⟨(bt t (i : Int) - 48).toNat, by omega⟩
        have hc9 : c ≤ 9 := by omega
        have hcc : bt t (i : Int) - 48 = (c : Int) := by omega
        have d5 : same (PV.int IntKind.u64 (IntKind.wrap IntKind.u64 (IntKind.wrap IntKind.u64 (bt t (Int.ofNat i)) - (48 : Int)))) (PV.int IntKind.u64 (bt t (Int.ofNat i) - (48 : Int))) = true := same_of (congrArg (PV.int .u64) (by
          show IntKind.wrap IntKind.u64 (IntKind.wrap IntKind.u64 (bt t (i : Int)) - (48 : Int)) = bt t (i : Int) - 48
          rw [wrapU (bt t (i : Int)) (by omega) (by omega), wrapU _ (by omega) (by omega)]))
        have hq := quoF n c hc9
        rw [← hcc] at hq
        by_cases ho : 9223372036854775808 < 10 * n + c
        · have d6 : decide (IntKind.wrap IntKind.u64 (Int.tdiv (IntKind.wrap IntKind.u64 (9223372036854775808 - (bt t (i : Int) - 48))) 10) < (n : Int)) = true := decide_eq_true (hq.2 ho)
          exact SWP.runQ (SRk [(74, [(37, true), (42, true), (47, true), (48, false), (52, true), (53, false), (60, true)])] [(74, [(44, .int .u64 (bt t (i : Nat) - 48))])]) 100 74 hnt [2, 3] (e := .ret) (z := { t := [(2, PV.int IntKind.i64 (0 : Int)), (3, PV.bool false)], h := { bx := [], rw := [] } }) (o := [(decide ((↑i : Int) < (↑(ByteArray.size t) : Int)), true), (true, true), (decide (0 ≤ (↑i : Int) ∧ (↑i : Int) < (↑(ByteArray.size t) : Int)), true), (same (PV.int IntKind.u64 (IntKind.wrap IntKind.u64 (IntKind.wrap IntKind.u64 (bt t (Int.ofNat i)) - (48 : Int)))) (PV.int IntKind.u64 (bt t (Int.ofNat i) - (48 : Int))), true), (decide (0 ≤ (↑i : Int) ∧ (↑i : Int) < (↑(ByteArray.size t) : Int)), true), (decide (bt t (↑i : Int) < 48), false), (decide (0 ≤ (↑i : Int) ∧ (↑i : Int) < (↑(ByteArray.size t) : Int)), true), (decide (57 < bt t (↑i : Int)), false), (decide (IntKind.wrap IntKind.u64 (Int.tdiv (IntKind.wrap IntKind.u64 (9223372036854775808 - (bt t (↑i : Int) - 48))) 10) < (↑n : Int)), true)]) (by kernel_rfl) (by ((repeat' (first | exact okO_nil | refine okN ?_ ?_)); all_goals first | assumption | rfl | exact same_of rfl | exact sameS_self _ | (simp only [decide_eq_true_eq, decide_eq_false_iff_not, Nat.ble_eq, Nat.beq_eq, beq_eq_false_iff_ne, beq_iff_eq, ne_eq] <;> omega))) (fun st hst => fin st (0, false) (bad (by omega)) hst)
        · have d6 : decide (IntKind.wrap IntKind.u64 (Int.tdiv (IntKind.wrap IntKind.u64 (9223372036854775808 - (bt t (i : Int) - 48))) 10) < (n : Int)) = false := decide_eq_false (fun h => ho (hq.1 h))
          have w1 : IntKind.wrap IntKind.u64 (Int.ofNat (10 * n % 18446744073709551616) + (bt t (Int.ofNat i) - (48 : Int))) = ((10 * n + c : Nat) : Int) := by
            show IntKind.wrap IntKind.u64 (((10 * n % 18446744073709551616 : Nat) : Int) + (bt t (i : Int) - (48 : Int))) = _
            rw [hcc, wrapU _ (by omega) (by omega)]; omega
          have w2 : IntKind.wrap IntKind.i64 (Int.ofNat (i + 1)) = ((i + 1 : Nat) : Int) := wrapI (i + 1) (by omega)
          rw [if_pos ⟨by omega, by omega, by omega⟩, show (bt t (i : Int) - 48).toNat = c by omega] at hk
          exact SWP.runQ (SRk [(74, [(37, true), (42, true), (47, true), (48, false), (52, true), (53, false), (60, false)])] [(74, [(44, .int .u64 (bt t (i : Nat) - 48))])]) 100 74 hnt [4, 5, 6, 7] (e := .normal) (z := { t := [(4, PV.str t), (5, PV.bool b), (6, PV.int IntKind.u64 (IntKind.wrap IntKind.u64 (Int.ofNat (10 * n % 18446744073709551616) + (bt t (Int.ofNat i) - (48 : Int))))), (7, PV.int IntKind.i64 (IntKind.wrap IntKind.i64 (Int.ofNat (i + 1))))], h := { bx := [], rw := [] } }) (o := [(decide ((↑i : Int) < (↑(ByteArray.size t) : Int)), true), (true, true), (decide (0 ≤ (↑i : Int) ∧ (↑i : Int) < (↑(ByteArray.size t) : Int)), true), (same (PV.int IntKind.u64 (IntKind.wrap IntKind.u64 (IntKind.wrap IntKind.u64 (bt t (Int.ofNat i)) - (48 : Int)))) (PV.int IntKind.u64 (bt t (Int.ofNat i) - (48 : Int))), true), (decide (0 ≤ (↑i : Int) ∧ (↑i : Int) < (↑(ByteArray.size t) : Int)), true), (decide (bt t (↑i : Int) < 48), false), (decide (0 ≤ (↑i : Int) ∧ (↑i : Int) < (↑(ByteArray.size t) : Int)), true), (decide (57 < bt t (↑i : Int)), false), (decide (IntKind.wrap IntKind.u64 (Int.tdiv (IntKind.wrap IntKind.u64 (9223372036854775808 - (bt t (↑i : Int) - 48))) 10) < (↑n : Int)), false)]) (by kernel_rfl) (by ((repeat' (first | exact okO_nil | refine okN ?_ ?_)); all_goals first | assumption | rfl | exact same_of rfl | exact sameS_self _ | (simp only [decide_eq_true_eq, decide_eq_false_iff_not, Nat.ble_eq, Nat.beq_eq, beq_eq_false_iff_ne, beq_iff_eq, ne_eq] <;> omega))) (fun st hst => ⟨⟨(i + 1, 10 * n + c), hlt, by show 10 * n + c ≤ _; omega, by show numK t (t.size - (i + 1)) (i + 1) (10 * n + c) = _; rw [show t.size - (i + 1) = m by omega]; exact hk⟩, Nat.sub_lt_sub_left hlt (Nat.lt_succ_self i), by rw [hst, w1, w2]⟩)
      · have d1 := ge_at hge
        rw [show t.size - i = 0 by omega, numK] at hk
        refine SWP.runQ (SRk [(74, [(37, false)])] []) 100 74 hnt [4, 5, 6] (e := .exit 0) (z := { t := [(4, PV.str t), (5, PV.bool b), (6, PV.int IntKind.u64 (Int.ofNat n))], h := { bx := [], rw := [] } }) (o := [(decide ((↑i : Int) < (↑(ByteArray.size t) : Int)), false), (false, false)]) (by kernel_rfl) (by ((repeat' (first | exact okO_nil | refine okN ?_ ?_)); all_goals first | assumption | rfl | exact same_of rfl | exact sameS_self _ | (simp only [decide_eq_true_eq, decide_eq_false_iff_not, Nat.ble_eq, Nat.beq_eq, beq_eq_false_iff_ne, beq_iff_eq, ne_eq] <;> omega))) (fun st hst => hK3 st (.norm [4, 5, 6] ?_))
        rw [hst]
        rw [← hk] at hv
        simp only [] at hv
        cases b with
        | true =>
          exact SWP.runQ (SRk [] []) 100 74 hnt [2, 3] (e := .ret) (z := { t := [(2, PV.int IntKind.i64 (IntKind.wrap IntKind.i64 (IntKind.wrap IntKind.u64 ((0 : Int) - Int.ofNat n)))), (3, PV.bool true)], h := { bx := [], rw := [] } }) (o := []) (by kernel_rfl) (by ((repeat' (first | exact okO_nil | refine okN ?_ ?_)); all_goals first | assumption | rfl | exact same_of rfl | exact sameS_self _ | (simp only [decide_eq_true_eq, decide_eq_false_iff_not, Nat.ble_eq, Nat.beq_eq, beq_eq_false_iff_ne, beq_iff_eq, ne_eq] <;> omega))) (fun st hst => fin st _ hv (by rw [hst, wrapIU, Int.zero_sub]; rfl))
        | false =>
          exact SWP.runQ (SRk [] []) 100 74 hnt [2, 3] (e := .ret) (z := { t := [(2, PV.int IntKind.i64 (IntKind.wrap IntKind.i64 (Int.ofNat n))), (3, PV.bool (decide ((↑n : Int) < 9223372036854775808)))], h := { bx := [], rw := [] } }) (o := []) (by kernel_rfl) (by ((repeat' (first | exact okO_nil | refine okN ?_ ?_)); all_goals first | assumption | rfl | exact same_of rfl | exact sameS_self _ | (simp only [decide_eq_true_eq, decide_eq_false_iff_not, Nat.ble_eq, Nat.beq_eq, beq_eq_false_iff_ne, beq_iff_eq, ne_eq] <;> omega))) (fun st hst => fin st _ hv (by rw [hst, decN]; rfl))))
    by_cases h48 : bt t 0 = 48
    · have c3 := beqT h48
      by_cases h1 : 1 < t.size
      · have c4 : decide ((1 : Int) < (t.size : Int)) = true := by rw [decide_eq_true_eq]; omega
        exact SWP.runQ (SRk [(74, [(20, false), (23, true), (24, true), (28, true)])] []) 100 74 hnt [2, 3] (e := .ret) (z := { t := [(2, PV.int IntKind.i64 (0 : Int)), (3, PV.bool false)], h := { bx := [], rw := [] } }) (o := [(ByteArray.toList t == [], false), (decide ((0 : Int) ≤ 0 ∧ 0 < (↑(ByteArray.size t) : Int)), true), (bt t (0 : Int) == (48 : Int), true), (decide (1 < (↑(ByteArray.size t) : Int)), true)]) (by kernel_rfl) (by ((repeat' (first | exact okO_nil | refine okN ?_ ?_)); all_goals first | assumption | rfl | exact same_of rfl | exact sameS_self _ | (simp only [decide_eq_true_eq, decide_eq_false_iff_not, Nat.ble_eq, Nat.beq_eq, beq_eq_false_iff_ne, beq_iff_eq, ne_eq] <;> omega))) (fun st hst => fin st (0, false) (by rw [← hv, numT, if_pos (.inr ⟨h48, .inl h1⟩)]) hst)
      · have c4 : decide ((1 : Int) < (t.size : Int)) = false := by rw [decide_eq_false_iff_not]; omega
        cases b with
        | true => exact SWP.runQ (SRk [(74, [(20, false), (23, true), (24, true), (28, false)])] []) 100 74 hnt [2, 3] (e := .ret) (z := { t := [(2, PV.int IntKind.i64 (0 : Int)), (3, PV.bool false)], h := { bx := [], rw := [] } }) (o := [(ByteArray.toList t == [], false), (decide ((0 : Int) ≤ 0 ∧ 0 < (↑(ByteArray.size t) : Int)), true), (bt t (0 : Int) == (48 : Int), true), (decide (1 < (↑(ByteArray.size t) : Int)), false)]) (by kernel_rfl) (by ((repeat' (first | exact okO_nil | refine okN ?_ ?_)); all_goals first | assumption | rfl | exact same_of rfl | exact sameS_self _ | (simp only [decide_eq_true_eq, decide_eq_false_iff_not, Nat.ble_eq, Nat.beq_eq, beq_eq_false_iff_ne, beq_iff_eq, ne_eq] <;> omega))) (fun st hst => fin st (0, false) (by rw [← hv, numT, if_pos (.inr ⟨h48, .inr rfl⟩)]) hst)
        | false => exact SWP.runQ (SRk [(74, [(20, false), (23, true), (24, true), (28, false)])] []) 100 74 hnt [4, 5] (e := .normal) (z := { t := [(4, PV.str t), (5, PV.bool false)], h := { bx := [], rw := [] } }) (o := [(ByteArray.toList t == [], false), (decide ((0 : Int) ≤ 0 ∧ 0 < (↑(ByteArray.size t) : Int)), true), (bt t (0 : Int) == (48 : Int), true), (decide (1 < (↑(ByteArray.size t) : Int)), false)]) (by kernel_rfl) (by ((repeat' (first | exact okO_nil | refine okN ?_ ?_)); all_goals first | assumption | rfl | exact same_of rfl | exact sameS_self _ | (simp only [decide_eq_true_eq, decide_eq_false_iff_not, Nat.ble_eq, Nat.beq_eq, beq_eq_false_iff_ne, beq_iff_eq, ne_eq] <;> omega))) (fun st hst => rest2 st (fun h => by rcases h with h | ⟨_, h | h⟩; exact h0 h; exact h1 h; cases h) hst)
    · have c3 := beqF h48
      exact SWP.runQ (SRk [(74, [(20, false), (23, true), (24, false)])] []) 100 74 hnt [4, 5] (e := .normal) (z := { t := [(4, PV.str t), (5, PV.bool b)], h := { bx := [], rw := [] } }) (o := [(ByteArray.toList t == [], false), (decide ((0 : Int) ≤ 0 ∧ 0 < (↑(ByteArray.size t) : Int)), true), (bt t (0 : Int) == (48 : Int), false)]) (by kernel_rfl) (by ((repeat' (first | exact okO_nil | refine okN ?_ ?_)); all_goals first | assumption | rfl | exact same_of rfl | exact sameS_self _ | (simp only [decide_eq_true_eq, decide_eq_false_iff_not, Nat.ble_eq, Nat.beq_eq, beq_eq_false_iff_ne, beq_iff_eq, ne_eq] <;> omega))) (fun st hst => rest2 st (fun h => by rcases h with h | h; exact h0 h; exact h48 h.1) hst)))
  by_cases h0 : w.size = 0
  · have c1 : (!ByteArray.toList w == []) = false := by rw [emp w (decide_eq_true h0)]; rfl
    exact SWP.runQ (SRk [(74, [(11, false)])] []) 100 74 hnt [4, 5] (e := .normal) (z := { t := [(4, PV.str w), (5, PV.bool false)], h := { bx := [], rw := [] } }) (o := [(!ByteArray.toList w == [], false)]) (by kernel_rfl) (by ((repeat' (first | exact okO_nil | refine okN ?_ ?_)); all_goals first | assumption | rfl | exact same_of rfl | exact sameS_self _ | (simp only [decide_eq_true_eq, decide_eq_false_iff_not, Nat.ble_eq, Nat.beq_eq, beq_eq_false_iff_ne, beq_iff_eq, ne_eq] <;> omega))) (fun st hst => rest st w false (by rw [numV, if_neg (by simp [numB, h0])]) hw hst)
  have c1 : (!ByteArray.toList w == []) = true := by rw [emp w (decide_eq_false h0)]; rfl
  have c2 : decide ((0 : Int) ≤ 0 ∧ (0 : Int) < (w.size : Int)) = true := by rw [decide_eq_true_eq]; omega
  by_cases h45 : bt w 0 = 45
  · have c3 := beqT h45
    have c4 : decide ((0 : Int) ≤ 1 ∧ (1 : Int) ≤ (w.size : Int) ∧ (w.size : Int) ≤ (w.size : Int)) = true := by rw [decide_eq_true_eq]; omega
    exact SWP.runQ (SRk [(74, [(11, true), (14, true), (15, true), (18, true)])] []) 100 74 hnt [4, 5] (e := .normal) (z := { t := [(4, PV.str (ByteArray.extract w 1 (Int.toNat (Int.ofNat (ByteArray.size w))))), (5, PV.bool true)], h := { bx := [], rw := [] } }) (o := [(!ByteArray.toList w == [], true), (decide ((0 : Int) ≤ 0 ∧ 0 < (↑(ByteArray.size w) : Int)), true), (bt w (0 : Int) == (45 : Int), true), (decide ((0 : Int) ≤ 1 ∧ 1 ≤ (↑(ByteArray.size w) : Int) ∧ (↑(ByteArray.size w) : Int) ≤ (↑(ByteArray.size w) : Int)), true)]) (by kernel_rfl) (by ((repeat' (first | exact okO_nil | refine okN ?_ ?_)); all_goals first | assumption | rfl | exact same_of rfl | exact sameS_self _ | (simp only [decide_eq_true_eq, decide_eq_false_iff_not, Nat.ble_eq, Nat.beq_eq, beq_eq_false_iff_ne, beq_iff_eq, ne_eq] <;> omega))) (fun st hst => rest st (w.extract 1 w.size) true (by rw [numV, if_pos (by rw [numB, decide_eq_true_eq]; exact ⟨by omega, h45⟩)]) (by rw [ByteArray.size_extract]; omega) hst)
  · have c3 := beqF h45
    exact SWP.runQ (SRk [(74, [(11, true), (14, true), (15, false)])] []) 100 74 hnt [4, 5] (e := .normal) (z := { t := [(4, PV.str w), (5, PV.bool false)], h := { bx := [], rw := [] } }) (o := [(!ByteArray.toList w == [], true), (decide ((0 : Int) ≤ 0 ∧ 0 < (↑(ByteArray.size w) : Int)), true), (bt w (0 : Int) == (45 : Int), false)]) (by kernel_rfl) (by ((repeat' (first | exact okO_nil | refine okN ?_ ?_)); all_goals first | assumption | rfl | exact same_of rfl | exact sameS_self _ | (simp only [decide_eq_true_eq, decide_eq_false_iff_not, Nat.ble_eq, Nat.beq_eq, beq_eq_false_iff_ne, beq_iff_eq, ne_eq] <;> omega))) (fun st hst => rest st w false (by rw [numV, if_neg (by rw [numB, decide_eq_true_eq]; exact fun h => h45 h.2)]) hw hst)
end Seat
end Go.Proofs.YtkblfapbakfgpaaDoor
/- The document's reader: atoms. Printed by dev/rd3.py and dev/nfsub.py (this session's). -/
namespace Go.Proofs.YtkblfapbakfgpaaDoor
open Go.AS Go.RowKit
set_option linter.unusedVariables false
set_option linter.unusedSimpArgs false
set_option maxRecDepth 100000
set_option maxHeartbeats 4000000
namespace Seat
def nZ : Box := ⟨[.int .i64 0, .int .i64 0, .str ⟨#[]⟩, .nil, .int .i64 0], 83⟩
noncomputable def atS (f : Nat) (args : List PV) : Option (PV × Ob) := match f, args with
  | 23, [.int .u8 c] => some (.bool (letC c), [(decide (0 ≤ c ∧ c < 256), true)])
  | 77, [.str w] => some (.tup [.int .i64 (numV w).1, .bool (numV w).2], [(Nat.ble w.size 1099511627776, true)])
  | 56, [.str w] => some (.bool (symOk w), [])
  | _, _ => none
theorem atS_ok (f : Nat) (args : List PV) (r : PV) (o : Ob) (h : atS f args = some (r, o)) (ho : ∀ p ∈ o, p.1 = p.2) (_ : pureL args = true) : Pure G0 f args (fun x => x = r) := by
  unfold atS at h
  split at h
  · cases h; exact letter_ok _ (of_decide_eq_true (ho _ (List.mem_singleton.2 rfl)))
  · cases h; exact number_ok _ (Nat.le_of_ble_eq_true (ho _ (List.mem_singleton.2 rfl)))
  · cases h; exact symbol_ok _
  · cases h
noncomputable def SAt (l : List (Nat × List (Nat × Bool))) (v : List (Nat × List (Nat × PV))) : Cfg G0 := { F := F, hF := hF, S := atS, hS := atS_ok, orc := orcM l, val := valM v }
theorem VRep.nil1 {E : Env} {w : World} {a b c d : PV} {v : Value} (h : VRep E w (.agg [a, b, c, .nil, d]) v) : VRep E w (.agg [a, b, c, .slice 0 [], d]) v := by
  obtain ⟨vs, rfl, g⟩ := h.agg_inv
  obtain ⟨v1, vs, rfl, h1, g⟩ := g.cons_inv
  obtain ⟨v2, vs, rfl, h2, g⟩ := g.cons_inv
  obtain ⟨v3, vs, rfl, h3, g⟩ := g.cons_inv
  obtain ⟨v4, vs, rfl, h4, g⟩ := g.cons_inv
  obtain ⟨v5, vs, rfl, h6, g⟩ := g.cons_inv
  obtain rfl := g.nil_inv
  have h5 := h4.nil_slice
  exact .agg rfl fun j x v hx hv => by
    match j, hx, hv with
    | 0, hx, hv => cases hx; cases hv; exact h1
    | 1, hx, hv => cases hx; cases hv; exact h2
    | 2, hx, hv => cases hx; cases hv; exact h3
    | 3, hx, hv => cases hx; cases hv; exact h5
    | 4, hx, hv => cases hx; cases hv; exact h6
    | j + 5, hx, hv => cases hx
theorem PCalls.weak {G : Prg} {f : FuncId} {args : List PV} {bx B : List Box} {r r' : PV} (hw : ∀ E w v, VRep E w r v → VRep E w r' v) (h : PCalls G f args bx (fun o b => o = .ret r ∧ b = B)) : PCalls G f args bx (fun o b => o = .ret r' ∧ b = B) := fun E w vs hh hv =>
  (h E w vs hh hv).mono fun e w' ⟨o, bx', E', ⟨ho, hb⟩, hout, hrest⟩ => by
    subst ho
    obtain ⟨v, rfl, hv⟩ := hout
    exact ⟨.ret r', bx', E', ⟨rfl, hb⟩, ⟨v, rfl, hw _ _ _ hv⟩, hrest⟩
/-- A node's cells, its list none where it is empty. -/
def Nd.cells0 : Nd → List PV
  | .mk k n t ks a => [.int .i64 k, .int .i64 n, .str t, match ks with | .nil => .nil | .cons .. => .slice ks.len ks.cells, .int .i64 a]
theorem Nd.cells0_rep (d : Nd) {E : Env} {w : World} {v : Value} (h : VRep E w (.agg d.cells0) v) : VRep E w (.agg d.cells) v := by
  obtain ⟨k, n, t, ks, a⟩ := d
  cases ks with
  | nil => exact VRep.nil1 h
  | cons x xs => exact h
theorem atom_ok0 (s : ByteArray) (hs : s.size ≤ 1099511627776) (a : Nat) (ha : a ≤ s.size) : PCalls G0 69 [.ptr 0 0] [rB s a 0 0] (fun o b => o = .ret (.agg (atomR s a).1.cells0) ∧ b = [rB s (atomR s a).2.a (atomR s a).2.e (atomR s a).2.b]) := by
  refine Fn.enterN Tryd.func69 Tryd.ntmps69 rfl (Nat.le_of_ble_eq_true rfl) fun C fr fp hnt hp hfr hfp => ?_
  have fin : ∀ st d y e b, atomR s a = (d, ⟨y, e, b⟩) → nrm [2] st = ⟨[(2, .ptr 1 0)], ⟨[rB s y e b, ⟨d.cells0, 83⟩], []⟩⟩ → fr st := fun st d y e b h hst => hfr st [2] (by
    rw [hst, h]
    obtain ⟨k, n, t, ks, q⟩ := d
    cases ks <;> exact ⟨1, _, Nat.le_refl _, Nat.le_of_ble_eq_true rfl, rfl, rfl, rfl, rfl, rfl⟩)
  refine Q.runSeq (SAt [] []) 100 68 hnt [0, 2] (z := { t := [(0, PV.ptr 0 0), (2, PV.ptr 1 0)], h := { bx := [{ cs := [PV.str s, PV.int IntKind.i64 (Int.ofNat a), PV.int IntKind.i64 (0 : Int), PV.int IntKind.i64 (0 : Int)], ty := 98 }, { cs := [PV.int IntKind.i64 (0 : Int), PV.int IntKind.i64 (0 : Int), PV.str { data := #[] }, PV.nil, PV.int IntKind.i64 (0 : Int)], ty := 83 }], rw := [] } }) (o := []) (by kernel_rfl) (by ((repeat' (first | exact okO_nil | refine okN ?_ ?_)); all_goals first | assumption | rfl | exact same_of rfl | exact sameS_self _ | (simp only [decide_eq_true_eq, decide_eq_false_iff_not, Nat.ble_eq, Nat.beq_eq, beq_eq_false_iff_ne, beq_iff_eq, ne_eq] <;> omega))) ?_
  refine Q.runSeq (SAt [] []) 100 68 hnt [0, 2, 3] (z := { t := [(0, PV.ptr 0 0), (2, PV.ptr 1 0), (3, PV.int IntKind.i64 (Int.ofNat a))], h := { bx := [{ cs := [PV.str s, PV.int IntKind.i64 (Int.ofNat a), PV.int IntKind.i64 (0 : Int), PV.int IntKind.i64 (0 : Int)], ty := 98 }, { cs := [PV.int IntKind.i64 (0 : Int), PV.int IntKind.i64 (0 : Int), PV.str { data := #[] }, PV.nil, PV.int IntKind.i64 (0 : Int)], ty := 83 }], rw := [] } }) (o := []) (by kernel_rfl) (by ((repeat' (first | exact okO_nil | refine okN ?_ ?_)); all_goals first | assumption | rfl | exact same_of rfl | exact sameS_self _ | (simp only [decide_eq_true_eq, decide_eq_false_iff_not, Nat.ble_eq, Nat.beq_eq, beq_eq_false_iff_ne, beq_iff_eq, ne_eq] <;> omega))) ?_
  refine Q.seq fun K hK => ?_
  have rest : ∀ st x, letE s a = x → nrm [0, 2, 3] st = ⟨[(0, .ptr 0 0), (2, .ptr 1 0), (3, .int .i64 a)], ⟨[rB s x 0 0, nZ], []⟩⟩ → K st := fun st x hx hst => hK st (.norm [0, 2, 3] (by
    rw [hst]
    clear hst hK
    have h1 := letE_ge s a
    have h2 := letE_le s a ha
    obtain ⟨w, hw⟩ : ∃ w, w = s.extract a (letE s a) := ⟨_, rfl⟩
    have hat : atomR s a = if (numV w).2 = true then (.mk 1 (numV w).1 ⟨#[]⟩ .nil a, ⟨x, 0, 0⟩) else if symOk w = true then (.mk 2 0 w .nil a, ⟨x, 0, 0⟩) else (.zero, ⟨x, 4, a⟩) := by
      rw [hw, ← hx]; rfl
    have c0 : decide ((0 : Int) ≤ (a : Int) ∧ (a : Int) ≤ (x : Int) ∧ (x : Int) ≤ (s.size : Int)) = true := by rw [decide_eq_true_eq]; omega
    have c1 : same (PV.str (ByteArray.extract s (Int.toNat (Int.ofNat a)) (Int.toNat (Int.ofNat x)))) (PV.str w) = true := same_of (by rw [hw, hx]; rfl)
    have c2 : Nat.ble (ByteArray.size w) 1099511627776 = true := by rw [Nat.ble_eq, hw, ByteArray.size_extract]; omega
    refine Q.runSeq (SAt [(68, [(49, true)])] [(68, [(49, .str w)])]) 100 68 hnt [0, 2, 3, 4] (z := { t := [(0, PV.ptr 0 0), (2, PV.ptr 1 0), (3, PV.int IntKind.i64 (Int.ofNat a)), (4, PV.str w)], h := { bx := [{ cs := [PV.str s, PV.int IntKind.i64 (Int.ofNat x), PV.int IntKind.i64 (0 : Int), PV.int IntKind.i64 (0 : Int)], ty := 98 }, { cs := [PV.int IntKind.i64 (0 : Int), PV.int IntKind.i64 (0 : Int), PV.str { data := #[] }, PV.nil, PV.int IntKind.i64 (0 : Int)], ty := 83 }], rw := [] } }) (o := [(decide (0 ≤ (↑a : Int) ∧ (↑a : Int) ≤ (↑x : Int) ∧ (↑x : Int) ≤ (↑(ByteArray.size s) : Int)), true), (same (PV.str (ByteArray.extract s (Int.toNat (Int.ofNat a)) (Int.toNat (Int.ofNat x)))) (PV.str w), true)]) (by kernel_rfl) (by ((repeat' (first | exact okO_nil | refine okN ?_ ?_)); all_goals first | assumption | rfl | exact same_of rfl | exact sameS_self _ | (simp only [decide_eq_true_eq, decide_eq_false_iff_not, Nat.ble_eq, Nat.beq_eq, beq_eq_false_iff_ne, beq_iff_eq, ne_eq] <;> omega))) ?_
    cases h3 : (numV w).2 with
    | true =>
      rw [if_pos h3] at hat
      exact SWP.runQ (SAt [(68, [(55, true)])] []) 100 68 hnt [2] (e := .ret) (z := { t := [(2, PV.ptr 1 0)], h := { bx := [{ cs := [PV.str s, PV.int IntKind.i64 (Int.ofNat x), PV.int IntKind.i64 (0 : Int), PV.int IntKind.i64 (0 : Int)], ty := 98 }, { cs := [PV.int IntKind.i64 (1 : Int), PV.int IntKind.i64 (Prod.fst (numV w)), PV.str { data := #[] }, PV.nil, PV.int IntKind.i64 (Int.ofNat a)], ty := 83 }], rw := [] } }) (o := [(true, true), (Nat.ble (ByteArray.size w) 1099511627776, true), (Prod.snd (numV w), true), (true, true)]) (by kernel_rfl) (by ((repeat' (first | exact okO_nil | refine okN ?_ ?_)); all_goals first | assumption | rfl | exact same_of rfl | exact sameS_self _ | (simp only [decide_eq_true_eq, decide_eq_false_iff_not, Nat.ble_eq, Nat.beq_eq, beq_eq_false_iff_ne, beq_iff_eq, ne_eq] <;> omega))) (fun st hst => fin st _ _ _ _ hat hst)
    | false =>
      rw [if_neg (by rw [h3]; decide)] at hat
      cases h4 : symOk w with
      | true =>
        have c4 : (!symOk w) = false := by rw [h4]; rfl
        rw [if_pos h4] at hat
        exact SWP.runQ (SAt [(68, [(55, false), (61, false)])] []) 100 68 hnt [2] (e := .ret) (z := { t := [(2, PV.ptr 1 0)], h := { bx := [{ cs := [PV.str s, PV.int IntKind.i64 (Int.ofNat x), PV.int IntKind.i64 (0 : Int), PV.int IntKind.i64 (0 : Int)], ty := 98 }, { cs := [PV.int IntKind.i64 (2 : Int), PV.int IntKind.i64 (0 : Int), PV.str w, PV.nil, PV.int IntKind.i64 (Int.ofNat a)], ty := 83 }], rw := [] } }) (o := [(true, true), (Nat.ble (ByteArray.size w) 1099511627776, true), (Prod.snd (numV w), false), (false, false), (true, true), (!symOk w, false), (false, false)]) (by kernel_rfl) (by ((repeat' (first | exact okO_nil | refine okN ?_ ?_)); all_goals first | assumption | rfl | exact same_of rfl | exact sameS_self _ | (simp only [decide_eq_true_eq, decide_eq_false_iff_not, Nat.ble_eq, Nat.beq_eq, beq_eq_false_iff_ne, beq_iff_eq, ne_eq] <;> omega))) (fun st hst => fin st _ _ _ _ hat hst)
      | false =>
        have c4 : (!symOk w) = true := by rw [h4]; rfl
        rw [if_neg (by rw [h4]; decide)] at hat
        exact SWP.runQ (SAt [(68, [(55, false), (61, true)])] []) 100 68 hnt [2] (e := .ret) (z := { t := [(2, PV.ptr 1 0)], h := { bx := [{ cs := [PV.str s, PV.int IntKind.i64 (Int.ofNat x), PV.int IntKind.i64 (4 : Int), PV.int IntKind.i64 (Int.ofNat a)], ty := 98 }, { cs := [PV.int IntKind.i64 (0 : Int), PV.int IntKind.i64 (0 : Int), PV.str { data := #[] }, PV.nil, PV.int IntKind.i64 (0 : Int)], ty := 83 }], rw := [] } }) (o := [(true, true), (Nat.ble (ByteArray.size w) 1099511627776, true), (Prod.snd (numV w), false), (false, false), (true, true), (!symOk w, true), (true, true)]) (by kernel_rfl) (by ((repeat' (first | exact okO_nil | refine okN ?_ ?_)); all_goals first | assumption | rfl | exact same_of rfl | exact sameS_self _ | (simp only [decide_eq_true_eq, decide_eq_false_iff_not, Nat.ble_eq, Nat.beq_eq, beq_eq_false_iff_ne, beq_iff_eq, ne_eq] <;> omega))) (fun st hst => fin st _ _ _ _ hat hst)))
  let T (x : Nat) : AS := ⟨[(0, .ptr 0 0), (2, .ptr 1 0), (3, .int .i64 a)], ⟨[rB s x 0 0, nZ], []⟩⟩
  refine Q.block ?_
  refine Q.loopI (σ := { x : Nat // letE s x = letE s a }) [0, 2, 3] (fun x => T x.1) (fun x => s.size - x.1) ⟨a, rfl⟩ rfl fun ⟨x, hk⟩ => ?_
  show SWP G0 C _ _ ⟨[(0, .ptr 0 0), (2, .ptr 1 0), (3, .int .i64 a)], ⟨[rB s x 0 0, nZ], []⟩⟩
  have le := letE_eq s x
  rcases Nat.lt_or_ge x s.size with hlt | hge
  · have d1 := sameB (lt_at hlt)
    have d2 := in_at hlt
    have d3 : decide (0 ≤ bt s (x : Int) ∧ bt s (x : Int) < 256) = true := decide_eq_true (bt_in s x)
    have wi : IntKind.wrap IntKind.i64 (Int.ofNat (x + 1)) = ((x + 1 : Nat) : Int) := wrapI (x + 1) (by omega)
    by_cases hc : letC (bt s (x : Int)) = true
    · have d4 := sameB hc
      rw [if_pos ⟨hlt, hc⟩] at le
      exact SWP.runQ (SAt [(68, [(30, true)])] [(68, [(20, .bool true), (31, .bool true)])]) 100 68 hnt [0, 2, 3] (e := .normal) (z := { t := [(0, PV.ptr 0 0), (2, PV.ptr 1 0), (3, PV.int IntKind.i64 (Int.ofNat a))], h := { bx := [{ cs := [PV.str s, PV.int IntKind.i64 (IntKind.wrap IntKind.i64 (Int.ofNat (x + 1))), PV.int IntKind.i64 (0 : Int), PV.int IntKind.i64 (0 : Int)], ty := 98 }, { cs := [PV.int IntKind.i64 (0 : Int), PV.int IntKind.i64 (0 : Int), PV.str { data := #[] }, PV.nil, PV.int IntKind.i64 (0 : Int)], ty := 83 }], rw := [] } }) (o := [(same (PV.bool (decide ((↑x : Int) < (↑(ByteArray.size s) : Int)))) (PV.bool true), true), (decide (0 ≤ (↑x : Int) ∧ (↑x : Int) < (↑(ByteArray.size s) : Int)), true), (true, true), (decide (0 ≤ bt s (↑x : Int) ∧ bt s (↑x : Int) < 256), true), (same (PV.bool (letC (bt s (Int.ofNat x)))) (PV.bool true), true)]) (by kernel_rfl) (by ((repeat' (first | exact okO_nil | refine okN ?_ ?_)); all_goals first | assumption | rfl | exact same_of rfl | exact sameS_self _ | (simp only [decide_eq_true_eq, decide_eq_false_iff_not, Nat.ble_eq, Nat.beq_eq, beq_eq_false_iff_ne, beq_iff_eq, ne_eq] <;> omega))) (fun st hst => ⟨⟨x + 1, le.symm.trans hk⟩, Nat.sub_lt_sub_left hlt (Nat.lt_succ_self x), by rw [hst, wi]; rfl⟩)
    · have d4 := sameB (Bool.not_eq_true _ ▸ hc : letC (bt s (x : Int)) = false)
      rw [if_neg (fun h => hc h.2)] at le
      exact SWP.runQ (SAt [(68, [(30, true)])] [(68, [(20, .bool true), (31, .bool false)])]) 100 68 hnt [0, 2, 3] (e := .exit 0) (z := { t := [(0, PV.ptr 0 0), (2, PV.ptr 1 0), (3, PV.int IntKind.i64 (Int.ofNat a))], h := { bx := [{ cs := [PV.str s, PV.int IntKind.i64 (Int.ofNat x), PV.int IntKind.i64 (0 : Int), PV.int IntKind.i64 (0 : Int)], ty := 98 }, { cs := [PV.int IntKind.i64 (0 : Int), PV.int IntKind.i64 (0 : Int), PV.str { data := #[] }, PV.nil, PV.int IntKind.i64 (0 : Int)], ty := 83 }], rw := [] } }) (o := [(same (PV.bool (decide ((↑x : Int) < (↑(ByteArray.size s) : Int)))) (PV.bool true), true), (decide (0 ≤ (↑x : Int) ∧ (↑x : Int) < (↑(ByteArray.size s) : Int)), true), (true, true), (decide (0 ≤ bt s (↑x : Int) ∧ bt s (↑x : Int) < 256), true), (same (PV.bool (letC (bt s (Int.ofNat x)))) (PV.bool false), true)]) (by kernel_rfl) (by ((repeat' (first | exact okO_nil | refine okN ?_ ?_)); all_goals first | assumption | rfl | exact same_of rfl | exact sameS_self _ | (simp only [decide_eq_true_eq, decide_eq_false_iff_not, Nat.ble_eq, Nat.beq_eq, beq_eq_false_iff_ne, beq_iff_eq, ne_eq] <;> omega))) (fun st hst => rest st x (hk.symm.trans le) hst)
  · have d1 := sameB (ge_at hge)
    rw [if_neg (fun h => absurd h.1 (by omega))] at le
    exact SWP.runQ (SAt [] [(68, [(20, .bool false)])]) 100 68 hnt [0, 2, 3] (e := .exit 0) (z := { t := [(0, PV.ptr 0 0), (2, PV.ptr 1 0), (3, PV.int IntKind.i64 (Int.ofNat a))], h := { bx := [{ cs := [PV.str s, PV.int IntKind.i64 (Int.ofNat x), PV.int IntKind.i64 (0 : Int), PV.int IntKind.i64 (0 : Int)], ty := 98 }, { cs := [PV.int IntKind.i64 (0 : Int), PV.int IntKind.i64 (0 : Int), PV.str { data := #[] }, PV.nil, PV.int IntKind.i64 (0 : Int)], ty := 83 }], rw := [] } }) (o := [(same (PV.bool (decide ((↑x : Int) < (↑(ByteArray.size s) : Int)))) (PV.bool false), true)]) (by kernel_rfl) (by ((repeat' (first | exact okO_nil | refine okN ?_ ?_)); all_goals first | assumption | rfl | exact same_of rfl | exact sameS_self _ | (simp only [decide_eq_true_eq, decide_eq_false_iff_not, Nat.ble_eq, Nat.beq_eq, beq_eq_false_iff_ne, beq_iff_eq, ne_eq] <;> omega))) (fun st hst => rest st x (hk.symm.trans le) hst)
theorem atom_ok (s : ByteArray) (hs : s.size ≤ 1099511627776) (a : Nat) (ha : a ≤ s.size) : PCalls G0 69 [.ptr 0 0] [rB s a 0 0] (fun o b => o = .ret (.agg (atomR s a).1.cells) ∧ b = [rB s (atomR s a).2.a (atomR s a).2.e (atomR s a).2.b]) :=
  PCalls.weak (fun E w v h => Nd.cells0_rep _ h) (atom_ok0 s hs a ha)
end Seat
end Go.Proofs.YtkblfapbakfgpaaDoor
/- The document's reader: data. Printed by dev/rd4.py and dev/nfsub.py (this session's). -/
namespace Go.Proofs.YtkblfapbakfgpaaDoor
open Go.AS Go.RowKit
set_option linter.unusedVariables false
set_option linter.unusedSimpArgs false
set_option maxRecDepth 100000
set_option maxHeartbeats 4000000
namespace Seat
def ndK : Nd → Int | .mk k _ _ _ _ => k
def ndN : Nd → Int | .mk _ n _ _ _ => n
def ndT : Nd → ByteArray | .mk _ _ t _ _ => t
def ndS : Nd → Nds | .mk _ _ _ ks _ => ks
def ndA : Nd → Int | .mk _ _ _ _ a => a
def ndC (x : Nd) : List PV := [.int .i64 (ndK x), .int .i64 (ndN x), .str (ndT x), .slice (ndS x).len (ndS x).cells, .int .i64 (ndA x)]
theorem ndC_eq (x : Nd) : ndC x = x.cells := by obtain ⟨k, n, t, ks, a⟩ := x; rfl
def atX (s : ByteArray) (a : Nat) : Nd := (atomR s a).1
def atA (s : ByteArray) (a : Nat) : Nat := (atomR s a).2.a
def atE (s : ByteArray) (a : Nat) : Int := (atomR s a).2.e
def atF (s : ByteArray) (a : Nat) : Int := (atomR s a).2.b
def rdX (s : ByteArray) (n a : Nat) : Nd := (rdD s n a).1
def rdA (s : ByteArray) (n a : Nat) : Nat := (rdD s n a).2.a
def rdE (s : ByteArray) (n a : Nat) : Int := (rdD s n a).2.e
def rdF (s : ByteArray) (n a : Nat) : Int := (rdD s n a).2.b
def RdAt (n : Nat) : Prop := ∀ s : ByteArray, s.size ≤ 1099511627776 → ∀ a, a ≤ s.size → PCalls G0 58 [.ptr 0 0, .int .i64 (1000 - (n : Int))] [rB s a 0 0] (fun o b => o = .ret (.agg (ndC (rdX s n a))) ∧ b = [rB s (rdA s n a) (rdE s n a) (rdF s n a)])
noncomputable def dtB (u : Bool) (n : Nat) (f : Nat) (args : List PV) (x : Box) : Option (PV × Box × Ob) := match f, args, x with
  | 57, [.ptr 0 0], ⟨[.str s, .int .i64 a, .int .i64 e, .int .i64 b], ty⟩ => match Nat.beq ty 98 with
    | true => some (.tup [], rB s (skp s a.toNat) e b, [(decide (0 ≤ a), true), (Nat.ble s.size 1099511627776, true)])
    | false => none
  | 69, [.ptr 0 0], ⟨[.str s, .int .i64 a, .int .i64 0, .int .i64 0], ty⟩ => match Nat.beq ty 98 with
    | true => some (.agg (ndC (atX s a.toNat)), rB s (atA s a.toNat) (atE s a.toNat) (atF s a.toNat), [(decide (0 ≤ a ∧ a ≤ (s.size : Int)), true), (Nat.ble s.size 1099511627776, true)])
    | false => none
  | 58, [.ptr 0 0, .int .i64 w], ⟨[.str s, .int .i64 a, .int .i64 0, .int .i64 0], ty⟩ => match u && Nat.beq ty 98 with
    | true => some (.agg (ndC (rdX s n a.toNat)), rB s (rdA s n a.toNat) (rdE s n a.toNat) (rdF s n a.toNat), [(decide (0 ≤ a ∧ a ≤ (s.size : Int)), true), (decide (w = 1000 - (n : Int)), true), (Nat.ble s.size 1099511627776, true)])
    | false => none
  | _, _, _ => none
theorem dtB_ok {u : Bool} {n : Nat} (ih : u = true → RdAt n) : ∀ f xs x r x' o, dtB u n f xs x = some (r, x', o) → (∀ p ∈ o, p.1 = p.2) → PCalls G0 f xs [x] (fun o' b' => o' = .ret r ∧ b' = [x']) ∧ r.sc 0 = true ∧ scL 0 x.cs = true ∧ scL 0 x'.cs = true := by
  intro f args x r b o h ho
  unfold dtB at h
  split at h
  · rename_i s a e b ty
    split at h
    · rename_i hc
      cases h
      simp only [Nat.beq_eq] at hc
      subst hc
      have h1 : 0 ≤ a := of_decide_eq_true (ho (decide (0 ≤ a), true) (by simp))
      have h2 : s.size ≤ 1099511627776 := Nat.le_of_ble_eq_true (ho (Nat.ble s.size 1099511627776, true) (by simp))
      have key := skip_ok s h2 a.toNat e b
      unfold rB at key
      rw [Int.toNat_of_nonneg h1] at key
      exact ⟨key, rfl, rfl, rfl⟩
    · cases h
  · rename_i s a ty
    split at h
    · rename_i hc
      cases h
      simp only [Nat.beq_eq] at hc
      subst hc
      have h1 : 0 ≤ a ∧ a ≤ (s.size : Int) := of_decide_eq_true (ho (decide (0 ≤ a ∧ a ≤ (s.size : Int)), true) (by simp))
      have h2 : s.size ≤ 1099511627776 := Nat.le_of_ble_eq_true (ho (Nat.ble s.size 1099511627776, true) (by simp))
      have key := atom_ok s h2 a.toNat (by omega)
      rw [← ndC_eq] at key
      refine ⟨?_, rfl, rfl, rfl⟩
      have e1 : rB s a.toNat 0 0 = ⟨[.str s, .int .i64 a, .int .i64 0, .int .i64 0], 98⟩ := by unfold rB; rw [Int.toNat_of_nonneg h1.1]
      rw [e1] at key
      exact key
    · cases h
  · rename_i w s a ty
    split at h
    · rename_i hc
      cases h
      simp only [Nat.beq_eq, Bool.and_eq_true] at hc
      obtain ⟨hu, hc⟩ := hc
      subst hc
      have h1 : 0 ≤ a ∧ a ≤ (s.size : Int) := of_decide_eq_true (ho (decide (0 ≤ a ∧ a ≤ (s.size : Int)), true) (by simp))
      have h2 : s.size ≤ 1099511627776 := Nat.le_of_ble_eq_true (ho (Nat.ble s.size 1099511627776, true) (by simp))
      have h3 : w = 1000 - (n : Int) := of_decide_eq_true (ho (decide (w = 1000 - (n : Int)), true) (by simp))
      have key := ih hu s h2 a.toNat (by omega)
      refine ⟨?_, rfl, rfl, rfl⟩
      have e1 : rB s a.toNat 0 0 = ⟨[.str s, .int .i64 a, .int .i64 0, .int .i64 0], 98⟩ := by unfold rB; rw [Int.toNat_of_nonneg h1.1]
      rw [e1, ← h3] at key
      exact key
    · cases h
  · cases h
noncomputable def SRd (u : Bool) (n : Nat) (ih : u = true → RdAt n) (l : List (Nat × List (Nat × Bool))) (v : List (Nat × List (Nat × PV))) : Cfg G0 := { F := F, hF := hF, S := atS, hS := atS_ok, B := dtB u n, hB := dtB_ok ih, D := fun f => Nat.beq f 58, orc := orcM l, val := valM v }
def nL (a : Nat) (x : PV) : Box := ⟨[.int .i64 3, .int .i64 0, .str ⟨#[]⟩, x, .int .i64 a], 83⟩
def nR (rc : List PV) (m : Nat) : Row := ⟨rc, m, 83, 5⟩
/-- A node's list, as it comes: none where it is empty, a quote's symbol without a list. -/
def NilS (x : PV) (d : Nd) : Prop := x = .slice (ndS d).len (ndS d).cells ∨ (x = .nil ∧ ndS d = .nil) ∨ ∃ a y, ndS d = .cons (.mk 2 0 wQuote .nil a) (.cons y .nil) ∧ x = .slice 2 ([.int .i64 2, .int .i64 0, .str wQuote, .nil, .int .i64 a] ++ ndC y)
theorem slice_weak {E : Env} {w : World} {n : Nat} {cs cs' : List PV} {v : Value} (hl : cs'.length = cs.length) (hc : ∀ (j : Nat) (x x' : PV), cs[j]? = some x → cs'[j]? = some x' → x' = x ∨ (x = .nil ∧ x' = .slice 0 [])) (h : VRep E w (.slice n cs) v) : VRep E w (.slice n cs') v := by
  rcases h.slice_inv with ⟨rfl, rfl, rfl⟩ | ⟨a, c, vs, rfl, h1, h2, h3, h4, h5⟩
  · have : cs' = [] := List.eq_nil_of_length_eq_zero hl
    rw [this]
    exact .imm .slice0
  · refine .imm (.slice h1 (h4.1.trans hl.symm) h2 h3 h5 fun j x v hx hv => ?_)
    obtain ⟨y, hy⟩ : ∃ y, cs[j]? = some y := by
      have := (List.getElem?_eq_some_iff.1 hx).1
      exact ⟨cs[j]'(by omega), List.getElem?_eq_getElem (by omega)⟩
    have hr := h4.2 j y v hy hv
    rcases hc j y x hy hx with rfl | ⟨rfl, rfl⟩
    · exact hr
    · cases hr
      exact .slice0
theorem NilS.rep {x : PV} {d : Nd} (hx : NilS x d) {E : Env} {w : World} {v : Value} (h : VRep E w x v) : VRep E w (.slice (ndS d).len (ndS d).cells) v := by
  rcases hx with rfl | ⟨rfl, h2⟩ | ⟨a, y, h2, rfl⟩
  · exact h
  · rw [h2]; exact h.nil_slice
  · rw [h2]
    have e : (Nds.cons (.mk 2 0 wQuote .nil a) (.cons y .nil)).cells = [.int .i64 2, .int .i64 0, .str wQuote, .slice 0 [], .int .i64 a] ++ ndC y := by
      rw [ndC_eq]; simp [Nds.cells, Nd.cells, Nds.len]
    show VRep E w (.slice 2 (Nds.cons (.mk 2 0 wQuote .nil a) (.cons y .nil)).cells) v
    rw [e]
    refine slice_weak (cs := [.int .i64 2, .int .i64 0, .str wQuote, .nil, .int .i64 a] ++ ndC y) rfl (fun j x x' h1 h2 => ?_) h
    match j, h1, h2 with
    | 0, h1, h2 | 1, h1, h2 | 2, h1, h2 | 4, h1, h2 => cases h1; cases h2; exact .inl rfl
    | 3, h1, h2 => cases h1; cases h2; exact .inr ⟨rfl, rfl⟩
    | j + 5, h1, h2 => exact .inl (Option.some.inj (h2.symm.trans h1))
theorem node_weak {x : PV} {d : Nd} (hx : NilS x d) {E : Env} {w : World} {v : Value} (h : VRep E w (.agg [.int .i64 (ndK d), .int .i64 (ndN d), .str (ndT d), x, .int .i64 (ndA d)]) v) : VRep E w (.agg (ndC d)) v := by
  obtain ⟨vs, rfl, g⟩ := h.agg_inv
  obtain ⟨v1, vs, rfl, h1, g⟩ := g.cons_inv
  obtain ⟨v2, vs, rfl, h2, g⟩ := g.cons_inv
  obtain ⟨v3, vs, rfl, h3, g⟩ := g.cons_inv
  obtain ⟨v4, vs, rfl, h4, g⟩ := g.cons_inv
  obtain ⟨v5, vs, rfl, h6, g⟩ := g.cons_inv
  obtain rfl := g.nil_inv
  have h5 := hx.rep h4
  exact .agg rfl fun j x v hx hv => by
    match j, hx, hv with
    | 0, hx, hv => cases hx; cases hv; exact h1
    | 1, hx, hv => cases hx; cases hv; exact h2
    | 2, hx, hv => cases hx; cases hv; exact h3
    | 3, hx, hv => cases hx; cases hv; exact h5
    | 4, hx, hv => cases hx; cases hv; exact h6
    | j + 5, hx, hv => cases hx
theorem rd_weak {f : FuncId} {args : List PV} {bx B : List Box} {d : Nd} (h : PCalls G0 f args bx (fun o b => ∃ x, o = .ret (.agg [.int .i64 (ndK d), .int .i64 (ndN d), .str (ndT d), x, .int .i64 (ndA d)]) ∧ NilS x d ∧ b = B)) : PCalls G0 f args bx (fun o b => o = .ret (.agg (ndC d)) ∧ b = B) := fun E w vs hh hv =>
  (h E w vs hh hv).mono fun e w' ⟨o, bx', E', ⟨x, ho, hx, hb⟩, hout, hrest⟩ => by
    subst ho
    obtain ⟨v, rfl, hv⟩ := hout
    exact ⟨.ret (.agg (ndC d)), bx', E', ⟨rfl, hb⟩, ⟨v, rfl, node_weak hx hv⟩, hrest⟩
theorem swp_st {C : Ctx} {c : Code} {Q : AEx → AS → Prop} {st st' : AS} (h : st = st') (k : SWP G0 C c Q st') : SWP G0 C c Q st := h ▸ k
theorem let40 : letC 40 = false := by decide
theorem let39 : letC 39 = false := by decide
theorem rd_step (u : Bool) (n : Nat) (ih : u = true → RdAt n) (N : Nat) (h1 : u = true → N = n + 1) (h0 : u = false → N = 0) (hN : N ≤ 1000) : RdAt N := by
  intro s hs a ha
  obtain ⟨w, hw⟩ : ∃ w : Int, w = 1000 - (N : Int) := ⟨_, rfl⟩
  rw [← hw]
  refine rd_weak ?_
  have eq := rdD_eq s N a
  refine Fn.enterN Tryd.func58 Tryd.ntmps58 rfl (Nat.le_of_ble_eq_true rfl) fun C fr fp hnt hp hfr hfp => ?_
  have fin : ∀ st d y e b x bx rw', rdD s N a = (d, ⟨y, e, b⟩) → NilS x d → nrm [4] st = ⟨[(4, .ptr 1 0)], ⟨rB s y e b :: ⟨[.int .i64 (ndK d), .int .i64 (ndN d), .str (ndT d), x, .int .i64 (ndA d)], 83⟩ :: bx, rw'⟩⟩ → fr st := fun st d y e b x bx rw' h hx hst => hfr st [4] (by
    have a1 : rdX s N a = d := by unfold rdX; rw [h]
    have a2 : rdA s N a = y := by unfold rdA; rw [h]
    have a3 : rdE s N a = e := by unfold rdE; rw [h]
    have a4 : rdF s N a = b := by unfold rdF; rw [h]
    rw [hst, a1, a2, a3, a4]
    refine ⟨1, .agg [.int .i64 (ndK d), .int .i64 (ndN d), .str (ndT d), x, .int .i64 (ndA d)], Nat.le_refl _, Nat.succ_le_succ (Nat.zero_le _), rfl, ?_, rfl, x, rfl, hx, rfl⟩
    rcases hx with rfl | ⟨rfl, _⟩ | ⟨_, _, _, rfl⟩ <;> rfl)
  refine Q.runSeq (SRd u n ih [] []) 100 150 hnt [0, 1, 4] (z := { t := [(0, PV.ptr 0 0), (1, PV.int IntKind.i64 w), (4, PV.ptr 1 0)], h := { bx := [{ cs := [PV.str s, PV.int IntKind.i64 (Int.ofNat a), PV.int IntKind.i64 (0 : Int), PV.int IntKind.i64 (0 : Int)], ty := 98 }, { cs := [PV.int IntKind.i64 (0 : Int), PV.int IntKind.i64 (0 : Int), PV.str { data := #[] }, PV.nil, PV.int IntKind.i64 (0 : Int)], ty := 83 }], rw := [] } }) (o := []) (by kernel_rfl) (by ((repeat' (first | exact okO_nil | refine okN ?_ ?_)); all_goals first | assumption | rfl | exact same_of rfl | exact sameS_self _ | (simp only [decide_eq_true_eq, decide_eq_false_iff_not, Nat.ble_eq, Nat.beq_eq, beq_eq_false_iff_ne, beq_iff_eq, ne_eq] <;> omega))) ?_
  refine Q.runSeq (SRd u n ih [] []) 100 150 hnt [0, 1, 4] (z := { t := [(0, PV.ptr 0 0), (1, PV.int IntKind.i64 w), (4, PV.ptr 1 0)], h := { bx := [{ cs := [PV.str s, PV.int IntKind.i64 (Int.ofNat a), PV.int IntKind.i64 (0 : Int), PV.int IntKind.i64 (0 : Int)], ty := 98 }, { cs := [PV.int IntKind.i64 (0 : Int), PV.int IntKind.i64 (0 : Int), PV.str { data := #[] }, PV.nil, PV.int IntKind.i64 (0 : Int)], ty := 83 }], rw := [] } }) (o := []) (by kernel_rfl) (by ((repeat' (first | exact okO_nil | refine okN ?_ ?_)); all_goals first | assumption | rfl | exact same_of rfl | exact sameS_self _ | (simp only [decide_eq_true_eq, decide_eq_false_iff_not, Nat.ble_eq, Nat.beq_eq, beq_eq_false_iff_ne, beq_iff_eq, ne_eq] <;> omega))) ?_
  rcases Nat.lt_or_ge a s.size with hlt | hge
  case inr =>
    rw [if_pos hge] at eq
    have d1 : decide ((s.size : Int) ≤ (a : Int)) = true := by rw [decide_eq_true_eq]; omega
    refine Q.seq fun K hK => ?_
    exact SWP.runQ (SRd u n ih [(150, [(23, true)])] []) 100 150 hnt [4] (e := .ret) (z := { t := [(4, PV.ptr 1 0)], h := { bx := [{ cs := [PV.str s, PV.int IntKind.i64 (Int.ofNat a), PV.int IntKind.i64 (4 : Int), PV.int IntKind.i64 (Int.ofNat (ByteArray.size s))], ty := 98 }, { cs := [PV.int IntKind.i64 (0 : Int), PV.int IntKind.i64 (0 : Int), PV.str { data := #[] }, PV.nil, PV.int IntKind.i64 (0 : Int)], ty := 83 }], rw := [] } }) (o := [(decide ((↑(ByteArray.size s) : Int) ≤ (↑a : Int)), true)]) (by kernel_rfl) (by ((repeat' (first | exact okO_nil | refine okN ?_ ?_)); all_goals first | assumption | rfl | exact same_of rfl | exact sameS_self _ | (simp only [decide_eq_true_eq, decide_eq_false_iff_not, Nat.ble_eq, Nat.beq_eq, beq_eq_false_iff_ne, beq_iff_eq, ne_eq] <;> omega))) (fun st hst => fin st .zero a 4 s.size .nil [] [] eq (.inr (.inl ⟨rfl, rfl⟩)) hst)
  have d1 : decide ((s.size : Int) ≤ (a : Int)) = false := by rw [decide_eq_false_iff_not]; omega
  have d2 := in_at hlt
  have d3 : decide (0 ≤ bt s (a : Int) ∧ bt s (a : Int) < 256) = true := decide_eq_true (bt_in s a)
  have wi : IntKind.wrap IntKind.i64 (Int.ofNat (a + 1)) = ((a + 1 : Nat) : Int) := wrapI (a + 1) (by omega)
  rw [if_neg (by omega)] at eq
  refine Q.runSeq (SRd u n ih [(150, [(23, false)])] []) 100 150 hnt [0, 1, 4] (z := { t := [(0, PV.ptr 0 0), (1, PV.int IntKind.i64 w), (4, PV.ptr 1 0)], h := { bx := [{ cs := [PV.str s, PV.int IntKind.i64 (Int.ofNat a), PV.int IntKind.i64 (0 : Int), PV.int IntKind.i64 (0 : Int)], ty := 98 }, { cs := [PV.int IntKind.i64 (0 : Int), PV.int IntKind.i64 (0 : Int), PV.str { data := #[] }, PV.nil, PV.int IntKind.i64 (0 : Int)], ty := 83 }], rw := [] } }) (o := [(decide ((↑(ByteArray.size s) : Int) ≤ (↑a : Int)), false)]) (by kernel_rfl) (by ((repeat' (first | exact okO_nil | refine okN ?_ ?_)); all_goals first | assumption | rfl | exact same_of rfl | exact sameS_self _ | (simp only [decide_eq_true_eq, decide_eq_false_iff_not, Nat.ble_eq, Nat.beq_eq, beq_eq_false_iff_ne, beq_iff_eq, ne_eq] <;> omega))) ?_
  refine Q.runSeq (SRd u n ih [(150, [(43, true)])] []) 100 150 hnt [0, 1, 4, 5, 6] (z := { t := [(0, PV.ptr 0 0), (1, PV.int IntKind.i64 w), (4, PV.ptr 1 0), (5, PV.int IntKind.i64 (Int.ofNat a)), (6, PV.int IntKind.u8 (bt s (Int.ofNat a)))], h := { bx := [{ cs := [PV.str s, PV.int IntKind.i64 (Int.ofNat a), PV.int IntKind.i64 (0 : Int), PV.int IntKind.i64 (0 : Int)], ty := 98 }, { cs := [PV.int IntKind.i64 (0 : Int), PV.int IntKind.i64 (0 : Int), PV.str { data := #[] }, PV.nil, PV.int IntKind.i64 (0 : Int)], ty := 83 }], rw := [] } }) (o := [(decide (0 ≤ (↑a : Int) ∧ (↑a : Int) < (↑(ByteArray.size s) : Int)), true)]) (by kernel_rfl) (by ((repeat' (first | exact okO_nil | refine okN ?_ ?_)); all_goals first | assumption | rfl | exact same_of rfl | exact sameS_self _ | (simp only [decide_eq_true_eq, decide_eq_false_iff_not, Nat.ble_eq, Nat.beq_eq, beq_eq_false_iff_ne, beq_iff_eq, ne_eq] <;> omega))) ?_
  refine Q.seq fun K hK => ?_
  have go6 : ¬ (bt s (a : Int) ≠ 40 ∧ bt s (a : Int) ≠ 39 ∧ letC (bt s (a : Int)) = false) → ∀ st, nrm [0, 1, 4, 5, 6] st = ⟨[(0, .ptr 0 0), (1, .int .i64 w), (4, .ptr 1 0), (5, .int .i64 a), (6, .int .u8 (bt s a))], ⟨[rB s a 0 0, nZ], []⟩⟩ → K st := fun hc st hst => hK st (.norm [0, 1, 4, 5, 6] (by
    rw [hst]
    clear hst hK
    rw [if_neg hc] at eq
    cases u with
    | false =>
      obtain rfl := h0 rfl
      have e59 : decide (1000 ≤ w) = true := by rw [decide_eq_true_eq]; omega
      refine Q.seq fun K hK => ?_
      exact SWP.runQ (SRd false n ih [(150, [(59, true)])] []) 100 150 hnt [4] (e := .ret) (z := { t := [(4, PV.ptr 1 0)], h := { bx := [{ cs := [PV.str s, PV.int IntKind.i64 (Int.ofNat a), PV.int IntKind.i64 (3 : Int), PV.int IntKind.i64 (Int.ofNat a)], ty := 98 }, { cs := [PV.int IntKind.i64 (0 : Int), PV.int IntKind.i64 (0 : Int), PV.str { data := #[] }, PV.nil, PV.int IntKind.i64 (0 : Int)], ty := 83 }], rw := [] } }) (o := [(decide (1000 ≤ w), true)]) (by kernel_rfl) (by ((repeat' (first | exact okO_nil | refine okN ?_ ?_)); all_goals first | assumption | rfl | exact same_of rfl | exact sameS_self _ | (simp only [decide_eq_true_eq, decide_eq_false_iff_not, Nat.ble_eq, Nat.beq_eq, beq_eq_false_iff_ne, beq_iff_eq, ne_eq] <;> omega))) (fun st hst => fin st .zero a 3 a .nil [] [] eq (.inr (.inl ⟨rfl, rfl⟩)) hst)
    | true =>
      obtain rfl := h1 rfl
      have e59 : decide (1000 ≤ w) = false := by rw [decide_eq_false_iff_not]; omega
      have w2 : IntKind.wrap IntKind.i64 (w + 1) = 1000 - (n : Int) := by rw [IntKind.wrap_i64]; omega
      have fw : same (PV.int IntKind.i64 (IntKind.wrap IntKind.i64 (w + (1 : Int)))) (PV.int IntKind.i64 ((1000 : Int) - Int.ofNat n)) = true := same_of (by rw [w2]; rfl)
      refine Q.seq fun K hK => ?_
      have go8 : ¬ (bt s (a : Int) = 39 ∧ n = 0) → ∀ st, nrm [0, 1, 4, 5, 6] st = ⟨[(0, .ptr 0 0), (1, .int .i64 w), (4, .ptr 1 0), (5, .int .i64 a), (6, .int .u8 (bt s a))], ⟨[rB s a 0 0, nZ], []⟩⟩ → K st := fun hc st hst => hK st (.norm [0, 1, 4, 5, 6] (by
        rw [hst]
        clear hst hK
        simp only [] at eq
        rw [if_neg hc] at eq
        have dz : decide (0 ≤ (a : Int) ∧ (a : Int) ≤ (s.size : Int)) = true := by rw [decide_eq_true_eq]; omega
        cases hl : letC (bt s (a : Int)) with
        | true =>
          rw [if_pos hl] at eq
          refine Q.seq fun K hK => ?_
          exact SWP.runQ (SRd true n ih [(150, [(73, true)])] []) 100 150 hnt [4] (e := .ret) (z := { t := [(4, PV.ptr 1 0)], h := { bx := [{ cs := [PV.str s, PV.int IntKind.i64 (Int.ofNat (RS.a (Prod.snd (atomR s (Int.toNat (↑a : Int)))))), PV.int IntKind.i64 (RS.e (Prod.snd (atomR s (Int.toNat (↑a : Int))))), PV.int IntKind.i64 (RS.b (Prod.snd (atomR s (Int.toNat (↑a : Int)))))], ty := 98 }, { cs := [PV.int IntKind.i64 (ndK (atX s (Int.toNat (↑a : Int)))), PV.int IntKind.i64 (ndN (atX s (Int.toNat (↑a : Int)))), PV.str (ndT (atX s (Int.toNat (↑a : Int)))), PV.slice (Nds.len (ndS (atX s (Int.toNat (↑a : Int))))) (Nds.cells (ndS (atX s (Int.toNat (↑a : Int))))), PV.int IntKind.i64 (ndA (atX s (Int.toNat (↑a : Int))))], ty := 83 }], rw := [] } }) (o := [(true, true), (decide (0 ≤ bt s (↑a : Int) ∧ bt s (↑a : Int) < 256), true), (letC (bt s (Int.ofNat a)), true), (true, true), (decide (0 ≤ (↑a : Int) ∧ (↑a : Int) ≤ (↑(ByteArray.size s) : Int)), true), (Nat.ble (ByteArray.size s) 1099511627776, true)]) (by kernel_rfl) (by ((repeat' (first | exact okO_nil | refine okN ?_ ?_)); all_goals first | assumption | rfl | exact same_of rfl | exact sameS_self _ | (simp only [decide_eq_true_eq, decide_eq_false_iff_not, Nat.ble_eq, Nat.beq_eq, beq_eq_false_iff_ne, beq_iff_eq, ne_eq] <;> omega))) (fun st hst => fin st (atX s a) (atA s a) (atE s a) (atF s a) (.slice (ndS (atX s a)).len (ndS (atX s a)).cells) [] [] eq (.inl rfl) hst)
        | false =>
        rw [if_neg (by rw [hl]; decide)] at eq
        refine Q.runSeq (SRd true n ih [(150, [(73, false)])] []) 100 150 hnt [0, 1, 4, 5, 6] (z := { t := [(0, PV.ptr 0 0), (1, PV.int IntKind.i64 w), (4, PV.ptr 1 0), (5, PV.int IntKind.i64 (Int.ofNat a)), (6, PV.int IntKind.u8 (bt s (Int.ofNat a)))], h := { bx := [{ cs := [PV.str s, PV.int IntKind.i64 (Int.ofNat a), PV.int IntKind.i64 (0 : Int), PV.int IntKind.i64 (0 : Int)], ty := 98 }, { cs := [PV.int IntKind.i64 (0 : Int), PV.int IntKind.i64 (0 : Int), PV.str { data := #[] }, PV.nil, PV.int IntKind.i64 (0 : Int)], ty := 83 }], rw := [] } }) (o := [(true, true), (decide (0 ≤ bt s (↑a : Int) ∧ bt s (↑a : Int) < 256), true), (letC (bt s (Int.ofNat a)), false), (false, false)]) (by kernel_rfl) (by ((repeat' (first | exact okO_nil | refine okN ?_ ?_)); all_goals first | assumption | rfl | exact same_of rfl | exact sameS_self _ | (simp only [decide_eq_true_eq, decide_eq_false_iff_not, Nat.ble_eq, Nat.beq_eq, beq_eq_false_iff_ne, beq_iff_eq, ne_eq] <;> omega))) ?_
        refine Q.runSeq (SRd true n ih [] []) 100 150 hnt [0, 1, 4, 5, 6] (z := { t := [(0, PV.ptr 0 0), (1, PV.int IntKind.i64 w), (4, PV.ptr 1 0), (5, PV.int IntKind.i64 (Int.ofNat a)), (6, PV.int IntKind.u8 (bt s (Int.ofNat a)))], h := { bx := [{ cs := [PV.str s, PV.int IntKind.i64 (IntKind.wrap IntKind.i64 (Int.ofNat (a + 1))), PV.int IntKind.i64 (0 : Int), PV.int IntKind.i64 (0 : Int)], ty := 98 }, { cs := [PV.int IntKind.i64 (0 : Int), PV.int IntKind.i64 (0 : Int), PV.str { data := #[] }, PV.nil, PV.int IntKind.i64 (0 : Int)], ty := 83 }], rw := [] } }) (o := []) (by kernel_rfl) (by ((repeat' (first | exact okO_nil | refine okN ?_ ?_)); all_goals first | assumption | rfl | exact same_of rfl | exact sameS_self _ | (simp only [decide_eq_true_eq, decide_eq_false_iff_not, Nat.ble_eq, Nat.beq_eq, beq_eq_false_iff_ne, beq_iff_eq, ne_eq] <;> omega))) ?_
        rw [wi]
        refine Q.runSeq (SRd true n ih [] []) 100 150 hnt [0, 1, 4, 5, 6] (z := { t := [(0, PV.ptr 0 0), (1, PV.int IntKind.i64 w), (4, PV.ptr 1 0), (5, PV.int IntKind.i64 (Int.ofNat a)), (6, PV.int IntKind.u8 (bt s (Int.ofNat a)))], h := { bx := [{ cs := [PV.str s, PV.int IntKind.i64 (Int.ofNat (skp s (Int.toNat (Int.ofNat (a + 1))))), PV.int IntKind.i64 (0 : Int), PV.int IntKind.i64 (0 : Int)], ty := 98 }, { cs := [PV.int IntKind.i64 (0 : Int), PV.int IntKind.i64 (0 : Int), PV.str { data := #[] }, PV.nil, PV.int IntKind.i64 (0 : Int)], ty := 83 }], rw := [] } }) (o := [(true, true), (Nat.ble (ByteArray.size s) 1099511627776, true)]) (by kernel_rfl) (by ((repeat' (first | exact okO_nil | refine okN ?_ ?_)); all_goals first | assumption | rfl | exact same_of rfl | exact sameS_self _ | (simp only [decide_eq_true_eq, decide_eq_false_iff_not, Nat.ble_eq, Nat.beq_eq, beq_eq_false_iff_ne, beq_iff_eq, ne_eq] <;> omega))) ?_
        obtain ⟨y, hy⟩ : ∃ y, y = skp s (a + 1) := ⟨_, rfl⟩
        have hy2 : y ≤ s.size := by rw [hy]; exact skp_le s (a + 1) hlt
        show SWP G0 C _ _ ⟨[(0, .ptr 0 0), (1, .int .i64 w), (4, .ptr 1 0), (5, .int .i64 a), (6, .int .u8 (bt s a))], ⟨[rB s (skp s (a + 1)) 0 0, nZ], []⟩⟩
        rw [← hy] at eq ⊢
        have dy : decide (0 ≤ (y : Int) ∧ (y : Int) ≤ (s.size : Int)) = true := by rw [decide_eq_true_eq]; omega
        refine Q.runSeq (SRd true n ih [] []) 100 150 hnt [0, 1, 4, 5, 6, 7] (z := { t := [(0, PV.ptr 0 0), (1, PV.int IntKind.i64 w), (4, PV.ptr 1 0), (5, PV.int IntKind.i64 (Int.ofNat a)), (6, PV.int IntKind.u8 (bt s (Int.ofNat a))), (7, PV.ptr 2 0)], h := { bx := [{ cs := [PV.str s, PV.int IntKind.i64 (Int.ofNat y), PV.int IntKind.i64 (0 : Int), PV.int IntKind.i64 (0 : Int)], ty := 98 }, { cs := [PV.int IntKind.i64 (0 : Int), PV.int IntKind.i64 (0 : Int), PV.str { data := #[] }, PV.nil, PV.int IntKind.i64 (0 : Int)], ty := 83 }, { cs := [PV.int IntKind.i64 (3 : Int), PV.int IntKind.i64 (0 : Int), PV.str { data := #[] }, PV.nil, PV.int IntKind.i64 (Int.ofNat a)], ty := 83 }], rw := [] } }) (o := []) (by kernel_rfl) (by ((repeat' (first | exact okO_nil | refine okN ?_ ?_)); all_goals first | assumption | rfl | exact same_of rfl | exact sameS_self _ | (simp only [decide_eq_true_eq, decide_eq_false_iff_not, Nat.ble_eq, Nat.beq_eq, beq_eq_false_iff_ne, beq_iff_eq, ne_eq] <;> omega))) ?_
        by_cases h39 : bt s (a : Int) = 39
        · have e88 := beqT h39
          rw [if_pos h39] at eq
          refine Q.seq fun K hK => ?_
          refine Q.runSeq (SRd true n ih [(150, [(88, true)])] []) 100 150 hnt [0, 1, 4, 5, 7, 88] (z := { t := [(0, PV.ptr 0 0), (1, PV.int IntKind.i64 w), (4, PV.ptr 1 0), (5, PV.int IntKind.i64 (Int.ofNat a)), (7, PV.ptr 2 0), (88, PV.bool true)], h := { bx := [{ cs := [PV.str s, PV.int IntKind.i64 (Int.ofNat y), PV.int IntKind.i64 (0 : Int), PV.int IntKind.i64 (0 : Int)], ty := 98 }, { cs := [PV.int IntKind.i64 (0 : Int), PV.int IntKind.i64 (0 : Int), PV.str { data := #[] }, PV.nil, PV.int IntKind.i64 (0 : Int)], ty := 83 }, { cs := [PV.int IntKind.i64 (3 : Int), PV.int IntKind.i64 (0 : Int), PV.str { data := #[] }, PV.nil, PV.int IntKind.i64 (Int.ofNat a)], ty := 83 }], rw := [] } }) (o := [(bt s (Int.ofNat a) == (39 : Int), true)]) (by kernel_rfl) (by ((repeat' (first | exact okO_nil | refine okN ?_ ?_)); all_goals first | assumption | rfl | exact same_of rfl | exact sameS_self _ | (simp only [decide_eq_true_eq, decide_eq_false_iff_not, Nat.ble_eq, Nat.beq_eq, beq_eq_false_iff_ne, beq_iff_eq, ne_eq] <;> omega))) ?_
          refine Q.cond (b := true) rfl (fun _ => ?_) (fun h => by cases h)
          refine SWP.adoptB 2 3 83 5 rfl rfl ?_
          refine Q.seq fun K2 hK2 => ?_
          refine SWP.runLQ (SRd true n ih [(150, [(98, true)])] [(150, [(95, .int .i64 (1000 - (n : Int)))])]) 100 150 hnt [4, 7] (l := [{ t := [(4, PV.ptr 1 0), (7, PV.ptr 2 0)], h := { bx := [{ cs := [PV.str s, PV.int IntKind.i64 (Int.ofNat (rdA s n (Int.toNat (Int.ofNat y)))), PV.int IntKind.i64 (rdE s n (Int.toNat (Int.ofNat y))), PV.int IntKind.i64 (rdF s n (Int.toNat (Int.ofNat y)))], ty := 98 }, { cs := [PV.int IntKind.i64 (0 : Int), PV.int IntKind.i64 (0 : Int), PV.str { data := #[] }, PV.nil, PV.int IntKind.i64 (0 : Int)], ty := 83 }, { cs := [PV.int IntKind.i64 (3 : Int), PV.int IntKind.i64 (0 : Int), PV.str { data := #[] }, PV.own 0 2, PV.int IntKind.i64 (Int.ofNat a)], ty := 83 }], rw := [some { cs := [PV.int IntKind.i64 (2 : Int), PV.int IntKind.i64 (0 : Int), PV.str { data := #[113, 117, 111, 116, 101] }, PV.nil, PV.int IntKind.i64 (Int.ofNat a), PV.int IntKind.i64 (ndK (rdX s n (Int.toNat (↑y : Int)))), PV.int IntKind.i64 (ndN (rdX s n (Int.toNat (↑y : Int)))), PV.str (ndT (rdX s n (Int.toNat (↑y : Int)))), PV.slice (Nds.len (ndS (rdX s n (Int.toNat (↑y : Int))))) (Nds.cells (ndS (rdX s n (Int.toNat (↑y : Int))))), PV.int IntKind.i64 (ndA (rdX s n (Int.toNat (↑y : Int))))], n := 2, ty := 83, sz := 5 }] } }, { t := [(4, PV.ptr 1 0), (7, PV.ptr 2 0)], h := { bx := [{ cs := [PV.str s, PV.int IntKind.i64 (Int.ofNat (rdA s n (Int.toNat (Int.ofNat y)))), PV.int IntKind.i64 (rdE s n (Int.toNat (Int.ofNat y))), PV.int IntKind.i64 (rdF s n (Int.toNat (Int.ofNat y)))], ty := 98 }, { cs := [PV.int IntKind.i64 (0 : Int), PV.int IntKind.i64 (0 : Int), PV.str { data := #[] }, PV.nil, PV.int IntKind.i64 (0 : Int)], ty := 83 }, { cs := [PV.int IntKind.i64 (3 : Int), PV.int IntKind.i64 (0 : Int), PV.str { data := #[] }, PV.own 0 2, PV.int IntKind.i64 (Int.ofNat a)], ty := 83 }], rw := [some { cs := [PV.int IntKind.i64 (2 : Int), PV.int IntKind.i64 (0 : Int), PV.str { data := #[113, 117, 111, 116, 101] }, PV.nil, PV.int IntKind.i64 (Int.ofNat a), PV.int IntKind.i64 (ndK (rdX s n (Int.toNat (↑y : Int)))), PV.int IntKind.i64 (ndN (rdX s n (Int.toNat (↑y : Int)))), PV.str (ndT (rdX s n (Int.toNat (↑y : Int)))), PV.slice (Nds.len (ndS (rdX s n (Int.toNat (↑y : Int))))) (Nds.cells (ndS (rdX s n (Int.toNat (↑y : Int))))), PV.int IntKind.i64 (ndA (rdX s n (Int.toNat (↑y : Int))))], n := 2, ty := 83, sz := 5 }] } }, { t := [(4, PV.ptr 1 0), (7, PV.ptr 2 0)], h := { bx := [{ cs := [PV.str s, PV.int IntKind.i64 (Int.ofNat (rdA s n (Int.toNat (Int.ofNat y)))), PV.int IntKind.i64 (rdE s n (Int.toNat (Int.ofNat y))), PV.int IntKind.i64 (rdF s n (Int.toNat (Int.ofNat y)))], ty := 98 }, { cs := [PV.int IntKind.i64 (0 : Int), PV.int IntKind.i64 (0 : Int), PV.str { data := #[] }, PV.nil, PV.int IntKind.i64 (0 : Int)], ty := 83 }, { cs := [PV.int IntKind.i64 (3 : Int), PV.int IntKind.i64 (0 : Int), PV.str { data := #[] }, PV.own 0 2, PV.int IntKind.i64 (Int.ofNat a)], ty := 83 }], rw := [some { cs := [PV.int IntKind.i64 (2 : Int), PV.int IntKind.i64 (0 : Int), PV.str { data := #[113, 117, 111, 116, 101] }, PV.nil, PV.int IntKind.i64 (Int.ofNat a), PV.int IntKind.i64 (ndK (rdX s n (Int.toNat (↑y : Int)))), PV.int IntKind.i64 (ndN (rdX s n (Int.toNat (↑y : Int)))), PV.str (ndT (rdX s n (Int.toNat (↑y : Int)))), PV.slice (Nds.len (ndS (rdX s n (Int.toNat (↑y : Int))))) (Nds.cells (ndS (rdX s n (Int.toNat (↑y : Int))))), PV.int IntKind.i64 (ndA (rdX s n (Int.toNat (↑y : Int))))], n := 2, ty := 83, sz := 5 }] } }, { t := [(4, PV.ptr 1 0), (7, PV.ptr 2 0)], h := { bx := [{ cs := [PV.str s, PV.int IntKind.i64 (Int.ofNat (rdA s n (Int.toNat (Int.ofNat y)))), PV.int IntKind.i64 (rdE s n (Int.toNat (Int.ofNat y))), PV.int IntKind.i64 (rdF s n (Int.toNat (Int.ofNat y)))], ty := 98 }, { cs := [PV.int IntKind.i64 (0 : Int), PV.int IntKind.i64 (0 : Int), PV.str { data := #[] }, PV.nil, PV.int IntKind.i64 (0 : Int)], ty := 83 }, { cs := [PV.int IntKind.i64 (3 : Int), PV.int IntKind.i64 (0 : Int), PV.str { data := #[] }, PV.own 0 2, PV.int IntKind.i64 (Int.ofNat a)], ty := 83 }], rw := [some { cs := [PV.int IntKind.i64 (2 : Int), PV.int IntKind.i64 (0 : Int), PV.str { data := #[113, 117, 111, 116, 101] }, PV.nil, PV.int IntKind.i64 (Int.ofNat a), PV.int IntKind.i64 (ndK (rdX s n (Int.toNat (↑y : Int)))), PV.int IntKind.i64 (ndN (rdX s n (Int.toNat (↑y : Int)))), PV.str (ndT (rdX s n (Int.toNat (↑y : Int)))), PV.slice (Nds.len (ndS (rdX s n (Int.toNat (↑y : Int))))) (Nds.cells (ndS (rdX s n (Int.toNat (↑y : Int))))), PV.int IntKind.i64 (ndA (rdX s n (Int.toNat (↑y : Int))))], n := 2, ty := 83, sz := 5 }] } }, { t := [(4, PV.ptr 1 0), (7, PV.ptr 2 0)], h := { bx := [{ cs := [PV.str s, PV.int IntKind.i64 (Int.ofNat (rdA s n (Int.toNat (Int.ofNat y)))), PV.int IntKind.i64 (rdE s n (Int.toNat (Int.ofNat y))), PV.int IntKind.i64 (rdF s n (Int.toNat (Int.ofNat y)))], ty := 98 }, { cs := [PV.int IntKind.i64 (0 : Int), PV.int IntKind.i64 (0 : Int), PV.str { data := #[] }, PV.nil, PV.int IntKind.i64 (0 : Int)], ty := 83 }, { cs := [PV.int IntKind.i64 (3 : Int), PV.int IntKind.i64 (0 : Int), PV.str { data := #[] }, PV.own 0 2, PV.int IntKind.i64 (Int.ofNat a)], ty := 83 }], rw := [some { cs := [PV.int IntKind.i64 (2 : Int), PV.int IntKind.i64 (0 : Int), PV.str { data := #[113, 117, 111, 116, 101] }, PV.nil, PV.int IntKind.i64 (Int.ofNat a), PV.int IntKind.i64 (ndK (rdX s n (Int.toNat (↑y : Int)))), PV.int IntKind.i64 (ndN (rdX s n (Int.toNat (↑y : Int)))), PV.str (ndT (rdX s n (Int.toNat (↑y : Int)))), PV.slice (Nds.len (ndS (rdX s n (Int.toNat (↑y : Int))))) (Nds.cells (ndS (rdX s n (Int.toNat (↑y : Int))))), PV.int IntKind.i64 (ndA (rdX s n (Int.toNat (↑y : Int))))], n := 2, ty := 83, sz := 5 }] } }, { t := [(4, PV.ptr 1 0), (7, PV.ptr 2 0)], h := { bx := [{ cs := [PV.str s, PV.int IntKind.i64 (Int.ofNat (rdA s n (Int.toNat (Int.ofNat y)))), PV.int IntKind.i64 (rdE s n (Int.toNat (Int.ofNat y))), PV.int IntKind.i64 (rdF s n (Int.toNat (Int.ofNat y)))], ty := 98 }, { cs := [PV.int IntKind.i64 (0 : Int), PV.int IntKind.i64 (0 : Int), PV.str { data := #[] }, PV.nil, PV.int IntKind.i64 (0 : Int)], ty := 83 }, { cs := [PV.int IntKind.i64 (3 : Int), PV.int IntKind.i64 (0 : Int), PV.str { data := #[] }, PV.own 0 2, PV.int IntKind.i64 (Int.ofNat a)], ty := 83 }], rw := [some { cs := [PV.int IntKind.i64 (2 : Int), PV.int IntKind.i64 (0 : Int), PV.str { data := #[113, 117, 111, 116, 101] }, PV.nil, PV.int IntKind.i64 (Int.ofNat a), PV.int IntKind.i64 (ndK (rdX s n (Int.toNat (↑y : Int)))), PV.int IntKind.i64 (ndN (rdX s n (Int.toNat (↑y : Int)))), PV.str (ndT (rdX s n (Int.toNat (↑y : Int)))), PV.slice (Nds.len (ndS (rdX s n (Int.toNat (↑y : Int))))) (Nds.cells (ndS (rdX s n (Int.toNat (↑y : Int))))), PV.int IntKind.i64 (ndA (rdX s n (Int.toNat (↑y : Int))))], n := 2, ty := 83, sz := 5 }] } }, { t := [(4, PV.ptr 1 0), (7, PV.ptr 2 0)], h := { bx := [{ cs := [PV.str s, PV.int IntKind.i64 (Int.ofNat (rdA s n (Int.toNat (Int.ofNat y)))), PV.int IntKind.i64 (rdE s n (Int.toNat (Int.ofNat y))), PV.int IntKind.i64 (rdF s n (Int.toNat (Int.ofNat y)))], ty := 98 }, { cs := [PV.int IntKind.i64 (0 : Int), PV.int IntKind.i64 (0 : Int), PV.str { data := #[] }, PV.nil, PV.int IntKind.i64 (0 : Int)], ty := 83 }, { cs := [PV.int IntKind.i64 (3 : Int), PV.int IntKind.i64 (0 : Int), PV.str { data := #[] }, PV.own 0 2, PV.int IntKind.i64 (Int.ofNat a)], ty := 83 }], rw := [some { cs := [PV.int IntKind.i64 (2 : Int), PV.int IntKind.i64 (0 : Int), PV.str { data := #[113, 117, 111, 116, 101] }, PV.nil, PV.int IntKind.i64 (Int.ofNat a), PV.int IntKind.i64 (ndK (rdX s n (Int.toNat (↑y : Int)))), PV.int IntKind.i64 (ndN (rdX s n (Int.toNat (↑y : Int)))), PV.str (ndT (rdX s n (Int.toNat (↑y : Int)))), PV.slice (Nds.len (ndS (rdX s n (Int.toNat (↑y : Int))))) (Nds.cells (ndS (rdX s n (Int.toNat (↑y : Int))))), PV.int IntKind.i64 (ndA (rdX s n (Int.toNat (↑y : Int))))], n := 2, ty := 83, sz := 5 }] } }, { t := [(4, PV.ptr 1 0), (7, PV.ptr 2 0)], h := { bx := [{ cs := [PV.str s, PV.int IntKind.i64 (Int.ofNat (rdA s n (Int.toNat (Int.ofNat y)))), PV.int IntKind.i64 (rdE s n (Int.toNat (Int.ofNat y))), PV.int IntKind.i64 (rdF s n (Int.toNat (Int.ofNat y)))], ty := 98 }, { cs := [PV.int IntKind.i64 (0 : Int), PV.int IntKind.i64 (0 : Int), PV.str { data := #[] }, PV.nil, PV.int IntKind.i64 (0 : Int)], ty := 83 }, { cs := [PV.int IntKind.i64 (3 : Int), PV.int IntKind.i64 (0 : Int), PV.str { data := #[] }, PV.own 0 2, PV.int IntKind.i64 (Int.ofNat a)], ty := 83 }], rw := [some { cs := [PV.int IntKind.i64 (2 : Int), PV.int IntKind.i64 (0 : Int), PV.str { data := #[113, 117, 111, 116, 101] }, PV.nil, PV.int IntKind.i64 (Int.ofNat a), PV.int IntKind.i64 (ndK (rdX s n (Int.toNat (↑y : Int)))), PV.int IntKind.i64 (ndN (rdX s n (Int.toNat (↑y : Int)))), PV.str (ndT (rdX s n (Int.toNat (↑y : Int)))), PV.slice (Nds.len (ndS (rdX s n (Int.toNat (↑y : Int))))) (Nds.cells (ndS (rdX s n (Int.toNat (↑y : Int))))), PV.int IntKind.i64 (ndA (rdX s n (Int.toNat (↑y : Int))))], n := 2, ty := 83, sz := 5 }] } }, { t := [(4, PV.ptr 1 0), (7, PV.ptr 2 0)], h := { bx := [{ cs := [PV.str s, PV.int IntKind.i64 (Int.ofNat (rdA s n (Int.toNat (Int.ofNat y)))), PV.int IntKind.i64 (rdE s n (Int.toNat (Int.ofNat y))), PV.int IntKind.i64 (rdF s n (Int.toNat (Int.ofNat y)))], ty := 98 }, { cs := [PV.int IntKind.i64 (0 : Int), PV.int IntKind.i64 (0 : Int), PV.str { data := #[] }, PV.nil, PV.int IntKind.i64 (0 : Int)], ty := 83 }, { cs := [PV.int IntKind.i64 (3 : Int), PV.int IntKind.i64 (0 : Int), PV.str { data := #[] }, PV.own 0 2, PV.int IntKind.i64 (Int.ofNat a)], ty := 83 }], rw := [some { cs := [PV.int IntKind.i64 (2 : Int), PV.int IntKind.i64 (0 : Int), PV.str { data := #[113, 117, 111, 116, 101] }, PV.nil, PV.int IntKind.i64 (Int.ofNat a), PV.int IntKind.i64 (ndK (rdX s n (Int.toNat (↑y : Int)))), PV.int IntKind.i64 (ndN (rdX s n (Int.toNat (↑y : Int)))), PV.str (ndT (rdX s n (Int.toNat (↑y : Int)))), PV.slice (Nds.len (ndS (rdX s n (Int.toNat (↑y : Int))))) (Nds.cells (ndS (rdX s n (Int.toNat (↑y : Int))))), PV.int IntKind.i64 (ndA (rdX s n (Int.toNat (↑y : Int))))], n := 2, ty := 83, sz := 5 }] } }]) (o := [(same (PV.int IntKind.i64 (IntKind.wrap IntKind.i64 (w + (1 : Int)))) (PV.int IntKind.i64 ((1000 : Int) - Int.ofNat n)), true), (decide (0 ≤ (↑y : Int) ∧ (↑y : Int) ≤ (↑(ByteArray.size s) : Int)), true), (decide (1000 - (↑n : Int) = 1000 - (↑n : Int)), true), (Nat.ble (ByteArray.size s) 1099511627776, true), (true, true), (true, true), (true, true), (decide (0 ≤ (↑y : Int) ∧ (↑y : Int) ≤ (↑(ByteArray.size s) : Int)), true), (decide (1000 - (↑n : Int) = 1000 - (↑n : Int)), true), (Nat.ble (ByteArray.size s) 1099511627776, true), (true, true), (true, true), (true, true), (decide (0 ≤ (↑y : Int) ∧ (↑y : Int) ≤ (↑(ByteArray.size s) : Int)), true), (decide (1000 - (↑n : Int) = 1000 - (↑n : Int)), true), (Nat.ble (ByteArray.size s) 1099511627776, true), (true, true), (true, true), (true, true), (decide (0 ≤ (↑y : Int) ∧ (↑y : Int) ≤ (↑(ByteArray.size s) : Int)), true), (decide (1000 - (↑n : Int) = 1000 - (↑n : Int)), true), (Nat.ble (ByteArray.size s) 1099511627776, true), (true, true), (true, true), (true, true), (decide (0 ≤ (↑y : Int) ∧ (↑y : Int) ≤ (↑(ByteArray.size s) : Int)), true), (decide (1000 - (↑n : Int) = 1000 - (↑n : Int)), true), (Nat.ble (ByteArray.size s) 1099511627776, true), (true, true), (true, true), (true, true), (decide (0 ≤ (↑y : Int) ∧ (↑y : Int) ≤ (↑(ByteArray.size s) : Int)), true), (decide (1000 - (↑n : Int) = 1000 - (↑n : Int)), true), (Nat.ble (ByteArray.size s) 1099511627776, true), (true, true), (true, true), (true, true), (decide (0 ≤ (↑y : Int) ∧ (↑y : Int) ≤ (↑(ByteArray.size s) : Int)), true), (decide (1000 - (↑n : Int) = 1000 - (↑n : Int)), true), (Nat.ble (ByteArray.size s) 1099511627776, true), (true, true), (true, true), (true, true), (decide (0 ≤ (↑y : Int) ∧ (↑y : Int) ≤ (↑(ByteArray.size s) : Int)), true), (decide (1000 - (↑n : Int) = 1000 - (↑n : Int)), true), (Nat.ble (ByteArray.size s) 1099511627776, true), (true, true), (true, true), (true, true), (decide (0 ≤ (↑y : Int) ∧ (↑y : Int) ≤ (↑(ByteArray.size s) : Int)), true), (decide (1000 - (↑n : Int) = 1000 - (↑n : Int)), true), (Nat.ble (ByteArray.size s) 1099511627776, true), (true, true), (true, true), (true, true)]) (by kernel_rfl) (by ((repeat' (first | exact okO_nil | refine okN ?_ ?_)); all_goals first | assumption | rfl | exact same_of rfl | exact sameS_self _ | (simp only [decide_eq_true_eq, decide_eq_false_iff_not, Nat.ble_eq, Nat.beq_eq, beq_eq_false_iff_ne, beq_iff_eq, ne_eq] <;> omega))) (fun st hst => hK2 st (.norm [4, 7] ?_))
          have hst2 : nrm [4, 7] st = ⟨[(4, .ptr 1 0), (7, .ptr 2 0)], ⟨[rB s (rdA s n y) (rdE s n y) (rdF s n y), nZ, nL a (.own 0 2)], [some (nR ([.int .i64 2, .int .i64 0, .str wQuote, .nil, .int .i64 a] ++ ndC (rdX s n y)) 2)]⟩⟩ := by
            simp only [List.mem_cons, List.not_mem_nil, or_false, or_self] at hst
            exact hst
          rw [hst2]
          obtain ⟨rr, hrr⟩ : ∃ rr, rr = [.int .i64 2, .int .i64 0, .str wQuote, .nil, .int .i64 a] ++ ndC (rdX s n y) := ⟨_, rfl⟩
          rw [← hrr]
          obtain ⟨p, hp⟩ : ∃ p, p = rdA s n y := ⟨_, rfl⟩
          obtain ⟨pe, hpe⟩ : ∃ p, p = rdE s n y := ⟨_, rfl⟩
          obtain ⟨pb, hpb⟩ : ∃ p, p = rdF s n y := ⟨_, rfl⟩
          rw [← hp, ← hpe, ← hpb]
          refine SWP.frz [0] ?_
          exact SWP.runQ (SRd true n ih [] []) 100 150 hnt [4] (e := .ret) (z := { t := [(4, PV.ptr 1 0)], h := { bx := [{ cs := [PV.str s, PV.int IntKind.i64 (Int.ofNat p), PV.int IntKind.i64 pe, PV.int IntKind.i64 pb], ty := 98 }, { cs := [PV.int IntKind.i64 (3 : Int), PV.int IntKind.i64 (0 : Int), PV.str { data := #[] }, PV.slice 2 rr, PV.int IntKind.i64 (Int.ofNat a)], ty := 83 }, { cs := [PV.int IntKind.i64 (3 : Int), PV.int IntKind.i64 (0 : Int), PV.str { data := #[] }, PV.slice 2 rr, PV.int IntKind.i64 (Int.ofNat a)], ty := 83 }], rw := [none] } }) (o := []) (by kernel_rfl) (by ((repeat' (first | exact okO_nil | refine okN ?_ ?_)); all_goals first | assumption | rfl | exact same_of rfl | exact sameS_self _ | (simp only [decide_eq_true_eq, decide_eq_false_iff_not, Nat.ble_eq, Nat.beq_eq, beq_eq_false_iff_ne, beq_iff_eq, ne_eq] <;> omega))) (fun st hst => fin st (.mk 3 0 ⟨#[]⟩ (.cons (.mk 2 0 wQuote .nil a) (.cons (rdX s n y) .nil)) a) p pe pb (.slice 2 rr) [⟨[.int .i64 3, .int .i64 0, .str ⟨#[]⟩, .slice 2 rr, .int .i64 a], 83⟩] [none] (by rw [eq, hp, hpe, hpb]; rfl) (.inr (.inr ⟨_, _, rfl, by rw [hrr]⟩)) hst)
        · have e88 := beqF h39
          rw [if_neg h39] at eq
          refine Q.runSeq (SRd true n ih [(150, [(88, false)])] []) 100 150 hnt [0, 1, 4, 7] (z := { t := [(0, PV.ptr 0 0), (1, PV.int IntKind.i64 w), (4, PV.ptr 1 0), (7, PV.ptr 2 0)], h := { bx := [{ cs := [PV.str s, PV.int IntKind.i64 (Int.ofNat y), PV.int IntKind.i64 (0 : Int), PV.int IntKind.i64 (0 : Int)], ty := 98 }, { cs := [PV.int IntKind.i64 (0 : Int), PV.int IntKind.i64 (0 : Int), PV.str { data := #[] }, PV.nil, PV.int IntKind.i64 (0 : Int)], ty := 83 }, { cs := [PV.int IntKind.i64 (3 : Int), PV.int IntKind.i64 (0 : Int), PV.str { data := #[] }, PV.nil, PV.int IntKind.i64 (Int.ofNat a)], ty := 83 }], rw := [] } }) (o := [(bt s (Int.ofNat a) == (39 : Int), false), (false, false)]) (by kernel_rfl) (by ((repeat' (first | exact okO_nil | refine okN ?_ ?_)); all_goals first | assumption | rfl | exact same_of rfl | exact sameS_self _ | (simp only [decide_eq_true_eq, decide_eq_false_iff_not, Nat.ble_eq, Nat.beq_eq, beq_eq_false_iff_ne, beq_iff_eq, ne_eq] <;> omega))) ?_
          refine SWP.adoptB 2 3 83 5 rfl rfl ?_
          refine Q.seq fun K hK => ?_
          refine Q.block ?_
          let T (r : RS) (l : Nds) : AS := ⟨[(0, .ptr 0 0), (1, .int .i64 w), (4, .ptr 1 0), (7, .ptr 2 0)], ⟨[rB s r.a r.e r.b, nZ, nL a (.own 0 l.len)], [some (nR l.cells l.len)]⟩⟩
          have hst := rdD_steps s n
          refine Q.loopI (σ := { x : RS × Nds × Nat // x.1.In s n ∧ (x.1.e = 0 → s.size + 1 - x.1.a ≤ x.2.2) ∧ x.2.1.len + x.2.2 ≤ s.size + 1 ∧ rdL (rdD s n) s x.2.2 x.1 x.2.1 = rdL (rdD s n) s (s.size + 1) ⟨y, 0, 0⟩ .nil }) [0, 1, 4, 7] (fun x => T x.1.1 x.1.2.1) (fun x => x.1.2.2) ⟨(⟨y, 0, 0⟩, .nil, s.size + 1), In0 hy2, fun _ => Nat.sub_le _ _, by simp [Nds.len], rfl⟩ rfl fun ⟨(⟨x, e, b⟩, l, k), hin, hk, hlen, hrd⟩ => ?_
          have hin : RS.In s n ⟨x, e, b⟩ := hin
          have hk : e = 0 → s.size + 1 - x ≤ k := hk
          have hlen : l.len + k ≤ s.size + 1 := hlen
          have hrd : rdL (rdD s n) s k ⟨x, e, b⟩ l = rdL (rdD s n) s (s.size + 1) ⟨y, 0, 0⟩ .nil := hrd
          have hle : x ≤ s.size + n := hin.le
          show SWP G0 C _ _ ⟨[(0, .ptr 0 0), (1, .int .i64 w), (4, .ptr 1 0), (7, .ptr 2 0)], ⟨[rB s x e b, nZ, nL a (.own 0 l.len)], [some (nR l.cells l.len)]⟩⟩
          obtain ⟨m, hm⟩ : ∃ m, m = l.len := ⟨_, rfl⟩
          obtain ⟨rc, hrc⟩ : ∃ rc, rc = l.cells := ⟨_, rfl⟩
          refine swp_st (st' := ⟨[(0, .ptr 0 0), (1, .int .i64 w), (4, .ptr 1 0), (7, .ptr 2 0)], ⟨[rB s x e b, nZ, nL a (.own 0 m)], [some (nR rc m)]⟩⟩) (by rw [hm, hrc]) ?_
          rw [← hm] at hlen
          have out : goes s ⟨x, e, b⟩ = false → ∀ st, nrm [0, 1, 4, 7] st = ⟨[(0, .ptr 0 0), (1, .int .i64 w), (4, .ptr 1 0), (7, .ptr 2 0)], ⟨[rB s x e b, nZ, nL a (.own 0 m)], [some (nR rc m)]⟩⟩ → K st := fun hg st hst => hK st (.norm [0, 1, 4, 7] (by
            rw [hst]
            rw [rdL_stop hg] at hrd
            rw [← hrd] at eq
            have wx : IntKind.wrap IntKind.i64 (Int.ofNat (x + 1)) = ((x + 1 : Nat) : Int) := wrapI (x + 1) (by omega)
            refine Q.runSeq (SRd true n ih [] []) 100 150 hnt [4, 7] (z := { t := [(4, PV.ptr 1 0), (7, PV.ptr 2 0)], h := { bx := [{ cs := [PV.str s, PV.int IntKind.i64 (IntKind.wrap IntKind.i64 (Int.ofNat (x + 1))), PV.int IntKind.i64 e, PV.int IntKind.i64 b], ty := 98 }, { cs := [PV.int IntKind.i64 (0 : Int), PV.int IntKind.i64 (0 : Int), PV.str { data := #[] }, PV.nil, PV.int IntKind.i64 (0 : Int)], ty := 83 }, { cs := [PV.int IntKind.i64 (3 : Int), PV.int IntKind.i64 (0 : Int), PV.str { data := #[] }, PV.own 0 m, PV.int IntKind.i64 (Int.ofNat a)], ty := 83 }], rw := [some { cs := rc, n := m, ty := 83, sz := 5 }] } }) (o := []) (by kernel_rfl) (by ((repeat' (first | exact okO_nil | refine okN ?_ ?_)); all_goals first | assumption | rfl | exact same_of rfl | exact sameS_self _ | (simp only [decide_eq_true_eq, decide_eq_false_iff_not, Nat.ble_eq, Nat.beq_eq, beq_eq_false_iff_ne, beq_iff_eq, ne_eq] <;> omega))) ?_
            rw [wx]
            obtain ⟨p, hp⟩ : ∃ p, p = x + 1 := ⟨_, rfl⟩
            rw [← hp]
            refine SWP.frz [0] ?_
            exact SWP.runQ (SRd true n ih [] []) 100 150 hnt [4] (e := .ret) (z := { t := [(4, PV.ptr 1 0)], h := { bx := [{ cs := [PV.str s, PV.int IntKind.i64 (Int.ofNat p), PV.int IntKind.i64 e, PV.int IntKind.i64 b], ty := 98 }, { cs := [PV.int IntKind.i64 (3 : Int), PV.int IntKind.i64 (0 : Int), PV.str { data := #[] }, PV.slice m rc, PV.int IntKind.i64 (Int.ofNat a)], ty := 83 }, { cs := [PV.int IntKind.i64 (3 : Int), PV.int IntKind.i64 (0 : Int), PV.str { data := #[] }, PV.slice m rc, PV.int IntKind.i64 (Int.ofNat a)], ty := 83 }], rw := [none] } }) (o := []) (by kernel_rfl) (by ((repeat' (first | exact okO_nil | refine okN ?_ ?_)); all_goals first | assumption | rfl | exact same_of rfl | exact sameS_self _ | (simp only [decide_eq_true_eq, decide_eq_false_iff_not, Nat.ble_eq, Nat.beq_eq, beq_eq_false_iff_ne, beq_iff_eq, ne_eq] <;> omega))) (fun st hst => fin st (.mk 3 0 ⟨#[]⟩ l a) p e b (.slice m rc) [⟨[.int .i64 3, .int .i64 0, .str ⟨#[]⟩, .slice m rc, .int .i64 a], 83⟩] [none] (by rw [eq, hp]) (.inl (by rw [hm, hrc]; rfl)) hst)))
          by_cases he : e = 0
          · subst he
            obtain ⟨hx, hb⟩ := hin.ok rfl
            have hb : b = 0 := hb
            subst hb
            have hx : x ≤ s.size := hx
            have hk := hk rfl
            obtain ⟨k, rfl⟩ : ∃ j, k = j + 1 := ⟨k - 1, by omega⟩
            have dx : decide (0 ≤ (x : Int) ∧ (x : Int) ≤ (s.size : Int)) = true := by rw [decide_eq_true_eq]; omega
            refine Q.seq fun K2 hK2 => ?_
            have cont : goes s ⟨x, 0, 0⟩ = true → ∀ st, nrm [0, 1, 4, 7] st = ⟨[(0, .ptr 0 0), (1, .int .i64 w), (4, .ptr 1 0), (7, .ptr 2 0)], ⟨[rB s x 0 0, nZ, nL a (.own 0 m)], [some (nR rc m)]⟩⟩ → K2 st := fun hg st hst' => hK2 st (.norm [0, 1, 4, 7] (by
              rw [hst']
              clear hst' hK2 hK
              rw [rdL, if_pos hg] at hrd
              have h2 := hst x hx
              refine Q.block ?_
              refine Q.seq fun K3 hK3 => ?_
              refine SWP.runLQ (SRd true n ih [(150, [(138, true)])] [(150, [(135, .int .i64 (1000 - (n : Int)))])]) 100 150 hnt [0, 1, 4, 7] (l := [{ t := [(0, PV.ptr 0 0), (1, PV.int IntKind.i64 w), (4, PV.ptr 1 0), (7, PV.ptr 2 0)], h := { bx := [{ cs := [PV.str s, PV.int IntKind.i64 (Int.ofNat (rdA s n (Int.toNat (Int.ofNat x)))), PV.int IntKind.i64 (rdE s n (Int.toNat (Int.ofNat x))), PV.int IntKind.i64 (rdF s n (Int.toNat (Int.ofNat x)))], ty := 98 }, { cs := [PV.int IntKind.i64 (0 : Int), PV.int IntKind.i64 (0 : Int), PV.str { data := #[] }, PV.nil, PV.int IntKind.i64 (0 : Int)], ty := 83 }, { cs := [PV.int IntKind.i64 (3 : Int), PV.int IntKind.i64 (0 : Int), PV.str { data := #[] }, PV.own 0 (m + 1), PV.int IntKind.i64 (Int.ofNat a)], ty := 83 }], rw := [some { cs := rc ++ [PV.int IntKind.i64 (ndK (rdX s n (Int.toNat (↑x : Int)))), PV.int IntKind.i64 (ndN (rdX s n (Int.toNat (↑x : Int)))), PV.str (ndT (rdX s n (Int.toNat (↑x : Int)))), PV.slice (Nds.len (ndS (rdX s n (Int.toNat (↑x : Int))))) (Nds.cells (ndS (rdX s n (Int.toNat (↑x : Int))))), PV.int IntKind.i64 (ndA (rdX s n (Int.toNat (↑x : Int))))], n := m + 1, ty := 83, sz := 5 }] } }, { t := [(0, PV.ptr 0 0), (1, PV.int IntKind.i64 w), (4, PV.ptr 1 0), (7, PV.ptr 2 0)], h := { bx := [{ cs := [PV.str s, PV.int IntKind.i64 (Int.ofNat (rdA s n (Int.toNat (Int.ofNat x)))), PV.int IntKind.i64 (rdE s n (Int.toNat (Int.ofNat x))), PV.int IntKind.i64 (rdF s n (Int.toNat (Int.ofNat x)))], ty := 98 }, { cs := [PV.int IntKind.i64 (0 : Int), PV.int IntKind.i64 (0 : Int), PV.str { data := #[] }, PV.nil, PV.int IntKind.i64 (0 : Int)], ty := 83 }, { cs := [PV.int IntKind.i64 (3 : Int), PV.int IntKind.i64 (0 : Int), PV.str { data := #[] }, PV.own 0 (m + 1), PV.int IntKind.i64 (Int.ofNat a)], ty := 83 }], rw := [some { cs := rc ++ [PV.int IntKind.i64 (ndK (rdX s n (Int.toNat (↑x : Int)))), PV.int IntKind.i64 (ndN (rdX s n (Int.toNat (↑x : Int)))), PV.str (ndT (rdX s n (Int.toNat (↑x : Int)))), PV.slice (Nds.len (ndS (rdX s n (Int.toNat (↑x : Int))))) (Nds.cells (ndS (rdX s n (Int.toNat (↑x : Int))))), PV.int IntKind.i64 (ndA (rdX s n (Int.toNat (↑x : Int))))], n := m + 1, ty := 83, sz := 5 }] } }, { t := [(0, PV.ptr 0 0), (1, PV.int IntKind.i64 w), (4, PV.ptr 1 0), (7, PV.ptr 2 0)], h := { bx := [{ cs := [PV.str s, PV.int IntKind.i64 (Int.ofNat (rdA s n (Int.toNat (Int.ofNat x)))), PV.int IntKind.i64 (rdE s n (Int.toNat (Int.ofNat x))), PV.int IntKind.i64 (rdF s n (Int.toNat (Int.ofNat x)))], ty := 98 }, { cs := [PV.int IntKind.i64 (0 : Int), PV.int IntKind.i64 (0 : Int), PV.str { data := #[] }, PV.nil, PV.int IntKind.i64 (0 : Int)], ty := 83 }, { cs := [PV.int IntKind.i64 (3 : Int), PV.int IntKind.i64 (0 : Int), PV.str { data := #[] }, PV.own 0 (m + 1), PV.int IntKind.i64 (Int.ofNat a)], ty := 83 }], rw := [some { cs := rc ++ [PV.int IntKind.i64 (ndK (rdX s n (Int.toNat (↑x : Int)))), PV.int IntKind.i64 (ndN (rdX s n (Int.toNat (↑x : Int)))), PV.str (ndT (rdX s n (Int.toNat (↑x : Int)))), PV.slice (Nds.len (ndS (rdX s n (Int.toNat (↑x : Int))))) (Nds.cells (ndS (rdX s n (Int.toNat (↑x : Int))))), PV.int IntKind.i64 (ndA (rdX s n (Int.toNat (↑x : Int))))], n := m + 1, ty := 83, sz := 5 }] } }]) (o := [(same (PV.int IntKind.i64 (IntKind.wrap IntKind.i64 (w + (1 : Int)))) (PV.int IntKind.i64 ((1000 : Int) - Int.ofNat n)), true), (decide (0 ≤ (↑x : Int) ∧ (↑x : Int) ≤ (↑(ByteArray.size s) : Int)), true), (decide (1000 - (↑n : Int) = 1000 - (↑n : Int)), true), (Nat.ble (ByteArray.size s) 1099511627776, true), (true, true), (Nat.ble ((m + 1) * 64) 140737488355328, true), (Nat.ble (m + 1) 9223372036854775807, true), (decide (0 ≤ (↑x : Int) ∧ (↑x : Int) ≤ (↑(ByteArray.size s) : Int)), true), (decide (1000 - (↑n : Int) = 1000 - (↑n : Int)), true), (Nat.ble (ByteArray.size s) 1099511627776, true), (true, true), (Nat.ble ((m + 1) * 64) 140737488355328, true), (Nat.ble (m + 1) 9223372036854775807, true), (decide (0 ≤ (↑x : Int) ∧ (↑x : Int) ≤ (↑(ByteArray.size s) : Int)), true), (decide (1000 - (↑n : Int) = 1000 - (↑n : Int)), true), (Nat.ble (ByteArray.size s) 1099511627776, true), (true, true), (Nat.ble ((m + 1) * 64) 140737488355328, true), (Nat.ble (m + 1) 9223372036854775807, true)]) (by kernel_rfl) (by ((repeat' (first | exact okO_nil | refine okN ?_ ?_)); all_goals first | assumption | rfl | exact same_of rfl | exact sameS_self _ | (simp only [decide_eq_true_eq, decide_eq_false_iff_not, Nat.ble_eq, Nat.beq_eq, beq_eq_false_iff_ne, beq_iff_eq, ne_eq] <;> omega))) (fun st hst => hK3 st (.norm [0, 1, 4, 7] ?_))
              have hst2 : nrm [0, 1, 4, 7] st = ⟨[(0, .ptr 0 0), (1, .int .i64 w), (4, .ptr 1 0), (7, .ptr 2 0)], ⟨[rB s (rdA s n x) (rdE s n x) (rdF s n x), nZ, nL a (.own 0 (m + 1))], [some (nR (rc ++ ndC (rdX s n x)) (m + 1))]⟩⟩ := by
                simp only [List.mem_cons, List.not_mem_nil, or_false, or_self] at hst
                exact hst
              rw [hst2]
              have g1 : (rdD s n x).2 = ⟨rdA s n x, rdE s n x, rdF s n x⟩ := rfl
              have g2 : (rdD s n x).1 = rdX s n x := rfl
              have g3 : m + 1 = (l.snoc (rdX s n x)).len := by rw [Nds.snoc_len, hm]
              have g4 : rc ++ ndC (rdX s n x) = (l.snoc (rdX s n x)).cells := by rw [Nds.snoc_cells, hrc, ndC_eq]
              rw [g1, g2] at hrd
              rw [g1] at h2
              obtain ⟨p, hp⟩ : ∃ p, p = rdA s n x := ⟨_, rfl⟩
              obtain ⟨pe, hpe⟩ : ∃ p, p = rdE s n x := ⟨_, rfl⟩
              obtain ⟨pb, hpb⟩ : ∃ p, p = rdF s n x := ⟨_, rfl⟩
              rw [← hp, ← hpe, ← hpb] at h2 hrd ⊢
              have i1 : pe = 0 → s.size + 1 - skp s p ≤ k := fun he => by
                have h3 : x < p := h2.2 he
                have : p ≤ skp s p := skp_ge s p
                omega
              have i2 : (l.snoc (rdX s n x)).len + k ≤ s.size + 1 := by rw [← g3]; omega
              rw [g3, g4]
              obtain ⟨mm, hmm⟩ : ∃ m, m = (l.snoc (rdX s n x)).len := ⟨_, rfl⟩
              obtain ⟨rr, hrr⟩ : ∃ m, m = (l.snoc (rdX s n x)).cells := ⟨_, rfl⟩
              rw [← hmm, ← hrr]
              exact SWP.runQ (SRd true n ih [] []) 100 150 hnt [0, 1, 4, 7] (e := .normal) (z := { t := [(0, PV.ptr 0 0), (1, PV.int IntKind.i64 w), (4, PV.ptr 1 0), (7, PV.ptr 2 0)], h := { bx := [{ cs := [PV.str s, PV.int IntKind.i64 (Int.ofNat (skp s (Int.toNat (Int.ofNat p)))), PV.int IntKind.i64 pe, PV.int IntKind.i64 pb], ty := 98 }, { cs := [PV.int IntKind.i64 (0 : Int), PV.int IntKind.i64 (0 : Int), PV.str { data := #[] }, PV.nil, PV.int IntKind.i64 (0 : Int)], ty := 83 }, { cs := [PV.int IntKind.i64 (3 : Int), PV.int IntKind.i64 (0 : Int), PV.str { data := #[] }, PV.own 0 mm, PV.int IntKind.i64 (Int.ofNat a)], ty := 83 }], rw := [some { cs := rr, n := mm, ty := 83, sz := 5 }] } }) (o := [(true, true), (Nat.ble (ByteArray.size s) 1099511627776, true)]) (by kernel_rfl) (by ((repeat' (first | exact okO_nil | refine okN ?_ ?_)); all_goals first | assumption | rfl | exact same_of rfl | exact sameS_self _ | (simp only [decide_eq_true_eq, decide_eq_false_iff_not, Nat.ble_eq, Nat.beq_eq, beq_eq_false_iff_ne, beq_iff_eq, ne_eq] <;> omega))) (fun st hst => ⟨⟨(⟨skp s p, pe, pb⟩, l.snoc (rdX s n x), k), h2.1.skp, i1, i2, hrd⟩, Nat.lt_succ_self k, by rw [hst, hmm, hrr]; rfl⟩)))
            have go : goes s ⟨x, 0, 0⟩ = !(decide (x < s.size) && bt s (x : Int) == 41) := rfl
            rcases Nat.lt_or_ge x s.size with hl2 | hg2
            · have b1 := sameB (lt_at hl2)
              have b2 := in_at hl2
              by_cases h41 : bt s (x : Int) = 41
              · have b3 := sameB (beqT h41)
                exact SWP.runQ (SRd true n ih [(150, [(126, true)])] [(150, [(116, .bool true), (127, .bool true)])]) 100 150 hnt [0, 1, 4, 7] (e := .exit 0) (z := { t := [(0, PV.ptr 0 0), (1, PV.int IntKind.i64 w), (4, PV.ptr 1 0), (7, PV.ptr 2 0)], h := { bx := [{ cs := [PV.str s, PV.int IntKind.i64 (Int.ofNat x), PV.int IntKind.i64 (0 : Int), PV.int IntKind.i64 (0 : Int)], ty := 98 }, { cs := [PV.int IntKind.i64 (0 : Int), PV.int IntKind.i64 (0 : Int), PV.str { data := #[] }, PV.nil, PV.int IntKind.i64 (0 : Int)], ty := 83 }, { cs := [PV.int IntKind.i64 (3 : Int), PV.int IntKind.i64 (0 : Int), PV.str { data := #[] }, PV.own 0 m, PV.int IntKind.i64 (Int.ofNat a)], ty := 83 }], rw := [some { cs := rc, n := m, ty := 83, sz := 5 }] } }) (o := [(same (PV.bool (decide ((↑x : Int) < (↑(ByteArray.size s) : Int)))) (PV.bool true), true), (decide (0 ≤ (↑x : Int) ∧ (↑x : Int) < (↑(ByteArray.size s) : Int)), true), (same (PV.bool (bt s (Int.ofNat x) == (41 : Int))) (PV.bool true), true)]) (by kernel_rfl) (by ((repeat' (first | exact okO_nil | refine okN ?_ ?_)); all_goals first | assumption | rfl | exact same_of rfl | exact sameS_self _ | (simp only [decide_eq_true_eq, decide_eq_false_iff_not, Nat.ble_eq, Nat.beq_eq, beq_eq_false_iff_ne, beq_iff_eq, ne_eq] <;> omega))) (out (by rw [go, decide_eq_true hl2, beqT h41]; rfl))
              · have b3 := sameB (beqF h41)
                exact SWP.runQ (SRd true n ih [(150, [(126, true)])] [(150, [(116, .bool true), (127, .bool false)])]) 100 150 hnt [0, 1, 4, 7] (e := .normal) (z := { t := [(0, PV.ptr 0 0), (1, PV.int IntKind.i64 w), (4, PV.ptr 1 0), (7, PV.ptr 2 0)], h := { bx := [{ cs := [PV.str s, PV.int IntKind.i64 (Int.ofNat x), PV.int IntKind.i64 (0 : Int), PV.int IntKind.i64 (0 : Int)], ty := 98 }, { cs := [PV.int IntKind.i64 (0 : Int), PV.int IntKind.i64 (0 : Int), PV.str { data := #[] }, PV.nil, PV.int IntKind.i64 (0 : Int)], ty := 83 }, { cs := [PV.int IntKind.i64 (3 : Int), PV.int IntKind.i64 (0 : Int), PV.str { data := #[] }, PV.own 0 m, PV.int IntKind.i64 (Int.ofNat a)], ty := 83 }], rw := [some { cs := rc, n := m, ty := 83, sz := 5 }] } }) (o := [(same (PV.bool (decide ((↑x : Int) < (↑(ByteArray.size s) : Int)))) (PV.bool true), true), (decide (0 ≤ (↑x : Int) ∧ (↑x : Int) < (↑(ByteArray.size s) : Int)), true), (same (PV.bool (bt s (Int.ofNat x) == (41 : Int))) (PV.bool false), true)]) (by kernel_rfl) (by ((repeat' (first | exact okO_nil | refine okN ?_ ?_)); all_goals first | assumption | rfl | exact same_of rfl | exact sameS_self _ | (simp only [decide_eq_true_eq, decide_eq_false_iff_not, Nat.ble_eq, Nat.beq_eq, beq_eq_false_iff_ne, beq_iff_eq, ne_eq] <;> omega))) (cont (by rw [go, decide_eq_true hl2, beqF h41]; rfl))
            · have b1 := sameB (ge_at hg2)
              exact SWP.runQ (SRd true n ih [] [(150, [(116, .bool false)])]) 100 150 hnt [0, 1, 4, 7] (e := .normal) (z := { t := [(0, PV.ptr 0 0), (1, PV.int IntKind.i64 w), (4, PV.ptr 1 0), (7, PV.ptr 2 0)], h := { bx := [{ cs := [PV.str s, PV.int IntKind.i64 (Int.ofNat x), PV.int IntKind.i64 (0 : Int), PV.int IntKind.i64 (0 : Int)], ty := 98 }, { cs := [PV.int IntKind.i64 (0 : Int), PV.int IntKind.i64 (0 : Int), PV.str { data := #[] }, PV.nil, PV.int IntKind.i64 (0 : Int)], ty := 83 }, { cs := [PV.int IntKind.i64 (3 : Int), PV.int IntKind.i64 (0 : Int), PV.str { data := #[] }, PV.own 0 m, PV.int IntKind.i64 (Int.ofNat a)], ty := 83 }], rw := [some { cs := rc, n := m, ty := 83, sz := 5 }] } }) (o := [(same (PV.bool (decide ((↑x : Int) < (↑(ByteArray.size s) : Int)))) (PV.bool false), true)]) (by kernel_rfl) (by ((repeat' (first | exact okO_nil | refine okN ?_ ?_)); all_goals first | assumption | rfl | exact same_of rfl | exact sameS_self _ | (simp only [decide_eq_true_eq, decide_eq_false_iff_not, Nat.ble_eq, Nat.beq_eq, beq_eq_false_iff_ne, beq_iff_eq, ne_eq] <;> omega))) (cont (by rw [go, decide_eq_false (by omega)]; rfl))
          · have b1 := sameB (beqF he)
            refine Q.seq fun K2 hK2 => ?_
            exact SWP.runQ (SRd true n ih [] [(150, [(105, .bool false)])]) 100 150 hnt [0, 1, 4, 7] (e := .exit 0) (z := { t := [(0, PV.ptr 0 0), (1, PV.int IntKind.i64 w), (4, PV.ptr 1 0), (7, PV.ptr 2 0)], h := { bx := [{ cs := [PV.str s, PV.int IntKind.i64 (Int.ofNat x), PV.int IntKind.i64 e, PV.int IntKind.i64 b], ty := 98 }, { cs := [PV.int IntKind.i64 (0 : Int), PV.int IntKind.i64 (0 : Int), PV.str { data := #[] }, PV.nil, PV.int IntKind.i64 (0 : Int)], ty := 83 }, { cs := [PV.int IntKind.i64 (3 : Int), PV.int IntKind.i64 (0 : Int), PV.str { data := #[] }, PV.own 0 m, PV.int IntKind.i64 (Int.ofNat a)], ty := 83 }], rw := [some { cs := rc, n := m, ty := 83, sz := 5 }] } }) (o := [(same (PV.bool (e == (0 : Int))) (PV.bool false), true)]) (by kernel_rfl) (by ((repeat' (first | exact okO_nil | refine okN ?_ ?_)); all_goals first | assumption | rfl | exact same_of rfl | exact sameS_self _ | (simp only [decide_eq_true_eq, decide_eq_false_iff_not, Nat.ble_eq, Nat.beq_eq, beq_eq_false_iff_ne, beq_iff_eq, ne_eq] <;> omega))) (out (goes_err he))))
      by_cases h39 : bt s (a : Int) = 39
      · have e62 := beqT h39
        by_cases hn0 : n = 0
        · have e66 : decide (1000 ≤ IntKind.wrap IntKind.i64 (w + 1)) = true := by rw [w2, decide_eq_true_eq]; omega
          have eq' : rdD s (n + 1) a = (.zero, ⟨a, 3, a⟩) := by rw [eq]; simp only []; rw [if_pos ⟨h39, hn0⟩]
          exact SWP.runQ (SRd true n ih [(150, [(59, false), (62, true), (66, true)])] []) 100 150 hnt [4] (e := .ret) (z := { t := [(4, PV.ptr 1 0)], h := { bx := [{ cs := [PV.str s, PV.int IntKind.i64 (Int.ofNat a), PV.int IntKind.i64 (3 : Int), PV.int IntKind.i64 (Int.ofNat a)], ty := 98 }, { cs := [PV.int IntKind.i64 (0 : Int), PV.int IntKind.i64 (0 : Int), PV.str { data := #[] }, PV.nil, PV.int IntKind.i64 (0 : Int)], ty := 83 }], rw := [] } }) (o := [(decide (1000 ≤ w), false), (bt s (Int.ofNat a) == (39 : Int), true), (decide (1000 ≤ IntKind.wrap IntKind.i64 (w + 1)), true)]) (by kernel_rfl) (by ((repeat' (first | exact okO_nil | refine okN ?_ ?_)); all_goals first | assumption | rfl | exact same_of rfl | exact sameS_self _ | (simp only [decide_eq_true_eq, decide_eq_false_iff_not, Nat.ble_eq, Nat.beq_eq, beq_eq_false_iff_ne, beq_iff_eq, ne_eq] <;> omega))) (fun st hst => fin st .zero a 3 a .nil [] [] eq' (.inr (.inl ⟨rfl, rfl⟩)) hst)
        · have e66 : decide (1000 ≤ IntKind.wrap IntKind.i64 (w + 1)) = false := by rw [w2, decide_eq_false_iff_not]; omega
          exact SWP.runQ (SRd true n ih [(150, [(59, false), (62, true), (66, false)])] []) 100 150 hnt [0, 1, 4, 5, 6] (e := .normal) (z := { t := [(0, PV.ptr 0 0), (1, PV.int IntKind.i64 w), (4, PV.ptr 1 0), (5, PV.int IntKind.i64 (Int.ofNat a)), (6, PV.int IntKind.u8 (bt s (Int.ofNat a)))], h := { bx := [{ cs := [PV.str s, PV.int IntKind.i64 (Int.ofNat a), PV.int IntKind.i64 (0 : Int), PV.int IntKind.i64 (0 : Int)], ty := 98 }, { cs := [PV.int IntKind.i64 (0 : Int), PV.int IntKind.i64 (0 : Int), PV.str { data := #[] }, PV.nil, PV.int IntKind.i64 (0 : Int)], ty := 83 }], rw := [] } }) (o := [(decide (1000 ≤ w), false), (bt s (Int.ofNat a) == (39 : Int), true), (decide (1000 ≤ IntKind.wrap IntKind.i64 (w + 1)), false)]) (by kernel_rfl) (by ((repeat' (first | exact okO_nil | refine okN ?_ ?_)); all_goals first | assumption | rfl | exact same_of rfl | exact sameS_self _ | (simp only [decide_eq_true_eq, decide_eq_false_iff_not, Nat.ble_eq, Nat.beq_eq, beq_eq_false_iff_ne, beq_iff_eq, ne_eq] <;> omega))) (go8 (fun h => hn0 h.2))
      · have e62 := beqF h39
        exact SWP.runQ (SRd true n ih [(150, [(59, false), (62, false)])] []) 100 150 hnt [0, 1, 4, 5, 6] (e := .normal) (z := { t := [(0, PV.ptr 0 0), (1, PV.int IntKind.i64 w), (4, PV.ptr 1 0), (5, PV.int IntKind.i64 (Int.ofNat a)), (6, PV.int IntKind.u8 (bt s (Int.ofNat a)))], h := { bx := [{ cs := [PV.str s, PV.int IntKind.i64 (Int.ofNat a), PV.int IntKind.i64 (0 : Int), PV.int IntKind.i64 (0 : Int)], ty := 98 }, { cs := [PV.int IntKind.i64 (0 : Int), PV.int IntKind.i64 (0 : Int), PV.str { data := #[] }, PV.nil, PV.int IntKind.i64 (0 : Int)], ty := 83 }], rw := [] } }) (o := [(decide (1000 ≤ w), false), (bt s (Int.ofNat a) == (39 : Int), false)]) (by kernel_rfl) (by ((repeat' (first | exact okO_nil | refine okN ?_ ?_)); all_goals first | assumption | rfl | exact same_of rfl | exact sameS_self _ | (simp only [decide_eq_true_eq, decide_eq_false_iff_not, Nat.ble_eq, Nat.beq_eq, beq_eq_false_iff_ne, beq_iff_eq, ne_eq] <;> omega))) (go8 (fun h => h39 h.1))))
  by_cases h40 : bt s (a : Int) = 40
  · have e45 : (!bt s (a : Int) == (40 : Int)) = false := by rw [beqT h40]; rfl
    exact SWP.runQ (SRd u n ih [(150, [(45, false)])] []) 100 150 hnt [0, 1, 4, 5, 6] (e := .normal) (z := { t := [(0, PV.ptr 0 0), (1, PV.int IntKind.i64 w), (4, PV.ptr 1 0), (5, PV.int IntKind.i64 (Int.ofNat a)), (6, PV.int IntKind.u8 (bt s (Int.ofNat a)))], h := { bx := [{ cs := [PV.str s, PV.int IntKind.i64 (Int.ofNat a), PV.int IntKind.i64 (0 : Int), PV.int IntKind.i64 (0 : Int)], ty := 98 }, { cs := [PV.int IntKind.i64 (0 : Int), PV.int IntKind.i64 (0 : Int), PV.str { data := #[] }, PV.nil, PV.int IntKind.i64 (0 : Int)], ty := 83 }], rw := [] } }) (o := [(!bt s (Int.ofNat a) == (40 : Int), false)]) (by kernel_rfl) (by ((repeat' (first | exact okO_nil | refine okN ?_ ?_)); all_goals first | assumption | rfl | exact same_of rfl | exact sameS_self _ | (simp only [decide_eq_true_eq, decide_eq_false_iff_not, Nat.ble_eq, Nat.beq_eq, beq_eq_false_iff_ne, beq_iff_eq, ne_eq] <;> omega))) (go6 (fun h => h.1 h40))
  have e45 : (!bt s (a : Int) == (40 : Int)) = true := by rw [beqF h40]; rfl
  by_cases h39 : bt s (a : Int) = 39
  · have e48 : (!bt s (a : Int) == (39 : Int)) = false := by rw [beqT h39]; rfl
    exact SWP.runQ (SRd u n ih [(150, [(45, true), (48, false)])] []) 100 150 hnt [0, 1, 4, 5, 6] (e := .normal) (z := { t := [(0, PV.ptr 0 0), (1, PV.int IntKind.i64 w), (4, PV.ptr 1 0), (5, PV.int IntKind.i64 (Int.ofNat a)), (6, PV.int IntKind.u8 (bt s (Int.ofNat a)))], h := { bx := [{ cs := [PV.str s, PV.int IntKind.i64 (Int.ofNat a), PV.int IntKind.i64 (0 : Int), PV.int IntKind.i64 (0 : Int)], ty := 98 }, { cs := [PV.int IntKind.i64 (0 : Int), PV.int IntKind.i64 (0 : Int), PV.str { data := #[] }, PV.nil, PV.int IntKind.i64 (0 : Int)], ty := 83 }], rw := [] } }) (o := [(!bt s (Int.ofNat a) == (40 : Int), true), (!bt s (Int.ofNat a) == (39 : Int), false)]) (by kernel_rfl) (by ((repeat' (first | exact okO_nil | refine okN ?_ ?_)); all_goals first | assumption | rfl | exact same_of rfl | exact sameS_self _ | (simp only [decide_eq_true_eq, decide_eq_false_iff_not, Nat.ble_eq, Nat.beq_eq, beq_eq_false_iff_ne, beq_iff_eq, ne_eq] <;> omega))) (go6 (fun h => h.2.1 h39))
  have e48 : (!bt s (a : Int) == (39 : Int)) = true := by rw [beqF h39]; rfl
  cases hl : letC (bt s (a : Int)) with
  | true => exact SWP.runQ (SRd u n ih [(150, [(45, true), (48, true), (52, true)])] []) 100 150 hnt [0, 1, 4, 5, 6] (e := .normal) (z := { t := [(0, PV.ptr 0 0), (1, PV.int IntKind.i64 w), (4, PV.ptr 1 0), (5, PV.int IntKind.i64 (Int.ofNat a)), (6, PV.int IntKind.u8 (bt s (Int.ofNat a)))], h := { bx := [{ cs := [PV.str s, PV.int IntKind.i64 (Int.ofNat a), PV.int IntKind.i64 (0 : Int), PV.int IntKind.i64 (0 : Int)], ty := 98 }, { cs := [PV.int IntKind.i64 (0 : Int), PV.int IntKind.i64 (0 : Int), PV.str { data := #[] }, PV.nil, PV.int IntKind.i64 (0 : Int)], ty := 83 }], rw := [] } }) (o := [(!bt s (Int.ofNat a) == (40 : Int), true), (!bt s (Int.ofNat a) == (39 : Int), true), (true, true), (decide (0 ≤ bt s (↑a : Int) ∧ bt s (↑a : Int) < 256), true), (letC (bt s (Int.ofNat a)), true)]) (by kernel_rfl) (by ((repeat' (first | exact okO_nil | refine okN ?_ ?_)); all_goals first | assumption | rfl | exact same_of rfl | exact sameS_self _ | (simp only [decide_eq_true_eq, decide_eq_false_iff_not, Nat.ble_eq, Nat.beq_eq, beq_eq_false_iff_ne, beq_iff_eq, ne_eq] <;> omega))) (go6 (fun h => by rw [hl] at h; exact absurd h.2.2 (by decide)))
  | false =>
    rw [if_pos ⟨h40, h39, hl⟩] at eq
    exact SWP.runQ (SRd u n ih [(150, [(45, true), (48, true), (52, false)])] []) 100 150 hnt [4] (e := .ret) (z := { t := [(4, PV.ptr 1 0)], h := { bx := [{ cs := [PV.str s, PV.int IntKind.i64 (Int.ofNat a), PV.int IntKind.i64 (4 : Int), PV.int IntKind.i64 (Int.ofNat a)], ty := 98 }, { cs := [PV.int IntKind.i64 (0 : Int), PV.int IntKind.i64 (0 : Int), PV.str { data := #[] }, PV.nil, PV.int IntKind.i64 (0 : Int)], ty := 83 }], rw := [] } }) (o := [(!bt s (Int.ofNat a) == (40 : Int), true), (!bt s (Int.ofNat a) == (39 : Int), true), (true, true), (decide (0 ≤ bt s (↑a : Int) ∧ bt s (↑a : Int) < 256), true), (letC (bt s (Int.ofNat a)), false)]) (by kernel_rfl) (by ((repeat' (first | exact okO_nil | refine okN ?_ ?_)); all_goals first | assumption | rfl | exact same_of rfl | exact sameS_self _ | (simp only [decide_eq_true_eq, decide_eq_false_iff_not, Nat.ble_eq, Nat.beq_eq, beq_eq_false_iff_ne, beq_iff_eq, ne_eq] <;> omega))) (fun st hst => fin st .zero a 4 a .nil [] [] eq (.inr (.inl ⟨rfl, rfl⟩)) hst)
theorem rd_at : ∀ N, N ≤ 1000 → RdAt N
  | 0, h => rd_step false 0 (fun h => by cases h) 0 (fun h => by cases h) (fun _ => rfl) h
  | n + 1, h => rd_step true n (fun _ => rd_at n (by omega)) (n + 1) (fun _ => rfl) (fun h => by cases h) h
end Seat
end Go.Proofs.YtkblfapbakfgpaaDoor
/- The document's reader: what a node is. Printed by dev/rd5.py and dev/nfsub.py (this session's). -/
namespace Go.Proofs.YtkblfapbakfgpaaDoor
open Go.AS Go.RowKit
set_option linter.unusedVariables false
set_option linter.unusedSimpArgs false
set_option maxRecDepth 100000
set_option maxHeartbeats 4000000
namespace Seat
mutual
def Nd.size : Nd → Nat
  | .mk _ _ _ ks _ => ks.size + 1
def Nds.size : Nds → Nat
  | .nil => 0
  | .cons d ds => d.size + ds.size + 1
end
mutual
/-- Short enough for a machine. -/
def Nd.ok : Nd → Prop
  | .mk _ _ _ ks _ => ks.len ≤ 1099511627777 ∧ ks.ok
def Nds.ok : Nds → Prop
  | .nil => True
  | .cons d ds => d.ok ∧ ds.ok
end
open Classical in
noncomputable def isNds (N m : Nat) (cs : List PV) : Bool := decide (∃ ks : Nds, ks.len = m ∧ ks.cells = cs ∧ ks.size < N ∧ ks.len ≤ 1099511627777 ∧ ks.ok)
theorem isNds_at {N : Nat} {ks : Nds} (h : ks.size < N) (hl : ks.len ≤ 1099511627777) (ho : ks.ok) : isNds N ks.len ks.cells = true := by
  unfold isNds
  classical exact decide_eq_true ⟨ks, rfl, rfl, h, hl, ho⟩
theorem isNds_of {N m : Nat} {cs : List PV} (h : isNds N m cs = true) : ∃ ks : Nds, ks.len = m ∧ ks.cells = cs ∧ ks.size < N ∧ ks.len ≤ 1099511627777 ∧ ks.ok := by
  unfold isNds at h
  classical exact of_decide_eq_true h
open Classical in
/-- The data's cells, of the nodes' cells. -/
noncomputable def ndD (cs : List PV) : Dats := if h : ∃ ks : Nds, ks.cells = cs then h.choose.dat else .nil
theorem ndD_at (ks : Nds) : ndD ks.cells = ks.dat := by
  have h : ∃ e : Nds, e.cells = ks.cells := ⟨ks, rfl⟩
  unfold ndD
  rw [dif_pos h, Nds.inj _ _ h.choose_spec]
def DtAt (N : Nat) : Prop := ∀ (k n : Int) (t : ByteArray) (ks : Nds) (a : Int), ks.size < N → ks.len ≤ 1099511627777 → ks.ok → Pure G0 48 [.agg [.int .i64 k, .int .i64 n, .str t, .slice ks.len ks.cells, .int .i64 a]] (fun r => r = .agg [.int .i64 k, .int .i64 n, .str t, .slice ks.len ks.dat.cells])
noncomputable def ntS (N : Nat) (f : Nat) (args : List PV) : Option (PV × Ob) := match f, args with
  | 48, [.agg [.int .i64 k, .int .i64 n, .str t, .slice m cs, .int .i64 a]] => some (.agg [.int .i64 k, .int .i64 n, .str t, .slice m (ndD cs).cells], [(isNds N m cs, true)])
  | _, _ => none
theorem ntS_ok {N : Nat} (ih : DtAt N) (f : Nat) (args : List PV) (r : PV) (o : Ob) (h : ntS N f args = some (r, o)) (ho : ∀ p ∈ o, p.1 = p.2) (_ : pureL args = true) : Pure G0 f args (fun x => x = r) := by
  unfold ntS at h
  split at h
  · rename_i k n t m cs a _
    cases h
    obtain ⟨ks, rfl, rfl, h1, h2, h3⟩ := isNds_of (ho (isNds N m cs, true) (List.mem_singleton.2 rfl))
    rw [ndD_at]
    exact ih k n t ks a h1 h2 h3
  · cases h
noncomputable def SNd {N : Nat} (ih : DtAt N) (l : List (Nat × List (Nat × Bool))) (v : List (Nat × List (Nat × PV))) : Cfg G0 := { F := F, hF := hF, S := ntS N, hS := ntS_ok ih, orc := orcM l, val := valM v }
def nB (k n a : Int) (t : ByteArray) (ks : Nds) : Box := ⟨[.int .i64 k, .int .i64 n, .str t, .slice ks.len ks.cells, .int .i64 a], 83⟩
def dZ : Box := ⟨[.int .i64 0, .int .i64 0, .str ⟨#[]⟩, .nil], 24⟩
def dL (k n : Int) (t : ByteArray) (x : PV) : Box := ⟨[.int .i64 k, .int .i64 n, .str t, x], 24⟩
def dR (rc : List PV) (m : Nat) : Row := ⟨rc, m, 24, 4⟩
def Nds.get : Nds → Nat → Nd
  | .nil, _ => .zero
  | .cons d _, 0 => d
  | .cons _ ds, i + 1 => ds.get i
def Nds.take : Nds → Nat → Nds
  | _, 0 => .nil
  | .nil, _ => .nil
  | .cons d ds, i + 1 => .cons d (ds.take i)
theorem Nds.get_cells : ∀ (ds : Nds) (i : Nat), i < ds.len → (ds.cells.drop (i * 5)).take 5 = (ds.get i).cells
  | .nil, i, h => by simp [Nds.len] at h
  | .cons d ds, 0, h => by
    simp only [Nds.cells, Nds.get, Nat.zero_mul, List.drop_zero]
    rw [List.take_append_of_le_length (by rw [Nd.cells_len]; omega), List.take_of_length_le (by rw [Nd.cells_len]; omega)]
  | .cons d ds, i + 1, h => by
    simp only [Nds.cells, Nds.get]
    have e : (i + 1) * 5 = d.cells.length + i * 5 := by rw [Nd.cells_len]; omega
    rw [e, List.drop_append, ← Nds.get_cells ds i (by simp only [Nds.len] at h; omega)]
    congr 1
    rw [List.drop_eq_nil_of_le (by omega), List.nil_append]
    congr 1
    omega
theorem Nds.get_ok : ∀ (ds : Nds) (i : Nat), i < ds.len → ds.ok → (ds.get i).ok
  | .nil, i, h, _ => by simp [Nds.len] at h
  | .cons d ds, 0, h, ho => ho.1
  | .cons d ds, i + 1, h, ho => Nds.get_ok ds i (by simp only [Nds.len] at h; omega) ho.2
theorem Nds.get_size : ∀ (ds : Nds) (i : Nat), i < ds.len → (ds.get i).size < ds.size
  | .nil, i, h => by simp [Nds.len] at h
  | .cons d ds, 0, h => by simp only [Nds.get, Nds.size]; omega
  | .cons d ds, i + 1, h => by
    have := Nds.get_size ds i (by simp only [Nds.len] at h; omega)
    simp only [Nds.get, Nds.size]; omega
theorem Nds.take_dat : ∀ (ds : Nds) (j : Nat), j < ds.len → (ds.take (j + 1)).dat.cells = (ds.take j).dat.cells ++ (ds.get j).dat.cells
  | .nil, j, h => by simp [Nds.len] at h
  | .cons d ds, 0, h => by cases ds <;> simp [Nds.take, Nds.dat, Dats.cells, Nds.get]
  | .cons d ds, j + 1, h => by
    have := Nds.take_dat ds j (by simp only [Nds.len] at h; omega)
    show d.dat.cells ++ (ds.take (j + 1)).dat.cells = (d.dat.cells ++ (ds.take j).dat.cells) ++ (ds.get j).dat.cells
    rw [this, List.append_assoc]
theorem Nds.take_all : ∀ ds : Nds, ds.take ds.len = ds
  | .nil => rfl
  | .cons d ds => by show Nds.cons d (ds.take ds.len) = _; rw [Nds.take_all ds]
theorem nd_mk (d : Nd) : ∃ k n t ks a, d = .mk k n t ks a := by obtain ⟨k, n, t, ks, a⟩ := d; exact ⟨k, n, t, ks, a, rfl⟩
theorem dt_at (N : Nat) : DtAt N := by
  induction N with
  | zero => intro k n t ks a h; omega
  | succ N ih =>
    intro k n t ks a hN hl hok
    refine Fn.enterB Tryd.func48 Tryd.ntmps48 rfl (Nat.le_of_ble_eq_true rfl) fun C fr fp hnt hnb hp hfr hfp => ?_
    have fin : ∀ st m rc bx rw', m = ks.len → rc = ks.dat.cells → nrm [2] st = ⟨[(2, .ptr 1 0)], ⟨nB k n a t ks :: dL k n t (.slice m rc) :: bx, rw'⟩⟩ → fr st := fun st m rc bx rw' h1 h2 hst => hfr st [2] (by
      rw [hst, ← h1, ← h2]
      exact ⟨0, .agg [.int .i64 k, .int .i64 n, .str t, .slice m rc], Nat.le_refl _, Nat.zero_le _, rfl, rfl, rfl, rfl, _, rfl, rfl⟩)
    refine Q.runSeq (SNd ih [] []) 100 31 hnt [1, 2] (z := { t := [(1, PV.ptr 0 0), (2, PV.ptr 1 0)], h := { bx := [{ cs := [PV.int IntKind.i64 k, PV.int IntKind.i64 n, PV.str t, PV.slice (Nds.len ks) (Nds.cells ks), PV.int IntKind.i64 a], ty := 83 }, { cs := [PV.int IntKind.i64 (0 : Int), PV.int IntKind.i64 (0 : Int), PV.str { data := #[] }, PV.nil], ty := 24 }], rw := [] } }) (o := []) (by kernel_rfl) (by ((repeat' (first | exact okO_nil | refine okN ?_ ?_)); all_goals first | assumption | rfl | exact same_of rfl | exact sameS_self _ | (simp only [decide_eq_true_eq, decide_eq_false_iff_not, Nat.ble_eq, Nat.beq_eq, beq_eq_false_iff_ne, beq_iff_eq, ne_eq] <;> omega))) ?_
    refine Q.runSeq (SNd ih [] []) 100 31 hnt [1, 2, 3] (z := { t := [(1, PV.ptr 0 0), (2, PV.ptr 1 0), (3, PV.ptr 2 0)], h := { bx := [{ cs := [PV.int IntKind.i64 k, PV.int IntKind.i64 n, PV.str t, PV.slice (Nds.len ks) (Nds.cells ks), PV.int IntKind.i64 a], ty := 83 }, { cs := [PV.int IntKind.i64 (0 : Int), PV.int IntKind.i64 (0 : Int), PV.str { data := #[] }, PV.nil], ty := 24 }, { cs := [PV.int IntKind.i64 k, PV.int IntKind.i64 n, PV.str t, PV.nil], ty := 24 }], rw := [] } }) (o := []) (by kernel_rfl) (by ((repeat' (first | exact okO_nil | refine okN ?_ ?_)); all_goals first | assumption | rfl | exact same_of rfl | exact sameS_self _ | (simp only [decide_eq_true_eq, decide_eq_false_iff_not, Nat.ble_eq, Nat.beq_eq, beq_eq_false_iff_ne, beq_iff_eq, ne_eq] <;> omega))) ?_
    refine SWP.adoptB 2 3 24 4 rfl rfl ?_
    refine Q.seq fun K hK => ?_
    refine Q.runSeq (SNd ih [] []) 100 31 hnt [1, 2, 3, 4] (z := { t := [(1, PV.ptr 0 0), (2, PV.ptr 1 0), (3, PV.ptr 2 0), (4, PV.int IntKind.i64 (0 : Int))], h := { bx := [{ cs := [PV.int IntKind.i64 k, PV.int IntKind.i64 n, PV.str t, PV.slice (Nds.len ks) (Nds.cells ks), PV.int IntKind.i64 a], ty := 83 }, { cs := [PV.int IntKind.i64 (0 : Int), PV.int IntKind.i64 (0 : Int), PV.str { data := #[] }, PV.nil], ty := 24 }, { cs := [PV.int IntKind.i64 k, PV.int IntKind.i64 n, PV.str t, PV.own 0 0], ty := 24 }], rw := [some { cs := [], n := 0, ty := 24, sz := 4 }] } }) (o := []) (by kernel_rfl) (by ((repeat' (first | exact okO_nil | refine okN ?_ ?_)); all_goals first | assumption | rfl | exact same_of rfl | exact sameS_self _ | (simp only [decide_eq_true_eq, decide_eq_false_iff_not, Nat.ble_eq, Nat.beq_eq, beq_eq_false_iff_ne, beq_iff_eq, ne_eq] <;> omega))) ?_
    refine Q.block ?_
    let T (j : Nat) : AS := ⟨[(1, .ptr 0 0), (2, .ptr 1 0), (3, .ptr 2 0), (4, .int .i64 j)], ⟨[nB k n a t ks, dZ, dL k n t (.own 0 j)], [some (dR (ks.take j).dat.cells j)]⟩⟩
    refine Q.loopI (σ := { j : Nat // j ≤ ks.len }) [1, 2, 3, 4] (fun j => T j.1) (fun j => ks.len - j.1) ⟨0, Nat.zero_le _⟩ (by cases ks <;> rfl) fun ⟨j, hj⟩ => ?_
    show SWP G0 C _ _ ⟨[(1, .ptr 0 0), (2, .ptr 1 0), (3, .ptr 2 0), (4, .int .i64 j)], ⟨[nB k n a t ks, dZ, dL k n t (.own 0 j)], [some (dR (ks.take j).dat.cells j)]⟩⟩
    obtain ⟨rc, hrc⟩ : ∃ rc, rc = (ks.take j).dat.cells := ⟨_, rfl⟩
    refine swp_st (st' := ⟨[(1, .ptr 0 0), (2, .ptr 1 0), (3, .ptr 2 0), (4, .int .i64 j)], ⟨[nB k n a t ks, dZ, dL k n t (.own 0 j)], [some (dR rc j)]⟩⟩) (by rw [hrc]) ?_
    rcases Nat.lt_or_ge j ks.len with hlt | hge
    · have d1 := lt_at hlt
      have d2 := in_at hlt
      refine Q.runSeq (SNd ih [(31, [(16, true)])] []) 100 31 hnt [1, 2, 3, 4] (z := { t := [(1, PV.ptr 0 0), (2, PV.ptr 1 0), (3, PV.ptr 2 0), (4, PV.int IntKind.i64 (Int.ofNat j))], h := { bx := [{ cs := [PV.int IntKind.i64 k, PV.int IntKind.i64 n, PV.str t, PV.slice (Nds.len ks) (Nds.cells ks), PV.int IntKind.i64 a], ty := 83 }, { cs := [PV.int IntKind.i64 (0 : Int), PV.int IntKind.i64 (0 : Int), PV.str { data := #[] }, PV.nil], ty := 24 }, { cs := [PV.int IntKind.i64 k, PV.int IntKind.i64 n, PV.str t, PV.own 0 j], ty := 24 }], rw := [some { cs := rc, n := j, ty := 24, sz := 4 }] } }) (o := [(decide ((↑j : Int) < (↑(Nds.len ks) : Int)), true), (true, true)]) (by kernel_rfl) (by ((repeat' (first | exact okO_nil | refine okN ?_ ?_)); all_goals first | assumption | rfl | exact same_of rfl | exact sameS_self _ | (simp only [decide_eq_true_eq, decide_eq_false_iff_not, Nat.ble_eq, Nat.beq_eq, beq_eq_false_iff_ne, beq_iff_eq, ne_eq] <;> omega))) ?_
      obtain ⟨k', n', t', ks', a', hget⟩ := nd_mk (ks.get j)
      have hsz := Nds.get_size ks j hlt
      have hoj := Nds.get_ok ks j hlt hok
      rw [hget] at hsz hoj
      simp only [Nd.size] at hsz
      have d3 : decide (TD.size d83 ≤ List.length (List.drop (Int.toNat (j : Int) * TD.size d83) (Nds.cells ks))) = true := by
        show decide (5 ≤ List.length (List.drop (Int.toNat (j : Int) * 5) (Nds.cells ks))) = true
        simp only [Int.toNat_natCast, List.length_drop, Nds.cells_len, decide_eq_true_eq]; omega
      have d4 : same (PV.agg (List.take 5 (List.drop (Int.toNat (Int.ofNat j) * 5) (Nds.cells ks)))) (PV.agg [PV.int IntKind.i64 k', PV.int IntKind.i64 n', PV.str t', PV.slice (Nds.len ks') (Nds.cells ks'), PV.int IntKind.i64 a']) = true := same_of (by
        show PV.agg (List.take 5 (List.drop (j * 5) (Nds.cells ks))) = _
        rw [Nds.get_cells ks j hlt, hget]; rfl)
      have d5 : isNds N (Nds.len ks') (Nds.cells ks') = true := isNds_at (by omega) hoj.1 hoj.2
      have wj : IntKind.wrap IntKind.i64 (Int.ofNat (j + 1)) = ((j + 1 : Nat) : Int) := wrapI (j + 1) (by omega)
      refine Q.seq fun K3 hK3 => ?_
      refine Q.block ?_
      refine SWP.runLQ (SNd ih [(31, [(24, true), (25, true), (28, true)])] [(31, [(25, .agg [.int .i64 k', .int .i64 n', .str t', .slice ks'.len ks'.cells, .int .i64 a'])])]) 100 31 hnt [1, 2, 3, 4] (l := [{ t := [(1, PV.ptr 0 0), (2, PV.ptr 1 0), (3, PV.ptr 2 0), (4, PV.int IntKind.i64 (Int.ofNat j))], h := { bx := [{ cs := [PV.int IntKind.i64 k, PV.int IntKind.i64 n, PV.str t, PV.slice (Nds.len ks) (Nds.cells ks), PV.int IntKind.i64 a], ty := 83 }, { cs := [PV.int IntKind.i64 (0 : Int), PV.int IntKind.i64 (0 : Int), PV.str { data := #[] }, PV.nil], ty := 24 }, { cs := [PV.int IntKind.i64 k, PV.int IntKind.i64 n, PV.str t, PV.own 0 (j + 1)], ty := 24 }], rw := [some { cs := rc ++ [PV.int IntKind.i64 k', PV.int IntKind.i64 n', PV.str t', PV.slice (Nds.len ks') (Dats.cells (ndD (Nds.cells ks')))], n := j + 1, ty := 24, sz := 4 }] } }]) (o := [(decide (0 ≤ (↑j : Int) ∧ (↑j : Int) < (↑(Nds.len ks) : Int)), true), (decide (TD.size d83 ≤ List.length (List.drop (Int.toNat (↑j : Int) * TD.size d83) (Nds.cells ks))), true), (same (PV.agg (List.take 5 (List.drop (Int.toNat (Int.ofNat j) * 5) (Nds.cells ks)))) (PV.agg [PV.int IntKind.i64 k', PV.int IntKind.i64 n', PV.str t', PV.slice (Nds.len ks') (Nds.cells ks'), PV.int IntKind.i64 a']), true), (true, true), (isNds N (Nds.len ks') (Nds.cells ks'), true), (true, true), (Nat.ble ((j + 1) * 56) 140737488355328, true), (Nat.ble (j + 1) 9223372036854775807, true)]) (by kernel_rfl) (by ((repeat' (first | exact okO_nil | refine okN ?_ ?_)); all_goals first | assumption | rfl | exact same_of rfl | exact sameS_self _ | (simp only [decide_eq_true_eq, decide_eq_false_iff_not, Nat.ble_eq, Nat.beq_eq, beq_eq_false_iff_ne, beq_iff_eq, ne_eq] <;> omega))) (fun st hst => hK3 st (.norm [1, 2, 3, 4] ?_))
      have hst2 : nrm [1, 2, 3, 4] st = ⟨[(1, .ptr 0 0), (2, .ptr 1 0), (3, .ptr 2 0), (4, .int .i64 j)], ⟨[nB k n a t ks, dZ, dL k n t (.own 0 (j + 1))], [some (dR (rc ++ [.int .i64 k', .int .i64 n', .str t', .slice ks'.len (ndD ks'.cells).cells]) (j + 1))]⟩⟩ := by
        simp only [List.mem_cons, List.not_mem_nil, or_false, or_self] at hst
        exact hst
      rw [hst2]
      have hr2 : rc ++ [.int .i64 k', .int .i64 n', .str t', .slice ks'.len (ndD ks'.cells).cells] = (ks.take (j + 1)).dat.cells := by
        rw [Nds.take_dat ks j hlt, hrc, hget, ndD_at]
        simp only [Nd.dat, Dat.cells, Nds.dat_len]
      rw [hr2]
      obtain ⟨rr, hrr⟩ : ∃ rr, rr = (ks.take (j + 1)).dat.cells := ⟨_, rfl⟩
      rw [← hrr]
      exact SWP.runQ (SNd ih [] []) 100 31 hnt [1, 2, 3, 4] (e := .normal) (z := { t := [(1, PV.ptr 0 0), (2, PV.ptr 1 0), (3, PV.ptr 2 0), (4, PV.int IntKind.i64 (IntKind.wrap IntKind.i64 (Int.ofNat (j + 1))))], h := { bx := [{ cs := [PV.int IntKind.i64 k, PV.int IntKind.i64 n, PV.str t, PV.slice (Nds.len ks) (Nds.cells ks), PV.int IntKind.i64 a], ty := 83 }, { cs := [PV.int IntKind.i64 (0 : Int), PV.int IntKind.i64 (0 : Int), PV.str { data := #[] }, PV.nil], ty := 24 }, { cs := [PV.int IntKind.i64 k, PV.int IntKind.i64 n, PV.str t, PV.own 0 (j + 1)], ty := 24 }], rw := [some { cs := rr, n := j + 1, ty := 24, sz := 4 }] } }) (o := []) (by kernel_rfl) (by ((repeat' (first | exact okO_nil | refine okN ?_ ?_)); all_goals first | assumption | rfl | exact same_of rfl | exact sameS_self _ | (simp only [decide_eq_true_eq, decide_eq_false_iff_not, Nat.ble_eq, Nat.beq_eq, beq_eq_false_iff_ne, beq_iff_eq, ne_eq] <;> omega))) (fun st hst => ⟨⟨j + 1, hlt⟩, Nat.sub_lt_sub_left hlt (Nat.lt_succ_self j), by rw [hst, wj, hrr]; rfl⟩)
    · have d1 := ge_at hge
      have hje : j = ks.len := by omega
      refine SWP.runQ (SNd ih [(31, [(16, false)])] []) 100 31 hnt [2, 3] (e := .exit 0) (z := { t := [(2, PV.ptr 1 0), (3, PV.ptr 2 0)], h := { bx := [{ cs := [PV.int IntKind.i64 k, PV.int IntKind.i64 n, PV.str t, PV.slice (Nds.len ks) (Nds.cells ks), PV.int IntKind.i64 a], ty := 83 }, { cs := [PV.int IntKind.i64 (0 : Int), PV.int IntKind.i64 (0 : Int), PV.str { data := #[] }, PV.nil], ty := 24 }, { cs := [PV.int IntKind.i64 k, PV.int IntKind.i64 n, PV.str t, PV.own 0 j], ty := 24 }], rw := [some { cs := rc, n := j, ty := 24, sz := 4 }] } }) (o := [(decide ((↑j : Int) < (↑(Nds.len ks) : Int)), false), (false, false)]) (by kernel_rfl) (by ((repeat' (first | exact okO_nil | refine okN ?_ ?_)); all_goals first | assumption | rfl | exact same_of rfl | exact sameS_self _ | (simp only [decide_eq_true_eq, decide_eq_false_iff_not, Nat.ble_eq, Nat.beq_eq, beq_eq_false_iff_ne, beq_iff_eq, ne_eq] <;> omega))) (fun st hst => hK st (.norm [2, 3] ?_))
      rw [hst]
      refine SWP.frz [0] ?_
      exact SWP.runQ (SNd ih [] []) 100 31 hnt [2] (e := .ret) (z := { t := [(2, PV.ptr 1 0)], h := { bx := [{ cs := [PV.int IntKind.i64 k, PV.int IntKind.i64 n, PV.str t, PV.slice (Nds.len ks) (Nds.cells ks), PV.int IntKind.i64 a], ty := 83 }, { cs := [PV.int IntKind.i64 k, PV.int IntKind.i64 n, PV.str t, PV.slice j rc], ty := 24 }, { cs := [PV.int IntKind.i64 k, PV.int IntKind.i64 n, PV.str t, PV.slice j rc], ty := 24 }], rw := [none] } }) (o := []) (by kernel_rfl) (by ((repeat' (first | exact okO_nil | refine okN ?_ ?_)); all_goals first | assumption | rfl | exact same_of rfl | exact sameS_self _ | (simp only [decide_eq_true_eq, decide_eq_false_iff_not, Nat.ble_eq, Nat.beq_eq, beq_eq_false_iff_ne, beq_iff_eq, ne_eq] <;> omega))) (fun st hst => fin st j rc [dL k n t (.slice j rc)] [none] hje (by rw [hrc, hje, Nds.take_all]) hst)
end Seat
end Go.Proofs.YtkblfapbakfgpaaDoor
/- The document's reader: one datum of a string. Printed by dev/rd6.py and dev/nfsub.py (this session's). -/
namespace Go.Proofs.YtkblfapbakfgpaaDoor
open Go.AS Go.RowKit
set_option linter.unusedVariables false
set_option linter.unusedSimpArgs false
set_option maxRecDepth 100000
set_option maxHeartbeats 4000000
namespace Seat
noncomputable def SOn (l : List (Nat × List (Nat × Bool))) (v : List (Nat × List (Nat × PV))) : Cfg G0 := SRd true 1000 (fun _ => rd_at 1000 (Nat.le_refl _)) l v
/-- The one datum of a string, or where what is wrong. -/
def oneR (s : ByteArray) : Nd × Int × Int := if 20000 < s.size then (.zero, 0, 3) else
  if rdE s 1000 (skp s 0) = 0 then (if skp s (rdA s 1000 (skp s 0)) < s.size then (.zero, (skp s (rdA s 1000 (skp s 0)) : Nat), 4) else (rdX s 1000 (skp s 0), 0, 0)) else (.zero, rdF s 1000 (skp s 0), rdE s 1000 (skp s 0))
theorem oneR_eq (s : ByteArray) : oneR s = (if 20000 < s.size then (.zero, 0, 3) else
  if rdE s 1000 (skp s 0) = 0 then (if skp s (rdA s 1000 (skp s 0)) < s.size then (.zero, (skp s (rdA s 1000 (skp s 0)) : Nat), 4) else (rdX s 1000 (skp s 0), 0, 0)) else (.zero, rdF s 1000 (skp s 0), rdE s 1000 (skp s 0)) : Nd × Int × Int) := rfl
theorem tup_weak {x : PV} {d : Nd} (hx : NilS x d) {a b : PV} {E : Env} {w : World} {v : Value} (h : VRep E w (.tup [.agg [.int .i64 (ndK d), .int .i64 (ndN d), .str (ndT d), x, .int .i64 (ndA d)], a, b]) v) : VRep E w (.tup [.agg (ndC d), a, b]) v := by
  obtain ⟨vs, rfl, g⟩ := h.tup_inv
  obtain ⟨v1, vs, rfl, h1, g⟩ := g.cons_inv
  obtain ⟨v2, vs, rfl, h2, g⟩ := g.cons_inv
  obtain ⟨v3, vs, rfl, h3, g⟩ := g.cons_inv
  obtain rfl := g.nil_inv
  have h5 := node_weak hx h1
  exact .tup rfl fun j x v hx hv => by
    match j, hx, hv with
    | 0, hx, hv => cases hx; cases hv; exact h5
    | 1, hx, hv => cases hx; cases hv; exact h2
    | 2, hx, hv => cases hx; cases hv; exact h3
    | j + 3, hx, hv => cases hx
theorem one_weak {f : FuncId} {args : List PV} {d : Nd} {a b : PV} (h : Pure G0 f args (fun r => ∃ x, NilS x d ∧ r = .tup [.agg [.int .i64 (ndK d), .int .i64 (ndN d), .str (ndT d), x, .int .i64 (ndA d)], a, b])) : Pure G0 f args (fun r => r = .tup [.agg (ndC d), a, b]) := fun E w vs hh hv =>
  (h E w vs hh hv).mono fun e w' ⟨o, bx', E', ⟨hb, r, ho, x, hx, hr⟩, hout, hrest⟩ => by
    subst ho; subst hr
    obtain ⟨v, rfl, hv⟩ := hout
    exact ⟨.ret (.tup [.agg (ndC d), a, b]), bx', E', ⟨hb, _, rfl, rfl⟩, ⟨v, rfl, tup_weak hx hv⟩, hrest⟩
theorem one_ok (s : ByteArray) : Pure G0 47 [.str s] (fun r => r = .tup [.agg (ndC (oneR s).1), .int .i64 (oneR s).2.1, .int .i64 (oneR s).2.2]) := by
  refine one_weak ?_
  have eq := oneR_eq s
  refine Fn.enterB Tryd.func47 Tryd.ntmps47 rfl (Nat.le_of_ble_eq_true rfl) fun C fr fp hnt hnb hp hfr hfp => ?_
  have fin : ∀ st d a e x bx rw', oneR s = (d, a, e) → NilS x d → nrm [2, 3, 4] st = ⟨[(2, .ptr 0 0), (3, .int .i64 a), (4, .int .i64 e)], ⟨⟨[.int .i64 (ndK d), .int .i64 (ndN d), .str (ndT d), x, .int .i64 (ndA d)], 83⟩ :: bx, rw'⟩⟩ → fr st := fun st d a e x bx rw' h hx hst => hfr st [2, 3, 4] (by
    rw [hst, h]
    refine ⟨0, .tup [.agg [.int .i64 (ndK d), .int .i64 (ndN d), .str (ndT d), x, .int .i64 (ndA d)], .int .i64 a, .int .i64 e], Nat.le_refl _, Nat.zero_le _, rfl, ?_, rfl, rfl, _, rfl, x, hx, rfl⟩
    rcases hx with rfl | ⟨rfl, _⟩ | ⟨_, _, _, rfl⟩ <;> rfl)
  refine Q.runSeq (SOn [] []) 100 55 hnt [0, 2, 3, 4] (z := { t := [(0, PV.str s), (2, PV.ptr 0 0), (3, PV.int IntKind.i64 (0 : Int)), (4, PV.int IntKind.i64 (0 : Int))], h := { bx := [{ cs := [PV.int IntKind.i64 (0 : Int), PV.int IntKind.i64 (0 : Int), PV.str { data := #[] }, PV.nil, PV.int IntKind.i64 (0 : Int)], ty := 83 }], rw := [] } }) (o := []) (by kernel_rfl) (by ((repeat' (first | exact okO_nil | refine okN ?_ ?_)); all_goals first | assumption | rfl | exact same_of rfl | exact sameS_self _ | (simp only [decide_eq_true_eq, decide_eq_false_iff_not, Nat.ble_eq, Nat.beq_eq, beq_eq_false_iff_ne, beq_iff_eq, ne_eq] <;> omega))) ?_
  by_cases hbig : 20000 < s.size
  · have d1 : decide (20000 < (s.size : Int)) = true := by rw [decide_eq_true_eq]; omega
    rw [if_pos hbig] at eq
    refine Q.seq fun K hK => ?_
    exact SWP.runQ (SOn [(55, [(9, true)])] []) 100 55 hnt [2, 3, 4] (e := .ret) (z := { t := [(2, PV.ptr 0 0), (3, PV.int IntKind.i64 (0 : Int)), (4, PV.int IntKind.i64 (3 : Int))], h := { bx := [{ cs := [PV.int IntKind.i64 (0 : Int), PV.int IntKind.i64 (0 : Int), PV.str { data := #[] }, PV.nil, PV.int IntKind.i64 (0 : Int)], ty := 83 }], rw := [] } }) (o := [(decide (20000 < (↑(ByteArray.size s) : Int)), true), (true, true)]) (by kernel_rfl) (by ((repeat' (first | exact okO_nil | refine okN ?_ ?_)); all_goals first | assumption | rfl | exact same_of rfl | exact sameS_self _ | (simp only [decide_eq_true_eq, decide_eq_false_iff_not, Nat.ble_eq, Nat.beq_eq, beq_eq_false_iff_ne, beq_iff_eq, ne_eq] <;> omega))) (fun st hst => fin st .zero 0 3 .nil [] [] eq (.inr (.inl ⟨rfl, rfl⟩)) hst)
  have d1 : decide (20000 < (s.size : Int)) = false := by rw [decide_eq_false_iff_not]; omega
  have d2 : Nat.ble s.size 1099511627776 = true := by rw [Nat.ble_eq]; omega
  rw [if_neg hbig] at eq
  refine Q.runSeq (SOn [(55, [(9, false)])] []) 100 55 hnt [0, 2] (z := { t := [(0, PV.str s), (2, PV.ptr 0 0)], h := { bx := [{ cs := [PV.int IntKind.i64 (0 : Int), PV.int IntKind.i64 (0 : Int), PV.str { data := #[] }, PV.nil, PV.int IntKind.i64 (0 : Int)], ty := 83 }], rw := [] } }) (o := [(decide (20000 < (↑(ByteArray.size s) : Int)), false), (false, false)]) (by kernel_rfl) (by ((repeat' (first | exact okO_nil | refine okN ?_ ?_)); all_goals first | assumption | rfl | exact same_of rfl | exact sameS_self _ | (simp only [decide_eq_true_eq, decide_eq_false_iff_not, Nat.ble_eq, Nat.beq_eq, beq_eq_false_iff_ne, beq_iff_eq, ne_eq] <;> omega))) ?_
  refine Q.runSeq (SOn [] []) 100 55 hnt [0, 2, 5] (z := { t := [(0, PV.str s), (2, PV.ptr 0 0), (5, PV.ptr 1 0)], h := { bx := [{ cs := [PV.int IntKind.i64 (0 : Int), PV.int IntKind.i64 (0 : Int), PV.str { data := #[] }, PV.nil, PV.int IntKind.i64 (0 : Int)], ty := 83 }, { cs := [PV.str s, PV.int IntKind.i64 (0 : Int), PV.int IntKind.i64 (0 : Int), PV.int IntKind.i64 (0 : Int)], ty := 98 }], rw := [] } }) (o := []) (by kernel_rfl) (by ((repeat' (first | exact okO_nil | refine okN ?_ ?_)); all_goals first | assumption | rfl | exact same_of rfl | exact sameS_self _ | (simp only [decide_eq_true_eq, decide_eq_false_iff_not, Nat.ble_eq, Nat.beq_eq, beq_eq_false_iff_ne, beq_iff_eq, ne_eq] <;> omega))) ?_
  refine Q.runSeq (SOn [] []) 100 55 hnt [0, 2, 5] (z := { t := [(0, PV.str s), (2, PV.ptr 0 0), (5, PV.ptr 1 0)], h := { bx := [{ cs := [PV.int IntKind.i64 (0 : Int), PV.int IntKind.i64 (0 : Int), PV.str { data := #[] }, PV.nil, PV.int IntKind.i64 (0 : Int)], ty := 83 }, { cs := [PV.str s, PV.int IntKind.i64 (Int.ofNat (skp s 0)), PV.int IntKind.i64 (0 : Int), PV.int IntKind.i64 (0 : Int)], ty := 98 }], rw := [] } }) (o := [(true, true), (Nat.ble (ByteArray.size s) 1099511627776, true)]) (by kernel_rfl) (by ((repeat' (first | exact okO_nil | refine okN ?_ ?_)); all_goals first | assumption | rfl | exact same_of rfl | exact sameS_self _ | (simp only [decide_eq_true_eq, decide_eq_false_iff_not, Nat.ble_eq, Nat.beq_eq, beq_eq_false_iff_ne, beq_iff_eq, ne_eq] <;> omega))) ?_
  obtain ⟨y, hy⟩ : ∃ y, y = skp s 0 := ⟨_, rfl⟩
  have hy2 : y ≤ s.size := by rw [hy]; exact skp_le s 0 (Nat.zero_le _)
  rw [← hy] at eq ⊢
  have dy : decide (0 ≤ (y : Int) ∧ (y : Int) ≤ (s.size : Int)) = true := by rw [decide_eq_true_eq]; omega
  refine Q.runSeq (SOn [] []) 100 55 hnt [0, 2, 5, 6] (z := { t := [(0, PV.str s), (2, PV.ptr 0 0), (5, PV.ptr 1 0), (6, PV.ptr 2 0)], h := { bx := [{ cs := [PV.int IntKind.i64 (0 : Int), PV.int IntKind.i64 (0 : Int), PV.str { data := #[] }, PV.nil, PV.int IntKind.i64 (0 : Int)], ty := 83 }, { cs := [PV.str s, PV.int IntKind.i64 (Int.ofNat (rdA s 1000 (Int.toNat (Int.ofNat y)))), PV.int IntKind.i64 (rdE s 1000 (Int.toNat (Int.ofNat y))), PV.int IntKind.i64 (rdF s 1000 (Int.toNat (Int.ofNat y)))], ty := 98 }, { cs := [PV.int IntKind.i64 (ndK (rdX s 1000 (Int.toNat (↑y : Int)))), PV.int IntKind.i64 (ndN (rdX s 1000 (Int.toNat (↑y : Int)))), PV.str (ndT (rdX s 1000 (Int.toNat (↑y : Int)))), PV.slice (Nds.len (ndS (rdX s 1000 (Int.toNat (↑y : Int))))) (Nds.cells (ndS (rdX s 1000 (Int.toNat (↑y : Int))))), PV.int IntKind.i64 (ndA (rdX s 1000 (Int.toNat (↑y : Int))))], ty := 83 }], rw := [] } }) (o := [(decide (0 ≤ (↑y : Int) ∧ (↑y : Int) ≤ (↑(ByteArray.size s) : Int)), true), (true, true), (Nat.ble (ByteArray.size s) 1099511627776, true)]) (by kernel_rfl) (by ((repeat' (first | exact okO_nil | refine okN ?_ ?_)); all_goals first | assumption | rfl | exact same_of rfl | exact sameS_self _ | (simp only [decide_eq_true_eq, decide_eq_false_iff_not, Nat.ble_eq, Nat.beq_eq, beq_eq_false_iff_ne, beq_iff_eq, ne_eq] <;> omega))) ?_
  have hst := (rdD_steps s 1000 y hy2).1
  have hin : RS.In s 1000 ⟨rdA s 1000 y, rdE s 1000 y, rdF s 1000 y⟩ := hst
  show SWP G0 C _ _ ⟨[(0, .str s), (2, .ptr 0 0), (5, .ptr 1 0), (6, .ptr 2 0)], ⟨[nZ, rB s (rdA s 1000 y) (rdE s 1000 y) (rdF s 1000 y), ⟨ndC (rdX s 1000 y), 83⟩], []⟩⟩
  obtain ⟨q, hq⟩ : ∃ q, q = rdA s 1000 y := ⟨_, rfl⟩
  obtain ⟨e, he⟩ : ∃ q, q = rdE s 1000 y := ⟨_, rfl⟩
  obtain ⟨b, hb⟩ : ∃ q, q = rdF s 1000 y := ⟨_, rfl⟩
  obtain ⟨x, hx⟩ : ∃ q, q = rdX s 1000 y := ⟨_, rfl⟩
  rw [← hq, ← he, ← hb] at hin ⊢
  rw [← hq, ← he, ← hb, ← hx] at eq
  rw [← hx]
  refine Q.runSeq (SOn [] []) 100 55 hnt [0, 2, 5, 6] (z := { t := [(0, PV.str s), (2, PV.ptr 0 0), (5, PV.ptr 1 0), (6, PV.ptr 2 0)], h := { bx := [{ cs := [PV.int IntKind.i64 (0 : Int), PV.int IntKind.i64 (0 : Int), PV.str { data := #[] }, PV.nil, PV.int IntKind.i64 (0 : Int)], ty := 83 }, { cs := [PV.str s, PV.int IntKind.i64 (Int.ofNat (skp s (Int.toNat (Int.ofNat q)))), PV.int IntKind.i64 e, PV.int IntKind.i64 b], ty := 98 }, { cs := [PV.int IntKind.i64 (ndK x), PV.int IntKind.i64 (ndN x), PV.str (ndT x), PV.slice (Nds.len (ndS x)) (Nds.cells (ndS x)), PV.int IntKind.i64 (ndA x)], ty := 83 }], rw := [] } }) (o := [(true, true), (Nat.ble (ByteArray.size s) 1099511627776, true)]) (by kernel_rfl) (by ((repeat' (first | exact okO_nil | refine okN ?_ ?_)); all_goals first | assumption | rfl | exact same_of rfl | exact sameS_self _ | (simp only [decide_eq_true_eq, decide_eq_false_iff_not, Nat.ble_eq, Nat.beq_eq, beq_eq_false_iff_ne, beq_iff_eq, ne_eq] <;> omega))) ?_
  show SWP G0 C _ _ ⟨[(0, .str s), (2, .ptr 0 0), (5, .ptr 1 0), (6, .ptr 2 0)], ⟨[nZ, rB s (skp s q) e b, ⟨ndC x, 83⟩], []⟩⟩
  clear hq
  obtain ⟨q, hq⟩ : ∃ z, z = skp s q := ⟨_, rfl⟩
  rw [← hq] at eq ⊢
  refine Q.seq fun K hK => ?_
  have bad : ∀ (q : Nat) (e b : Int), (!e == (0 : Int)) = true → (∀ st, nrm [2, 3, 4] st = ⟨[(2, .ptr 0 0), (3, .int .i64 b), (4, .int .i64 e)], ⟨[nZ, rB s q e b, ⟨ndC x, 83⟩], []⟩⟩ → fr st) → ∀ st, nrm [2, 5, 6] st = ⟨[(2, .ptr 0 0), (5, .ptr 1 0), (6, .ptr 2 0)], ⟨[nZ, rB s q e b, ⟨ndC x, 83⟩], []⟩⟩ → K st := fun q e b d4 hf st hst => hK st (.norm [2, 5, 6] (by
    rw [hst]
    refine Q.seq fun K hK => ?_
    refine Q.runSeq (SOn [(55, [(44, true)])] []) 100 55 hnt [2, 5, 6, 44] (z := { t := [(2, PV.ptr 0 0), (5, PV.ptr 1 0), (6, PV.ptr 2 0), (44, PV.bool true)], h := { bx := [{ cs := [PV.int IntKind.i64 (0 : Int), PV.int IntKind.i64 (0 : Int), PV.str { data := #[] }, PV.nil, PV.int IntKind.i64 (0 : Int)], ty := 83 }, { cs := [PV.str s, PV.int IntKind.i64 (Int.ofNat q), PV.int IntKind.i64 e, PV.int IntKind.i64 b], ty := 98 }, { cs := [PV.int IntKind.i64 (ndK x), PV.int IntKind.i64 (ndN x), PV.str (ndT x), PV.slice (Nds.len (ndS x)) (Nds.cells (ndS x)), PV.int IntKind.i64 (ndA x)], ty := 83 }], rw := [] } }) (o := [(!e == (0 : Int), true)]) (by kernel_rfl) (by ((repeat' (first | exact okO_nil | refine okN ?_ ?_)); all_goals first | assumption | rfl | exact same_of rfl | exact sameS_self _ | (simp only [decide_eq_true_eq, decide_eq_false_iff_not, Nat.ble_eq, Nat.beq_eq, beq_eq_false_iff_ne, beq_iff_eq, ne_eq] <;> omega))) ?_
    refine Q.cond (b := true) rfl (fun _ => ?_) (fun h => by cases h)
    refine Q.seq fun K2 hK2 => ?_
    refine SWP.runLQ (SOn [] []) 100 55 hnt [2, 3, 4] (l := List.replicate 69 { t := [(2, PV.ptr 0 0), (3, PV.int IntKind.i64 b), (4, PV.int IntKind.i64 e)], h := { bx := [{ cs := [PV.int IntKind.i64 (0 : Int), PV.int IntKind.i64 (0 : Int), PV.str { data := #[] }, PV.nil, PV.int IntKind.i64 (0 : Int)], ty := 83 }, { cs := [PV.str s, PV.int IntKind.i64 (Int.ofNat q), PV.int IntKind.i64 e, PV.int IntKind.i64 b], ty := 98 }, { cs := [PV.int IntKind.i64 (ndK x), PV.int IntKind.i64 (ndN x), PV.str (ndT x), PV.slice (Nds.len (ndS x)) (Nds.cells (ndS x)), PV.int IntKind.i64 (ndA x)], ty := 83 }], rw := [] } }) (o := []) (by kernel_rfl) (by ((repeat' (first | exact okO_nil | refine okN ?_ ?_)); all_goals first | assumption | rfl | exact same_of rfl | exact sameS_self _ | (simp only [decide_eq_true_eq, decide_eq_false_iff_not, Nat.ble_eq, Nat.beq_eq, beq_eq_false_iff_ne, beq_iff_eq, ne_eq] <;> omega))) (fun st hst => hK2 st (.norm [2, 3, 4] ?_))
    rw [List.eq_of_mem_replicate hst]
    exact .ret (hf _ rfl)))
  by_cases h0 : e = 0
  · rw [if_pos h0] at eq
    have hb0 : b = 0 := (hin.ok h0).2
    subst h0
    subst hb0
    rcases Nat.lt_or_ge q s.size with hl | hg
    · have d3 : decide ((q : Int) < (s.size : Int)) = true := by rw [decide_eq_true_eq]; omega
      rw [if_pos hl] at eq
      exact SWP.runQ (SOn [(55, [(32, true)])] []) 100 55 hnt [2, 5, 6] (e := .normal) (z := { t := [(2, PV.ptr 0 0), (5, PV.ptr 1 0), (6, PV.ptr 2 0)], h := { bx := [{ cs := [PV.int IntKind.i64 (0 : Int), PV.int IntKind.i64 (0 : Int), PV.str { data := #[] }, PV.nil, PV.int IntKind.i64 (0 : Int)], ty := 83 }, { cs := [PV.str s, PV.int IntKind.i64 (Int.ofNat q), PV.int IntKind.i64 (4 : Int), PV.int IntKind.i64 (Int.ofNat q)], ty := 98 }, { cs := [PV.int IntKind.i64 (ndK x), PV.int IntKind.i64 (ndN x), PV.str (ndT x), PV.slice (Nds.len (ndS x)) (Nds.cells (ndS x)), PV.int IntKind.i64 (ndA x)], ty := 83 }], rw := [] } }) (o := [(decide ((↑q : Int) < (↑(ByteArray.size s) : Int)), true)]) (by kernel_rfl) (by ((repeat' (first | exact okO_nil | refine okN ?_ ?_)); all_goals first | assumption | rfl | exact same_of rfl | exact sameS_self _ | (simp only [decide_eq_true_eq, decide_eq_false_iff_not, Nat.ble_eq, Nat.beq_eq, beq_eq_false_iff_ne, beq_iff_eq, ne_eq] <;> omega))) (bad q 4 q rfl (fun st hst => fin st .zero q 4 .nil [rB s q 4 q, ⟨ndC x, 83⟩] [] eq (.inr (.inl ⟨rfl, rfl⟩)) hst))
    · have d3 : decide ((q : Int) < (s.size : Int)) = false := by rw [decide_eq_false_iff_not]; omega
      rw [if_neg (by omega)] at eq
      refine SWP.runQ (SOn [(55, [(32, false)])] []) 100 55 hnt [2, 5, 6] (e := .normal) (z := { t := [(2, PV.ptr 0 0), (5, PV.ptr 1 0), (6, PV.ptr 2 0)], h := { bx := [{ cs := [PV.int IntKind.i64 (0 : Int), PV.int IntKind.i64 (0 : Int), PV.str { data := #[] }, PV.nil, PV.int IntKind.i64 (0 : Int)], ty := 83 }, { cs := [PV.str s, PV.int IntKind.i64 (Int.ofNat q), PV.int IntKind.i64 (0 : Int), PV.int IntKind.i64 (0 : Int)], ty := 98 }, { cs := [PV.int IntKind.i64 (ndK x), PV.int IntKind.i64 (ndN x), PV.str (ndT x), PV.slice (Nds.len (ndS x)) (Nds.cells (ndS x)), PV.int IntKind.i64 (ndA x)], ty := 83 }], rw := [] } }) (o := [(decide ((↑q : Int) < (↑(ByteArray.size s) : Int)), false)]) (by kernel_rfl) (by ((repeat' (first | exact okO_nil | refine okN ?_ ?_)); all_goals first | assumption | rfl | exact same_of rfl | exact sameS_self _ | (simp only [decide_eq_true_eq, decide_eq_false_iff_not, Nat.ble_eq, Nat.beq_eq, beq_eq_false_iff_ne, beq_iff_eq, ne_eq] <;> omega))) (fun st hst => hK st (.norm [2, 5, 6] ?_))
      rw [hst]
      exact SWP.runQ (SOn [] []) 100 55 hnt [2, 3, 4] (e := .ret) (z := { t := [(2, PV.ptr 0 0), (3, PV.int IntKind.i64 (0 : Int)), (4, PV.int IntKind.i64 (0 : Int))], h := { bx := [{ cs := [PV.int IntKind.i64 (ndK x), PV.int IntKind.i64 (ndN x), PV.str (ndT x), PV.slice (Nds.len (ndS x)) (Nds.cells (ndS x)), PV.int IntKind.i64 (ndA x)], ty := 83 }, { cs := [PV.str s, PV.int IntKind.i64 (Int.ofNat q), PV.int IntKind.i64 (0 : Int), PV.int IntKind.i64 (0 : Int)], ty := 98 }, { cs := [PV.int IntKind.i64 (ndK x), PV.int IntKind.i64 (ndN x), PV.str (ndT x), PV.slice (Nds.len (ndS x)) (Nds.cells (ndS x)), PV.int IntKind.i64 (ndA x)], ty := 83 }], rw := [] } }) (o := []) (by kernel_rfl) (by ((repeat' (first | exact okO_nil | refine okN ?_ ?_)); all_goals first | assumption | rfl | exact same_of rfl | exact sameS_self _ | (simp only [decide_eq_true_eq, decide_eq_false_iff_not, Nat.ble_eq, Nat.beq_eq, beq_eq_false_iff_ne, beq_iff_eq, ne_eq] <;> omega))) (fun st hst => fin st x 0 0 (.slice (ndS x).len (ndS x).cells) [rB s q 0 0, ⟨ndC x, 83⟩] [] eq (.inl rfl) hst)
  · rw [if_neg h0] at eq
    have d3 : (e == (0 : Int)) = false := beqF h0
    have d4 : (!e == (0 : Int)) = true := by rw [beqF h0]; rfl
    exact SWP.runQ (SOn [(55, [(24, false)])] []) 100 55 hnt [2, 5, 6] (e := .normal) (z := { t := [(2, PV.ptr 0 0), (5, PV.ptr 1 0), (6, PV.ptr 2 0)], h := { bx := [{ cs := [PV.int IntKind.i64 (0 : Int), PV.int IntKind.i64 (0 : Int), PV.str { data := #[] }, PV.nil, PV.int IntKind.i64 (0 : Int)], ty := 83 }, { cs := [PV.str s, PV.int IntKind.i64 (Int.ofNat q), PV.int IntKind.i64 e, PV.int IntKind.i64 b], ty := 98 }, { cs := [PV.int IntKind.i64 (ndK x), PV.int IntKind.i64 (ndN x), PV.str (ndT x), PV.slice (Nds.len (ndS x)) (Nds.cells (ndS x)), PV.int IntKind.i64 (ndA x)], ty := 83 }], rw := [] } }) (o := [(e == (0 : Int), false)]) (by kernel_rfl) (by ((repeat' (first | exact okO_nil | refine okN ?_ ?_)); all_goals first | assumption | rfl | exact same_of rfl | exact sameS_self _ | (simp only [decide_eq_true_eq, decide_eq_false_iff_not, Nat.ble_eq, Nat.beq_eq, beq_eq_false_iff_ne, beq_iff_eq, ne_eq] <;> omega))) (bad q e b d4 (fun st hst => fin st .zero b e .nil [rB s q e b, ⟨ndC x, 83⟩] [] eq (.inr (.inl ⟨rfl, rfl⟩)) hst))
end Seat
end Go.Proofs.YtkblfapbakfgpaaDoor
