/- Texts of this session, packed: Read7, Lay19, Law1, Wit, Eng1, Flat1. -/
import Derived.Test.YtkblfapbakfgpaaDoorLa5
import Derived.Deep.DeepWitnessRowRef
import Derived.DataShut
import Derived.OpenShut
/- The document's reader: Read. Printed by dev/rd7.py and dev/nfsub.py (this session's). -/
namespace Go.Proofs.YtkblfapbakfgpaaDoor
open Go.AS Go.RowKit
set_option linter.unusedVariables false
set_option linter.unusedSimpArgs false
set_option maxRecDepth 100000
set_option maxHeartbeats 4000000
namespace Seat
def onX (s : ByteArray) : Nd := (oneR s).1
def onA (s : ByteArray) : Int := (oneR s).2.1
def onE (s : ByteArray) : Int := (oneR s).2.2
open Classical in
noncomputable def isNdo (m : Nat) (cs : List PV) : Bool := decide (∃ ks : Nds, ks.len = m ∧ ks.cells = cs ∧ ks.len ≤ 1099511627777 ∧ ks.ok)
theorem isNdo_at {ks : Nds} (hl : ks.len ≤ 1099511627777) (ho : ks.ok) : isNdo ks.len ks.cells = true := by
  unfold isNdo
  classical exact decide_eq_true ⟨ks, rfl, rfl, hl, ho⟩
theorem isNdo_of {m : Nat} {cs : List PV} (h : isNdo m cs = true) : ∃ ks : Nds, ks.len = m ∧ ks.cells = cs ∧ ks.len ≤ 1099511627777 ∧ ks.ok := by
  unfold isNdo at h
  classical exact of_decide_eq_true h
noncomputable def rrS (f : Nat) (args : List PV) : Option (PV × Ob) := match f, args with
  | 47, [.str s] => some (.tup [.agg (ndC (onX s)), .int .i64 (onA s), .int .i64 (onE s)], [])
  | 48, [.agg [.int .i64 k, .int .i64 n, .str t, .slice m cs, .int .i64 a]] => some (.agg [.int .i64 k, .int .i64 n, .str t, .slice m (ndD cs).cells], [(isNdo m cs, true)])
  | _, _ => none
theorem rrS_ok (f : Nat) (args : List PV) (r : PV) (o : Ob) (h : rrS f args = some (r, o)) (ho : ∀ p ∈ o, p.1 = p.2) (_ : pureL args = true) : Pure G0 f args (fun x => x = r) := by
  unfold rrS at h
  split at h
  · cases h
    exact one_ok _
  · rename_i k n t m cs a _
    cases h
    obtain ⟨ks, rfl, rfl, h2, h3⟩ := isNdo_of (ho (isNdo m cs, true) (List.mem_singleton.2 rfl))
    rw [ndD_at]
    exact dt_at (ks.size + 1) k n t ks a (Nat.lt_succ_self _) h2 h3
  · cases h
noncomputable def SRr (l : List (Nat × List (Nat × Bool))) (v : List (Nat × List (Nat × PV))) : Cfg G0 := { F := F, hF := hF, S := rrS, hS := rrS_ok, orc := orcM l, val := valM v }
theorem Nds.snoc_ok : ∀ (l : Nds) (x : Nd), l.ok → x.ok → (l.snoc x).ok
  | .nil, x, _, hx => ⟨hx, trivial⟩
  | .cons d ds, x, h, hx => ⟨h.1, Nds.snoc_ok ds x h.2 hx⟩
theorem rdL_ok {f : Nat → Nd × RS} {s : ByteArray} (hf : ∀ a, (f a).1.ok) : ∀ k r l, l.ok → (rdL f s k r l).1.ok
  | 0, r, l, h => h
  | k + 1, r, l, h => by
    rw [rdL]
    split
    · exact rdL_ok hf k _ _ (Nds.snoc_ok l _ h (hf r.a))
    · exact h
theorem rdL_len {f : Nat → Nd × RS} {s : ByteArray} : ∀ k r l, (rdL f s k r l).1.len ≤ l.len + k
  | 0, r, l => Nat.le_refl _
  | k + 1, r, l => by
    rw [rdL]
    split
    · have := rdL_len (f := f) (s := s) k ⟨skp s (f r.a).2.a, (f r.a).2.e, (f r.a).2.b⟩ (l.snoc (f r.a).1)
      rw [Nds.snoc_len] at this
      omega
    · show l.len ≤ _; omega
theorem Nd.zero_ok : Nd.zero.ok := ⟨Nat.zero_le _, trivial⟩
theorem atomR_ok (s : ByteArray) (a : Nat) : (atomR s a).1.ok := by
  unfold atomR
  split
  · exact ⟨Nat.zero_le _, trivial⟩
  · split
    · exact ⟨Nat.zero_le _, trivial⟩
    · exact Nd.zero_ok
theorem rdD_ok (s : ByteArray) (hs : s.size ≤ 1099511627776) : ∀ n a, (rdD s n a).1.ok := by
  intro n
  induction n with
  | zero =>
    intro a
    rw [rdD_eq]
    split
    · exact Nd.zero_ok
    · split
      · exact Nd.zero_ok
      · exact Nd.zero_ok
  | succ n ih =>
    intro a
    rw [rdD_eq]
    split
    · exact Nd.zero_ok
    · split
      · exact Nd.zero_ok
      · simp only []
        split
        · exact Nd.zero_ok
        · split
          · exact atomR_ok s a
          · split
            · exact ⟨by simp [Nds.len], ⟨Nat.zero_le _, trivial⟩, ih _, trivial⟩
            · refine ⟨?_, rdL_ok ih _ _ _ trivial⟩
              have := rdL_len (f := rdD s n) (s := s) (s.size + 1) ⟨skp s (a + 1), 0, 0⟩ .nil
              simp only [Nds.len] at this
              omega
theorem onX_ok (s : ByteArray) : (onX s).ok := by
  unfold onX oneR
  split
  · exact Nd.zero_ok
  · split
    · split
      · exact Nd.zero_ok
      · exact rdD_ok s (by omega) _ _
    · exact Nd.zero_ok
def readD (s : ByteArray) : Dat := if onE s = 0 then (onX s).dat else .mk 0 0 ⟨#[]⟩ .nil
theorem onA_zero (s : ByteArray) (h : onE s = 0) : onA s = 0 := by
  unfold onE oneR at h
  unfold onA oneR
  split at h
  · exact absurd h n3
  · rename_i h1
    rw [if_neg h1]
    split at h
    · rename_i h2
      rw [if_pos h2]
      split at h
      · exact absurd h n4
      · rename_i h3
        rw [if_neg h3]
    · rename_i h2
      exact absurd h h2
theorem read_ok (s : ByteArray) : Pure G0 31 [.str s] (fun r => r = .tup [.agg (readD s).cells, .int .i64 (onA s), .int .i64 (onE s)]) := by
  by_cases h0 : onE s = 0
  · have hrd : readD s = (onX s).dat := by rw [readD, if_pos h0]
    refine Fn.enterB Tryd.func31 Tryd.ntmps31 rfl (Nat.le_of_ble_eq_true rfl) fun C fr fp hnt hnb hp hfr hfp => ?_
    refine Q.runSeq (SRr [] []) 100 21 hnt [0, 2, 3, 4] (z := { t := [(0, PV.str s), (2, PV.ptr 0 0), (3, PV.int IntKind.i64 (0 : Int)), (4, PV.int IntKind.i64 (0 : Int))], h := { bx := [{ cs := [PV.int IntKind.i64 (0 : Int), PV.int IntKind.i64 (0 : Int), PV.str { data := #[] }, PV.nil], ty := 24 }], rw := [] } }) (o := []) (by kernel_rfl) (by ((repeat' (first | exact okO_nil | refine okN ?_ ?_)); all_goals first | assumption | rfl | exact same_of rfl | exact sameS_self _ | (simp only [decide_eq_true_eq, decide_eq_false_iff_not, Nat.ble_eq, Nat.beq_eq, beq_eq_false_iff_ne, beq_iff_eq, ne_eq] <;> omega))) ?_
    refine Q.runSeq (SRr [] []) 100 21 hnt [2, 5, 6, 7] (z := { t := [(2, PV.ptr 0 0), (5, PV.ptr 1 0), (6, PV.int IntKind.i64 (onA s)), (7, PV.int IntKind.i64 (onE s))], h := { bx := [{ cs := [PV.int IntKind.i64 (0 : Int), PV.int IntKind.i64 (0 : Int), PV.str { data := #[] }, PV.nil], ty := 24 }, { cs := [PV.int IntKind.i64 (ndK (onX s)), PV.int IntKind.i64 (ndN (onX s)), PV.str (ndT (onX s)), PV.slice (Nds.len (ndS (onX s))) (Nds.cells (ndS (onX s))), PV.int IntKind.i64 (ndA (onX s))], ty := 83 }], rw := [] } }) (o := [(true, true)]) (by kernel_rfl) (by ((repeat' (first | exact okO_nil | refine okN ?_ ?_)); all_goals first | assumption | rfl | exact same_of rfl | exact sameS_self _ | (simp only [decide_eq_true_eq, decide_eq_false_iff_not, Nat.ble_eq, Nat.beq_eq, beq_eq_false_iff_ne, beq_iff_eq, ne_eq] <;> omega))) ?_
    obtain ⟨x, hx⟩ : ∃ x, x = onX s := ⟨_, rfl⟩
    obtain ⟨a, ha⟩ : ∃ x, x = onA s := ⟨_, rfl⟩
    obtain ⟨e, he⟩ : ∃ x, x = onE s := ⟨_, rfl⟩
    have hok := onX_ok s
    have ha0 := onA_zero s h0
    rw [← hx] at hok hrd
    rw [← ha, ← he, hrd] at hfr
    rw [← ha] at ha0
    rw [← he] at h0
    rw [← hx, ← ha, ← he]
    subst ha0
    have d1 : (!e == (0 : Int)) = false := by rw [h0]; rfl
    obtain ⟨k, n, t, ks, q⟩ := x
    have d2 : isNdo (ndS (Nd.mk k n t ks q)).len (ndS (Nd.mk k n t ks q)).cells = true := isNdo_at hok.1 hok.2
    obtain ⟨x, hx2⟩ : ∃ x, x = Nd.mk k n t ks q := ⟨_, rfl⟩
    rw [← hx2] at d2 ⊢
    refine SWP.runQ (SRr [(21, [(15, false)])] []) 100 21 hnt [2, 3, 4] (e := .ret) (z := { t := [(2, PV.ptr 0 0), (3, PV.int IntKind.i64 (0 : Int)), (4, PV.int IntKind.i64 (0 : Int))], h := { bx := [{ cs := [PV.int IntKind.i64 (ndK x), PV.int IntKind.i64 (ndN x), PV.str (ndT x), PV.slice (Nds.len (ndS x)) (Dats.cells (ndD (Nds.cells (ndS x))))], ty := 24 }, { cs := [PV.int IntKind.i64 (ndK x), PV.int IntKind.i64 (ndN x), PV.str (ndT x), PV.slice (Nds.len (ndS x)) (Nds.cells (ndS x)), PV.int IntKind.i64 (ndA x)], ty := 83 }], rw := [] } }) (o := [(!e == (0 : Int), false), (false, false), (true, true), (isNdo (Nds.len (ndS x)) (Nds.cells (ndS x)), true)]) (by kernel_rfl) (by ((repeat' (first | exact okO_nil | refine okN ?_ ?_)); all_goals first | assumption | rfl | exact same_of rfl | exact sameS_self _ | (simp only [decide_eq_true_eq, decide_eq_false_iff_not, Nat.ble_eq, Nat.beq_eq, beq_eq_false_iff_ne, beq_iff_eq, ne_eq] <;> omega))) (fun st hst => hfr st [2, 3, 4] ?_)
    rw [hst, hx2, h0]
    refine ⟨0, .tup [.agg [.int .i64 k, .int .i64 n, .str t, .slice ks.len (ndD ks.cells).cells], .int .i64 0, .int .i64 0], Nat.le_refl _, Nat.zero_le _, rfl, rfl, rfl, rfl, _, rfl, ?_⟩
    rw [ndD_at]
    simp only [Nd.dat, Dat.cells, Nds.dat_len]
  · have hrd : (readD s).cells = [.int .i64 0, .int .i64 0, .str ⟨#[]⟩, .slice 0 []] := by rw [readD, if_neg h0]; rfl
    rw [hrd]
    refine Pure.weak (fun E w v => VRep.tnil0) ?_
    refine Fn.enterB Tryd.func31 Tryd.ntmps31 rfl (Nat.le_of_ble_eq_true rfl) fun C fr fp hnt hnb hp hfr hfp => ?_
    refine Q.runSeq (SRr [] []) 100 21 hnt [0, 2, 3, 4] (z := { t := [(0, PV.str s), (2, PV.ptr 0 0), (3, PV.int IntKind.i64 (0 : Int)), (4, PV.int IntKind.i64 (0 : Int))], h := { bx := [{ cs := [PV.int IntKind.i64 (0 : Int), PV.int IntKind.i64 (0 : Int), PV.str { data := #[] }, PV.nil], ty := 24 }], rw := [] } }) (o := []) (by kernel_rfl) (by ((repeat' (first | exact okO_nil | refine okN ?_ ?_)); all_goals first | assumption | rfl | exact same_of rfl | exact sameS_self _ | (simp only [decide_eq_true_eq, decide_eq_false_iff_not, Nat.ble_eq, Nat.beq_eq, beq_eq_false_iff_ne, beq_iff_eq, ne_eq] <;> omega))) ?_
    refine Q.runSeq (SRr [] []) 100 21 hnt [2, 5, 6, 7] (z := { t := [(2, PV.ptr 0 0), (5, PV.ptr 1 0), (6, PV.int IntKind.i64 (onA s)), (7, PV.int IntKind.i64 (onE s))], h := { bx := [{ cs := [PV.int IntKind.i64 (0 : Int), PV.int IntKind.i64 (0 : Int), PV.str { data := #[] }, PV.nil], ty := 24 }, { cs := [PV.int IntKind.i64 (ndK (onX s)), PV.int IntKind.i64 (ndN (onX s)), PV.str (ndT (onX s)), PV.slice (Nds.len (ndS (onX s))) (Nds.cells (ndS (onX s))), PV.int IntKind.i64 (ndA (onX s))], ty := 83 }], rw := [] } }) (o := [(true, true)]) (by kernel_rfl) (by ((repeat' (first | exact okO_nil | refine okN ?_ ?_)); all_goals first | assumption | rfl | exact same_of rfl | exact sameS_self _ | (simp only [decide_eq_true_eq, decide_eq_false_iff_not, Nat.ble_eq, Nat.beq_eq, beq_eq_false_iff_ne, beq_iff_eq, ne_eq] <;> omega))) ?_
    obtain ⟨x, hx⟩ : ∃ x, x = onX s := ⟨_, rfl⟩
    obtain ⟨a, ha⟩ : ∃ x, x = onA s := ⟨_, rfl⟩
    obtain ⟨e, he⟩ : ∃ x, x = onE s := ⟨_, rfl⟩
    rw [← ha, ← he] at hfr
    rw [← he] at h0
    rw [← hx, ← ha, ← he]
    have d1 : (!e == (0 : Int)) = true := by rw [beqF h0]; rfl
    refine SWP.runQ (SRr [(21, [(15, true)])] []) 100 21 hnt [2, 3, 4] (e := .ret) (z := { t := [(2, PV.ptr 0 0), (3, PV.int IntKind.i64 a), (4, PV.int IntKind.i64 e)], h := { bx := [{ cs := [PV.int IntKind.i64 (0 : Int), PV.int IntKind.i64 (0 : Int), PV.str { data := #[] }, PV.nil], ty := 24 }, { cs := [PV.int IntKind.i64 (ndK x), PV.int IntKind.i64 (ndN x), PV.str (ndT x), PV.slice (Nds.len (ndS x)) (Nds.cells (ndS x)), PV.int IntKind.i64 (ndA x)], ty := 83 }], rw := [] } }) (o := [(!e == (0 : Int), true), (true, true)]) (by kernel_rfl) (by ((repeat' (first | exact okO_nil | refine okN ?_ ?_)); all_goals first | assumption | rfl | exact same_of rfl | exact sameS_self _ | (simp only [decide_eq_true_eq, decide_eq_false_iff_not, Nat.ble_eq, Nat.beq_eq, beq_eq_false_iff_ne, beq_iff_eq, ne_eq] <;> omega))) (fun st hst => hfr st [2, 3, 4] ?_)
    rw [hst]
    exact ⟨0, .tup [.agg [.int .i64 0, .int .i64 0, .str ⟨#[]⟩, .nil], .int .i64 a, .int .i64 e], Nat.le_refl _, Nat.zero_le _, rfl, rfl, rfl, rfl, _, rfl, rfl⟩
end Seat
end Go.Proofs.YtkblfapbakfgpaaDoor
/- Layout: the chapter's example (alive). -/
namespace Go.Proofs.YtkblfapbakfgpaaDoor
open Go.AS Go.RowKit
set_option linter.unusedVariables false
set_option linter.unusedSimpArgs false
set_option maxRecDepth 100000
set_option maxHeartbeats 4000000
namespace Seat
def exS : ByteArray := ⟨#[40, 105, 102, 32, 40, 60, 32, 110, 32, 50, 41, 32, 110, 32, 40, 43, 32, 49, 32, 110, 41, 41]⟩
def exN (n : Int) : Dat := .mk 1 n ⟨#[]⟩ .nil
def exY (l : Array UInt8) : Dat := .mk 2 0 ⟨l⟩ .nil
def exK : Dats := .cons (exY #[105, 102]) (.cons (.mk 3 0 ⟨#[]⟩ (.cons (exY #[60]) (.cons (exY #[110]) (.cons (exN 2) .nil)))) (.cons (exY #[110]) (.cons (.mk 3 0 ⟨#[]⟩ (.cons (exY #[43]) (.cons (exN 1) (.cons (exY #[110]) .nil)))) .nil)))
def exD : Dat := .mk 3 0 ⟨#[]⟩ exK
theorem ex_read : readD exS = exD ∧ onA exS = 0 ∧ onE exS = 0 := ⟨by kernel_rfl, by kernel_rfl, by kernel_rfl⟩
noncomputable def llC (w : Int) (cs : List PV) : Nat := ofCells (fun d => (metR d w).1) 0 cs
noncomputable def avS (f : Nat) (args : List PV) : Option (PV × Ob) := match f, args with
  | 31, [.str s] => some (.tup [.agg [.int .i64 3, .int .i64 0, .str ⟨#[]⟩, .slice 4 exK.cells], .int .i64 0, .int .i64 0], [(same (.str s) (.str exS), true)])
  | 11, [.agg cs, .int .i64 w] => some (.tup [.str (loBC w cs), .int .i64 (loEC w cs)], [(isSml cs, true)])
  | 21, [.agg cs, .int .i64 w] => some (.tup [.int .i64 (llC w cs), .int .i64 (loEC w cs)], [(isSml cs, true)])
  | _, _ => none
theorem avS_ok (f : Nat) (args : List PV) (r : PV) (o : Ob) (h : avS f args = some (r, o)) (ho : ∀ p ∈ o, p.1 = p.2) (_ : pureL args = true) : Pure G0 f args (fun x => x = r) := by
  unfold avS at h
  split at h
  · rename_i s _
    cases h
    have hs := of_same (ho (same (.str s) (.str exS), true) (List.mem_singleton.2 rfl))
    cases hs
    have key := read_ok exS
    rw [ex_read.1, ex_read.2.1, ex_read.2.2] at key
    exact key
  · rename_i cs w _
    cases h
    obtain ⟨d, rfl, h1⟩ := isSml_of (ho (isSml cs, true) (List.mem_singleton.2 rfl))
    unfold loBC loEC
    rw [ofCells_at, ofCells_at]
    exact lay_ok d h1 w
  · rename_i cs w _
    cases h
    obtain ⟨d, rfl, h1⟩ := isSml_of (ho (isSml cs, true) (List.mem_singleton.2 rfl))
    unfold llC loEC
    rw [ofCells_at, ofCells_at]
    exact lines_ok d h1 w
  · cases h
noncomputable def SAl (l : List (Nat × List (Nat × Bool))) : Cfg G0 := { F := F, hF := hF, S := avS, hS := avS_ok, orc := orcM l }
def exL : ByteArray := ⟨#[40, 105, 102, 10, 32, 32, 40, 60, 32, 110, 32, 50, 41, 10, 32, 32, 110, 10, 32, 32, 40, 43, 32, 49, 32, 110, 41, 41, 10]⟩
theorem ex_e10 : alE (.cons exD .nil) 10 = 0 := by kernel_rfl
theorem ex_e9 : alE (.cons exD .nil) 9 = 2 := by kernel_rfl
theorem ex_b10 : alB (.cons exD .nil) 10 = exL := by kernel_rfl
theorem ex_l10 : (metR exD 10).1 = 4 := by kernel_rfl
theorem ex_small : Small exD := by
  refine ⟨?_, ?_, Nat.le_of_ble_eq_true (by kernel_rfl)⟩
  · simp [exD, exK, exY, exN, Dat.ok, Dats.ok, Dats.len]
  · simp [exD, exK, exY, exN, Dat.rng, Dats.rng]
theorem alive_ok : Pure G0 13 [] (fun r => r = .bool true) := by
  have d1 : isSml exD.cells = true := isSml_at ex_small
  have d2 : (loEC 10 exD.cells == (0 : Int)) = true := by unfold loEC; rw [ofCells_at, ex_e10]; rfl
  have d3 : (loEC 9 exD.cells == (2 : Int)) = true := by unfold loEC; rw [ofCells_at, ex_e9]; rfl
  have d4 : (ByteArray.toList (loBC 10 exD.cells) == ByteArray.toList exL) = true := by unfold loBC; rw [ofCells_at, ex_b10, beq_iff_eq]
  have d5 : (Int.ofNat (llC 10 exD.cells) == (4 : Int)) = true := by unfold llC; rw [ofCells_at, ex_l10]; rfl
  refine Fn.enterB Tryd.func13 Tryd.ntmps13 rfl (Nat.le_of_ble_eq_true rfl) fun C fr fp hnt hnb hp hfr hfp => ?_
  refine SWP.runQ (SAl [(48, [(31, true), (34, true), (38, true), (42, true), (46, true)])]) 100 48 hnt [0] (e := .ret) (z := ⟨[(0, .bool true)], ⟨[⟨exD.cells, 24⟩], []⟩⟩)
    (o := [(true, true), (same (.str exS) (.str exS), true), (true, true), (isSml exD.cells, true), (true, true), (isSml exD.cells, true), (true, true), (isSml exD.cells, true), (loEC 10 exD.cells == (0 : Int), true), (ByteArray.toList (loBC 10 exD.cells) == ByteArray.toList exL, true), (loEC 10 exD.cells == (0 : Int), true), (Int.ofNat (llC 10 exD.cells) == (4 : Int), true), (loEC 9 exD.cells == (2 : Int), true)]) (by kernel_rfl) (by ((repeat' (first | exact okO_nil | refine okN ?_ ?_)); all_goals first | assumption | rfl | exact same_of rfl | exact sameS_self _ | (simp only [decide_eq_true_eq, decide_eq_false_iff_not, Nat.ble_eq, Nat.beq_eq, beq_eq_false_iff_ne, beq_iff_eq, ne_eq] <;> omega))) (fun st hs => hfr st [0] ?_)
  rw [hs]
  exact ⟨0, .bool true, Nat.le_refl _, Nat.zero_le _, rfl, rfl, rfl, rfl, _, rfl, rfl⟩
end Seat
end Go.Proofs.YtkblfapbakfgpaaDoor
/- Layout: the statement LayoutLays, by the laws of its parts. Printed by dev/law1.py and dev/nfsub.py (this session's). -/
namespace Go.Proofs.YtkblfapbakfgpaaDoor
open Go.AS Go.RowKit
set_option linter.unusedVariables false
set_option linter.unusedSimpArgs false
set_option maxRecDepth 100000
set_option maxHeartbeats 4000000
namespace Seat
noncomputable def lwC (w : Int) (cs : List PV) : Int := ofCells (fun d => lawE d w) 0 cs
noncomputable def eqC (a b : List PV) : Bool := ofCells (fun d => ofCells (fun e => eqD d e) false b) false a
theorem eqC_at (d e : Dat) : eqC d.cells e.cells = eqD d e := by unfold eqC; rw [ofCells_at, ofCells_at]
noncomputable def lawS (f : Nat) (args : List PV) : Option (PV × Ob) := match f, args with
  | 10, [.agg cs] => some (.agg [.int .i64 (cuA cs), .int .i64 (cuB cs), .str (cuC cs), .slice (cuD cs).len (cuD cs).cells], [(isOk cs, true)])
  | 11, [.agg cs, .int .i64 w] => some (.tup [.str (loBC w cs), .int .i64 (loEC w cs)], [(isSml cs, true)])
  | 12, [.agg cs, .int .i64 w] => some (.int .i64 (lwC w cs), [(isSml cs, true)])
  | 14, [.agg cs, .int .i64 w] => some (.str (mkS (laC w.toNat cs)), [(isLy cs, true), (decide (0 ≤ w ∧ w ≤ 4398046511104), true)])
  | 15, [.agg a, .agg b] => some (.bool (eqC a b), [(isOk a, true), (isOk b, true)])
  | 13, [] => some (.bool true, [])
  | _, _ => none
theorem lawS_ok (f : Nat) (args : List PV) (r : PV) (o : Ob) (h : lawS f args = some (r, o)) (ho : ∀ p ∈ o, p.1 = p.2) (_ : pureL args = true) : Pure G0 f args (fun x => x = r) := by
  unfold lawS at h
  split at h
  · rename_i cs _
    cases h
    obtain ⟨d, rfl, h1⟩ := isOk_of (ho _ (List.mem_singleton.2 rfl))
    have key := lawcut_ok d h1
    unfold cuA cuB cuC cuD
    rw [ofCells_at, ofCells_at, ofCells_at, ofCells_at]
    cases hc : (cutD d 1020 2000).1 with
    | mk k n s ks =>
      rw [hc] at key
      exact key
  · rename_i cs w _
    cases h
    obtain ⟨d, rfl, h1⟩ := isSml_of (ho (isSml cs, true) (List.mem_singleton.2 rfl))
    unfold loBC loEC
    rw [ofCells_at, ofCells_at]
    exact lay_ok d h1 w
  · rename_i cs w _
    cases h
    obtain ⟨d, rfl, h1⟩ := isSml_of (ho (isSml cs, true) (List.mem_singleton.2 rfl))
    unfold lwC
    rw [ofCells_at]
    exact lawcheck_ok d h1 w
  · rename_i cs w _
    cases h
    obtain ⟨d, rfl, h1, h2⟩ := isLy_of (ho (isLy cs, true) (by simp))
    have g := of_decide_eq_true (ho (decide (0 ≤ w ∧ w ≤ 4398046511104), true) (by simp))
    have key := reflay_ok d h1 h2 w.toNat (by omega)
    rw [Int.toNat_of_nonneg g.1] at key
    unfold laC
    rw [ofCells_at]
    exact key
  · rename_i a b _
    cases h
    obtain ⟨d, rfl, h1⟩ := isOk_of (ho (isOk a, true) (by simp))
    obtain ⟨e, rfl, h2⟩ := isOk_of (ho (isOk b, true) (by simp))
    rw [eqC_at]
    exact same_ok d e h1 h2
  · cases h
    exact alive_ok
  · cases h
noncomputable def SLaw (l : List (Nat × List (Nat × Bool))) (v : List (Nat × List (Nat × PV))) : Cfg G0 := { F := F, hF := hF, S := lawS, hS := lawS_ok, orc := orcM l, val := valM v }
theorem al_bad (c : Dat) (w : Int) (h : lawE c w ≠ 0) : alE (.cons c .nil) w = lawE c w ∧ alB (.cons c .nil) w = ⟨#[]⟩ := by
  have e : alE (.cons c .nil) w = lawE c w := by
    unfold lawE at h ⊢
    unfold alE chkA
    by_cases h1 : chkD c = 0
    · rw [if_pos h1] at h ⊢
      simp only [chkA, h1, if_true, if_neg h]
    · rw [if_neg h1, if_neg h1, if_neg h1]
  exact ⟨e, by rw [alB, e, if_neg h]⟩
theorem law_zero {c : Dat} {w : Int} (h : lawE c w = 0) : chkD c = 0 ∧ fitE w = 0 ∧ 10 ≤ w ∧ w ≤ 200 := by
  unfold lawE at h
  by_cases h1 : chkD c = 0
  · rw [if_pos h1] at h
    refine ⟨h1, h, ?_⟩
    unfold fitE at h
    split at h
    · exact absurd h (by decide)
    · split at h
      · exact absurd h (by decide)
      · omega
  · rw [if_neg h1] at h
    exact absurd h h1
theorem al_zero {c : Dat} {w : Int} (h : lawE c w = 0) : alE (.cons c .nil) w = if (layT w.toNat c 0 0 ++ [10]).length ≤ 2000000 then 0 else 3 := by
  obtain ⟨h1, h2, _⟩ := law_zero h
  unfold alE chkA
  rw [if_pos h1, chkA, if_pos rfl, if_pos h2, aT_one]
theorem al_long {c : Dat} {w : Int} (h : lawE c w = 0) (hl : 2000000 < (layT w.toNat c 0 0 ++ [10]).length) : alE (.cons c .nil) w = 3 ∧ alB (.cons c .nil) w = ⟨#[]⟩ := by
  have e := al_zero h
  rw [if_neg (by omega)] at e
  exact ⟨e, by rw [alB, e, if_neg (by decide)]⟩
theorem al_ok {c : Dat} {w : Int} (h : lawE c w = 0) (hl : (layT w.toNat c 0 0 ++ [10]).length ≤ 2000000) : alE (.cons c .nil) w = 0 ∧ alB (.cons c .nil) w = mkS (layT w.toNat c 0 0 ++ [10]) := by
  have e := al_zero h
  rw [if_pos hl] at e
  exact ⟨e, by rw [alB, e, if_pos rfl, aT_one]⟩
mutual
theorem eqD_self : ∀ d : Dat, eqD d d = true
  | .mk k n s ks => by simp [eqD, eqL_self ks]
theorem eqL_self : ∀ ks : Dats, eqL ks ks = true
  | .nil => by simp [eqL]
  | .cons d ds => by simp [eqL, eqD_self d, eqL_self ds]
end
theorem cut_cells (k n k' n' : Int) (s s' : ByteArray) (ks ks' : Dats) (hc : (cutD (.mk k n s ks) 1020 2000).1 = .mk k' n' s' ks') :
    same (PV.agg [.int .i64 (cuA [PV.int IntKind.i64 k, PV.int IntKind.i64 n, PV.str s, PV.slice (Dats.len ks) (Dats.cells ks)]), .int .i64 (cuB [PV.int IntKind.i64 k, PV.int IntKind.i64 n, PV.str s, PV.slice (Dats.len ks) (Dats.cells ks)]), .str (cuC [PV.int IntKind.i64 k, PV.int IntKind.i64 n, PV.str s, PV.slice (Dats.len ks) (Dats.cells ks)]), .slice (cuD [PV.int IntKind.i64 k, PV.int IntKind.i64 n, PV.str s, PV.slice (Dats.len ks) (Dats.cells ks)]).len (cuD [PV.int IntKind.i64 k, PV.int IntKind.i64 n, PV.str s, PV.slice (Dats.len ks) (Dats.cells ks)]).cells]) (PV.agg [PV.int IntKind.i64 k', PV.int IntKind.i64 n', PV.str s', PV.slice (Dats.len ks') (Dats.cells ks')]) = true := same_of (by
  have a1 : cuA [PV.int IntKind.i64 k, PV.int IntKind.i64 n, PV.str s, PV.slice (Dats.len ks) (Dats.cells ks)] = _ := ofCells_at _ _ (.mk k n s ks)
  have a2 : cuB [PV.int IntKind.i64 k, PV.int IntKind.i64 n, PV.str s, PV.slice (Dats.len ks) (Dats.cells ks)] = _ := ofCells_at _ _ (.mk k n s ks)
  have a3 : cuC [PV.int IntKind.i64 k, PV.int IntKind.i64 n, PV.str s, PV.slice (Dats.len ks) (Dats.cells ks)] = _ := ofCells_at _ _ (.mk k n s ks)
  have a4 : cuD [PV.int IntKind.i64 k, PV.int IntKind.i64 n, PV.str s, PV.slice (Dats.len ks) (Dats.cells ks)] = _ := ofCells_at _ _ (.mk k n s ks)
  rw [a1, a2, a3, a4, hc])
theorem lays_law (d : Dat) (hd : d.ok) (hr : d.rng) (w : Int) : Pure G0 3 [.agg d.cells, .int .i64 w] (fun r => r = .bool true) := by
  obtain ⟨k', n', s', ks', hc⟩ := Dat.is_mk (cutD d 1020 2000).1
  have hS : Small (cutD d 1020 2000).1 := cut_small d hd hr 2000 1020 (by omega) (by omega)
  rw [hc] at hS
  obtain ⟨k, n, s, ks⟩ := d
  have a1 : isOk [PV.int IntKind.i64 k, PV.int IntKind.i64 n, PV.str s, PV.slice (Dats.len ks) (Dats.cells ks)] = true := isOk_at (d := .mk k n s ks) hd
  have a2 := cut_cells k n k' n' s s' ks ks' hc
  have a3 : isSml [PV.int IntKind.i64 k', PV.int IntKind.i64 n', PV.str s', PV.slice (Dats.len ks') (Dats.cells ks')] = true := isSml_at (d := .mk k' n' s' ks') hS
  have a4 : isOk [PV.int IntKind.i64 k', PV.int IntKind.i64 n', PV.str s', PV.slice (Dats.len ks') (Dats.cells ks')] = true := isOk_at (d := .mk k' n' s' ks') hS.1
  have lw : lwC w [PV.int IntKind.i64 k', PV.int IntKind.i64 n', PV.str s', PV.slice (Dats.len ks') (Dats.cells ks')] = lawE (.mk k' n' s' ks') w := ofCells_at _ _ (.mk k' n' s' ks')
  have lb : loBC w [PV.int IntKind.i64 k', PV.int IntKind.i64 n', PV.str s', PV.slice (Dats.len ks') (Dats.cells ks')] = alB (.cons (.mk k' n' s' ks') .nil) w := ofCells_at _ _ (.mk k' n' s' ks')
  have le : loEC w [PV.int IntKind.i64 k', PV.int IntKind.i64 n', PV.str s', PV.slice (Dats.len ks') (Dats.cells ks')] = alE (.cons (.mk k' n' s' ks') .nil) w := ofCells_at _ _ (.mk k' n' s' ks')
  have la : laC w.toNat [PV.int IntKind.i64 k', PV.int IntKind.i64 n', PV.str s', PV.slice (Dats.len ks') (Dats.cells ks')] = layT w.toNat (.mk k' n' s' ks') 0 0 ++ [10] := ofCells_at _ _ (.mk k' n' s' ks')
  have a5 : same (PV.bool (eqC [PV.int IntKind.i64 k', PV.int IntKind.i64 n', PV.str s', PV.slice (Dats.len ks') (Dats.cells ks')] [PV.int IntKind.i64 k', PV.int IntKind.i64 n', PV.str s', PV.slice (Dats.len ks') (Dats.cells ks')])) (PV.bool true) = true := sameB ((eqC_at (.mk k' n' s' ks') (.mk k' n' s' ks')).trans (eqD_self _))
  refine Fn.enterB Tryd.func3 Tryd.ntmps3 rfl (Nat.le_of_ble_eq_true rfl) fun C fr fp hnt hnb hp hfr hfp => ?_
  have fin : ∀ st H, nrm [4] st = ⟨[(4, .bool true)], H⟩ → fr st := fun st H hst => hfr st [4] (by
    rw [hst]
    exact ⟨0, .bool true, Nat.le_refl _, Nat.zero_le _, rfl, rfl, rfl, rfl, _, rfl, rfl⟩)
  by_cases h0 : lawE (.mk k' n' s' ks') w = 0
  · obtain ⟨h1, _, h2, h3⟩ := law_zero h0
    have a6 : isLy [PV.int IntKind.i64 k', PV.int IntKind.i64 n', PV.str s', PV.slice (Dats.len ks') (Dats.cells ks')] = true := isLy_at (d := .mk k' n' s' ks') hS (chk_formed h1)
    have a7 : decide (0 ≤ w ∧ w ≤ 4398046511104) = true := by rw [decide_eq_true_eq]; omega
    have b1 : (!lwC w [PV.int IntKind.i64 k', PV.int IntKind.i64 n', PV.str s', PV.slice (Dats.len ks') (Dats.cells ks')] == (0 : Int)) = false := by rw [lw, h0]; rfl
    have hsz : Int.ofNat (ByteArray.size (mkS (laC (Int.toNat w) [PV.int IntKind.i64 k', PV.int IntKind.i64 n', PV.str s', PV.slice (Dats.len ks') (Dats.cells ks')]))) = ((layT w.toNat (.mk k' n' s' ks') 0 0 ++ [10]).length : Int) := by rw [la]; rfl
    by_cases hl : 2000000 < (layT w.toNat (.mk k' n' s' ks') 0 0 ++ [10]).length
    · obtain ⟨g1, g2⟩ := al_long h0 hl
      have b2 : decide ((2000000 : Int) < Int.ofNat (ByteArray.size (mkS (laC (Int.toNat w) [PV.int IntKind.i64 k', PV.int IntKind.i64 n', PV.str s', PV.slice (Dats.len ks') (Dats.cells ks')])))) = true := by rw [hsz, decide_eq_true_eq]; omega
      have b3 : (ByteArray.toList (loBC w [PV.int IntKind.i64 k', PV.int IntKind.i64 n', PV.str s', PV.slice (Dats.len ks') (Dats.cells ks')]) == []) = true := by rw [lb, g2]; exact emp _ rfl
      have b4 : (loEC w [PV.int IntKind.i64 k', PV.int IntKind.i64 n', PV.str s', PV.slice (Dats.len ks') (Dats.cells ks')] == (3 : Int)) = true := by rw [le, g1]; rfl
      exact SWP.runQ (SLaw [(64, [(22, false), (38, true), (40, true), (43, true)])] [(64, [(11, .agg [.int .i64 k', .int .i64 n', .str s', .slice ks'.len ks'.cells])])]) 100 64 hnt [4] (e := .ret) (z := ⟨[(4, .bool true)], ⟨[DB k n s ks, DB k' n' s' ks'], []⟩⟩) (o := [(true, true), (isOk [PV.int IntKind.i64 k, PV.int IntKind.i64 n, PV.str s, PV.slice (Dats.len ks) (Dats.cells ks)], true), (same (PV.agg [.int .i64 (cuA [PV.int IntKind.i64 k, PV.int IntKind.i64 n, PV.str s, PV.slice (Dats.len ks) (Dats.cells ks)]), .int .i64 (cuB [PV.int IntKind.i64 k, PV.int IntKind.i64 n, PV.str s, PV.slice (Dats.len ks) (Dats.cells ks)]), .str (cuC [PV.int IntKind.i64 k, PV.int IntKind.i64 n, PV.str s, PV.slice (Dats.len ks) (Dats.cells ks)]), .slice (cuD [PV.int IntKind.i64 k, PV.int IntKind.i64 n, PV.str s, PV.slice (Dats.len ks) (Dats.cells ks)]).len (cuD [PV.int IntKind.i64 k, PV.int IntKind.i64 n, PV.str s, PV.slice (Dats.len ks) (Dats.cells ks)]).cells]) (PV.agg [PV.int IntKind.i64 k', PV.int IntKind.i64 n', PV.str s', PV.slice (Dats.len ks') (Dats.cells ks')]), true), (true, true), (isSml [PV.int IntKind.i64 k', PV.int IntKind.i64 n', PV.str s', PV.slice (Dats.len ks') (Dats.cells ks')], true), (true, true), (isSml [PV.int IntKind.i64 k', PV.int IntKind.i64 n', PV.str s', PV.slice (Dats.len ks') (Dats.cells ks')], true), (!lwC w [PV.int IntKind.i64 k', PV.int IntKind.i64 n', PV.str s', PV.slice (Dats.len ks') (Dats.cells ks')] == (0 : Int), false), (false, false), (true, true), (isLy [PV.int IntKind.i64 k', PV.int IntKind.i64 n', PV.str s', PV.slice (Dats.len ks') (Dats.cells ks')], true), (decide (0 ≤ w ∧ w ≤ 4398046511104), true), (decide ((2000000 : Int) < Int.ofNat (ByteArray.size (mkS (laC (Int.toNat w) [PV.int IntKind.i64 k', PV.int IntKind.i64 n', PV.str s', PV.slice (Dats.len ks') (Dats.cells ks')])))), true), (true, true), (ByteArray.toList (loBC w [PV.int IntKind.i64 k', PV.int IntKind.i64 n', PV.str s', PV.slice (Dats.len ks') (Dats.cells ks')]) == [], true), (loEC w [PV.int IntKind.i64 k', PV.int IntKind.i64 n', PV.str s', PV.slice (Dats.len ks') (Dats.cells ks')] == (3 : Int), true), (true, true)]) (by kernel_rfl) (by ((repeat' (first | exact okO_nil | refine okN ?_ ?_)); all_goals first | assumption | rfl | exact same_of rfl | exact sameS_self _ | (simp only [decide_eq_true_eq, decide_eq_false_iff_not, Nat.ble_eq, Nat.beq_eq, beq_eq_false_iff_ne, beq_iff_eq, ne_eq] <;> omega))) (fun st hs => fin st _ hs)
    · obtain ⟨g1, g2⟩ := al_ok h0 (Nat.le_of_not_lt hl)
      have b2 : decide ((2000000 : Int) < Int.ofNat (ByteArray.size (mkS (laC (Int.toNat w) [PV.int IntKind.i64 k', PV.int IntKind.i64 n', PV.str s', PV.slice (Dats.len ks') (Dats.cells ks')])))) = false := by rw [hsz, decide_eq_false_iff_not]; omega
      have b3 : same (PV.bool (loEC w [PV.int IntKind.i64 k', PV.int IntKind.i64 n', PV.str s', PV.slice (Dats.len ks') (Dats.cells ks')] == (0 : Int))) (PV.bool true) = true := sameB (by rw [le, g1]; rfl)
      have b4 : same (PV.bool (ByteArray.toList (loBC w [PV.int IntKind.i64 k', PV.int IntKind.i64 n', PV.str s', PV.slice (Dats.len ks') (Dats.cells ks')]) == ByteArray.toList (mkS (laC (Int.toNat w) [PV.int IntKind.i64 k', PV.int IntKind.i64 n', PV.str s', PV.slice (Dats.len ks') (Dats.cells ks')])))) (PV.bool true) = true := sameB (by rw [lb, g2, la, beq_iff_eq])
      exact SWP.runQ (SLaw [(64, [(22, false), (38, false)])] [(64, [(11, .agg [.int .i64 k', .int .i64 n', .str s', .slice ks'.len ks'.cells]), (49, .bool true), (53, .bool true), (58, .agg [.int .i64 k', .int .i64 n', .str s', .slice ks'.len ks'.cells]), (59, .bool true)])]) 100 64 hnt [4] (e := .ret) (z := ⟨[(4, .bool true)], ⟨[DB k n s ks, DB k' n' s' ks'], []⟩⟩) (o := [(true, true), (isOk [PV.int IntKind.i64 k, PV.int IntKind.i64 n, PV.str s, PV.slice (Dats.len ks) (Dats.cells ks)], true), (same (PV.agg [.int .i64 (cuA [PV.int IntKind.i64 k, PV.int IntKind.i64 n, PV.str s, PV.slice (Dats.len ks) (Dats.cells ks)]), .int .i64 (cuB [PV.int IntKind.i64 k, PV.int IntKind.i64 n, PV.str s, PV.slice (Dats.len ks) (Dats.cells ks)]), .str (cuC [PV.int IntKind.i64 k, PV.int IntKind.i64 n, PV.str s, PV.slice (Dats.len ks) (Dats.cells ks)]), .slice (cuD [PV.int IntKind.i64 k, PV.int IntKind.i64 n, PV.str s, PV.slice (Dats.len ks) (Dats.cells ks)]).len (cuD [PV.int IntKind.i64 k, PV.int IntKind.i64 n, PV.str s, PV.slice (Dats.len ks) (Dats.cells ks)]).cells]) (PV.agg [PV.int IntKind.i64 k', PV.int IntKind.i64 n', PV.str s', PV.slice (Dats.len ks') (Dats.cells ks')]), true), (true, true), (isSml [PV.int IntKind.i64 k', PV.int IntKind.i64 n', PV.str s', PV.slice (Dats.len ks') (Dats.cells ks')], true), (true, true), (isSml [PV.int IntKind.i64 k', PV.int IntKind.i64 n', PV.str s', PV.slice (Dats.len ks') (Dats.cells ks')], true), (!lwC w [PV.int IntKind.i64 k', PV.int IntKind.i64 n', PV.str s', PV.slice (Dats.len ks') (Dats.cells ks')] == (0 : Int), false), (false, false), (true, true), (isLy [PV.int IntKind.i64 k', PV.int IntKind.i64 n', PV.str s', PV.slice (Dats.len ks') (Dats.cells ks')], true), (decide (0 ≤ w ∧ w ≤ 4398046511104), true), (decide ((2000000 : Int) < Int.ofNat (ByteArray.size (mkS (laC (Int.toNat w) [PV.int IntKind.i64 k', PV.int IntKind.i64 n', PV.str s', PV.slice (Dats.len ks') (Dats.cells ks')])))), false), (false, false), (same (PV.bool (loEC w [PV.int IntKind.i64 k', PV.int IntKind.i64 n', PV.str s', PV.slice (Dats.len ks') (Dats.cells ks')] == (0 : Int))) (PV.bool true), true), (same (PV.bool (ByteArray.toList (loBC w [PV.int IntKind.i64 k', PV.int IntKind.i64 n', PV.str s', PV.slice (Dats.len ks') (Dats.cells ks')]) == ByteArray.toList (mkS (laC (Int.toNat w) [PV.int IntKind.i64 k', PV.int IntKind.i64 n', PV.str s', PV.slice (Dats.len ks') (Dats.cells ks')])))) (PV.bool true), true), (true, true), (isOk [PV.int IntKind.i64 k, PV.int IntKind.i64 n, PV.str s, PV.slice (Dats.len ks) (Dats.cells ks)], true), (same (PV.agg [.int .i64 (cuA [PV.int IntKind.i64 k, PV.int IntKind.i64 n, PV.str s, PV.slice (Dats.len ks) (Dats.cells ks)]), .int .i64 (cuB [PV.int IntKind.i64 k, PV.int IntKind.i64 n, PV.str s, PV.slice (Dats.len ks) (Dats.cells ks)]), .str (cuC [PV.int IntKind.i64 k, PV.int IntKind.i64 n, PV.str s, PV.slice (Dats.len ks) (Dats.cells ks)]), .slice (cuD [PV.int IntKind.i64 k, PV.int IntKind.i64 n, PV.str s, PV.slice (Dats.len ks) (Dats.cells ks)]).len (cuD [PV.int IntKind.i64 k, PV.int IntKind.i64 n, PV.str s, PV.slice (Dats.len ks) (Dats.cells ks)]).cells]) (PV.agg [PV.int IntKind.i64 k', PV.int IntKind.i64 n', PV.str s', PV.slice (Dats.len ks') (Dats.cells ks')]), true), (true, true), (isOk [PV.int IntKind.i64 k', PV.int IntKind.i64 n', PV.str s', PV.slice (Dats.len ks') (Dats.cells ks')], true), (isOk [PV.int IntKind.i64 k', PV.int IntKind.i64 n', PV.str s', PV.slice (Dats.len ks') (Dats.cells ks')], true), (same (PV.bool (eqC [PV.int IntKind.i64 k', PV.int IntKind.i64 n', PV.str s', PV.slice (Dats.len ks') (Dats.cells ks')] [PV.int IntKind.i64 k', PV.int IntKind.i64 n', PV.str s', PV.slice (Dats.len ks') (Dats.cells ks')])) (PV.bool true), true), (true, true)]) (by kernel_rfl) (by ((repeat' (first | exact okO_nil | refine okN ?_ ?_)); all_goals first | assumption | rfl | exact same_of rfl | exact sameS_self _ | (simp only [decide_eq_true_eq, decide_eq_false_iff_not, Nat.ble_eq, Nat.beq_eq, beq_eq_false_iff_ne, beq_iff_eq, ne_eq] <;> omega))) (fun st hs => fin st _ hs)
  · obtain ⟨g1, g2⟩ := al_bad _ _ h0
    have b1 : (!lwC w [PV.int IntKind.i64 k', PV.int IntKind.i64 n', PV.str s', PV.slice (Dats.len ks') (Dats.cells ks')] == (0 : Int)) = true := by rw [lw, beqF h0]; rfl
    have b2 : (ByteArray.toList (loBC w [PV.int IntKind.i64 k', PV.int IntKind.i64 n', PV.str s', PV.slice (Dats.len ks') (Dats.cells ks')]) == []) = true := by rw [lb, g2]; exact emp _ rfl
    have b3 : (loEC w [PV.int IntKind.i64 k', PV.int IntKind.i64 n', PV.str s', PV.slice (Dats.len ks') (Dats.cells ks')] == lwC w [PV.int IntKind.i64 k', PV.int IntKind.i64 n', PV.str s', PV.slice (Dats.len ks') (Dats.cells ks')]) = true := by rw [le, lw, g1, beq_iff_eq]
    exact SWP.runQ (SLaw [(64, [(22, true), (24, true), (28, true)])] [(64, [(11, .agg [.int .i64 k', .int .i64 n', .str s', .slice ks'.len ks'.cells])])]) 100 64 hnt [4] (e := .ret) (z := ⟨[(4, .bool true)], ⟨[DB k n s ks, DB k' n' s' ks'], []⟩⟩) (o := [(true, true), (isOk [PV.int IntKind.i64 k, PV.int IntKind.i64 n, PV.str s, PV.slice (Dats.len ks) (Dats.cells ks)], true), (same (PV.agg [.int .i64 (cuA [PV.int IntKind.i64 k, PV.int IntKind.i64 n, PV.str s, PV.slice (Dats.len ks) (Dats.cells ks)]), .int .i64 (cuB [PV.int IntKind.i64 k, PV.int IntKind.i64 n, PV.str s, PV.slice (Dats.len ks) (Dats.cells ks)]), .str (cuC [PV.int IntKind.i64 k, PV.int IntKind.i64 n, PV.str s, PV.slice (Dats.len ks) (Dats.cells ks)]), .slice (cuD [PV.int IntKind.i64 k, PV.int IntKind.i64 n, PV.str s, PV.slice (Dats.len ks) (Dats.cells ks)]).len (cuD [PV.int IntKind.i64 k, PV.int IntKind.i64 n, PV.str s, PV.slice (Dats.len ks) (Dats.cells ks)]).cells]) (PV.agg [PV.int IntKind.i64 k', PV.int IntKind.i64 n', PV.str s', PV.slice (Dats.len ks') (Dats.cells ks')]), true), (true, true), (isSml [PV.int IntKind.i64 k', PV.int IntKind.i64 n', PV.str s', PV.slice (Dats.len ks') (Dats.cells ks')], true), (true, true), (isSml [PV.int IntKind.i64 k', PV.int IntKind.i64 n', PV.str s', PV.slice (Dats.len ks') (Dats.cells ks')], true), (!lwC w [PV.int IntKind.i64 k', PV.int IntKind.i64 n', PV.str s', PV.slice (Dats.len ks') (Dats.cells ks')] == (0 : Int), true), (true, true), (ByteArray.toList (loBC w [PV.int IntKind.i64 k', PV.int IntKind.i64 n', PV.str s', PV.slice (Dats.len ks') (Dats.cells ks')]) == [], true), (loEC w [PV.int IntKind.i64 k', PV.int IntKind.i64 n', PV.str s', PV.slice (Dats.len ks') (Dats.cells ks')] == lwC w [PV.int IntKind.i64 k', PV.int IntKind.i64 n', PV.str s', PV.slice (Dats.len ks') (Dats.cells ks')], true), (true, true)]) (by kernel_rfl) (by ((repeat' (first | exact okO_nil | refine okN ?_ ?_)); all_goals first | assumption | rfl | exact same_of rfl | exact sameS_self _ | (simp only [decide_eq_true_eq, decide_eq_false_iff_not, Nat.ble_eq, Nat.beq_eq, beq_eq_false_iff_ne, beq_iff_eq, ne_eq] <;> omega))) (fun st hs => fin st _ hs)
end Seat
end Go.Proofs.YtkblfapbakfgpaaDoor
/- A world that holds the seat's tables: for the witnesses. Printed by gen.py (this session's). -/
namespace Go.Proofs.YtkblfapbakfgpaaDoor
open Go.ChangeShapes Go.WideShapes Go.ChangeAt Go.RowKit
set_option linter.unusedVariables false
set_option maxRecDepth 100000
namespace Seat
def putG (h : Array Obj) (g : Nat) (cs : Array Value) : Array Obj := h.modify g fun
  | .cells _ t frozen => .cells cs t frozen
  | o => o
noncomputable def laidWorld (os : Os) : World :=
  let w0 := World.holding Tryd.prog os ⟨#[], #[], []⟩
  { w0 with heap := putG (putG (putG (w0.heap) 2 #[.int .u8 0, .int .u8 1, .int .u8 28, .int .u8 2, .int .u8 29, .int .u8 14, .int .u8 24, .int .u8 3, .int .u8 30, .int .u8 22, .int .u8 20, .int .u8 15, .int .u8 25, .int .u8 17, .int .u8 4, .int .u8 8, .int .u8 31, .int .u8 27, .int .u8 13, .int .u8 23, .int .u8 21, .int .u8 19, .int .u8 16, .int .u8 7, .int .u8 26, .int .u8 12, .int .u8 18, .int .u8 6, .int .u8 11, .int .u8 5, .int .u8 10, .int .u8 9]) 3 #[.int .u8 0, .int .u8 1, .int .u8 56, .int .u8 2, .int .u8 57, .int .u8 49, .int .u8 28, .int .u8 3, .int .u8 61, .int .u8 58, .int .u8 42, .int .u8 50, .int .u8 38, .int .u8 29, .int .u8 17, .int .u8 4, .int .u8 62, .int .u8 47, .int .u8 59, .int .u8 36, .int .u8 45, .int .u8 43, .int .u8 51, .int .u8 22, .int .u8 53, .int .u8 39, .int .u8 33, .int .u8 30, .int .u8 24, .int .u8 18, .int .u8 12, .int .u8 5, .int .u8 63, .int .u8 55, .int .u8 48, .int .u8 27, .int .u8 60, .int .u8 41, .int .u8 37, .int .u8 16, .int .u8 46, .int .u8 35, .int .u8 44, .int .u8 21, .int .u8 52, .int .u8 32, .int .u8 23, .int .u8 11, .int .u8 54, .int .u8 26, .int .u8 40, .int .u8 15, .int .u8 34, .int .u8 20, .int .u8 31, .int .u8 10, .int .u8 25, .int .u8 14, .int .u8 19, .int .u8 9, .int .u8 13, .int .u8 8, .int .u8 7, .int .u8 6]) 0 #[.int .u64 1, .int .u64 10, .int .u64 100, .int .u64 1000, .int .u64 10000, .int .u64 100000, .int .u64 1000000, .int .u64 10000000, .int .u64 100000000, .int .u64 1000000000, .int .u64 10000000000, .int .u64 100000000000, .int .u64 1000000000000, .int .u64 10000000000000, .int .u64 100000000000000, .int .u64 1000000000000000, .int .u64 10000000000000000, .int .u64 100000000000000000, .int .u64 1000000000000000000, .int .u64 10000000000000000000] }
theorem laid_met (os : Os) (args : Array Value) : laidMet Tryd.prog Rows.layoutLaysRow.laid ((laidWorld os).forCall (fun _ _ => 0) ⟨#[], args, []⟩).memory :=
  laidMet_of_run' 9 (by kernel_rfl) (by kernel_rfl)
theorem own : ownKnob Tryd.prog.godebug = none := by kernel_rfl
end Seat
end Go.Proofs.YtkblfapbakfgpaaDoor
/- Abstract states (own engine), part 1: what is read of data that are kept; trees that are read. -/
namespace Go.AS
open Go.ChangeShapes Go.WideShapes Go.ChangeAt Go.RowKit
set_option linter.unusedVariables false
set_option linter.unusedSimpArgs false
section
variable {H : Type} {enc : TypeId × Value → H} {P : Program} {w w' : World} {base : Nat} {held : Bool}
/-- Types of numbers, truth, strings, and slices, structs of such. -/
structure Flat (P : Program) (S : TypeId → Prop) : Prop where
  at' : ∀ t, S t → P.underlying t = some .bool ∨ (∃ k, P.underlying t = some (.int k)) ∨ P.underlying t = some .string ∨ (∃ e, P.underlying t = some (.slice e) ∧ S e ∧ 0 < P.cellsOf e) ∨ (∃ fs, P.underlying t = some (.struct fs) ∧ ∀ f ∈ fs.toList, S f.type)
theorem cells?_move {a : Addr} {n : Nat} {cs : List Value} (hw : ∀ a v, w.cell? a = some v → w'.cell? a = some v) (h : w.cells? base a n = some cs) : w'.cells? 0 a n = some cs := by
  obtain ⟨_, hl, hc⟩ := World.cells?_some h
  unfold World.cells?
  rw [if_pos (Nat.zero_le _)]
  refine mapM_some_of_get _ _ (by simp [hl]) fun i x hx => ?_
  have hi : i < n := by have := (List.getElem?_eq_some_iff.1 hx).1; simpa using this
  rw [List.getElem?_range hi] at hx
  cases hx
  rw [← hc i hi]
  cases hv : w.cell? (a.add i) with
  | none => rw [hc i hi] at hv; rw [List.getElem?_eq_none_iff] at hv; omega
  | some v => exact hw _ _ hv
theorem trod_move {S : TypeId → Prop} (hS : Flat P S) (hw : ∀ a v, w.cell? a = some v → w'.cell? a = some v) (sp : Nat → Bool) : ∀ (m : Nat) (t : TypeId) (cs : List Value) (x : DataW H × List MemPlace), S t → DataW.trod enc P w base (fun _ => true) held m t cs = some x → (∀ q ∈ x.2, sp q.block = true) → DataW.trod enc P w' 0 sp held m t cs = some x := by
  intro m
  induction m with
  | zero => intro t cs x _ h; simp [DataW.trod] at h
  | succ m ih =>
    intro t cs x ht h hp
    rcases hS.at' t ht with hu | ⟨k, hu⟩ | hu | ⟨e, hu, he, hpos⟩ | ⟨fs, hu, hfs⟩
    · obtain ⟨b, rfl, rfl⟩ := DataW.trod_bool hu h
      unfold DataW.trod
      rw [hu]
    · obtain ⟨n, rfl, rfl, hwf⟩ := DataW.trod_int hu h
      exact trod_int_mk m hu hwf
    · obtain ⟨s, rfl, rfl, hs⟩ := DataW.trod_string hu h
      unfold DataW.trod
      rw [hu]
      simp [hs]
    · rcases DataW.trod_slice hu h with ⟨rfl, rfl⟩ | ⟨a, len, cap, elems, rest, n, hn, rfl, rfl, h1, h2, h3, h4, h5, h6, _⟩
      · unfold DataW.trod
        rw [hu]
        rfl
      · obtain rfl : m = n := by omega
        obtain ⟨h6, h7⟩ := h6 rfl
        have hin : ∀ y, y ∈ elems ∨ y ∈ rest → ∀ q ∈ y.2, sp q.block = true := fun y hy q hq => hp q (List.mem_append_right _ (List.mem_flatMap.2 ⟨y, List.mem_append.2 hy, hq⟩))
        have go : ∀ (i : Nat) (y : DataW H × List MemPlace), (w.cells? base (a.add (i * P.cellsOf e)) (P.cellsOf e)).bind (DataW.trod enc P w base (fun _ => true) held m e) = some y → (∀ q ∈ y.2, sp q.block = true) → (w'.cells? 0 (a.add (i * P.cellsOf e)) (P.cellsOf e)).bind (DataW.trod enc P w' 0 sp held m e) = some y := fun i y hy hq => by
          obtain ⟨cs, hcs, htr⟩ := Option.bind_eq_some_iff.1 hy
          rw [cells?_move hw hcs]
          exact ih e cs y he htr hq
        have e1 : (List.range len).mapM (fun i => (w'.cells? 0 (a.add (i * P.cellsOf e)) (P.cellsOf e)).bind (DataW.trod enc P w' 0 sp held m e)) = some elems := mapM_some_of_get _ _ (by simp [h4]) fun i y hy => by
          have hi : i < len := by have := (List.getElem?_eq_some_iff.1 hy).1; simpa using this
          rw [List.getElem?_range hi] at hy
          cases hy
          obtain ⟨z, hz⟩ : ∃ z, elems[i]? = some z := ⟨_, List.getElem?_eq_getElem (by omega)⟩
          rw [hz]
          exact go i z (by rw [h5 i hi, hz]) (hin z (.inl (List.mem_of_getElem? hz)))
        have e2 : (List.range (cap - len)).mapM (fun j => (w'.cells? 0 (a.add ((len + j) * P.cellsOf e)) (P.cellsOf e)).bind (DataW.trod enc P w' 0 sp held m e)) = some rest := mapM_some_of_get _ _ (by simp [h6]) fun i y hy => by
          have hi : i < cap - len := by have := (List.getElem?_eq_some_iff.1 hy).1; simpa using this
          rw [List.getElem?_range hi] at hy
          cases hy
          obtain ⟨z, hz⟩ : ∃ z, rest[i]? = some z := ⟨_, List.getElem?_eq_getElem (by omega)⟩
          rw [hz]
          exact go (len + i) z (by rw [h7 i hi, hz]) (hin z (.inr (List.mem_of_getElem? hz)))
        have e3 : (if sp a.block then (List.range (cap - len)).mapM (fun j => (w'.cells? 0 (a.add ((len + j) * P.cellsOf e)) (P.cellsOf e)).bind (DataW.trod enc P w' 0 sp held m e)) else some []) = some rest := by
          by_cases hz : (elems.length + rest.length) * P.cellsOf e = 0
          · have : rest = [] := by
              rcases Nat.mul_eq_zero.1 hz with h | h
              · exact List.eq_nil_of_length_eq_zero (by omega)
              · omega
            subst this
            split
            · exact e2
            · rfl
          · have : sp a.block = true := hp (.cell a.block (a.off + 0)) (List.mem_append_left _ (List.mem_map.2 ⟨0, List.mem_range.2 (by omega), rfl⟩))
            rw [if_pos this]
            exact e2
        unfold DataW.trod
        rw [hu]
        simp only [e1, e3, Option.bind_some, Option.map_some]
        rw [if_pos ⟨Nat.zero_le _, h2, h3⟩]
    · obtain ⟨xs, n, hn, rfl, hl, hlen, hf⟩ := DataW.trod_struct hu h
      obtain rfl : m = n := by omega
      refine trod_struct_mk hu hl (mapM_some_of_get _ _ (by simpa using hlen) fun i f hi => ?_)
      obtain ⟨y, hy⟩ : ∃ y, xs[i]? = some y := ⟨_, List.getElem?_eq_getElem (by have := (List.getElem?_eq_some_iff.1 hi).1; simp at this; omega)⟩
      rw [hy]
      exact ih f.type _ y (hfs f (List.mem_of_getElem? hi)) (by rw [hf i f (by simpa using hi), hy]) (fun q hq => hp q (List.mem_flatMap.2 ⟨y, List.mem_of_getElem? hy, hq⟩))
theorem cell_keep (hk : ∀ k, k < w.heap.size → w'.heap[k]? = w.heap[k]?) (a : Addr) (v : Value) (h : w.cell? a = some v) : w'.cell? a = some v := by
  rw [← h]
  have hb : a.block < w.heap.size := by
    rcases Nat.lt_or_ge a.block w.heap.size with h' | h'
    · exact h'
    · unfold World.cell? at h
      rw [show w.heap[a.block]? = none from Array.getElem?_eq_none h'] at h
      simp at h
  unfold World.cell?
  rw [hk _ hb]
theorem trodAll_move {S : TypeId → Prop} (hS : Flat P S) (hk : ∀ k, k < w.heap.size → w'.heap[k]? = w.heap[k]?) (sp : Nat → Bool) : ∀ (ts : List TypeId) (vs : List Value) (ds : List (DataW H)) (p : List MemPlace), (∀ t ∈ ts, S t) → DataW.TrodAll enc P w base (fun _ => true) held ts vs ds p → (∀ q ∈ p, sp q.block = true) → DataW.TrodAll enc P w' 0 sp held ts vs ds p
  | [], [], [], p, _, h, _ => h
  | t :: ts, v :: vs, d :: ds, p, ht, h, hp => by
    obtain ⟨p1, q1, ⟨m, h1⟩, h2, rfl⟩ := h
    exact ⟨p1, q1, ⟨m, trod_move hS (cell_keep hk) sp m t _ _ (ht t (by simp)) h1 fun q hq => hp q (List.mem_append_left _ hq)⟩, trodAll_move hS hk sp ts vs ds q1 (fun t h => ht t (by simp [h])) h2 (fun q hq => hp q (List.mem_append_right _ hq)), rfl⟩
  | [], _ :: _, _, _, _, h, _ => by simp [DataW.TrodAll] at h
  | [], [], _ :: _, _, _, h, _ => by simp [DataW.TrodAll] at h
  | _ :: _, [], _, _, _, h, _ => by simp [DataW.TrodAll] at h
  | _ :: _, _ :: _, [], _, _, h, _ => by simp [DataW.TrodAll] at h
/-- The type of trees. -/
structure DatT (P : Program) (tD tK : TypeId) : Prop where
  st : ∃ fs f0 f1 f2 f3, P.underlying tD = some (.struct fs) ∧ fs.toList = [f0, f1, f2, f3] ∧ f0.offset = 0 ∧ f1.offset = 1 ∧ f2.offset = 2 ∧ f3.offset = 3 ∧ P.underlying f0.type = some (.int .i64) ∧ P.underlying f1.type = some (.int .i64) ∧ P.underlying f2.type = some .string ∧ f3.type = tK ∧ P.cellsOf f0.type = 1 ∧ P.cellsOf f1.type = 1 ∧ P.cellsOf f2.type = 1 ∧ P.cellsOf f3.type = 1
  sl : P.underlying tK = some (.slice tD)
  sz : P.cellsOf tD = 4
/-- Elements that are trees. -/
theorem dats_row {tD : TypeId} {sp : Nat → Bool} {n : Nat} {a : Addr} (hsz : P.cellsOf tD = 4)
    (ih : ∀ cs d p, DataW.trod enc P w base sp held n tD cs = some (d, p) → ∃ D : Dat, D.ok ∧ IReps (old w) w D.cells cs ∧ allOne D.cells = true ∧ D.rng) : ∀ (len k : Nat),
    (∀ i, i < len → ∃ x, (w.cells? base (a.add ((k + i) * 4)) 4).bind (DataW.trod enc P w base sp held n tD) = some x) →
    ∃ (ks : Dats) (vs : List Value), ks.len = len ∧ ks.ok ∧ vs.length = len * 4 ∧ (∀ (j : Nat) (v : Value), vs[j]? = some v → w.cell? (a.add (k * 4 + j)) = some v) ∧ IReps (old w) w ks.cells vs ∧ allOne ks.cells = true ∧ (0 < vs.length → a.block < w.heap.size) ∧ ks.rng := by
  intro len
  induction len with
  | zero => intro k _; exact ⟨.nil, [], rfl, trivial, rfl, (fun j v h => by simp at h), .nil _ _, rfl, (fun h => by simp at h), trivial⟩
  | succ len ihl =>
    intro k h
    obtain ⟨⟨d, p⟩, hp⟩ := h 0 (by omega)
    obtain ⟨cs, hcs, htr⟩ := Option.bind_eq_some_iff.1 hp
    obtain ⟨hb, hlen, hcell⟩ := World.cells?_some hcs
    obtain ⟨D, hok, h1, h2, h9⟩ := ih cs d p htr
    obtain ⟨ks, vs, g0, g1, g2, g3, g4, g5, g6, g9⟩ := ihl (k + 1) (fun i hi => by
      have := h (i + 1) (by omega)
      rw [show k + (i + 1) = k + 1 + i from by omega] at this
      exact this)
    refine ⟨.cons D ks, cs ++ vs, by simp [Dats.len, g0], ⟨hok, g1⟩, by simp [hlen, g2]; omega, fun j v hv => ?_, h1.append g4, allOne_append h2 g5, fun _ => ?_, ⟨h9, g9⟩⟩
    · rcases Nat.lt_or_ge j cs.length with hlt | hge
      · rw [List.getElem?_append_left hlt] at hv
        have := hcell j (by omega)
        rw [add_of_add, Nat.add_zero] at this
        rw [this]; exact hv
      · rw [List.getElem?_append_right hge] at hv
        have := g3 _ v hv
        rw [← this]
        congr 2
        omega
    · have := World.cells?_block hcs (by omega)
      rw [block_of_add] at this
      exact this
/-- What is read of a tree's cells is a tree. -/
theorem trod_dat {tD tK : TypeId} (hT : DatT P tD tK) {sp : Nat → Bool} : ∀ (m : Nat), ∀ m', m' ≤ m → ∀ (cs : List Value) (d : DataW H) (p : List MemPlace), DataW.trod enc P w base sp held m' tD cs = some (d, p) → ∃ D : Dat, D.ok ∧ IReps (old w) w D.cells cs ∧ allOne D.cells = true ∧ D.rng := by
  obtain ⟨fs, f0, f1, f2, f3, hu, hfs, o0, o1, o2, o3, u0, u1, u2, rfl, c0, c1, c2, c3⟩ := hT.st
  intro m
  induction m with
  | zero => intro m' hm cs d p h; obtain rfl : m' = 0 := by omega
            simp [DataW.trod] at h
  | succ m ih =>
    intro m' hm cs d p h
    obtain ⟨xs, n, rfl, hx, hl, hlen, hf⟩ := DataW.trod_struct hu h
    have hsz := hT.sz
    have hcl : cs.length = 4 := by omega
    match cs, hcl with
    | [v0, v1, v2, v3], _ =>
      have e0 := hf 0 f0 (by rw [← Array.getElem?_toList, hfs]; rfl)
      have e1 := hf 1 f1 (by rw [← Array.getElem?_toList, hfs]; rfl)
      have e2 := hf 2 f2 (by rw [← Array.getElem?_toList, hfs]; rfl)
      have e3 := hf 3 f3 (by rw [← Array.getElem?_toList, hfs]; rfl)
      rw [o0, c0] at e0; rw [o1, c1] at e1; rw [o2, c2] at e2; rw [o3, c3] at e3
      simp only [List.drop_zero, List.drop_succ_cons, List.take_succ_cons, List.take_zero] at e0 e1 e2 e3
      have hxl : xs.length = 4 := by rw [hlen, ← Array.length_toList, hfs]; rfl
      match xs, hxl with
      | [x0, x1, x2, x3], _ =>
        simp only [List.getElem?_cons_zero, List.getElem?_cons_succ] at e0 e1 e2 e3
        obtain ⟨k, ek, _⟩ := DataW.trod_int u0 e0
        obtain ⟨z, ez, _, wz⟩ := DataW.trod_int u1 e1
        obtain ⟨s, es, _⟩ := DataW.trod_string u2 e2
        simp only [List.cons.injEq, and_true] at ek ez es
        subst ek ez es
        have fin : ∀ (ks : Dats), ks.len ≤ 9223372036854775807 → ks.ok → ks.rng → IRep (old w) w (.slice ks.len ks.cells) v3 → ∃ D : Dat, D.ok ∧ IReps (old w) w D.cells [.int .i64 k, .int .i64 z, .string s, v3] ∧ allOne D.cells = true ∧ D.rng := fun ks h1 h2 h9 h3 =>
          ⟨.mk k z s ks, ⟨h1, h2⟩, ⟨rfl, fun j x v hx hv => by
            match j with
            | 0 => simp [Dat.cells] at hx hv; subst hx; subst hv; exact .int _ _
            | 1 => simp [Dat.cells] at hx hv; subst hx; subst hv; exact .int _ _
            | 2 => simp [Dat.cells] at hx hv; subst hx; subst hv; exact .str _
            | 3 => simp [Dat.cells] at hx hv; subst hx; subst hv; exact h3
            | j + 4 => simp at hv⟩, rfl, bounds_i64 wz, h9⟩
        rcases DataW.trod_slice hT.sl e3 with ⟨hcs, _⟩ | ⟨a, len, cap, elems, rest, n', hn', hcs, _, h1, h2, h3, h4, h5, _⟩
        · simp only [List.cons.injEq, and_true] at hcs
          subst hcs
          exact fin .nil (by simp [Dats.len]) trivial trivial .slice0
        · simp only [List.cons.injEq, and_true] at hcs
          subst hcs
          obtain ⟨ks, vs, g0, g1, g2, g3, g4, g5, g6, g9⟩ := dats_row (a := a) hsz (ih n' (by omega)) len 0 (fun i hi => by
            have := h5 i hi
            rw [hsz] at this
            rw [Nat.zero_add]
            exact ⟨_, this.trans (List.getElem?_eq_getElem (by omega))⟩)
          unfold maxLen at h3
          refine fin ks (by omega) g1 g9 ?_
          rw [g0]
          exact .slice h2 g4.1 (fun h => g6 h) (fun j v hv => by have := g3 j v hv; rwa [Nat.zero_mul, Nat.zero_add] at this) (iones g4 g5) g4.2
end
end Go.AS
namespace Go.AS
open Go.RowKit
set_option linter.unusedVariables false
/-! Boxes under other numbers. -/
mutual
def PV.mv (f : Nat → Nat) : PV → PV
  | .ptr b o => .ptr (f b) o
  | .bsl b n m => .bsl (f b) n m
  | .func fn cs => .func fn (mvL f cs)
  | .agg cs => .agg (mvL f cs)
  | .tup cs => .tup (mvL f cs)
  | .iface t x => .iface t (x.mv f)
  | .int k n => .int k n
  | .bool b => .bool b
  | .str s => .str s
  | .slice n cs => .slice n cs
  | .nil => .nil
  | .own r n => .own r n
  | .rpos r n => .rpos r n
  | .epos cs => .epos cs
  | .nilptr => .nilptr
  | .nilfunc => .nilfunc
  | .niliface => .niliface
  | .junk => .junk
def mvL (f : Nat → Nat) : List PV → List PV
  | [] => []
  | x :: xs => x.mv f :: mvL f xs
end
theorem mvL_map (f : Nat → Nat) (l : List PV) : mvL f l = l.map (·.mv f) := by
  induction l with
  | nil => rfl
  | cons x xs ih => simp [mvL, ih]
theorem IRep.mv {im : Nat → Prop} {w : World} {f : Nat → Nat} {x : PV} {v : Value} (h : IRep im w x v) : IRep im w (x.mv f) v := by
  induction h with
  | int k n => exact .int k n
  | bool b => exact .bool b
  | str s => exact .str s
  | nil => exact .nil
  | slice0 => exact .slice0
  | slice hn hl hb hc h1 hr _ => exact .slice hn hl hb hc h1 hr
  | epos hl hb hc hr _ => exact .epos hl hb hc hr
  | nilptr => exact .nilptr
  | nilfunc => exact .nilfunc
  | niliface => exact .niliface
  | func fn => exact .func fn
  | iface t _ ih => exact .iface t ih
  | agg hl hr ih =>
    simp only [PV.mv, mvL_map]
    refine .agg (by simpa using hl) fun j x v hx hv => ?_
    rw [List.getElem?_map] at hx
    obtain ⟨y, hy, rfl⟩ := Option.map_eq_some_iff.1 hx
    exact ih j y v hy hv
  | tup hl hr ih =>
    simp only [PV.mv, mvL_map]
    refine .tup (by simpa using hl) fun j x v hx hv => ?_
    rw [List.getElem?_map] at hx
    obtain ⟨y, hy, rfl⟩ := Option.map_eq_some_iff.1 hx
    exact ih j y v hy hv
theorem VRep.mv {E E' : Env} {w : World} {f : Nat → Nat} {x : PV} {v : Value} (h : VRep E w x v) (hf : ∀ b, b < E.nb → f b < E'.nb ∧ E'.β (f b) = E.β b) (hr : E'.nr = E.nr) (hρ : E'.ρ = E.ρ) (hi : E'.im = E.im) : VRep E' w (x.mv f) v := by
  induction h with
  | imm h => exact .imm (by rw [hi]; exact h.mv)
  | own hr' he hn => exact .own (by rw [hr]; exact hr') (by rw [hρ]; exact he) hn
  | rpos hr' he => exact .rpos (by rw [hr]; exact hr') (by rw [hρ]; exact he)
  | ptr o hb =>
    obtain ⟨h1, h2⟩ := hf _ hb
    simp only [PV.mv]
    rw [← h2]
    exact .ptr o h1
  | bsl hb hn =>
    obtain ⟨h1, h2⟩ := hf _ hb
    simp only [PV.mv]
    rw [← h2]
    exact .bsl h1 hn
  | func hl _ ih =>
    simp only [PV.mv, mvL_map]
    refine .func (by simpa using hl) fun j x v hx hv => ?_
    rw [List.getElem?_map] at hx
    obtain ⟨y, hy, rfl⟩ := Option.map_eq_some_iff.1 hx
    exact ih j y v hy hv
  | agg hl _ ih =>
    simp only [PV.mv, mvL_map]
    refine .agg (by simpa using hl) fun j x v hx hv => ?_
    rw [List.getElem?_map] at hx
    obtain ⟨y, hy, rfl⟩ := Option.map_eq_some_iff.1 hx
    exact ih j y v hy hv
  | tup hl _ ih =>
    simp only [PV.mv, mvL_map]
    refine .tup (by simpa using hl) fun j x v hx hv => ?_
    rw [List.getElem?_map] at hx
    obtain ⟨y, hy, rfl⟩ := Option.map_eq_some_iff.1 hx
    exact ih j y v hy hv
  | iface t _ ih => exact .iface t ih
  | junk v => exact .junk v
/-- Two boxes changed about. -/
def swp (i j k : Nat) : Nat := match Nat.beq k i with
  | true => j
  | false => match Nat.beq k j with
    | true => i
    | false => k
theorem swp_eq (i j k : Nat) : swp i j k = if k = i then j else if k = j then i else k := by
  unfold swp
  by_cases h1 : k = i
  · subst h1; rw [if_pos rfl]; simp
  · have e1 : Nat.beq k i = false := by cases hb : Nat.beq k i with | false => rfl | true => exact absurd (Nat.eq_of_beq_eq_true hb) h1
    rw [if_neg h1, e1]
    by_cases h2 : k = j
    · subst h2; rw [if_pos rfl]; simp
    · have e2 : Nat.beq k j = false := by cases hb : Nat.beq k j with | false => rfl | true => exact absurd (Nat.eq_of_beq_eq_true hb) h2
      rw [if_neg h2, e2]
theorem swp_swp (i j k : Nat) : swp i j (swp i j k) = k := by
  simp only [swp_eq]
  repeat' split
  all_goals omega
/-- The state, boxes i and j changed about. -/
def AS.swap (i j : Nat) (s : AS) : AS := ⟨s.t.map fun p => (p.1, p.2.mv (swp i j)), ⟨(List.range s.h.bx.length).map fun k => match s.h.bx[swp i j k]? with
  | some b => ⟨mvL (swp i j) b.cs, b.ty⟩
  | none => ⟨[], 0⟩, s.h.rw⟩⟩
theorem lk_map (f : PV → PV) (hj : f .junk = .junk) (t : List (Nat × PV)) (k : Nat) : lk (t.map fun p => (p.1, f p.2)) k = f (lk t k) := by
  induction t with
  | nil => simp [lk, hj]
  | cons p t ih =>
    obtain ⟨q, x⟩ := p
    simp only [List.map_cons, lk]
    split
    · rfl
    · exact ih
section
variable {G : Prg} {C : Ctx} {Q : AEx → AS → Prop} {st : AS}
theorem Rel.swap {E : Env} {a : Act} {w : World} (hr : Rel G C E st a w) {i j : Nat} (hi : C.nb ≤ i) (hj : C.nb ≤ j) (hi2 : i < st.h.bx.length) (hj2 : j < st.h.bx.length) : Rel G C { E with β := fun k => E.β (swp i j k) } (st.swap i j) a w := by
  have hnb := hr.hp.nb
  have lt : ∀ k, k < E.nb → swp i j k < E.nb := fun k hk => by unfold swp; split <;> (try split) <;> omega
  have low : ∀ k, k < C.nb → swp i j k = k := fun k hk => by
    unfold swp
    split
    · rename_i h; have := Nat.eq_of_beq_eq_true h; omega
    · split
      · rename_i h; have := Nat.eq_of_beq_eq_true h; omega
      · rfl
  have high : ∀ k, C.nb ≤ k → C.nb ≤ swp i j k := fun k hk => by unfold swp; split <;> (try split) <;> omega
  have mv : ∀ x v, VRep E w x v → VRep { E with β := fun k => E.β (swp i j k) } w (x.mv (swp i j)) v := fun x v h => h.mv (fun b hb => ⟨lt b hb, by simp only [swp_swp]⟩) rfl rfl rfl
  refine ⟨hr.defers, hr.size, fun s => ?_, ⟨by simp [AS.swap, hnb], hr.hp.nr, hr.hp.lo, fun k b hb => ?_, hr.hp.row, fun p q hp hq he => ?_, hr.hp.rinj, fun p q r hp hq => hr.hp.brw _ q r (lt p hp) hq, hr.hp.im_lt, fun k p hp hk => hr.hp.im_b k _ (lt p hp) hk, hr.hp.im_r, hr.hp.gl⟩,
    hr.lo, hr.nb, fun k hk => ?_, fun k h1 h2 => hr.own _ (high k h1) (lt k h2), hr.up, hr.dn, hr.keep, hr.os, hr.tape, hr.out, hr.sz, hr.rows⟩
  · simp only [AS.swap]
    rw [lk_map (·.mv (swp i j)) rfl]
    exact mv _ _ (hr.fr s)
  · simp only [AS.swap, List.getElem?_map] at hb
    obtain ⟨k', hk', hb⟩ := Option.map_eq_some_iff.1 hb
    have hklt : k < st.h.bx.length := by have := (List.getElem?_eq_some_iff.1 hk').1; simpa using this
    rw [List.getElem?_range hklt] at hk'
    cases hk'
    have hs : swp i j k < st.h.bx.length := by have := lt k (by rw [hnb]; exact hklt); rwa [hnb] at this
    rw [List.getElem?_eq_getElem hs] at hb
    simp only [] at hb
    subst hb
    obtain ⟨vs, h1, h2⟩ := hr.hp.box _ _ (List.getElem?_eq_getElem hs)
    refine ⟨vs, h1, by simp only [mvL_map, List.length_map]; exact h2.1, fun q x v hx hv => ?_⟩
    simp only [mvL_map, List.getElem?_map] at hx
    obtain ⟨y, hy, rfl⟩ := Option.map_eq_some_iff.1 hx
    exact mv _ _ (h2.2 q y v hy hv)
  · have h1 := hr.hp.inj _ _ (lt p hp) (lt q hq) he
    have h2 := congrArg (swp i j) h1
    rwa [swp_swp, swp_swp] at h2
  · simp only []
    rw [low k hk]
    exact hr.β k hk
theorem SWP.swap {c : Code} (i j : Nat) (hi : C.nb ≤ i) (hj : C.nb ≤ j) (hi2 : i < st.h.bx.length) (hj2 : j < st.h.bx.length) (h : SWP G C c Q (st.swap i j)) : SWP G C c Q st := fun E a w hr =>
  h _ a w (hr.swap hi hj hi2 hj2)
end
section
variable {G : Prg} {C : Ctx} {Q : AEx → AS → Prop}
theorem fa_nil {α : Type} {p : α → Prop} : ∀ x ∈ ([] : List α), p x := fun _ h => by cases h
theorem fa_cons {α : Type} {p : α → Prop} {a : α} {l : List α} (h : p a) (t : ∀ x ∈ l, p x) : ∀ x ∈ a :: l, p x := List.forall_mem_cons.2 ⟨h, t⟩
/-- Two boxes came in one order or in the other. -/
theorem SWP.either {c : Code} {st z z' : AS} (i j : Nat) (two : st = z ∨ st = z') (hi : C.nb ≤ i) (hj : C.nb ≤ j) (hi2 : i < z'.h.bx.length) (hj2 : j < z'.h.bx.length) (hz : z'.swap i j = z) (h : SWP G C c Q z) : SWP G C c Q st := by
  rcases two with rfl | rfl
  · exact h
  · exact SWP.swap i j hi hj hi2 hj2 (by rw [hz]; exact h)
end
end Go.AS
/- The seat's types of data: what is read of them is kept; trees. -/
namespace Go.Proofs.YtkblfapbakfgpaaDoor.Seat
open Go.ChangeShapes Go.WideShapes Go.ChangeAt Go.RowKit Go.AS
set_option linter.unusedVariables false
set_option maxRecDepth 100000
def flatT (t : TypeId) : Prop := t = 3 ∨ t = 2 ∨ t = 9 ∨ t = 22 ∨ t = 24
theorem flat : Flat Tryd.prog flatT := ⟨fun t ht => by
  rcases ht with rfl | rfl | rfl | rfl | rfl
  · exact .inr (.inl ⟨_, Tryd.underlying3⟩)
  · exact .inr (.inl ⟨_, Tryd.underlying2⟩)
  · exact .inr (.inr (.inl Tryd.underlying9))
  · exact .inr (.inr (.inr (.inl ⟨_, Tryd.underlying22, .inr (.inr (.inr (.inr rfl))), by rw [show Tryd.prog.cellsOf 24 = 4 by kernel_rfl]; exact Nat.le_of_ble_eq_true rfl⟩)))
  · refine .inr (.inr (.inr (.inr ⟨_, Tryd.underlying24, fun f hf => ?_⟩)))
    simp only [List.mem_cons, List.not_mem_nil, or_false] at hf
    rcases hf with rfl | rfl | rfl | rfl
    · exact .inl rfl
    · exact .inr (.inl rfl)
    · exact .inr (.inr (.inl rfl))
    · exact .inr (.inr (.inr (.inl rfl)))⟩
theorem datT : DatT Tryd.prog 24 22 :=
  ⟨⟨_, _, _, _, _, Tryd.underlying24, rfl, rfl, rfl, rfl, rfl, Tryd.underlying3, Tryd.underlying2, Tryd.underlying9, rfl, by kernel_rfl, by kernel_rfl, by kernel_rfl, by kernel_rfl⟩, Tryd.underlying22, by kernel_rfl⟩
/-- A datum that is handed in is a tree. -/
theorem open_dat {H : Type} {enc : TypeId × Value → H} {W : World} {base b0 : Nat} {sp : Nat → Bool} {held : Bool} {v : Value} {d : DataW H} {p : List MemPlace} (hv : Value.okWide Tryd.prog W .any base 24 v) (h : DataW.Trod enc Tryd.prog W b0 sp held 24 v d p) :
    ∃ D : Dat, D.ok ∧ IRep (old W) W (.agg D.cells) v ∧ D.rng := by
  unfold Value.okWide at hv
  rw [Tryd.underlying24] at hv
  obtain ⟨cs, rfl, _, _⟩ := hv
  obtain ⟨m, h⟩ := h
  obtain ⟨D, h1, h2, _, h3⟩ := trod_dat (enc := enc) (w := W) datT m m (Nat.le_refl _) _ _ _ h
  refine ⟨D, h1, ?_, h3⟩
  have : IRep (old W) W (.agg D.cells) (.agg cs.toList.toArray) := .agg h2.1 h2.2
  rwa [Array.toArray_toList] at this
end Go.Proofs.YtkblfapbakfgpaaDoor.Seat
