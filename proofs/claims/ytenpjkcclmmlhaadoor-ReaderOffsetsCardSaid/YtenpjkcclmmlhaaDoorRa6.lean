/- Texts of this session, packed: Chk2, Alv, LawA, Wit, Eng1, Flat1, LawB. -/
import Derived.Test.YtenpjkcclmmlhaaDoorRa5
import Derived.Deep.DeepWitnessRowRef
import Derived.DataShut
import Derived.OpenShut
import Derived.ChangeMaps5
import Derived.WalkKit
import Derived.ProofKit
import Derived.Deep.DeepHandedRow
/- The document's Check and Width; the law's check. -/
namespace Go.Proofs.YtenpjkcclmmlhaaDoor
open Go.AS Go.RowKit
set_option linter.unusedVariables false
set_option linter.unusedSimpArgs false
set_option maxRecDepth 100000
set_option maxHeartbeats 4000000
namespace Seat
theorem deepL_max : ∀ (ks : Dats) (acc : Int), partsL ks ≤ 1000000 → 0 ≤ acc → (∀ d : Dat, d.size < ks.size + 1 → parts d ≤ 1000000 → deep d = deepN d) → deepL ks acc = max acc (deepNL ks : Int)
  | .nil, acc, _, h, _ => by simp only [deepL, deepNL]; omega
  | .cons d ds, acc, hp, h, ih => by
    simp only [partsL] at hp
    have h1 := ih d (by simp only [Dats.size]; omega) (by omega)
    rw [deepL, h1]
    have h2 : mx acc (deepN d : Int) = max acc (deepN d : Int) := by unfold mx; split <;> omega
    rw [h2, deepL_max ds _ (by omega) (by omega) (fun e he hpe => ih e (by simp only [Dats.size]; omega) hpe)]
    simp only [deepNL]
    omega
theorem deep_eq : ∀ d : Dat, parts d ≤ 1000000 → deep d = (deepN d : Int) := by
  have key : ∀ N, ∀ d : Dat, d.size < N → parts d ≤ 1000000 → deep d = (deepN d : Int) := by
    intro N
    induction N with
    | zero => intro d h; omega
    | succ N ih =>
      intro d hd hp
      obtain ⟨k, n, s, ks⟩ := d
      simp only [Dat.size] at hd
      simp only [parts] at hp
      have h1 := deepL_max ks 0 (by omega) (by omega) fun e he hpe => ih e (by omega) hpe
      have h2 := deepN_parts (.mk k n s ks)
      simp only [deepN, parts] at h2
      simp only [deep, deepN]
      rw [h1, wrap_in' _ (by omega)]
      omega
  exact fun d => key (d.size + 1) d (by omega)
noncomputable def rcS (f : Nat) (args : List PV) : Option (PV × Ob) := match f, args with
  | 43, [.agg cs] => some (.bool (ofCells formedD false cs), [(isOk cs, true)])
  | 44, [.agg cs] => some (.int .i64 (ofCells (fun d => w64 (parts d)) 0 cs), [(isOk cs, true)])
  | 45, [.agg cs] => some (.int .i64 (ofCells deep 0 cs), [(isOk cs, true)])
  | _, _ => none
theorem rcS_ok (f : Nat) (args : List PV) (r : PV) (o : Ob) (h : rcS f args = some (r, o)) (ho : ∀ p ∈ o, p.1 = p.2) (_ : pureL args = true) : Pure G0 f args (fun x => x = r) := by
  unfold rcS at h
  split at h
  · cases h
    obtain ⟨d, rfl, h1⟩ := isOk_of (ho _ (List.mem_singleton.2 rfl))
    rw [ofCells_at]; exact rformAt (d.size + 1) d (by omega) h1
  · cases h
    obtain ⟨d, rfl, h1⟩ := isOk_of (ho _ (List.mem_singleton.2 rfl))
    rw [ofCells_at]; exact parts_ok (d.size + 1) d (by omega) h1
  · cases h
    obtain ⟨d, rfl, h1⟩ := isOk_of (ho _ (List.mem_singleton.2 rfl))
    rw [ofCells_at]; exact deep_ok (d.size + 1) d (by omega) h1
  · cases h
noncomputable def SRC (l : List (Nat × List (Nat × Bool))) : Cfg G0 := { F := F, hF := hF, S := rcS, hS := rcS_ok, orc := orcM l }
theorem rcheck_ok (d : Dat) (hd : Small d) : Pure G0 21 [.agg d.cells] (fun r => r = .int .i64 (chkD d)) := by
  have hdp := deep_eq d (by have := hd.2.2; omega)
  have hg := isOk_at hd.1
  obtain ⟨k, n, s, ks⟩ := d
  have hg : isOk [.int .i64 k, .int .i64 n, .str s, .slice ks.len ks.cells] = true := hg
  have e1 : ∀ {α : Type} (f : Dat → α) (z : α), ofCells f z [.int .i64 k, .int .i64 n, .str s, .slice ks.len ks.cells] = f (.mk k n s ks) := fun f z => ofCells_at f z (.mk k n s ks)
  cases h1 : formedD (.mk k n s ks) with
  | false =>
    have : chkD (.mk k n s ks) = 4 := by simp [chkD, h1]
    rw [this]
    exact Pure.runO (S := SRC [(14, [(4, false)])]) 60 (o := [(true, true), (isOk [.int .i64 k, .int .i64 n, .str s, .slice ks.len ks.cells], true), (ofCells formedD false [.int .i64 k, .int .i64 n, .str s, .slice ks.len ks.cells], false)]) (by kernel_rfl) (by simp [okO, hg, e1, h1])
  | true =>
    by_cases h2 : 100000 < w64 (parts (.mk k n s ks))
    · have : chkD (.mk k n s ks) = 3 := by simp [chkD, h1, h2]
      rw [this]
      exact Pure.runO (S := SRC [(14, [(4, true), (8, true)])]) 60 (o := [(true, true), (isOk [.int .i64 k, .int .i64 n, .str s, .slice ks.len ks.cells], true), (ofCells formedD false [.int .i64 k, .int .i64 n, .str s, .slice ks.len ks.cells], true), (true, true), (isOk [.int .i64 k, .int .i64 n, .str s, .slice ks.len ks.cells], true), (decide (ofCells (fun d => w64 (parts d)) 0 [.int .i64 k, .int .i64 n, .str s, .slice ks.len ks.cells] > 100000), true)]) (by kernel_rfl) (by simp [okO, hg, e1, h1, h2])
    · by_cases h3 : 1000 < (deepN (.mk k n s ks) : Int)
      · have : chkD (.mk k n s ks) = 3 := by simp only [chkD, h1, h2, h3, if_true, if_false]; rfl
        rw [this]
        exact Pure.runO (S := SRC [(14, [(4, true), (8, false), (12, true)])]) 60 (o := [(true, true), (isOk [.int .i64 k, .int .i64 n, .str s, .slice ks.len ks.cells], true), (ofCells formedD false [.int .i64 k, .int .i64 n, .str s, .slice ks.len ks.cells], true), (true, true), (isOk [.int .i64 k, .int .i64 n, .str s, .slice ks.len ks.cells], true), (decide (ofCells (fun d => w64 (parts d)) 0 [.int .i64 k, .int .i64 n, .str s, .slice ks.len ks.cells] > 100000), false), (true, true), (isOk [.int .i64 k, .int .i64 n, .str s, .slice ks.len ks.cells], true), (decide (ofCells deep 0 [.int .i64 k, .int .i64 n, .str s, .slice ks.len ks.cells] > 1000), true)]) (by kernel_rfl) (by simp [okO, hg, e1, h1, h2, hdp]; omega)
      · have : chkD (.mk k n s ks) = 0 := by simp only [chkD, h1, h2, h3, if_true, if_false]; rfl
        rw [this]
        exact Pure.runO (S := SRC [(14, [(4, true), (8, false), (12, false)])]) 60 (o := [(true, true), (isOk [.int .i64 k, .int .i64 n, .str s, .slice ks.len ks.cells], true), (ofCells formedD false [.int .i64 k, .int .i64 n, .str s, .slice ks.len ks.cells], true), (true, true), (isOk [.int .i64 k, .int .i64 n, .str s, .slice ks.len ks.cells], true), (decide (ofCells (fun d => w64 (parts d)) 0 [.int .i64 k, .int .i64 n, .str s, .slice ks.len ks.cells] > 100000), false), (true, true), (isOk [.int .i64 k, .int .i64 n, .str s, .slice ks.len ks.cells], true), (decide (ofCells deep 0 [.int .i64 k, .int .i64 n, .str s, .slice ks.len ks.cells] > 1000), false)]) (by kernel_rfl) (by simp [okO, hg, e1, h1, h2, hdp]; omega)
end Seat
end Go.Proofs.YtenpjkcclmmlhaaDoor
/- The reader's laws: the chapter's examples (alive). Printed by dev/alv.py and dev/nfsub.py (this session's). -/
namespace Go.Proofs.YtenpjkcclmmlhaaDoor
open Go.AS Go.RowKit
set_option linter.unusedVariables false
set_option linter.unusedSimpArgs false
set_option maxRecDepth 100000
set_option maxHeartbeats 4000000
namespace Seat
open Classical in
noncomputable def isSml (cs : List PV) : Bool := decide (∃ d : Dat, d.cells = cs ∧ Small d)
theorem isSml_at {d : Dat} (h : Small d) : isSml d.cells = true := by
  unfold isSml
  classical exact decide_eq_true ⟨d, rfl, h⟩
theorem isSml_of {cs : List PV} (h : isSml cs = true) : ∃ d : Dat, d.cells = cs ∧ Small d := by
  unfold isSml at h
  classical exact of_decide_eq_true h
noncomputable def wrBC (cs : List PV) : ByteArray := ofCells wrB ⟨#[]⟩ cs
noncomputable def wrEC (cs : List PV) : Int := ofCells wrE 0 cs
def ofA (s : ByteArray) : Int := (offR s [1, 1, 0]).1
def ofE (s : ByteArray) : Int := (offR s [1, 1, 0]).2
noncomputable def avS (f : Nat) (args : List PV) : Option (PV × Ob) := match f, args with
  | 15, [.str s] => some (.tup [.agg [.int .i64 (ndK (onX s)), .int .i64 (ndN (onX s)), .str (ndT (onX s)), .slice (Dats.len (Nds.dat (ndS (onX s)))) (Dats.cells (Nds.dat (ndS (onX s))))], .int .i64 (onA s), .int .i64 (onE s)], [])
  | 24, [.str s, .slice 3 [.int .i64 1, .int .i64 1, .int .i64 0]] => some (.tup [.int .i64 (ofA s), .int .i64 (ofE s)], [])
  | 20, [.agg cs] => some (.tup [.str (wrBC cs), .int .i64 (wrEC cs)], [(isSml cs, true)])
  | _, _ => none
theorem avS_ok (f : Nat) (args : List PV) (r : PV) (o : Ob) (h : avS f args = some (r, o)) (ho : ∀ p ∈ o, p.1 = p.2) (_ : pureL args = true) : Pure G0 f args (fun x => x = r) := by
  unfold avS at h
  split at h
  · cases h
    exact ReadP _
  · cases h
    exact offsetP _ [1, 1, 0] (by decide)
  · rename_i cs _
    cases h
    obtain ⟨d, rfl, h1⟩ := isSml_of (ho (isSml cs, true) (List.mem_singleton.2 rfl))
    unfold wrBC wrEC
    rw [ofCells_at, ofCells_at]
    exact writeP d h1.good h1.2.1 (by have := h1.2.2; omega)
  · cases h
noncomputable def SAv (l : List (Nat × List (Nat × Bool))) (v : List (Nat × List (Nat × PV))) : Cfg G0 := { F := F, hF := hF, S := avS, hS := avS_ok, orc := orcM l, val := valM v }
def xA : ByteArray := ⟨#[40, 97, 32, 39, 40, 49, 32, 98, 41, 41, 32, 59, 32, 99]⟩
def xB : ByteArray := ⟨#[40, 97, 32, 48, 49, 41]⟩
def xC : ByteArray := ⟨#[40, 97]⟩
def xD : ByteArray := ⟨#[97, 32, 98]⟩
def xW : ByteArray := ⟨#[40, 97, 32, 40, 113, 117, 111, 116, 101, 32, 40, 49, 32, 98, 41, 41, 41]⟩
def yA : Dat := .mk 2 0 ⟨#[97]⟩ .nil
def yK : Dats := .cons yA (.cons (.mk 3 0 ⟨#[]⟩ (.cons (.mk 2 0 ⟨#[113, 117, 111, 116, 101]⟩ .nil) (.cons (.mk 3 0 ⟨#[]⟩ (.cons (.mk 1 1 ⟨#[]⟩ .nil) (.cons (.mk 2 0 ⟨#[98]⟩ .nil) .nil))) .nil))) .nil)
def yD : Dat := .mk 3 0 ⟨#[]⟩ yK
theorem x1 : (onX xA).dat = yD ∧ onE xA = 0 := ⟨by kernel_rfl, by kernel_rfl⟩
theorem x2 : ofE xA = 0 ∧ ofA xA = 5 := ⟨by kernel_rfl, by kernel_rfl⟩
theorem x3 : onE xB = 4 ∧ onA xB = 3 := ⟨by kernel_rfl, by kernel_rfl⟩
theorem x4 : onE xC = 4 ∧ onA xC = 2 := ⟨by kernel_rfl, by kernel_rfl⟩
theorem x5 : onE xD = 4 ∧ onA xD = 2 := ⟨by kernel_rfl, by kernel_rfl⟩
theorem x6 : wrE yD = 0 ∧ wrB yD = xW := ⟨by kernel_rfl, by kernel_rfl⟩
theorem y_small : Small yD := by
  refine ⟨?_, ?_, Nat.le_of_ble_eq_true (by kernel_rfl)⟩
  · simp [yD, yK, yA, Dat.ok, Dats.ok, Dats.len]
  · simp [yD, yK, yA, Dat.rng, Dats.rng]
theorem bq {a b : Int} (h : a = b) : (a == b) = true := by rw [h]; exact beq_self_eq_true b
theorem alive_ok : Pure G0 18 [] (fun r => r = .bool true) := by
  have hc : ndJ (onX xA) = yD.cells := by rw [ndJ_eq, x1.1]
  have c1 := bq x1.2
  have c2 := bq x2.1
  have c3 := bq x2.2
  have c4 := bq x3.1
  have c5 := bq x3.2
  have c6 := bq x4.1
  have c7 := bq x4.2
  have c8 := bq x5.1
  have c9 := bq x5.2
  have d1 : isSml (ndJ (onX xA)) = true := by rw [hc]; exact isSml_at y_small
  have d2 : (wrEC (ndJ (onX xA)) == (0 : Int)) = true := by rw [hc]; unfold wrEC; rw [ofCells_at, x6.1]; rfl
  have d3 : (ByteArray.toList (wrBC (ndJ (onX xA))) == ByteArray.toList xW) = true := by rw [hc]; unfold wrBC; rw [ofCells_at, x6.2, beq_self_eq_true]
  refine Fn.enterB Tryd.func18 Tryd.ntmps18 rfl (Nat.le_of_ble_eq_true rfl) fun C fr fp hnt hnb hp hfr hfp => ?_
  refine SWP.runQ (SAv [(89, [(48, true), (51, true), (55, true), (59, true), (63, true), (67, true), (71, true), (75, true), (79, true), (83, true), (87, true)])] []) 100 89 hnt [0] (e := .ret) (z := ⟨[(0, .bool true)], ⟨[⟨ndJ (onX xA), 25⟩, ⟨ndJ (onX xB), 25⟩, ⟨ndJ (onX xC), 25⟩, ⟨ndJ (onX xD), 25⟩], []⟩⟩) (o := [(true, true), (true, true), (true, true), (true, true), (true, true), (true, true), (isSml (ndJ (onX xA)), true), (true, true), (true, true), (true, true), (true, true), (true, true), (true, true), (true, true), (true, true), (true, true), (wrEC (ndJ (onX xA)) == (0 : Int), true), (ByteArray.toList (wrBC (ndJ (onX xA))) == ByteArray.toList xW, true)]) (by kernel_rfl) (by ((repeat' (first | exact okO_nil | refine okN ?_ ?_)); all_goals first | assumption | rfl | exact same_of rfl | exact sameS_self _ | (simp only [decide_eq_true_eq, decide_eq_false_iff_not, Nat.ble_eq, Nat.beq_eq, beq_eq_false_iff_ne, beq_iff_eq, ne_eq] <;> omega))) (fun st hs => hfr st [0] ?_)
  rw [hs]
  exact ⟨0, .bool true, Nat.le_refl _, Nat.zero_le _, rfl, rfl, rfl, rfl, _, rfl, rfl⟩
/-- A string that is not much longer than may be read. -/
def shortS (s : ByteArray) : ByteArray := s.extract 0 (min s.size 20003)
theorem short_ok (s : ByteArray) (hs : s.size ≤ 9223372036854775807) : Pure G0 14 [.str s] (fun r => r = .str (shortS s)) := by
  have e : (if (20003 : Int) < (s.size : Int) then (20003 : Int) else (s.size : Int)) = ((min s.size 20003 : Nat) : Int) := by split <;> omega
  have d1 : decide ((0 : Int) ≤ 0 ∧ (0 : Int) ≤ (if (20003 : Int) < (s.size : Int) then (20003 : Int) else (s.size : Int)) ∧ (if (20003 : Int) < (s.size : Int) then (20003 : Int) else (s.size : Int)) ≤ (s.size : Int)) = true := by rw [e, decide_eq_true_eq]; omega
  refine Fn.enterB Tryd.func14 Tryd.ntmps14 rfl (Nat.le_of_ble_eq_true rfl) fun C fr fp hnt hnb hp hfr hfp => ?_
  refine SWP.runQ (SAv [(8, [(7, true)])] []) 100 8 hnt [2] (e := .ret) (z := ⟨[(2, .str (ByteArray.extract s 0 (Int.toNat (if (20003 : Int) < (s.size : Int) then (20003 : Int) else (s.size : Int)))))], ⟨[], []⟩⟩) (o := [(decide ((0 : Int) ≤ 0 ∧ (0 : Int) ≤ (if (20003 : Int) < (s.size : Int) then (20003 : Int) else (s.size : Int)) ∧ (if (20003 : Int) < (s.size : Int) then (20003 : Int) else (s.size : Int)) ≤ (s.size : Int)), true)]) (by kernel_rfl) (by ((repeat' (first | exact okO_nil | refine okN ?_ ?_)); all_goals first | assumption | rfl | exact same_of rfl | exact sameS_self _ | (simp only [decide_eq_true_eq, decide_eq_false_iff_not, Nat.ble_eq, Nat.beq_eq, beq_eq_false_iff_ne, beq_iff_eq, ne_eq] <;> omega))) (fun st hs => hfr st [2] ?_)
  rw [hs, e, Int.toNat_natCast]
  exact ⟨0, _, Nat.le_refl _, Nat.zero_le _, rfl, rfl, rfl, rfl, _, rfl, rfl⟩
end Seat
end Go.Proofs.YtenpjkcclmmlhaaDoor
/- The law of ReaderReads. Printed by dev/lwa.py and dev/nfsub.py (this session's). -/
namespace Go.Proofs.YtenpjkcclmmlhaaDoor
open Go.AS Go.RowKit
set_option linter.unusedVariables false
set_option linter.unusedSimpArgs false
set_option maxRecDepth 100000
set_option maxHeartbeats 4000000
namespace Seat
noncomputable def eqC (cs ds : List PV) : Bool := ofCells (fun d => ofCells (fun e => eqD d e) false ds) false cs
theorem eqC_at (d e : Dat) : eqC d.cells e.cells = eqD d e := by unfold eqC; rw [ofCells_at, ofCells_at]
noncomputable def lwS (f : Nat) (args : List PV) : Option (PV × Ob) := match f, args with
  | 14, [.str s] => some (.str (shortS s), [(Nat.ble s.size 9223372036854775807, true)])
  | 15, [.str s] => some (.tup [.agg [.int .i64 (ndK (onX s)), .int .i64 (ndN (onX s)), .str (ndT (onX s)), .slice (Dats.len (Nds.dat (ndS (onX s)))) (Dats.cells (Nds.dat (ndS (onX s))))], .int .i64 (onA s), .int .i64 (onE s)], [])
  | 16, [.str s] => some (.tup [.agg [.int .i64 (ndK (onX s)), .int .i64 (ndN (onX s)), .str (ndT (onX s)), .slice (Dats.len (Nds.dat (ndS (onX s)))) (Dats.cells (Nds.dat (ndS (onX s))))], .int .i64 (onA s), .int .i64 (onE s)], [])
  | 17, [.agg cs, .agg ds] => some (.bool (eqC cs ds), [(isOk cs, true), (isOk ds, true)])
  | 18, [] => some (.bool true, [])
  | _, _ => none
theorem lwS_ok (f : Nat) (args : List PV) (r : PV) (o : Ob) (h : lwS f args = some (r, o)) (ho : ∀ p ∈ o, p.1 = p.2) (_ : pureL args = true) : Pure G0 f args (fun x => x = r) := by
  unfold lwS at h
  split at h
  · rename_i s _
    cases h
    exact short_ok s (Nat.le_of_ble_eq_true (ho _ (List.mem_singleton.2 rfl)))
  · cases h
    exact ReadP _
  · rename_i s _
    cases h
    have := read_ok s
    rw [readD_on] at this
    exact this
  · rename_i cs ds _
    cases h
    obtain ⟨d, rfl, h1⟩ := isOk_of (ho (isOk cs, true) (by simp))
    obtain ⟨e, rfl, h2⟩ := isOk_of (ho (isOk ds, true) (by simp))
    rw [eqC_at]
    exact same_ok d e h1 h2
  · cases h
    exact alive_ok
  · cases h
noncomputable def SLw (l : List (Nat × List (Nat × Bool))) (v : List (Nat × List (Nat × PV))) : Cfg G0 := { F := F, hF := hF, S := lwS, hS := lwS_ok, orc := orcM l, val := valM v }
mutual
theorem eqD_self : ∀ d : Dat, eqD d d = true
  | .mk k n s ks => by simp [eqD, eqL_self ks]
theorem eqL_self : ∀ ks : Dats, eqL ks ks = true
  | .nil => rfl
  | .cons d ds => by simp [eqL, eqD_self d, eqL_self ds]
end
mutual
theorem Nd.dat_ok : ∀ x : Nd, x.ok → x.dat.ok
  | .mk k n t ks a, h => ⟨by rw [Nds.dat_len]; have : ks.len ≤ 1099511627777 := h.1; omega, Nds.dat_ok ks h.2⟩
theorem Nds.dat_ok : ∀ x : Nds, x.ok → x.dat.ok
  | .nil, _ => trivial
  | .cons d ds, h => ⟨Nd.dat_ok d h.1, Nds.dat_ok ds h.2⟩
end
theorem onX_isOk (s : ByteArray) : isOk [PV.int IntKind.i64 (ndK (onX s)), .int .i64 (ndN (onX s)), .str (ndT (onX s)), .slice (Dats.len (Nds.dat (ndS (onX s)))) (Dats.cells (Nds.dat (ndS (onX s))))] = true := by
  show isOk (ndJ (onX s)) = true
  rw [ndJ_eq]
  exact isOk_at (Nd.dat_ok _ (onX_ok s))
theorem onX_eqC (s : ByteArray) : eqC [PV.int IntKind.i64 (ndK (onX s)), .int .i64 (ndN (onX s)), .str (ndT (onX s)), .slice (Dats.len (Nds.dat (ndS (onX s)))) (Dats.cells (Nds.dat (ndS (onX s))))] [PV.int IntKind.i64 (ndK (onX s)), .int .i64 (ndN (onX s)), .str (ndT (onX s)), .slice (Dats.len (Nds.dat (ndS (onX s)))) (Dats.cells (Nds.dat (ndS (onX s))))] = true := by
  show eqC (ndJ (onX s)) (ndJ (onX s)) = true
  rw [ndJ_eq, eqC_at]
  exact eqD_self _
theorem reads_law (s : ByteArray) (hs : s.size ≤ 9223372036854775807) : Pure G0 3 [.str s] (fun r => r = .bool true) := by
  have c1 : (onE (shortS s) == onE (shortS s)) = true := beq_self_eq_true _
  have c2 : (onA (shortS s) == onA (shortS s)) = true := beq_self_eq_true _
  have c3 := onX_isOk (shortS s)
  have c4 := onX_eqC (shortS s)
  refine Fn.enterB Tryd.func3 Tryd.ntmps3 rfl (Nat.le_of_ble_eq_true rfl) fun C fr fp hnt hnb hp hfr hfp => ?_
  refine SWP.runQ (SLw [(40, [(26, true), (30, true), (35, true)])] []) 100 40 hnt [2] (e := .ret) (z := { t := [(2, PV.bool true)], h := { bx := [{ cs := [PV.int IntKind.i64 (ndK (onX (shortS s))), PV.int IntKind.i64 (ndN (onX (shortS s))), PV.str (ndT (onX (shortS s))), PV.slice (Dats.len (Nds.dat (ndS (onX (shortS s))))) (Dats.cells (Nds.dat (ndS (onX (shortS s)))))], ty := 25 }, { cs := [PV.int IntKind.i64 (ndK (onX (shortS s))), PV.int IntKind.i64 (ndN (onX (shortS s))), PV.str (ndT (onX (shortS s))), PV.slice (Dats.len (Nds.dat (ndS (onX (shortS s))))) (Dats.cells (Nds.dat (ndS (onX (shortS s)))))], ty := 25 }], rw := [] } }) (o := [(true, true), (Nat.ble (ByteArray.size s) 9223372036854775807, true), (true, true), (true, true), (onE (shortS s) == onE (shortS s), true), (onA (shortS s) == onA (shortS s), true), (true, true), (isOk [PV.int IntKind.i64 (ndK (onX (shortS s))), PV.int IntKind.i64 (ndN (onX (shortS s))), PV.str (ndT (onX (shortS s))), PV.slice (Dats.len (Nds.dat (ndS (onX (shortS s))))) (Dats.cells (Nds.dat (ndS (onX (shortS s)))))], true), (isOk [PV.int IntKind.i64 (ndK (onX (shortS s))), PV.int IntKind.i64 (ndN (onX (shortS s))), PV.str (ndT (onX (shortS s))), PV.slice (Dats.len (Nds.dat (ndS (onX (shortS s))))) (Dats.cells (Nds.dat (ndS (onX (shortS s)))))], true), (eqC [PV.int IntKind.i64 (ndK (onX (shortS s))), PV.int IntKind.i64 (ndN (onX (shortS s))), PV.str (ndT (onX (shortS s))), PV.slice (Dats.len (Nds.dat (ndS (onX (shortS s))))) (Dats.cells (Nds.dat (ndS (onX (shortS s)))))] [PV.int IntKind.i64 (ndK (onX (shortS s))), PV.int IntKind.i64 (ndN (onX (shortS s))), PV.str (ndT (onX (shortS s))), PV.slice (Dats.len (Nds.dat (ndS (onX (shortS s))))) (Dats.cells (Nds.dat (ndS (onX (shortS s)))))], true), (true, true)]) (by kernel_rfl) (by ((repeat' (first | exact okO_nil | refine okN ?_ ?_)); all_goals first | assumption | rfl | exact same_of rfl | exact sameS_self _ | (simp only [decide_eq_true_eq, decide_eq_false_iff_not, Nat.ble_eq, Nat.beq_eq, beq_eq_false_iff_ne, beq_iff_eq, ne_eq] <;> omega))) (fun st hs => hfr st [2] ?_)
  rw [hs]
  exact ⟨0, .bool true, Nat.le_refl _, Nat.zero_le _, rfl, rfl, rfl, rfl, _, rfl, rfl⟩
end Seat
end Go.Proofs.YtenpjkcclmmlhaaDoor
/- A world that holds the seat's tables: for the witnesses. Printed by gen.py (this session's). -/
namespace Go.Proofs.YtenpjkcclmmlhaaDoor
open Go.ChangeShapes Go.WideShapes Go.ChangeAt Go.RowKit
set_option linter.unusedVariables false
set_option maxRecDepth 100000
namespace Seat
def putG (h : Array Obj) (g : Nat) (cs : Array Value) : Array Obj := h.modify g fun
  | .cells _ t frozen => .cells cs t frozen
  | o => o
noncomputable def laidWorld (os : Os) : World :=
  let w0 := World.holding Tryd.prog os ⟨#[.cells #[.string ⟨#[118, 97, 108, 117, 101, 32, 111, 117, 116, 32, 111, 102, 32, 114, 97, 110, 103, 101]⟩] 156, .cells #[.string ⟨#[105, 110, 118, 97, 108, 105, 100, 32, 115, 121, 110, 116, 97, 120]⟩] 156], #[], []⟩
  { w0 with heap := putG (putG (putG (putG (putG (w0.heap) 4 #[.int .u8 0, .int .u8 1, .int .u8 28, .int .u8 2, .int .u8 29, .int .u8 14, .int .u8 24, .int .u8 3, .int .u8 30, .int .u8 22, .int .u8 20, .int .u8 15, .int .u8 25, .int .u8 17, .int .u8 4, .int .u8 8, .int .u8 31, .int .u8 27, .int .u8 13, .int .u8 23, .int .u8 21, .int .u8 19, .int .u8 16, .int .u8 7, .int .u8 26, .int .u8 12, .int .u8 18, .int .u8 6, .int .u8 11, .int .u8 5, .int .u8 10, .int .u8 9]) 5 #[.int .u8 0, .int .u8 1, .int .u8 56, .int .u8 2, .int .u8 57, .int .u8 49, .int .u8 28, .int .u8 3, .int .u8 61, .int .u8 58, .int .u8 42, .int .u8 50, .int .u8 38, .int .u8 29, .int .u8 17, .int .u8 4, .int .u8 62, .int .u8 47, .int .u8 59, .int .u8 36, .int .u8 45, .int .u8 43, .int .u8 51, .int .u8 22, .int .u8 53, .int .u8 39, .int .u8 33, .int .u8 30, .int .u8 24, .int .u8 18, .int .u8 12, .int .u8 5, .int .u8 63, .int .u8 55, .int .u8 48, .int .u8 27, .int .u8 60, .int .u8 41, .int .u8 37, .int .u8 16, .int .u8 46, .int .u8 35, .int .u8 44, .int .u8 21, .int .u8 52, .int .u8 32, .int .u8 23, .int .u8 11, .int .u8 54, .int .u8 26, .int .u8 40, .int .u8 15, .int .u8 34, .int .u8 20, .int .u8 31, .int .u8 10, .int .u8 25, .int .u8 14, .int .u8 19, .int .u8 9, .int .u8 13, .int .u8 8, .int .u8 7, .int .u8 6]) 1 #[.int .u64 1, .int .u64 10, .int .u64 100, .int .u64 1000, .int .u64 10000, .int .u64 100000, .int .u64 1000000, .int .u64 10000000, .int .u64 100000000, .int .u64 1000000000, .int .u64 10000000000, .int .u64 100000000000, .int .u64 1000000000000, .int .u64 10000000000000, .int .u64 100000000000000, .int .u64 1000000000000000, .int .u64 10000000000000000, .int .u64 100000000000000000, .int .u64 1000000000000000000, .int .u64 10000000000000000000]) 3 #[.iface 154 (.pointer (some ⟨(World.settled Tryd.prog os).heap.size + 0, 0, none⟩))]) 2 #[.iface 154 (.pointer (some ⟨(World.settled Tryd.prog os).heap.size + 1, 0, none⟩))] }
theorem laid_met (os : Os) (args : Array Value) : laidMet Tryd.prog Rows.readerReadsRow.laid ((laidWorld os).forCall (fun _ _ => 0) ⟨#[], args, []⟩).memory :=
  laidMet_of_run' 9 (by kernel_rfl) (by kernel_rfl)
theorem own : ownKnob Tryd.prog.godebug = none := by kernel_rfl
end Seat
end Go.Proofs.YtenpjkcclmmlhaaDoor
/- Abstract states (own engine), part 1: what is read of data that are kept; trees that are read. -/
namespace Go.AS
open Go.ChangeShapes Go.WideShapes Go.ChangeAt Go.RowKit
set_option linter.unusedVariables false
set_option linter.unusedSimpArgs false
section
variable {H : Type} {enc : TypeId × Value → H} {P : Program} {w w' : World} {base : Nat} {held : Bool}
/-- Types of numbers, truth, strings, and slices, structs of such. -/
structure Flat (P : Program) (S : TypeId → Prop) : Prop where
  at' : ∀ t, S t → P.underlying t = some .bool ∨ (∃ k, P.underlying t = some (.int k)) ∨ P.underlying t = some .string ∨ (∃ e, P.underlying t = some (.slice e) ∧ S e ∧ 0 < P.cellsOf e) ∨ (∃ fs, P.underlying t = some (.struct fs) ∧ ∀ f ∈ fs.toList, S f.type)
theorem cells?_move {a : Addr} {n : Nat} {cs : List Value} (hw : ∀ a v, w.cell? a = some v → w'.cell? a = some v) (h : w.cells? base a n = some cs) : w'.cells? 0 a n = some cs := by
  obtain ⟨_, hl, hc⟩ := World.cells?_some h
  unfold World.cells?
  rw [if_pos (Nat.zero_le _)]
  refine mapM_some_of_get _ _ (by simp [hl]) fun i x hx => ?_
  have hi : i < n := by have := (List.getElem?_eq_some_iff.1 hx).1; simpa using this
  rw [List.getElem?_range hi] at hx
  cases hx
  rw [← hc i hi]
  cases hv : w.cell? (a.add i) with
  | none => rw [hc i hi] at hv; rw [List.getElem?_eq_none_iff] at hv; omega
  | some v => exact hw _ _ hv
theorem trod_move {S : TypeId → Prop} (hS : Flat P S) (hw : ∀ a v, w.cell? a = some v → w'.cell? a = some v) (sp : Nat → Bool) : ∀ (m : Nat) (t : TypeId) (cs : List Value) (x : DataW H × List MemPlace), S t → DataW.trod enc P w base (fun _ => true) held m t cs = some x → (∀ q ∈ x.2, sp q.block = true) → DataW.trod enc P w' 0 sp held m t cs = some x := by
  intro m
  induction m with
  | zero => intro t cs x _ h; simp [DataW.trod] at h
  | succ m ih =>
    intro t cs x ht h hp
    rcases hS.at' t ht with hu | ⟨k, hu⟩ | hu | ⟨e, hu, he, hpos⟩ | ⟨fs, hu, hfs⟩
    · obtain ⟨b, rfl, rfl⟩ := DataW.trod_bool hu h
      unfold DataW.trod
      rw [hu]
    · obtain ⟨n, rfl, rfl, hwf⟩ := DataW.trod_int hu h
      exact trod_int_mk m hu hwf
    · obtain ⟨s, rfl, rfl, hs⟩ := DataW.trod_string hu h
      unfold DataW.trod
      rw [hu]
      simp [hs]
    · rcases DataW.trod_slice hu h with ⟨rfl, rfl⟩ | ⟨a, len, cap, elems, rest, n, hn, rfl, rfl, h1, h2, h3, h4, h5, h6, _⟩
      · unfold DataW.trod
        rw [hu]
        rfl
      · obtain rfl : m = n := by omega
        obtain ⟨h6, h7⟩ := h6 rfl
        have hin : ∀ y, y ∈ elems ∨ y ∈ rest → ∀ q ∈ y.2, sp q.block = true := fun y hy q hq => hp q (List.mem_append_right _ (List.mem_flatMap.2 ⟨y, List.mem_append.2 hy, hq⟩))
        have go : ∀ (i : Nat) (y : DataW H × List MemPlace), (w.cells? base (a.add (i * P.cellsOf e)) (P.cellsOf e)).bind (DataW.trod enc P w base (fun _ => true) held m e) = some y → (∀ q ∈ y.2, sp q.block = true) → (w'.cells? 0 (a.add (i * P.cellsOf e)) (P.cellsOf e)).bind (DataW.trod enc P w' 0 sp held m e) = some y := fun i y hy hq => by
          obtain ⟨cs, hcs, htr⟩ := Option.bind_eq_some_iff.1 hy
          rw [cells?_move hw hcs]
          exact ih e cs y he htr hq
        have e1 : (List.range len).mapM (fun i => (w'.cells? 0 (a.add (i * P.cellsOf e)) (P.cellsOf e)).bind (DataW.trod enc P w' 0 sp held m e)) = some elems := mapM_some_of_get _ _ (by simp [h4]) fun i y hy => by
          have hi : i < len := by have := (List.getElem?_eq_some_iff.1 hy).1; simpa using this
          rw [List.getElem?_range hi] at hy
          cases hy
          obtain ⟨z, hz⟩ : ∃ z, elems[i]? = some z := ⟨_, List.getElem?_eq_getElem (by omega)⟩
          rw [hz]
          exact go i z (by rw [h5 i hi, hz]) (hin z (.inl (List.mem_of_getElem? hz)))
        have e2 : (List.range (cap - len)).mapM (fun j => (w'.cells? 0 (a.add ((len + j) * P.cellsOf e)) (P.cellsOf e)).bind (DataW.trod enc P w' 0 sp held m e)) = some rest := mapM_some_of_get _ _ (by simp [h6]) fun i y hy => by
          have hi : i < cap - len := by have := (List.getElem?_eq_some_iff.1 hy).1; simpa using this
          rw [List.getElem?_range hi] at hy
          cases hy
          obtain ⟨z, hz⟩ : ∃ z, rest[i]? = some z := ⟨_, List.getElem?_eq_getElem (by omega)⟩
          rw [hz]
          exact go (len + i) z (by rw [h7 i hi, hz]) (hin z (.inr (List.mem_of_getElem? hz)))
        have e3 : (if sp a.block then (List.range (cap - len)).mapM (fun j => (w'.cells? 0 (a.add ((len + j) * P.cellsOf e)) (P.cellsOf e)).bind (DataW.trod enc P w' 0 sp held m e)) else some []) = some rest := by
          by_cases hz : (elems.length + rest.length) * P.cellsOf e = 0
          · have : rest = [] := by
              rcases Nat.mul_eq_zero.1 hz with h | h
              · exact List.eq_nil_of_length_eq_zero (by omega)
              · omega
            subst this
            split
            · exact e2
            · rfl
          · have : sp a.block = true := hp (.cell a.block (a.off + 0)) (List.mem_append_left _ (List.mem_map.2 ⟨0, List.mem_range.2 (by omega), rfl⟩))
            rw [if_pos this]
            exact e2
        unfold DataW.trod
        rw [hu]
        simp only [e1, e3, Option.bind_some, Option.map_some]
        rw [if_pos ⟨Nat.zero_le _, h2, h3⟩]
    · obtain ⟨xs, n, hn, rfl, hl, hlen, hf⟩ := DataW.trod_struct hu h
      obtain rfl : m = n := by omega
      refine trod_struct_mk hu hl (mapM_some_of_get _ _ (by simpa using hlen) fun i f hi => ?_)
      obtain ⟨y, hy⟩ : ∃ y, xs[i]? = some y := ⟨_, List.getElem?_eq_getElem (by have := (List.getElem?_eq_some_iff.1 hi).1; simp at this; omega)⟩
      rw [hy]
      exact ih f.type _ y (hfs f (List.mem_of_getElem? hi)) (by rw [hf i f (by simpa using hi), hy]) (fun q hq => hp q (List.mem_flatMap.2 ⟨y, List.mem_of_getElem? hy, hq⟩))
theorem cell_keep (hk : ∀ k, k < w.heap.size → w'.heap[k]? = w.heap[k]?) (a : Addr) (v : Value) (h : w.cell? a = some v) : w'.cell? a = some v := by
  rw [← h]
  have hb : a.block < w.heap.size := by
    rcases Nat.lt_or_ge a.block w.heap.size with h' | h'
    · exact h'
    · unfold World.cell? at h
      rw [show w.heap[a.block]? = none from Array.getElem?_eq_none h'] at h
      simp at h
  unfold World.cell?
  rw [hk _ hb]
theorem trodAll_move {S : TypeId → Prop} (hS : Flat P S) (hk : ∀ k, k < w.heap.size → w'.heap[k]? = w.heap[k]?) (sp : Nat → Bool) : ∀ (ts : List TypeId) (vs : List Value) (ds : List (DataW H)) (p : List MemPlace), (∀ t ∈ ts, S t) → DataW.TrodAll enc P w base (fun _ => true) held ts vs ds p → (∀ q ∈ p, sp q.block = true) → DataW.TrodAll enc P w' 0 sp held ts vs ds p
  | [], [], [], p, _, h, _ => h
  | t :: ts, v :: vs, d :: ds, p, ht, h, hp => by
    obtain ⟨p1, q1, ⟨m, h1⟩, h2, rfl⟩ := h
    exact ⟨p1, q1, ⟨m, trod_move hS (cell_keep hk) sp m t _ _ (ht t (by simp)) h1 fun q hq => hp q (List.mem_append_left _ hq)⟩, trodAll_move hS hk sp ts vs ds q1 (fun t h => ht t (by simp [h])) h2 (fun q hq => hp q (List.mem_append_right _ hq)), rfl⟩
  | [], _ :: _, _, _, _, h, _ => by simp [DataW.TrodAll] at h
  | [], [], _ :: _, _, _, h, _ => by simp [DataW.TrodAll] at h
  | _ :: _, [], _, _, _, h, _ => by simp [DataW.TrodAll] at h
  | _ :: _, _ :: _, [], _, _, h, _ => by simp [DataW.TrodAll] at h
/-- The type of trees. -/
structure DatT (P : Program) (tD tK : TypeId) : Prop where
  st : ∃ fs f0 f1 f2 f3, P.underlying tD = some (.struct fs) ∧ fs.toList = [f0, f1, f2, f3] ∧ f0.offset = 0 ∧ f1.offset = 1 ∧ f2.offset = 2 ∧ f3.offset = 3 ∧ P.underlying f0.type = some (.int .i64) ∧ P.underlying f1.type = some (.int .i64) ∧ P.underlying f2.type = some .string ∧ f3.type = tK ∧ P.cellsOf f0.type = 1 ∧ P.cellsOf f1.type = 1 ∧ P.cellsOf f2.type = 1 ∧ P.cellsOf f3.type = 1
  sl : P.underlying tK = some (.slice tD)
  sz : P.cellsOf tD = 4
/-- Elements that are trees. -/
theorem dats_row {tD : TypeId} {sp : Nat → Bool} {n : Nat} {a : Addr} (hsz : P.cellsOf tD = 4)
    (ih : ∀ cs d p, DataW.trod enc P w base sp held n tD cs = some (d, p) → ∃ D : Dat, D.ok ∧ IReps (old w) w D.cells cs ∧ allOne D.cells = true ∧ D.rng) : ∀ (len k : Nat),
    (∀ i, i < len → ∃ x, (w.cells? base (a.add ((k + i) * 4)) 4).bind (DataW.trod enc P w base sp held n tD) = some x) →
    ∃ (ks : Dats) (vs : List Value), ks.len = len ∧ ks.ok ∧ vs.length = len * 4 ∧ (∀ (j : Nat) (v : Value), vs[j]? = some v → w.cell? (a.add (k * 4 + j)) = some v) ∧ IReps (old w) w ks.cells vs ∧ allOne ks.cells = true ∧ (0 < vs.length → a.block < w.heap.size) ∧ ks.rng := by
  intro len
  induction len with
  | zero => intro k _; exact ⟨.nil, [], rfl, trivial, rfl, (fun j v h => by simp at h), .nil _ _, rfl, (fun h => by simp at h), trivial⟩
  | succ len ihl =>
    intro k h
    obtain ⟨⟨d, p⟩, hp⟩ := h 0 (by omega)
    obtain ⟨cs, hcs, htr⟩ := Option.bind_eq_some_iff.1 hp
    obtain ⟨hb, hlen, hcell⟩ := World.cells?_some hcs
    obtain ⟨D, hok, h1, h2, h9⟩ := ih cs d p htr
    obtain ⟨ks, vs, g0, g1, g2, g3, g4, g5, g6, g9⟩ := ihl (k + 1) (fun i hi => by
      have := h (i + 1) (by omega)
      rw [show k + (i + 1) = k + 1 + i from by omega] at this
      exact this)
    refine ⟨.cons D ks, cs ++ vs, by simp [Dats.len, g0], ⟨hok, g1⟩, by simp [hlen, g2]; omega, fun j v hv => ?_, h1.append g4, allOne_append h2 g5, fun _ => ?_, ⟨h9, g9⟩⟩
    · rcases Nat.lt_or_ge j cs.length with hlt | hge
      · rw [List.getElem?_append_left hlt] at hv
        have := hcell j (by omega)
        rw [add_of_add, Nat.add_zero] at this
        rw [this]; exact hv
      · rw [List.getElem?_append_right hge] at hv
        have := g3 _ v hv
        rw [← this]
        congr 2
        omega
    · have := World.cells?_block hcs (by omega)
      rw [block_of_add] at this
      exact this
/-- What is read of a tree's cells is a tree. -/
theorem trod_dat {tD tK : TypeId} (hT : DatT P tD tK) {sp : Nat → Bool} : ∀ (m : Nat), ∀ m', m' ≤ m → ∀ (cs : List Value) (d : DataW H) (p : List MemPlace), DataW.trod enc P w base sp held m' tD cs = some (d, p) → ∃ D : Dat, D.ok ∧ IReps (old w) w D.cells cs ∧ allOne D.cells = true ∧ D.rng := by
  obtain ⟨fs, f0, f1, f2, f3, hu, hfs, o0, o1, o2, o3, u0, u1, u2, rfl, c0, c1, c2, c3⟩ := hT.st
  intro m
  induction m with
  | zero => intro m' hm cs d p h; obtain rfl : m' = 0 := by omega
            simp [DataW.trod] at h
  | succ m ih =>
    intro m' hm cs d p h
    obtain ⟨xs, n, rfl, hx, hl, hlen, hf⟩ := DataW.trod_struct hu h
    have hsz := hT.sz
    have hcl : cs.length = 4 := by omega
    match cs, hcl with
    | [v0, v1, v2, v3], _ =>
      have e0 := hf 0 f0 (by rw [← Array.getElem?_toList, hfs]; rfl)
      have e1 := hf 1 f1 (by rw [← Array.getElem?_toList, hfs]; rfl)
      have e2 := hf 2 f2 (by rw [← Array.getElem?_toList, hfs]; rfl)
      have e3 := hf 3 f3 (by rw [← Array.getElem?_toList, hfs]; rfl)
      rw [o0, c0] at e0; rw [o1, c1] at e1; rw [o2, c2] at e2; rw [o3, c3] at e3
      simp only [List.drop_zero, List.drop_succ_cons, List.take_succ_cons, List.take_zero] at e0 e1 e2 e3
      have hxl : xs.length = 4 := by rw [hlen, ← Array.length_toList, hfs]; rfl
      match xs, hxl with
      | [x0, x1, x2, x3], _ =>
        simp only [List.getElem?_cons_zero, List.getElem?_cons_succ] at e0 e1 e2 e3
        obtain ⟨k, ek, _⟩ := DataW.trod_int u0 e0
        obtain ⟨z, ez, _, wz⟩ := DataW.trod_int u1 e1
        obtain ⟨s, es, _⟩ := DataW.trod_string u2 e2
        simp only [List.cons.injEq, and_true] at ek ez es
        subst ek ez es
        have fin : ∀ (ks : Dats), ks.len ≤ 9223372036854775807 → ks.ok → ks.rng → IRep (old w) w (.slice ks.len ks.cells) v3 → ∃ D : Dat, D.ok ∧ IReps (old w) w D.cells [.int .i64 k, .int .i64 z, .string s, v3] ∧ allOne D.cells = true ∧ D.rng := fun ks h1 h2 h9 h3 =>
          ⟨.mk k z s ks, ⟨h1, h2⟩, ⟨rfl, fun j x v hx hv => by
            match j with
            | 0 => simp [Dat.cells] at hx hv; subst hx; subst hv; exact .int _ _
            | 1 => simp [Dat.cells] at hx hv; subst hx; subst hv; exact .int _ _
            | 2 => simp [Dat.cells] at hx hv; subst hx; subst hv; exact .str _
            | 3 => simp [Dat.cells] at hx hv; subst hx; subst hv; exact h3
            | j + 4 => simp at hv⟩, rfl, bounds_i64 wz, h9⟩
        rcases DataW.trod_slice hT.sl e3 with ⟨hcs, _⟩ | ⟨a, len, cap, elems, rest, n', hn', hcs, _, h1, h2, h3, h4, h5, _⟩
        · simp only [List.cons.injEq, and_true] at hcs
          subst hcs
          exact fin .nil (by simp [Dats.len]) trivial trivial .slice0
        · simp only [List.cons.injEq, and_true] at hcs
          subst hcs
          obtain ⟨ks, vs, g0, g1, g2, g3, g4, g5, g6, g9⟩ := dats_row (a := a) hsz (ih n' (by omega)) len 0 (fun i hi => by
            have := h5 i hi
            rw [hsz] at this
            rw [Nat.zero_add]
            exact ⟨_, this.trans (List.getElem?_eq_getElem (by omega))⟩)
          unfold maxLen at h3
          refine fin ks (by omega) g1 g9 ?_
          rw [g0]
          exact .slice h2 g4.1 (fun h => g6 h) (fun j v hv => by have := g3 j v hv; rwa [Nat.zero_mul, Nat.zero_add] at this) (iones g4 g5) g4.2
end
end Go.AS
namespace Go.AS
open Go.RowKit
set_option linter.unusedVariables false
/-! Boxes under other numbers. -/
mutual
def PV.mv (f : Nat → Nat) : PV → PV
  | .ptr b o => .ptr (f b) o
  | .bsl b n m => .bsl (f b) n m
  | .func fn cs => .func fn (mvL f cs)
  | .agg cs => .agg (mvL f cs)
  | .tup cs => .tup (mvL f cs)
  | .iface t x => .iface t (x.mv f)
  | .int k n => .int k n
  | .bool b => .bool b
  | .str s => .str s
  | .slice n cs => .slice n cs
  | .nil => .nil
  | .own r n => .own r n
  | .rpos r n => .rpos r n
  | .epos cs => .epos cs
  | .nilptr => .nilptr
  | .nilfunc => .nilfunc
  | .niliface => .niliface
  | .junk => .junk
def mvL (f : Nat → Nat) : List PV → List PV
  | [] => []
  | x :: xs => x.mv f :: mvL f xs
end
theorem mvL_map (f : Nat → Nat) (l : List PV) : mvL f l = l.map (·.mv f) := by
  induction l with
  | nil => rfl
  | cons x xs ih => simp [mvL, ih]
theorem IRep.mv {im : Nat → Prop} {w : World} {f : Nat → Nat} {x : PV} {v : Value} (h : IRep im w x v) : IRep im w (x.mv f) v := by
  induction h with
  | int k n => exact .int k n
  | bool b => exact .bool b
  | str s => exact .str s
  | nil => exact .nil
  | slice0 => exact .slice0
  | slice hn hl hb hc h1 hr _ => exact .slice hn hl hb hc h1 hr
  | epos hl hb hc hr _ => exact .epos hl hb hc hr
  | nilptr => exact .nilptr
  | nilfunc => exact .nilfunc
  | niliface => exact .niliface
  | func fn => exact .func fn
  | iface t _ ih => exact .iface t ih
  | agg hl hr ih =>
    simp only [PV.mv, mvL_map]
    refine .agg (by simpa using hl) fun j x v hx hv => ?_
    rw [List.getElem?_map] at hx
    obtain ⟨y, hy, rfl⟩ := Option.map_eq_some_iff.1 hx
    exact ih j y v hy hv
  | tup hl hr ih =>
    simp only [PV.mv, mvL_map]
    refine .tup (by simpa using hl) fun j x v hx hv => ?_
    rw [List.getElem?_map] at hx
    obtain ⟨y, hy, rfl⟩ := Option.map_eq_some_iff.1 hx
    exact ih j y v hy hv
theorem VRep.mv {E E' : Env} {w : World} {f : Nat → Nat} {x : PV} {v : Value} (h : VRep E w x v) (hf : ∀ b, b < E.nb → f b < E'.nb ∧ E'.β (f b) = E.β b) (hr : E'.nr = E.nr) (hρ : E'.ρ = E.ρ) (hi : E'.im = E.im) : VRep E' w (x.mv f) v := by
  induction h with
  | imm h => exact .imm (by rw [hi]; exact h.mv)
  | own hr' he hn => exact .own (by rw [hr]; exact hr') (by rw [hρ]; exact he) hn
  | rpos hr' he => exact .rpos (by rw [hr]; exact hr') (by rw [hρ]; exact he)
  | ptr o hb =>
    obtain ⟨h1, h2⟩ := hf _ hb
    simp only [PV.mv]
    rw [← h2]
    exact .ptr o h1
  | bsl hb hn =>
    obtain ⟨h1, h2⟩ := hf _ hb
    simp only [PV.mv]
    rw [← h2]
    exact .bsl h1 hn
  | func hl _ ih =>
    simp only [PV.mv, mvL_map]
    refine .func (by simpa using hl) fun j x v hx hv => ?_
    rw [List.getElem?_map] at hx
    obtain ⟨y, hy, rfl⟩ := Option.map_eq_some_iff.1 hx
    exact ih j y v hy hv
  | agg hl _ ih =>
    simp only [PV.mv, mvL_map]
    refine .agg (by simpa using hl) fun j x v hx hv => ?_
    rw [List.getElem?_map] at hx
    obtain ⟨y, hy, rfl⟩ := Option.map_eq_some_iff.1 hx
    exact ih j y v hy hv
  | tup hl _ ih =>
    simp only [PV.mv, mvL_map]
    refine .tup (by simpa using hl) fun j x v hx hv => ?_
    rw [List.getElem?_map] at hx
    obtain ⟨y, hy, rfl⟩ := Option.map_eq_some_iff.1 hx
    exact ih j y v hy hv
  | iface t _ ih => exact .iface t ih
  | junk v => exact .junk v
/-- Two boxes changed about. -/
def swp (i j k : Nat) : Nat := match Nat.beq k i with
  | true => j
  | false => match Nat.beq k j with
    | true => i
    | false => k
theorem swp_eq (i j k : Nat) : swp i j k = if k = i then j else if k = j then i else k := by
  unfold swp
  by_cases h1 : k = i
  · subst h1; rw [if_pos rfl]; simp
  · have e1 : Nat.beq k i = false := by cases hb : Nat.beq k i with | false => rfl | true => exact absurd (Nat.eq_of_beq_eq_true hb) h1
    rw [if_neg h1, e1]
    by_cases h2 : k = j
    · subst h2; rw [if_pos rfl]; simp
    · have e2 : Nat.beq k j = false := by cases hb : Nat.beq k j with | false => rfl | true => exact absurd (Nat.eq_of_beq_eq_true hb) h2
      rw [if_neg h2, e2]
theorem swp_swp (i j k : Nat) : swp i j (swp i j k) = k := by
  simp only [swp_eq]
  repeat' split
  all_goals omega
/-- The state, boxes i and j changed about. -/
def AS.swap (i j : Nat) (s : AS) : AS := ⟨s.t.map fun p => (p.1, p.2.mv (swp i j)), ⟨(List.range s.h.bx.length).map fun k => match s.h.bx[swp i j k]? with
  | some b => ⟨mvL (swp i j) b.cs, b.ty⟩
  | none => ⟨[], 0⟩, s.h.rw⟩⟩
theorem lk_map (f : PV → PV) (hj : f .junk = .junk) (t : List (Nat × PV)) (k : Nat) : lk (t.map fun p => (p.1, f p.2)) k = f (lk t k) := by
  induction t with
  | nil => simp [lk, hj]
  | cons p t ih =>
    obtain ⟨q, x⟩ := p
    simp only [List.map_cons, lk]
    split
    · rfl
    · exact ih
section
variable {G : Prg} {C : Ctx} {Q : AEx → AS → Prop} {st : AS}
theorem Rel.swap {E : Env} {a : Act} {w : World} (hr : Rel G C E st a w) {i j : Nat} (hi : C.nb ≤ i) (hj : C.nb ≤ j) (hi2 : i < st.h.bx.length) (hj2 : j < st.h.bx.length) : Rel G C { E with β := fun k => E.β (swp i j k) } (st.swap i j) a w := by
  have hnb := hr.hp.nb
  have lt : ∀ k, k < E.nb → swp i j k < E.nb := fun k hk => by unfold swp; split <;> (try split) <;> omega
  have low : ∀ k, k < C.nb → swp i j k = k := fun k hk => by
    unfold swp
    split
    · rename_i h; have := Nat.eq_of_beq_eq_true h; omega
    · split
      · rename_i h; have := Nat.eq_of_beq_eq_true h; omega
      · rfl
  have high : ∀ k, C.nb ≤ k → C.nb ≤ swp i j k := fun k hk => by unfold swp; split <;> (try split) <;> omega
  have mv : ∀ x v, VRep E w x v → VRep { E with β := fun k => E.β (swp i j k) } w (x.mv (swp i j)) v := fun x v h => h.mv (fun b hb => ⟨lt b hb, by simp only [swp_swp]⟩) rfl rfl rfl
  refine ⟨hr.defers, hr.size, fun s => ?_, ⟨by simp [AS.swap, hnb], hr.hp.nr, hr.hp.lo, fun k b hb => ?_, hr.hp.row, fun p q hp hq he => ?_, hr.hp.rinj, fun p q r hp hq => hr.hp.brw _ q r (lt p hp) hq, hr.hp.im_lt, fun k p hp hk => hr.hp.im_b k _ (lt p hp) hk, hr.hp.im_r, hr.hp.gl⟩,
    hr.lo, hr.nb, fun k hk => ?_, fun k h1 h2 => hr.own _ (high k h1) (lt k h2), hr.up, hr.dn, hr.keep, hr.os, hr.tape, hr.out, hr.sz, hr.rows⟩
  · simp only [AS.swap]
    rw [lk_map (·.mv (swp i j)) rfl]
    exact mv _ _ (hr.fr s)
  · simp only [AS.swap, List.getElem?_map] at hb
    obtain ⟨k', hk', hb⟩ := Option.map_eq_some_iff.1 hb
    have hklt : k < st.h.bx.length := by have := (List.getElem?_eq_some_iff.1 hk').1; simpa using this
    rw [List.getElem?_range hklt] at hk'
    cases hk'
    have hs : swp i j k < st.h.bx.length := by have := lt k (by rw [hnb]; exact hklt); rwa [hnb] at this
    rw [List.getElem?_eq_getElem hs] at hb
    simp only [] at hb
    subst hb
    obtain ⟨vs, h1, h2⟩ := hr.hp.box _ _ (List.getElem?_eq_getElem hs)
    refine ⟨vs, h1, by simp only [mvL_map, List.length_map]; exact h2.1, fun q x v hx hv => ?_⟩
    simp only [mvL_map, List.getElem?_map] at hx
    obtain ⟨y, hy, rfl⟩ := Option.map_eq_some_iff.1 hx
    exact mv _ _ (h2.2 q y v hy hv)
  · have h1 := hr.hp.inj _ _ (lt p hp) (lt q hq) he
    have h2 := congrArg (swp i j) h1
    rwa [swp_swp, swp_swp] at h2
  · simp only []
    rw [low k hk]
    exact hr.β k hk
theorem SWP.swap {c : Code} (i j : Nat) (hi : C.nb ≤ i) (hj : C.nb ≤ j) (hi2 : i < st.h.bx.length) (hj2 : j < st.h.bx.length) (h : SWP G C c Q (st.swap i j)) : SWP G C c Q st := fun E a w hr =>
  h _ a w (hr.swap hi hj hi2 hj2)
end
section
variable {G : Prg} {C : Ctx} {Q : AEx → AS → Prop}
theorem fa_nil {α : Type} {p : α → Prop} : ∀ x ∈ ([] : List α), p x := fun _ h => by cases h
theorem fa_cons {α : Type} {p : α → Prop} {a : α} {l : List α} (h : p a) (t : ∀ x ∈ l, p x) : ∀ x ∈ a :: l, p x := List.forall_mem_cons.2 ⟨h, t⟩
/-- Two boxes came in one order or in the other. -/
theorem SWP.either {c : Code} {st z z' : AS} (i j : Nat) (two : st = z ∨ st = z') (hi : C.nb ≤ i) (hj : C.nb ≤ j) (hi2 : i < z'.h.bx.length) (hj2 : j < z'.h.bx.length) (hz : z'.swap i j = z) (h : SWP G C c Q z) : SWP G C c Q st := by
  rcases two with rfl | rfl
  · exact h
  · exact SWP.swap i j hi hj hi2 hj2 (by rw [hz]; exact h)
end
end Go.AS
/- The seat's types of data: what is read of them is kept; trees. -/
namespace Go.Proofs.YtenpjkcclmmlhaaDoor.Seat
open Go.ChangeShapes Go.WideShapes Go.ChangeAt Go.RowKit Go.AS
set_option linter.unusedVariables false
set_option maxRecDepth 100000
def flatT (t : TypeId) : Prop := t = 3 ∨ t = 2 ∨ t = 9 ∨ t = 23 ∨ t = 25
theorem flat : Flat Tryd.prog flatT := ⟨fun t ht => by
  rcases ht with rfl | rfl | rfl | rfl | rfl
  · exact .inr (.inl ⟨_, Tryd.underlying3⟩)
  · exact .inr (.inl ⟨_, Tryd.underlying2⟩)
  · exact .inr (.inr (.inl Tryd.underlying9))
  · exact .inr (.inr (.inr (.inl ⟨_, Tryd.underlying23, .inr (.inr (.inr (.inr rfl))), by rw [show Tryd.prog.cellsOf 25 = 4 by kernel_rfl]; exact Nat.le_of_ble_eq_true rfl⟩)))
  · refine .inr (.inr (.inr (.inr ⟨_, Tryd.underlying25, fun f hf => ?_⟩)))
    simp only [List.mem_cons, List.not_mem_nil, or_false] at hf
    rcases hf with rfl | rfl | rfl | rfl
    · exact .inl rfl
    · exact .inr (.inl rfl)
    · exact .inr (.inr (.inl rfl))
    · exact .inr (.inr (.inr (.inl rfl)))⟩
theorem datT : DatT Tryd.prog 25 23 :=
  ⟨⟨_, _, _, _, _, Tryd.underlying25, rfl, rfl, rfl, rfl, rfl, Tryd.underlying3, Tryd.underlying2, Tryd.underlying9, rfl, by kernel_rfl, by kernel_rfl, by kernel_rfl, by kernel_rfl⟩, Tryd.underlying23, by kernel_rfl⟩
/-- A datum that is handed in is a tree. -/
theorem open_dat {H : Type} {enc : TypeId × Value → H} {W : World} {base b0 : Nat} {sp : Nat → Bool} {held : Bool} {v : Value} {d : DataW H} {p : List MemPlace} (hv : Value.okWide Tryd.prog W .any base 25 v) (h : DataW.Trod enc Tryd.prog W b0 sp held 25 v d p) :
    ∃ D : Dat, D.ok ∧ IRep (old W) W (.agg D.cells) v ∧ D.rng := by
  unfold Value.okWide at hv
  rw [Tryd.underlying25] at hv
  obtain ⟨cs, rfl, _, _⟩ := hv
  obtain ⟨m, h⟩ := h
  obtain ⟨D, h1, h2, _, h3⟩ := trod_dat (enc := enc) (w := W) datT m m (Nat.le_refl _) _ _ _ h
  refine ⟨D, h1, ?_, h3⟩
  have : IRep (old W) W (.agg D.cells) (.agg cs.toList.toArray) := .agg h2.1 h2.2
  rwa [Array.toArray_toList] at this
end Go.Proofs.YtenpjkcclmmlhaaDoor.Seat
/- The law of ReaderWrites. Printed by dev/lwb.py and dev/nfsub.py (this session's). -/
namespace Go.Proofs.YtenpjkcclmmlhaaDoor
open Go.AS Go.RowKit
set_option linter.unusedVariables false
set_option linter.unusedSimpArgs false
set_option maxRecDepth 100000
set_option maxHeartbeats 4000000
namespace Seat
noncomputable def cuA (cs : List PV) : Int := ofCells (fun d => match (cutD d 1020 3000).1 with | .mk k _ _ _ => k) 0 cs
noncomputable def cuB (cs : List PV) : Int := ofCells (fun d => match (cutD d 1020 3000).1 with | .mk _ n _ _ => n) 0 cs
noncomputable def cuC (cs : List PV) : ByteArray := ofCells (fun d => match (cutD d 1020 3000).1 with | .mk _ _ s _ => s) ⟨#[]⟩ cs
noncomputable def cuD (cs : List PV) : Dats := ofCells (fun d => match (cutD d 1020 3000).1 with | .mk _ _ _ ks => ks) .nil cs
noncomputable def ckC (cs : List PV) : Int := ofCells chkD 0 cs
theorem cu_at (d : Dat) : [.int .i64 (cuA d.cells), .int .i64 (cuB d.cells), .str (cuC d.cells), .slice (cuD d.cells).len (cuD d.cells).cells] = (cutD d 1020 3000).1.cells := by
  unfold cuA cuB cuC cuD
  rw [ofCells_at, ofCells_at, ofCells_at, ofCells_at]
  obtain ⟨k, n, s, ks⟩ := (cutD d 1020 3000).1
  rfl
noncomputable def lxS (f : Nat) (args : List PV) : Option (PV × Ob) := match f, args with
  | 19, [.agg cs, .int .i64 3000, .int .i64 1020] => some (.agg [.int .i64 (cuA cs), .int .i64 (cuB cs), .str (cuC cs), .slice (cuD cs).len (cuD cs).cells], [(isOk cs, true)])
  | 20, [.agg cs] => some (.tup [.str (wrBC cs), .int .i64 (wrEC cs)], [(isSml cs, true)])
  | 21, [.agg cs] => some (.int .i64 (ckC cs), [(isSml cs, true)])
  | 22, [.agg cs] => some (.str (mkS (txC cs)), [(isTxt cs, true)])
  | 17, [.agg cs, .agg ds] => some (.bool (eqC cs ds), [(isOk cs, true), (isOk ds, true)])
  | 18, [] => some (.bool true, [])
  | _, _ => none
theorem lxS_ok (f : Nat) (args : List PV) (r : PV) (o : Ob) (h : lxS f args = some (r, o)) (ho : ∀ p ∈ o, p.1 = p.2) (_ : pureL args = true) : Pure G0 f args (fun x => x = r) := by
  unfold lxS at h
  split at h
  · rename_i cs _
    cases h
    obtain ⟨d, rfl, h1⟩ := isOk_of (ho (isOk cs, true) (List.mem_singleton.2 rfl))
    rw [cu_at]
    exact cut_ok d h1 3000 1020 (by decide)
  · rename_i cs _
    cases h
    obtain ⟨d, rfl, h1⟩ := isSml_of (ho (isSml cs, true) (List.mem_singleton.2 rfl))
    unfold wrBC wrEC
    rw [ofCells_at, ofCells_at]
    exact writeP d h1.good h1.2.1 (by have := h1.2.2; omega)
  · rename_i cs _
    cases h
    obtain ⟨d, rfl, h1⟩ := isSml_of (ho (isSml cs, true) (List.mem_singleton.2 rfl))
    unfold ckC
    rw [ofCells_at]
    exact rcheck_ok d h1
  · rename_i cs _
    cases h
    obtain ⟨d, rfl, h1, h2, h3⟩ := isTxt_of (ho (isTxt cs, true) (List.mem_singleton.2 rfl))
    rw [txC_at]
    exact text_ref d h1 h2 h3
  · rename_i cs ds _
    cases h
    obtain ⟨d, rfl, h1⟩ := isOk_of (ho (isOk cs, true) (by simp))
    obtain ⟨e, rfl, h2⟩ := isOk_of (ho (isOk ds, true) (by simp))
    rw [eqC_at]
    exact same_ok d e h1 h2
  · cases h
    exact alive_ok
  · cases h
noncomputable def SLx (l : List (Nat × List (Nat × Bool))) (v : List (Nat × List (Nat × PV))) : Cfg G0 := { F := F, hF := hF, S := lxS, hS := lxS_ok, orc := orcM l, val := valM v }
theorem chk_pos (d : Dat) : chkD d = 0 ∨ chkD d = 3 ∨ chkD d = 4 := by
  unfold chkD
  split
  · exact .inr (.inr rfl)
  · split
    · exact .inr (.inl rfl)
    · split
      · exact .inr (.inl rfl)
      · exact .inl rfl
theorem cut_cells (k n k' n' : Int) (s s' : ByteArray) (ks ks' : Dats) (hc : (cutD (.mk k n s ks) 1020 3000).1 = .mk k' n' s' ks') : same (.agg [.int .i64 (cuA [PV.int IntKind.i64 k, PV.int IntKind.i64 n, PV.str s, PV.slice (Dats.len ks) (Dats.cells ks)]), .int .i64 (cuB [PV.int IntKind.i64 k, PV.int IntKind.i64 n, PV.str s, PV.slice (Dats.len ks) (Dats.cells ks)]), .str (cuC [PV.int IntKind.i64 k, PV.int IntKind.i64 n, PV.str s, PV.slice (Dats.len ks) (Dats.cells ks)]), .slice (cuD [PV.int IntKind.i64 k, PV.int IntKind.i64 n, PV.str s, PV.slice (Dats.len ks) (Dats.cells ks)]).len (cuD [PV.int IntKind.i64 k, PV.int IntKind.i64 n, PV.str s, PV.slice (Dats.len ks) (Dats.cells ks)]).cells]) (.agg [.int .i64 k', .int .i64 n', .str s', .slice ks'.len ks'.cells]) = true := same_of (by
  have h := cu_at (.mk k n s ks)
  rw [hc] at h
  have h' : [PV.int .i64 (cuA [PV.int IntKind.i64 k, PV.int IntKind.i64 n, PV.str s, PV.slice (Dats.len ks) (Dats.cells ks)]), .int .i64 (cuB [PV.int IntKind.i64 k, PV.int IntKind.i64 n, PV.str s, PV.slice (Dats.len ks) (Dats.cells ks)]), .str (cuC [PV.int IntKind.i64 k, PV.int IntKind.i64 n, PV.str s, PV.slice (Dats.len ks) (Dats.cells ks)]), .slice (cuD [PV.int IntKind.i64 k, PV.int IntKind.i64 n, PV.str s, PV.slice (Dats.len ks) (Dats.cells ks)]).len (cuD [PV.int IntKind.i64 k, PV.int IntKind.i64 n, PV.str s, PV.slice (Dats.len ks) (Dats.cells ks)]).cells] = (Dat.mk k' n' s' ks').cells := h
  rw [h']; rfl)
theorem writes_law (d : Dat) (hd : d.ok) (hr : d.rng) : Pure G0 4 [.agg d.cells] (fun r => r = .bool true) := by
  have hsm := cut_small d hd hr 3000 1020 (by decide) (by decide)
  have hcp := cutD_parts d 1020 3000 (by decide)
  obtain ⟨k, n, s, ks⟩ := d
  have a1 : isOk [PV.int IntKind.i64 k, PV.int IntKind.i64 n, PV.str s, PV.slice (Dats.len ks) (Dats.cells ks)] = true := isOk_at (d := .mk k n s ks) hd
  rcases hc : (cutD (.mk k n s ks) 1020 3000).1 with ⟨k', n', s', ks'⟩
  rw [hc] at hsm hcp
  have a2 := cut_cells k n k' n' s s' ks ks' hc
  have a3 : isSml [PV.int IntKind.i64 k', PV.int IntKind.i64 n', PV.str s', PV.slice (Dats.len ks') (Dats.cells ks')] = true := isSml_at (d := .mk k' n' s' ks') hsm
  have a4 : isOk [PV.int IntKind.i64 k', PV.int IntKind.i64 n', PV.str s', PV.slice (Dats.len ks') (Dats.cells ks')] = true := isOk_at (d := .mk k' n' s' ks') hsm.1
  have ec : ckC [PV.int IntKind.i64 k', PV.int IntKind.i64 n', PV.str s', PV.slice (Dats.len ks') (Dats.cells ks')] = chkD (.mk k' n' s' ks') := ofCells_at _ _ (.mk k' n' s' ks')
  have eb : wrBC [PV.int IntKind.i64 k', PV.int IntKind.i64 n', PV.str s', PV.slice (Dats.len ks') (Dats.cells ks')] = wrB (.mk k' n' s' ks') := ofCells_at _ _ (.mk k' n' s' ks')
  have ee : wrEC [PV.int IntKind.i64 k', PV.int IntKind.i64 n', PV.str s', PV.slice (Dats.len ks') (Dats.cells ks')] = wrE (.mk k' n' s' ks') := ofCells_at _ _ (.mk k' n' s' ks')
  have tx : txC [PV.int IntKind.i64 k', PV.int IntKind.i64 n', PV.str s', PV.slice (Dats.len ks') (Dats.cells ks')] = textD (.mk k' n' s' ks') := txC_at (.mk k' n' s' ks')
  have eq5 : eqC [PV.int IntKind.i64 k', PV.int IntKind.i64 n', PV.str s', PV.slice (Dats.len ks') (Dats.cells ks')] [PV.int IntKind.i64 k', PV.int IntKind.i64 n', PV.str s', PV.slice (Dats.len ks') (Dats.cells ks')] = true := (eqC_at (.mk k' n' s' ks') (.mk k' n' s' ks')).trans (eqD_self _)
  have a5 : same (PV.bool (eqC [PV.int IntKind.i64 k', PV.int IntKind.i64 n', PV.str s', PV.slice (Dats.len ks') (Dats.cells ks')] [PV.int IntKind.i64 k', PV.int IntKind.i64 n', PV.str s', PV.slice (Dats.len ks') (Dats.cells ks')])) (PV.bool true) = true := sameB eq5
  refine Fn.enterB Tryd.func4 Tryd.ntmps4 rfl (Nat.le_of_ble_eq_true rfl) fun C fr fp hnt hnb hp hfr hfp => ?_
  have fin : ∀ st H, nrm [2] st = ⟨[(2, .bool true)], H⟩ → fr st := fun st H hst => hfr st [2] (by
    rw [hst]
    exact ⟨0, .bool true, Nat.le_refl _, Nat.zero_le _, rfl, rfl, rfl, rfl, _, rfl, rfl⟩)
  by_cases h0 : chkD (.mk k' n' s' ks') = 0
  · obtain ⟨hf, _, _⟩ := chk_formed h0
    have hlen := text_len _ hsm.2.1 hf
    have hsz := size_parts (.mk k' n' s' ks')
    have hl : (textD (.mk k' n' s' ks')).length ≤ 2000000 := by omega
    have wE : wrE (.mk k' n' s' ks') = 0 := by unfold wrE; rw [if_pos h0, if_pos hl]
    have wB : wrB (.mk k' n' s' ks') = mkS (textD (.mk k' n' s' ks')) := by unfold wrB; rw [if_pos h0, if_pos hl]
    have b1 : (!ckC [PV.int IntKind.i64 k', PV.int IntKind.i64 n', PV.str s', PV.slice (Dats.len ks') (Dats.cells ks')] == (0 : Int)) = false := by rw [ec, h0]; rfl
    have b2 : isTxt [PV.int IntKind.i64 k', PV.int IntKind.i64 n', PV.str s', PV.slice (Dats.len ks') (Dats.cells ks')] = true := isTxt_at (d := .mk k' n' s' ks') hsm.1 hsm.2.1 (by omega)
    have b3 : same (PV.bool (wrEC [PV.int IntKind.i64 k', PV.int IntKind.i64 n', PV.str s', PV.slice (Dats.len ks') (Dats.cells ks')] == (0 : Int))) (PV.bool true) = true := sameB (by rw [ee, wE]; rfl)
    have b4 : same (PV.bool (ByteArray.toList (wrBC [PV.int IntKind.i64 k', PV.int IntKind.i64 n', PV.str s', PV.slice (Dats.len ks') (Dats.cells ks')]) == ByteArray.toList (mkS (txC [PV.int IntKind.i64 k', PV.int IntKind.i64 n', PV.str s', PV.slice (Dats.len ks') (Dats.cells ks')])))) (PV.bool true) = true := sameB (by rw [eb, tx, wB, beq_self_eq_true])
    exact SWP.runQ (SLx [(45, [(17, false)])] [(45, [(8, .agg [.int .i64 k', .int .i64 n', .str s', .slice ks'.len ks'.cells]), (39, .agg [.int .i64 k', .int .i64 n', .str s', .slice ks'.len ks'.cells]), (29, .bool true), (34, .bool true), (40, .bool true)])]) 100 45 hnt [2] (e := .ret) (z := ⟨[(2, .bool true)], ⟨[⟨[PV.int IntKind.i64 k, PV.int IntKind.i64 n, PV.str s, PV.slice (Dats.len ks) (Dats.cells ks)], 25⟩, ⟨[PV.int IntKind.i64 k', PV.int IntKind.i64 n', PV.str s', PV.slice (Dats.len ks') (Dats.cells ks')], 25⟩], []⟩⟩) (o := [(true, true), (isOk [PV.int IntKind.i64 k, PV.int IntKind.i64 n, PV.str s, PV.slice (Dats.len ks) (Dats.cells ks)], true), (same (.agg [.int .i64 (cuA [PV.int IntKind.i64 k, PV.int IntKind.i64 n, PV.str s, PV.slice (Dats.len ks) (Dats.cells ks)]), .int .i64 (cuB [PV.int IntKind.i64 k, PV.int IntKind.i64 n, PV.str s, PV.slice (Dats.len ks) (Dats.cells ks)]), .str (cuC [PV.int IntKind.i64 k, PV.int IntKind.i64 n, PV.str s, PV.slice (Dats.len ks) (Dats.cells ks)]), .slice (cuD [PV.int IntKind.i64 k, PV.int IntKind.i64 n, PV.str s, PV.slice (Dats.len ks) (Dats.cells ks)]).len (cuD [PV.int IntKind.i64 k, PV.int IntKind.i64 n, PV.str s, PV.slice (Dats.len ks) (Dats.cells ks)]).cells]) (.agg [.int .i64 k', .int .i64 n', .str s', .slice ks'.len ks'.cells]), true), (true, true), (isSml [PV.int IntKind.i64 k', PV.int IntKind.i64 n', PV.str s', PV.slice (Dats.len ks') (Dats.cells ks')], true), (true, true), (isSml [PV.int IntKind.i64 k', PV.int IntKind.i64 n', PV.str s', PV.slice (Dats.len ks') (Dats.cells ks')], true), (!ckC [PV.int IntKind.i64 k', PV.int IntKind.i64 n', PV.str s', PV.slice (Dats.len ks') (Dats.cells ks')] == (0 : Int), false), (false, false), (same (PV.bool (wrEC [PV.int IntKind.i64 k', PV.int IntKind.i64 n', PV.str s', PV.slice (Dats.len ks') (Dats.cells ks')] == (0 : Int))) (PV.bool true), true), (true, true), (isTxt [PV.int IntKind.i64 k', PV.int IntKind.i64 n', PV.str s', PV.slice (Dats.len ks') (Dats.cells ks')], true), (same (PV.bool (ByteArray.toList (wrBC [PV.int IntKind.i64 k', PV.int IntKind.i64 n', PV.str s', PV.slice (Dats.len ks') (Dats.cells ks')]) == ByteArray.toList (mkS (txC [PV.int IntKind.i64 k', PV.int IntKind.i64 n', PV.str s', PV.slice (Dats.len ks') (Dats.cells ks')])))) (PV.bool true), true), (true, true), (isOk [PV.int IntKind.i64 k, PV.int IntKind.i64 n, PV.str s, PV.slice (Dats.len ks) (Dats.cells ks)], true), (same (.agg [.int .i64 (cuA [PV.int IntKind.i64 k, PV.int IntKind.i64 n, PV.str s, PV.slice (Dats.len ks) (Dats.cells ks)]), .int .i64 (cuB [PV.int IntKind.i64 k, PV.int IntKind.i64 n, PV.str s, PV.slice (Dats.len ks) (Dats.cells ks)]), .str (cuC [PV.int IntKind.i64 k, PV.int IntKind.i64 n, PV.str s, PV.slice (Dats.len ks) (Dats.cells ks)]), .slice (cuD [PV.int IntKind.i64 k, PV.int IntKind.i64 n, PV.str s, PV.slice (Dats.len ks) (Dats.cells ks)]).len (cuD [PV.int IntKind.i64 k, PV.int IntKind.i64 n, PV.str s, PV.slice (Dats.len ks) (Dats.cells ks)]).cells]) (.agg [.int .i64 k', .int .i64 n', .str s', .slice ks'.len ks'.cells]), true), (true, true), (isOk [PV.int IntKind.i64 k', PV.int IntKind.i64 n', PV.str s', PV.slice (Dats.len ks') (Dats.cells ks')], true), (isOk [PV.int IntKind.i64 k', PV.int IntKind.i64 n', PV.str s', PV.slice (Dats.len ks') (Dats.cells ks')], true), (same (PV.bool (eqC [PV.int IntKind.i64 k', PV.int IntKind.i64 n', PV.str s', PV.slice (Dats.len ks') (Dats.cells ks')] [PV.int IntKind.i64 k', PV.int IntKind.i64 n', PV.str s', PV.slice (Dats.len ks') (Dats.cells ks')])) (PV.bool true), true), (true, true)]) (by kernel_rfl) (by ((repeat' (first | exact okO_nil | refine okN ?_ ?_)); all_goals first | assumption | rfl | exact same_of rfl | exact sameS_self _ | (simp only [decide_eq_true_eq, decide_eq_false_iff_not, Nat.ble_eq, Nat.beq_eq, beq_eq_false_iff_ne, beq_iff_eq, ne_eq] <;> omega))) (fun st hs => fin st _ hs)
  · have wE : wrE (.mk k' n' s' ks') = chkD (.mk k' n' s' ks') := by unfold wrE; rw [if_neg h0]
    have wB : wrB (.mk k' n' s' ks') = ⟨#[]⟩ := by unfold wrB; rw [if_neg h0]
    have b1 : (!ckC [PV.int IntKind.i64 k', PV.int IntKind.i64 n', PV.str s', PV.slice (Dats.len ks') (Dats.cells ks')] == (0 : Int)) = true := by rw [ec, beqF h0]; rfl
    have b2 : (ByteArray.toList (wrBC [PV.int IntKind.i64 k', PV.int IntKind.i64 n', PV.str s', PV.slice (Dats.len ks') (Dats.cells ks')]) == []) = true := by rw [eb, wB, bl_eq]; rfl
    have b3 : (wrEC [PV.int IntKind.i64 k', PV.int IntKind.i64 n', PV.str s', PV.slice (Dats.len ks') (Dats.cells ks')] == ckC [PV.int IntKind.i64 k', PV.int IntKind.i64 n', PV.str s', PV.slice (Dats.len ks') (Dats.cells ks')]) = true := by rw [ee, ec, wE]; exact beq_self_eq_true _
    exact SWP.runQ (SLx [(45, [(17, true), (19, true), (23, true)])] [(45, [(8, .agg [.int .i64 k', .int .i64 n', .str s', .slice ks'.len ks'.cells])])]) 100 45 hnt [2] (e := .ret) (z := ⟨[(2, .bool true)], ⟨[⟨[PV.int IntKind.i64 k, PV.int IntKind.i64 n, PV.str s, PV.slice (Dats.len ks) (Dats.cells ks)], 25⟩, ⟨[PV.int IntKind.i64 k', PV.int IntKind.i64 n', PV.str s', PV.slice (Dats.len ks') (Dats.cells ks')], 25⟩], []⟩⟩) (o := [(true, true), (isOk [PV.int IntKind.i64 k, PV.int IntKind.i64 n, PV.str s, PV.slice (Dats.len ks) (Dats.cells ks)], true), (same (.agg [.int .i64 (cuA [PV.int IntKind.i64 k, PV.int IntKind.i64 n, PV.str s, PV.slice (Dats.len ks) (Dats.cells ks)]), .int .i64 (cuB [PV.int IntKind.i64 k, PV.int IntKind.i64 n, PV.str s, PV.slice (Dats.len ks) (Dats.cells ks)]), .str (cuC [PV.int IntKind.i64 k, PV.int IntKind.i64 n, PV.str s, PV.slice (Dats.len ks) (Dats.cells ks)]), .slice (cuD [PV.int IntKind.i64 k, PV.int IntKind.i64 n, PV.str s, PV.slice (Dats.len ks) (Dats.cells ks)]).len (cuD [PV.int IntKind.i64 k, PV.int IntKind.i64 n, PV.str s, PV.slice (Dats.len ks) (Dats.cells ks)]).cells]) (.agg [.int .i64 k', .int .i64 n', .str s', .slice ks'.len ks'.cells]), true), (true, true), (isSml [PV.int IntKind.i64 k', PV.int IntKind.i64 n', PV.str s', PV.slice (Dats.len ks') (Dats.cells ks')], true), (true, true), (isSml [PV.int IntKind.i64 k', PV.int IntKind.i64 n', PV.str s', PV.slice (Dats.len ks') (Dats.cells ks')], true), (!ckC [PV.int IntKind.i64 k', PV.int IntKind.i64 n', PV.str s', PV.slice (Dats.len ks') (Dats.cells ks')] == (0 : Int), true), (true, true), (ByteArray.toList (wrBC [PV.int IntKind.i64 k', PV.int IntKind.i64 n', PV.str s', PV.slice (Dats.len ks') (Dats.cells ks')]) == [], true), (wrEC [PV.int IntKind.i64 k', PV.int IntKind.i64 n', PV.str s', PV.slice (Dats.len ks') (Dats.cells ks')] == ckC [PV.int IntKind.i64 k', PV.int IntKind.i64 n', PV.str s', PV.slice (Dats.len ks') (Dats.cells ks')], true), (true, true)]) (by kernel_rfl) (by ((repeat' (first | exact okO_nil | refine okN ?_ ?_)); all_goals first | assumption | rfl | exact same_of rfl | exact sameS_self _ | (simp only [decide_eq_true_eq, decide_eq_false_iff_not, Nat.ble_eq, Nat.beq_eq, beq_eq_false_iff_ne, beq_iff_eq, ne_eq] <;> omega))) (fun st hs => fin st _ hs)
end Seat
end Go.Proofs.YtenpjkcclmmlhaaDoor
