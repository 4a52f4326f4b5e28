/- Texts of this session, packed: LawZ, Wit, Eng1, Flat1. -/
import Derived.Test.YtkblfapbakfgpaaGreatDoorZ6
namespace Go.Proofs.YtkblfapbakfgpaaGreatDoor
open Go.AS Go.RowKit
set_option linter.unusedVariables false
set_option linter.unusedSimpArgs false
set_option maxRecDepth 100000
set_option maxHeartbeats 4000000
namespace Seat
noncomputable def eqC (a b : List PV) : Bool := ofCells (fun d => ofCells (fun e => eqD d e) false b) false a
theorem eqC_at (d e : Dat) : eqC d.cells e.cells = eqD d e := by unfold eqC; rw [ofCells_at, ofCells_at]
noncomputable def laC (w : Nat) (cs : List PV) : List UInt8 := ofCells (fun d => layT w d 0 0 ++ [10]) [] cs
noncomputable def lzS (f : Nat) (args : List PV) : Option (PV × Ob) := match f, args with
  | 6, [.agg cs] => some (.agg [.int .i64 (cuA cs), .int .i64 (cuB cs), .str (cuC cs), .slice (cuD cs).len (cuD cs).cells], [(isOk cs, true)])
  | 7, [.agg cs, .int .i64 w] => some (.tup [.str (loBC w cs), .int .i64 (loEC w cs)], [(isSml cs, true)])
  | 9, [.str s] => some (.tup [.agg [.int .i64 (ndK (onX s)), .int .i64 (ndN (onX s)), .str (ndT (onX s)), .slice (Dats.len (Nds.dat (ndS (onX s)))) (Dats.cells (Nds.dat (ndS (onX s))))], .int .i64 (onA s), .int .i64 (onE s)], [])
  | 12, [.str s] => some (.tup [.agg (readD s).cells, .int .i64 (onA s), .int .i64 (onE s)], [])
  | 11, [.str s, .int .i64 w] => some (.tup [.bool (isdB s w), .int .i64 (isdE s w)], [])
  | 13, [.int .i64 w] => some (.bool (widB w), [])
  | 14, [.agg cs, .int .i64 w] => some (.str (mkS (laC w.toNat cs)), [(isLy cs, true), (decide (0 ≤ w ∧ w ≤ 4398046511104), true)])
  | 10, [.agg a, .agg b] => some (.bool (eqC a b), [(isOk a, true), (isOk b, true)])
  | 8, [] => some (.bool true, [])
  | _, _ => none
theorem lzS_ok (f : Nat) (args : List PV) (r : PV) (o : Ob) (h : lzS f args = some (r, o)) (ho : ∀ p ∈ o, p.1 = p.2) (_ : pureL args = true) : Pure G0 f args (fun x => x = r) := by
  unfold lzS at h
  split at h
  · rename_i cs _
    cases h
    obtain ⟨d, rfl, h1⟩ := isOk_of (ho _ (List.mem_singleton.2 rfl))
    have key := lawcut_ok d h1
    unfold cuA cuB cuC cuD
    rw [ofCells_at, ofCells_at, ofCells_at, ofCells_at]
    cases hc : (cutD d 1020 2000).1 with
    | mk k n s ks =>
      rw [hc] at key
      exact key
  · rename_i cs w _
    cases h
    obtain ⟨d, rfl, h1⟩ := isSml_of (ho (isSml cs, true) (List.mem_singleton.2 rfl))
    unfold loBC loEC
    rw [ofCells_at, ofCells_at]
    exact lay_ok d h1 w
  · cases h
    exact ReadP _
  · cases h
    exact read_ok _
  · cases h
    exact isLaid_ok _ _
  · cases h
    exact width_ok _
  · rename_i cs w _
    cases h
    obtain ⟨d, rfl, h1, h2⟩ := isLy_of (ho (isLy cs, true) (by simp))
    have g := of_decide_eq_true (ho (decide (0 ≤ w ∧ w ≤ 4398046511104), true) (by simp))
    have key := reflay_ok d h1 h2 w.toNat (by omega)
    rw [Int.toNat_of_nonneg g.1] at key
    unfold laC
    rw [ofCells_at]
    exact key
  · rename_i a b _
    cases h
    obtain ⟨d, rfl, h1⟩ := isOk_of (ho (isOk a, true) (by simp))
    obtain ⟨e, rfl, h2⟩ := isOk_of (ho (isOk b, true) (by simp))
    rw [eqC_at]
    exact same_ok d e h1 h2
  · cases h
    exact alive_ok
  · cases h
noncomputable def SLz (l : List (Nat × List (Nat × Bool))) (v : List (Nat × List (Nat × PV))) : Cfg G0 := { F := F, hF := hF, S := lzS, hS := lzS_ok, orc := orcM l, val := valM v }
mutual
theorem eqD_self : ∀ d : Dat, eqD d d = true
  | .mk k n s ks => by simp [eqD, eqL_self ks]
theorem eqL_self : ∀ ks : Dats, eqL ks ks = true
  | .nil => by simp [eqL]
  | .cons d ds => by simp [eqL, eqD_self d, eqL_self ds]
end
theorem cut_cells (k n k' n' : Int) (s s' : ByteArray) (ks ks' : Dats) (hc : (cutD (.mk k n s ks) 1020 2000).1 = .mk k' n' s' ks') :
    same (PV.agg [.int .i64 (cuA [PV.int IntKind.i64 k, PV.int IntKind.i64 n, PV.str s, PV.slice (Dats.len ks) (Dats.cells ks)]), .int .i64 (cuB [PV.int IntKind.i64 k, PV.int IntKind.i64 n, PV.str s, PV.slice (Dats.len ks) (Dats.cells ks)]), .str (cuC [PV.int IntKind.i64 k, PV.int IntKind.i64 n, PV.str s, PV.slice (Dats.len ks) (Dats.cells ks)]), .slice (cuD [PV.int IntKind.i64 k, PV.int IntKind.i64 n, PV.str s, PV.slice (Dats.len ks) (Dats.cells ks)]).len (cuD [PV.int IntKind.i64 k, PV.int IntKind.i64 n, PV.str s, PV.slice (Dats.len ks) (Dats.cells ks)]).cells]) (PV.agg [PV.int IntKind.i64 k', PV.int IntKind.i64 n', PV.str s', PV.slice (Dats.len ks') (Dats.cells ks')]) = true := same_of (by
  have a1 : cuA [PV.int IntKind.i64 k, PV.int IntKind.i64 n, PV.str s, PV.slice (Dats.len ks) (Dats.cells ks)] = _ := ofCells_at _ _ (.mk k n s ks)
  have a2 : cuB [PV.int IntKind.i64 k, PV.int IntKind.i64 n, PV.str s, PV.slice (Dats.len ks) (Dats.cells ks)] = _ := ofCells_at _ _ (.mk k n s ks)
  have a3 : cuC [PV.int IntKind.i64 k, PV.int IntKind.i64 n, PV.str s, PV.slice (Dats.len ks) (Dats.cells ks)] = _ := ofCells_at _ _ (.mk k n s ks)
  have a4 : cuD [PV.int IntKind.i64 k, PV.int IntKind.i64 n, PV.str s, PV.slice (Dats.len ks) (Dats.cells ks)] = _ := ofCells_at _ _ (.mk k n s ks)
  rw [a1, a2, a3, a4, hc])
theorem back_law (d : Dat) (hd : d.ok) (hr : d.rng) (w : Int) : Pure G0 3 [.agg d.cells, .int .i64 w] (fun r => r = .bool true) := by
  obtain ⟨k', n', s', ks', hc⟩ := Dat.is_mk (cutD d 1020 2000).1
  have hS : Small (cutD d 1020 2000).1 := cut_small d hd hr 2000 1020 (by omega) (by omega)
  rw [hc] at hS
  obtain ⟨k, n, s, ks⟩ := d
  have a1 : isOk [PV.int IntKind.i64 k, PV.int IntKind.i64 n, PV.str s, PV.slice (Dats.len ks) (Dats.cells ks)] = true := isOk_at (d := .mk k n s ks) hd
  have a2 := cut_cells k n k' n' s s' ks ks' hc
  have a3 : isSml [PV.int IntKind.i64 k', PV.int IntKind.i64 n', PV.str s', PV.slice (Dats.len ks') (Dats.cells ks')] = true := isSml_at (d := .mk k' n' s' ks') hS
  have a4 : isOk [PV.int IntKind.i64 k', PV.int IntKind.i64 n', PV.str s', PV.slice (Dats.len ks') (Dats.cells ks')] = true := isOk_at (d := .mk k' n' s' ks') hS.1
  have lb : loBC w [PV.int IntKind.i64 k', PV.int IntKind.i64 n', PV.str s', PV.slice (Dats.len ks') (Dats.cells ks')] = alB (.cons (.mk k' n' s' ks') .nil) w := ofCells_at _ _ (.mk k' n' s' ks')
  have le : loEC w [PV.int IntKind.i64 k', PV.int IntKind.i64 n', PV.str s', PV.slice (Dats.len ks') (Dats.cells ks')] = alE (.cons (.mk k' n' s' ks') .nil) w := ofCells_at _ _ (.mk k' n' s' ks')
  obtain ⟨x, hx⟩ : ∃ x, x = loBC w [PV.int IntKind.i64 k', PV.int IntKind.i64 n', PV.str s', PV.slice (Dats.len ks') (Dats.cells ks')] := ⟨_, rfl⟩
  have a5 : same (.str (loBC w [PV.int IntKind.i64 k', PV.int IntKind.i64 n', PV.str s', PV.slice (Dats.len ks') (Dats.cells ks')])) (.str x) = true := same_of (by rw [hx])
  refine Fn.enterB Tryz.func3 Tryz.ntmps3 rfl (Nat.le_of_ble_eq_true rfl) fun C fr fp hnt hnb hp hfr hfp => ?_
  have fin : ∀ st H, nrm [4] st = ⟨[(4, .bool true)], H⟩ → fr st := fun st H hst => hfr st [4] (by
    rw [hst]
    exact ⟨0, .bool true, Nat.le_refl _, Nat.zero_le _, rfl, rfl, rfl, rfl, _, rfl, rfl⟩)
  by_cases h0 : alE (.cons (.mk k' n' s' ks') .nil) w = 0
  · have c1 : (!loEC w [PV.int IntKind.i64 k', PV.int IntKind.i64 n', PV.str s', PV.slice (Dats.len ks') (Dats.cells ks')] == (0 : Int)) = false := by rw [le, h0]; rfl
    by_cases hl : 20000 < x.size
    · have c2 : decide ((20000 : Int) < (x.size : Int)) = true := by rw [decide_eq_true_eq]; omega
      exact SWP.runQ (SLz [(43, [(20, false), (24, true)])] [(43, [(12, .agg [.int .i64 k', .int .i64 n', .str s', .slice ks'.len ks'.cells]), (17, .str x)])]) 100 43 hnt [4] (e := .ret) (z := ⟨[(4, .bool true)], ⟨[⟨[.int .i64 k, .int .i64 n, .str s, .slice (Dats.len ks) (Dats.cells ks)], 24⟩, ⟨[.int .i64 k', .int .i64 n', .str s', .slice (Dats.len ks') (Dats.cells ks')], 24⟩], []⟩⟩) (o := [(true, true), (isOk [PV.int IntKind.i64 k, PV.int IntKind.i64 n, PV.str s, PV.slice (Dats.len ks) (Dats.cells ks)], true), (same (PV.agg [PV.int IntKind.i64 (cuA [PV.int IntKind.i64 k, PV.int IntKind.i64 n, PV.str s, PV.slice (Dats.len ks) (Dats.cells ks)]), PV.int IntKind.i64 (cuB [PV.int IntKind.i64 k, PV.int IntKind.i64 n, PV.str s, PV.slice (Dats.len ks) (Dats.cells ks)]), PV.str (cuC [PV.int IntKind.i64 k, PV.int IntKind.i64 n, PV.str s, PV.slice (Dats.len ks) (Dats.cells ks)]), PV.slice (Dats.len (cuD (List.take (TD.size d24) (List.drop 0 (Box.cs { cs := PV.cells (AS.ev (Prg.Γ G0) { t := [(0, PV.agg [PV.int IntKind.i64 k, PV.int IntKind.i64 n, PV.str s, PV.slice (Dats.len ks) (Dats.cells ks)]), (1, PV.int IntKind.i64 w)], h := { bx := [], rw := [] } } (Operand.tmp 0)), ty := 24 }))))) (Dats.cells (cuD (List.take (TD.size d24) (List.drop 0 (Box.cs { cs := PV.cells (AS.ev (Prg.Γ G0) { t := [(0, PV.agg [PV.int IntKind.i64 k, PV.int IntKind.i64 n, PV.str s, PV.slice (Dats.len ks) (Dats.cells ks)]), (1, PV.int IntKind.i64 w)], h := { bx := [], rw := [] } } (Operand.tmp 0)), ty := 24 })))))]) (PV.agg [PV.int IntKind.i64 k', PV.int IntKind.i64 n', PV.str s', PV.slice (Dats.len ks') (Dats.cells ks')]), true), (true, true), (isSml [PV.int IntKind.i64 k', PV.int IntKind.i64 n', PV.str s', PV.slice (Dats.len ks') (Dats.cells ks')], true), (same (.str (loBC w [PV.int IntKind.i64 k', PV.int IntKind.i64 n', PV.str s', PV.slice (Dats.len ks') (Dats.cells ks')])) (.str x), true), (!loEC w [PV.int IntKind.i64 k', PV.int IntKind.i64 n', PV.str s', PV.slice (Dats.len ks') (Dats.cells ks')] == (0 : Int), false), (decide (20000 < (↑(ByteArray.size x) : Int)), true), (true, true)]) (by kernel_rfl) (by repeat' first | exact okO_nil | refine okN ?_ ?_ | assumption | rfl) (fun st hst => fin st _ hst)
    · have c2 : decide ((20000 : Int) < (x.size : Int)) = false := by rw [decide_eq_false_iff_not]; omega
      have hb := back_fact hS h0 (by rw [← lb, ← hx]; omega)
      rw [← lb, ← hx] at hb
      have c3 : (onE x == (0 : Int)) = true := beqT hb.1
      have e3 : ndJ (onX x) = (Dat.mk k' n' s' ks').cells := by
        rw [← hb.2.1]
        obtain ⟨k2, n2, w2, x2, a2, h2⟩ := nd_mk (onX x)
        rw [h2]; rfl
      have c4 : isOk (ndJ (onX x)) = true := by rw [e3]; exact a4
      have c5 : eqC (ndJ (onX x)) [PV.int IntKind.i64 k', PV.int IntKind.i64 n', PV.str s', PV.slice (Dats.len ks') (Dats.cells ks')] = true := by
        rw [e3]
        show eqC (Dat.mk k' n' s' ks').cells (Dat.mk k' n' s' ks').cells = true
        rw [eqC_at]; exact eqD_self _
      exact SWP.runQ (SLz [(43, [(20, false), (24, false), (34, true), (38, true)])] [(43, [(12, .agg [.int .i64 k', .int .i64 n', .str s', .slice ks'.len ks'.cells]), (17, .str x)])]) 100 43 hnt [4] (e := .ret) (z := ⟨[(4, .bool true)], ⟨[⟨[.int .i64 k, .int .i64 n, .str s, .slice (Dats.len ks) (Dats.cells ks)], 24⟩, ⟨[.int .i64 k', .int .i64 n', .str s', .slice (Dats.len ks') (Dats.cells ks')], 24⟩, ⟨[.int .i64 (ndK (onX x)), .int .i64 (ndN (onX x)), .str (ndT (onX x)), .slice (Dats.len (Nds.dat (ndS (onX x)))) (Dats.cells (Nds.dat (ndS (onX x))))], 24⟩], []⟩⟩) (o := [(true, true), (isOk [PV.int IntKind.i64 k, PV.int IntKind.i64 n, PV.str s, PV.slice (Dats.len ks) (Dats.cells ks)], true), (same (PV.agg [PV.int IntKind.i64 (cuA [PV.int IntKind.i64 k, PV.int IntKind.i64 n, PV.str s, PV.slice (Dats.len ks) (Dats.cells ks)]), PV.int IntKind.i64 (cuB [PV.int IntKind.i64 k, PV.int IntKind.i64 n, PV.str s, PV.slice (Dats.len ks) (Dats.cells ks)]), PV.str (cuC [PV.int IntKind.i64 k, PV.int IntKind.i64 n, PV.str s, PV.slice (Dats.len ks) (Dats.cells ks)]), PV.slice (Dats.len (cuD (List.take (TD.size d24) (List.drop 0 (Box.cs { cs := PV.cells (AS.ev (Prg.Γ G0) { t := [(0, PV.agg [PV.int IntKind.i64 k, PV.int IntKind.i64 n, PV.str s, PV.slice (Dats.len ks) (Dats.cells ks)]), (1, PV.int IntKind.i64 w)], h := { bx := [], rw := [] } } (Operand.tmp 0)), ty := 24 }))))) (Dats.cells (cuD (List.take (TD.size d24) (List.drop 0 (Box.cs { cs := PV.cells (AS.ev (Prg.Γ G0) { t := [(0, PV.agg [PV.int IntKind.i64 k, PV.int IntKind.i64 n, PV.str s, PV.slice (Dats.len ks) (Dats.cells ks)]), (1, PV.int IntKind.i64 w)], h := { bx := [], rw := [] } } (Operand.tmp 0)), ty := 24 })))))]) (PV.agg [PV.int IntKind.i64 k', PV.int IntKind.i64 n', PV.str s', PV.slice (Dats.len ks') (Dats.cells ks')]), true), (true, true), (isSml [PV.int IntKind.i64 k', PV.int IntKind.i64 n', PV.str s', PV.slice (Dats.len ks') (Dats.cells ks')], true), (same (.str (loBC w [PV.int IntKind.i64 k', PV.int IntKind.i64 n', PV.str s', PV.slice (Dats.len ks') (Dats.cells ks')])) (.str x), true), (!loEC w [PV.int IntKind.i64 k', PV.int IntKind.i64 n', PV.str s', PV.slice (Dats.len ks') (Dats.cells ks')] == (0 : Int), false), (decide (20000 < (↑(ByteArray.size x) : Int)), false), (true, true), (onE x == (0 : Int), true), (true, true), (isOk [PV.int IntKind.i64 (ndK (onX x)), PV.int IntKind.i64 (ndN (onX x)), PV.str (ndT (onX x)), PV.slice (Dats.len (Nds.dat (ndS (onX x)))) (Dats.cells (Nds.dat (ndS (onX x))))], true), (isOk [PV.int IntKind.i64 k', PV.int IntKind.i64 n', PV.str s', PV.slice (Dats.len ks') (Dats.cells ks')], true), (eqC [PV.int IntKind.i64 (ndK (onX x)), PV.int IntKind.i64 (ndN (onX x)), PV.str (ndT (onX x)), PV.slice (Dats.len (Nds.dat (ndS (onX x)))) (Dats.cells (Nds.dat (ndS (onX x))))] [PV.int IntKind.i64 k', PV.int IntKind.i64 n', PV.str s', PV.slice (Dats.len ks') (Dats.cells ks')], true), (true, true)]) (by kernel_rfl) (by repeat' first | exact okO_nil | refine okN ?_ ?_ | assumption | rfl) (fun st hst => fin st _ hst)
  · have c1 : (!loEC w [PV.int IntKind.i64 k', PV.int IntKind.i64 n', PV.str s', PV.slice (Dats.len ks') (Dats.cells ks')] == (0 : Int)) = true := by rw [le, beqF h0]; rfl
    exact SWP.runQ (SLz [(43, [(20, true)])] [(43, [(12, .agg [.int .i64 k', .int .i64 n', .str s', .slice ks'.len ks'.cells]), (17, .str x)])]) 100 43 hnt [4] (e := .ret) (z := ⟨[(4, .bool true)], ⟨[⟨[.int .i64 k, .int .i64 n, .str s, .slice (Dats.len ks) (Dats.cells ks)], 24⟩, ⟨[.int .i64 k', .int .i64 n', .str s', .slice (Dats.len ks') (Dats.cells ks')], 24⟩], []⟩⟩) (o := [(true, true), (isOk [PV.int IntKind.i64 k, PV.int IntKind.i64 n, PV.str s, PV.slice (Dats.len ks) (Dats.cells ks)], true), (same (PV.agg [PV.int IntKind.i64 (cuA [PV.int IntKind.i64 k, PV.int IntKind.i64 n, PV.str s, PV.slice (Dats.len ks) (Dats.cells ks)]), PV.int IntKind.i64 (cuB [PV.int IntKind.i64 k, PV.int IntKind.i64 n, PV.str s, PV.slice (Dats.len ks) (Dats.cells ks)]), PV.str (cuC [PV.int IntKind.i64 k, PV.int IntKind.i64 n, PV.str s, PV.slice (Dats.len ks) (Dats.cells ks)]), PV.slice (Dats.len (cuD (List.take (TD.size d24) (List.drop 0 (Box.cs { cs := PV.cells (AS.ev (Prg.Γ G0) { t := [(0, PV.agg [PV.int IntKind.i64 k, PV.int IntKind.i64 n, PV.str s, PV.slice (Dats.len ks) (Dats.cells ks)]), (1, PV.int IntKind.i64 w)], h := { bx := [], rw := [] } } (Operand.tmp 0)), ty := 24 }))))) (Dats.cells (cuD (List.take (TD.size d24) (List.drop 0 (Box.cs { cs := PV.cells (AS.ev (Prg.Γ G0) { t := [(0, PV.agg [PV.int IntKind.i64 k, PV.int IntKind.i64 n, PV.str s, PV.slice (Dats.len ks) (Dats.cells ks)]), (1, PV.int IntKind.i64 w)], h := { bx := [], rw := [] } } (Operand.tmp 0)), ty := 24 })))))]) (PV.agg [PV.int IntKind.i64 k', PV.int IntKind.i64 n', PV.str s', PV.slice (Dats.len ks') (Dats.cells ks')]), true), (true, true), (isSml [PV.int IntKind.i64 k', PV.int IntKind.i64 n', PV.str s', PV.slice (Dats.len ks') (Dats.cells ks')], true), (same (.str (loBC w [PV.int IntKind.i64 k', PV.int IntKind.i64 n', PV.str s', PV.slice (Dats.len ks') (Dats.cells ks')])) (.str x), true), (!loEC w [PV.int IntKind.i64 k', PV.int IntKind.i64 n', PV.str s', PV.slice (Dats.len ks') (Dats.cells ks')] == (0 : Int), true), (true, true)]) (by kernel_rfl) (by repeat' first | exact okO_nil | refine okN ?_ ?_ | assumption | rfl) (fun st hst => fin st _ hst)
theorem same_law (d : Dat) (hd : d.ok) (hr : d.rng) (w : Int) : Pure G0 5 [.agg d.cells, .int .i64 w] (fun r => r = .bool true) := by
  obtain ⟨k', n', s', ks', hc⟩ := Dat.is_mk (cutD d 1020 2000).1
  have hS : Small (cutD d 1020 2000).1 := cut_small d hd hr 2000 1020 (by omega) (by omega)
  rw [hc] at hS
  obtain ⟨k, n, s, ks⟩ := d
  have a1 : isOk [PV.int IntKind.i64 k, PV.int IntKind.i64 n, PV.str s, PV.slice (Dats.len ks) (Dats.cells ks)] = true := isOk_at (d := .mk k n s ks) hd
  have a2 := cut_cells k n k' n' s s' ks ks' hc
  have a3 : isSml [PV.int IntKind.i64 k', PV.int IntKind.i64 n', PV.str s', PV.slice (Dats.len ks') (Dats.cells ks')] = true := isSml_at (d := .mk k' n' s' ks') hS
  have a4 : isOk [PV.int IntKind.i64 k', PV.int IntKind.i64 n', PV.str s', PV.slice (Dats.len ks') (Dats.cells ks')] = true := isOk_at (d := .mk k' n' s' ks') hS.1
  have lb : loBC w [PV.int IntKind.i64 k', PV.int IntKind.i64 n', PV.str s', PV.slice (Dats.len ks') (Dats.cells ks')] = alB (.cons (.mk k' n' s' ks') .nil) w := ofCells_at _ _ (.mk k' n' s' ks')
  have le : loEC w [PV.int IntKind.i64 k', PV.int IntKind.i64 n', PV.str s', PV.slice (Dats.len ks') (Dats.cells ks')] = alE (.cons (.mk k' n' s' ks') .nil) w := ofCells_at _ _ (.mk k' n' s' ks')
  obtain ⟨x, hx⟩ : ∃ x, x = loBC w [PV.int IntKind.i64 k', PV.int IntKind.i64 n', PV.str s', PV.slice (Dats.len ks') (Dats.cells ks')] := ⟨_, rfl⟩
  have a5 : same (.str (loBC w [PV.int IntKind.i64 k', PV.int IntKind.i64 n', PV.str s', PV.slice (Dats.len ks') (Dats.cells ks')])) (.str x) = true := same_of (by rw [hx])
  refine Fn.enterB Tryz.func5 Tryz.ntmps5 rfl (Nat.le_of_ble_eq_true rfl) fun C fr fp hnt hnb hp hfr hfp => ?_
  have fin : ∀ st H, nrm [4] st = ⟨[(4, .bool true)], H⟩ → fr st := fun st H hst => hfr st [4] (by
    rw [hst]
    exact ⟨0, .bool true, Nat.le_refl _, Nat.zero_le _, rfl, rfl, rfl, rfl, _, rfl, rfl⟩)
  by_cases h0 : alE (.cons (.mk k' n' s' ks') .nil) w = 0
  · have c1 : (!loEC w [PV.int IntKind.i64 k', PV.int IntKind.i64 n', PV.str s', PV.slice (Dats.len ks') (Dats.cells ks')] == (0 : Int)) = false := by rw [le, h0]; rfl
    by_cases hl : 20000 < x.size
    · have c2 : decide ((20000 : Int) < (x.size : Int)) = true := by rw [decide_eq_true_eq]; omega
      exact SWP.runQ (SLz [(40, [(19, false), (23, true)])] [(40, [(11, .agg [.int .i64 k', .int .i64 n', .str s', .slice ks'.len ks'.cells]), (16, .str x)])]) 100 40 hnt [4] (e := .ret) (z := ⟨[(4, .bool true)], ⟨[⟨[.int .i64 k, .int .i64 n, .str s, .slice (Dats.len ks) (Dats.cells ks)], 24⟩, ⟨[.int .i64 k', .int .i64 n', .str s', .slice (Dats.len ks') (Dats.cells ks')], 24⟩], []⟩⟩) (o := [(true, true), (isOk [PV.int IntKind.i64 k, PV.int IntKind.i64 n, PV.str s, PV.slice (Dats.len ks) (Dats.cells ks)], true), (same (PV.agg [PV.int IntKind.i64 (cuA [PV.int IntKind.i64 k, PV.int IntKind.i64 n, PV.str s, PV.slice (Dats.len ks) (Dats.cells ks)]), PV.int IntKind.i64 (cuB [PV.int IntKind.i64 k, PV.int IntKind.i64 n, PV.str s, PV.slice (Dats.len ks) (Dats.cells ks)]), PV.str (cuC [PV.int IntKind.i64 k, PV.int IntKind.i64 n, PV.str s, PV.slice (Dats.len ks) (Dats.cells ks)]), PV.slice (Dats.len (cuD (List.take (TD.size d24) (List.drop 0 (Box.cs { cs := PV.cells (AS.ev (Prg.Γ G0) { t := [(0, PV.agg [PV.int IntKind.i64 k, PV.int IntKind.i64 n, PV.str s, PV.slice (Dats.len ks) (Dats.cells ks)]), (1, PV.int IntKind.i64 w)], h := { bx := [], rw := [] } } (Operand.tmp 0)), ty := 24 }))))) (Dats.cells (cuD (List.take (TD.size d24) (List.drop 0 (Box.cs { cs := PV.cells (AS.ev (Prg.Γ G0) { t := [(0, PV.agg [PV.int IntKind.i64 k, PV.int IntKind.i64 n, PV.str s, PV.slice (Dats.len ks) (Dats.cells ks)]), (1, PV.int IntKind.i64 w)], h := { bx := [], rw := [] } } (Operand.tmp 0)), ty := 24 })))))]) (PV.agg [PV.int IntKind.i64 k', PV.int IntKind.i64 n', PV.str s', PV.slice (Dats.len ks') (Dats.cells ks')]), true), (true, true), (isSml [PV.int IntKind.i64 k', PV.int IntKind.i64 n', PV.str s', PV.slice (Dats.len ks') (Dats.cells ks')], true), (same (.str (loBC w [PV.int IntKind.i64 k', PV.int IntKind.i64 n', PV.str s', PV.slice (Dats.len ks') (Dats.cells ks')])) (.str x), true), (!loEC w [PV.int IntKind.i64 k', PV.int IntKind.i64 n', PV.str s', PV.slice (Dats.len ks') (Dats.cells ks')] == (0 : Int), false), (decide (20000 < (↑(ByteArray.size x) : Int)), true), (true, true)]) (by kernel_rfl) (by repeat' first | exact okO_nil | refine okN ?_ ?_ | assumption | rfl) (fun st hst => fin st _ hst)
    · have c2 : decide ((20000 : Int) < (x.size : Int)) = false := by rw [decide_eq_false_iff_not]; omega
      have hb := same_fact hS h0 (by rw [← lb, ← hx]; omega)
      rw [← lb, ← hx] at hb
      have c3 : isdB x w = true := hb.1
      have c4 : (isdE x w == (0 : Int)) = true := beqT hb.2
      exact SWP.runQ (SLz [(40, [(19, false), (23, false), (30, true), (35, true)])] [(40, [(11, .agg [.int .i64 k', .int .i64 n', .str s', .slice ks'.len ks'.cells]), (16, .str x)])]) 100 40 hnt [4] (e := .ret) (z := ⟨[(4, .bool true)], ⟨[⟨[.int .i64 k, .int .i64 n, .str s, .slice (Dats.len ks) (Dats.cells ks)], 24⟩, ⟨[.int .i64 k', .int .i64 n', .str s', .slice (Dats.len ks') (Dats.cells ks')], 24⟩], []⟩⟩) (o := [(true, true), (isOk [PV.int IntKind.i64 k, PV.int IntKind.i64 n, PV.str s, PV.slice (Dats.len ks) (Dats.cells ks)], true), (same (PV.agg [PV.int IntKind.i64 (cuA [PV.int IntKind.i64 k, PV.int IntKind.i64 n, PV.str s, PV.slice (Dats.len ks) (Dats.cells ks)]), PV.int IntKind.i64 (cuB [PV.int IntKind.i64 k, PV.int IntKind.i64 n, PV.str s, PV.slice (Dats.len ks) (Dats.cells ks)]), PV.str (cuC [PV.int IntKind.i64 k, PV.int IntKind.i64 n, PV.str s, PV.slice (Dats.len ks) (Dats.cells ks)]), PV.slice (Dats.len (cuD (List.take (TD.size d24) (List.drop 0 (Box.cs { cs := PV.cells (AS.ev (Prg.Γ G0) { t := [(0, PV.agg [PV.int IntKind.i64 k, PV.int IntKind.i64 n, PV.str s, PV.slice (Dats.len ks) (Dats.cells ks)]), (1, PV.int IntKind.i64 w)], h := { bx := [], rw := [] } } (Operand.tmp 0)), ty := 24 }))))) (Dats.cells (cuD (List.take (TD.size d24) (List.drop 0 (Box.cs { cs := PV.cells (AS.ev (Prg.Γ G0) { t := [(0, PV.agg [PV.int IntKind.i64 k, PV.int IntKind.i64 n, PV.str s, PV.slice (Dats.len ks) (Dats.cells ks)]), (1, PV.int IntKind.i64 w)], h := { bx := [], rw := [] } } (Operand.tmp 0)), ty := 24 })))))]) (PV.agg [PV.int IntKind.i64 k', PV.int IntKind.i64 n', PV.str s', PV.slice (Dats.len ks') (Dats.cells ks')]), true), (true, true), (isSml [PV.int IntKind.i64 k', PV.int IntKind.i64 n', PV.str s', PV.slice (Dats.len ks') (Dats.cells ks')], true), (same (.str (loBC w [PV.int IntKind.i64 k', PV.int IntKind.i64 n', PV.str s', PV.slice (Dats.len ks') (Dats.cells ks')])) (.str x), true), (!loEC w [PV.int IntKind.i64 k', PV.int IntKind.i64 n', PV.str s', PV.slice (Dats.len ks') (Dats.cells ks')] == (0 : Int), false), (decide (20000 < (↑(ByteArray.size x) : Int)), false), (true, true), (isdB x w, true), (isdE x w == (0 : Int), true), (true, true)]) (by kernel_rfl) (by repeat' first | exact okO_nil | refine okN ?_ ?_ | assumption | rfl) (fun st hst => fin st _ hst)
  · have c1 : (!loEC w [PV.int IntKind.i64 k', PV.int IntKind.i64 n', PV.str s', PV.slice (Dats.len ks') (Dats.cells ks')] == (0 : Int)) = true := by rw [le, beqF h0]; rfl
    exact SWP.runQ (SLz [(40, [(19, true)])] [(40, [(11, .agg [.int .i64 k', .int .i64 n', .str s', .slice ks'.len ks'.cells]), (16, .str x)])]) 100 40 hnt [4] (e := .ret) (z := ⟨[(4, .bool true)], ⟨[⟨[.int .i64 k, .int .i64 n, .str s, .slice (Dats.len ks) (Dats.cells ks)], 24⟩, ⟨[.int .i64 k', .int .i64 n', .str s', .slice (Dats.len ks') (Dats.cells ks')], 24⟩], []⟩⟩) (o := [(true, true), (isOk [PV.int IntKind.i64 k, PV.int IntKind.i64 n, PV.str s, PV.slice (Dats.len ks) (Dats.cells ks)], true), (same (PV.agg [PV.int IntKind.i64 (cuA [PV.int IntKind.i64 k, PV.int IntKind.i64 n, PV.str s, PV.slice (Dats.len ks) (Dats.cells ks)]), PV.int IntKind.i64 (cuB [PV.int IntKind.i64 k, PV.int IntKind.i64 n, PV.str s, PV.slice (Dats.len ks) (Dats.cells ks)]), PV.str (cuC [PV.int IntKind.i64 k, PV.int IntKind.i64 n, PV.str s, PV.slice (Dats.len ks) (Dats.cells ks)]), PV.slice (Dats.len (cuD (List.take (TD.size d24) (List.drop 0 (Box.cs { cs := PV.cells (AS.ev (Prg.Γ G0) { t := [(0, PV.agg [PV.int IntKind.i64 k, PV.int IntKind.i64 n, PV.str s, PV.slice (Dats.len ks) (Dats.cells ks)]), (1, PV.int IntKind.i64 w)], h := { bx := [], rw := [] } } (Operand.tmp 0)), ty := 24 }))))) (Dats.cells (cuD (List.take (TD.size d24) (List.drop 0 (Box.cs { cs := PV.cells (AS.ev (Prg.Γ G0) { t := [(0, PV.agg [PV.int IntKind.i64 k, PV.int IntKind.i64 n, PV.str s, PV.slice (Dats.len ks) (Dats.cells ks)]), (1, PV.int IntKind.i64 w)], h := { bx := [], rw := [] } } (Operand.tmp 0)), ty := 24 })))))]) (PV.agg [PV.int IntKind.i64 k', PV.int IntKind.i64 n', PV.str s', PV.slice (Dats.len ks') (Dats.cells ks')]), true), (true, true), (isSml [PV.int IntKind.i64 k', PV.int IntKind.i64 n', PV.str s', PV.slice (Dats.len ks') (Dats.cells ks')], true), (same (.str (loBC w [PV.int IntKind.i64 k', PV.int IntKind.i64 n', PV.str s', PV.slice (Dats.len ks') (Dats.cells ks')])) (.str x), true), (!loEC w [PV.int IntKind.i64 k', PV.int IntKind.i64 n', PV.str s', PV.slice (Dats.len ks') (Dats.cells ks')] == (0 : Int), true), (true, true)]) (by kernel_rfl) (by repeat' first | exact okO_nil | refine okN ?_ ?_ | assumption | rfl) (fun st hst => fin st _ hst)
theorem cut8000 (s : ByteArray) : (if (8000 : Int) < (s.size : Int) then (8000 : Int) else (s.size : Int)) = ((min s.size 8000 : Nat) : Int) := by split <;> omega
theorem laid_law (s : ByteArray) (hs : s.size ≤ 9223372036854775807) (w : Int) : Pure G0 4 [.str s, .int .i64 w] (fun r => r = .bool true) := by
  obtain ⟨x, hx⟩ : ∃ a, a = s.extract 0 (min s.size 8000) := ⟨_, rfl⟩
  have hxs : x.size ≤ 8000 := by rw [hx, ByteArray.size_extract]; omega
  have e1 := cut8000 s
  have d1 : decide ((0 : Int) ≤ ((0 : Nat) : Int) ∧ (((0 : Nat) : Int) ≤ (if (8000 : Int) < (s.size : Int) then (8000 : Int) else (s.size : Int))) ∧ (if (8000 : Int) < (s.size : Int) then (8000 : Int) else (s.size : Int)) ≤ (s.size : Int)) = true := by rw [e1, decide_eq_true_eq]; omega
  have d3 : same (PV.str (ByteArray.extract s 0 (Int.toNat (if (8000 : Int) < (s.size : Int) then (8000 : Int) else (s.size : Int))))) (PV.str x) = true := same_of (by rw [e1, Int.toNat_natCast, hx])
  obtain ⟨k', n', s', ks', hR⟩ := Dat.is_mk (readD x)
  have d4 : same (.agg (readD x).cells) (.agg [PV.int IntKind.i64 k', PV.int IntKind.i64 n', PV.str s', PV.slice (Dats.len ks') (Dats.cells ks')]) = true := same_of (by rw [hR]; rfl)
  refine Fn.enterB Tryz.func4 Tryz.ntmps4 rfl (Nat.le_of_ble_eq_true rfl) fun C fr fp hnt hnb hp hfr hfp => ?_
  have fin : ∀ st H, nrm [4] st = ⟨[(4, .bool true)], H⟩ → fr st := fun st H hst => hfr st [4] (by
    rw [hst]
    exact ⟨0, .bool true, Nat.le_refl _, Nat.zero_le _, rfl, rfl, rfl, rfl, _, rfl, rfl⟩)
  by_cases h0 : onE x = 0
  · have c1 : (onE x == (0 : Int)) = true := beqT h0
    have hE : isdE x w = fitE w := by unfold isdE; rw [if_pos h0]
    cases hw : widB w with
    | false =>
      have c2 : (!widB w) = true := by rw [hw]; rfl
      have hf : fitE w = 2 := by rw [fitE_wid, hw]; rfl
      have hB : isdB x w = false := by
        cases hb : isdB x w with
        | false => rfl
        | true => have := ((isdB_eq _ _).1 hb).2.1; rw [hf] at this; exact absurd this (by decide)
      have c3 : (!isdB x w) = true := by rw [hB]; rfl
      have c4 : (isdE x w == (2 : Int)) = true := by rw [hE, hf]; rfl
      exact SWP.runQ (SLz [(61, [(15, true), (29, true), (33, true), (38, true), (42, true)])] [(61, [(15, .str x), (25, .agg [.int .i64 k', .int .i64 n', .str s', .slice ks'.len ks'.cells])])]) 100 61 hnt [4] (e := .ret) (z := ⟨[(4, .bool true)], ⟨[⟨[.int .i64 k', .int .i64 n', .str s', .slice (Dats.len ks') (Dats.cells ks')], 24⟩], []⟩⟩) (o := [(decide (0 ≤ (↑0 : Int) ∧ ((↑0 : Int) ≤ if 8000 < (↑(ByteArray.size s) : Int) then 8000 else (↑(ByteArray.size s) : Int)) ∧ (if 8000 < (↑(ByteArray.size s) : Int) then 8000 else (↑(ByteArray.size s) : Int)) ≤ (↑(ByteArray.size s) : Int)), true), (same (.str (ByteArray.extract s 0 (Int.toNat (if 8000 < (↑(ByteArray.size s) : Int) then (8000 : Int) else Int.ofNat (ByteArray.size s))))) (.str x), true), (true, true), (true, true), (same (PV.agg (Dat.cells (readD x))) (PV.agg [PV.int IntKind.i64 k', PV.int IntKind.i64 n', PV.str s', PV.slice (Dats.len ks') (Dats.cells ks')]), true), (onE x == (0 : Int), true), (true, true), (!widB w, true), (!isdB x w, true), (isdE x w == (2 : Int), true), (true, true)]) (by kernel_rfl) (by repeat' first | exact okO_nil | refine okN ?_ ?_ | assumption | rfl) (fun st hst => fin st _ hst)
    | true =>
      have c2 : (!widB w) = false := by rw [hw]; rfl
      have hf : fitE w = 0 := by rw [fitE_wid, hw]; rfl
      have c3 : (!onE x == (0 : Int)) = false := by rw [h0]; rfl
      have c4 : (isdE x w == (0 : Int)) = true := by rw [hE, hf]; rfl
      have hwr : 10 ≤ w ∧ w ≤ 200 := of_decide_eq_true hw
      have c5 : decide (0 ≤ w ∧ w ≤ 4398046511104) = true := by rw [decide_eq_true_eq]; omega
      have hRX : (onX x).dat = .mk k' n' s' ks' := by
        have : readD x = (onX x).dat := by unfold readD; rw [if_pos h0]
        rw [← this, hR]
      have c6 : isLy [PV.int IntKind.i64 k', PV.int IntKind.i64 n', PV.str s', PV.slice (Dats.len ks') (Dats.cells ks')] = true := by
        have hsm := on_small h0
        have hfo := (chk_formedR (onX_chk x h0).1).1
        rw [hRX] at hsm hfo
        exact isLy_at (d := .mk k' n' s' ks') hsm hfo
      have e4 : laC w.toNat [PV.int IntKind.i64 k', PV.int IntKind.i64 n', PV.str s', PV.slice (Dats.len ks') (Dats.cells ks')] = layT w.toNat (onX x).dat 0 0 ++ [10] := by
        rw [hRX]
        exact ofCells_at _ _ (.mk k' n' s' ks')
      have c7 : (isdB x w == (ByteArray.toList (mkS (laC w.toNat [PV.int IntKind.i64 k', PV.int IntKind.i64 n', PV.str s', PV.slice (Dats.len ks') (Dats.cells ks')])) == ByteArray.toList x)) = true := by
        rw [e4, laid_fact hxs h0 hf, beq_self_eq_true]
      exact SWP.runQ (SLz [(61, [(15, true), (29, true), (33, false), (36, false), (48, true), (56, true)])] [(61, [(15, .str x), (25, .agg [.int .i64 k', .int .i64 n', .str s', .slice ks'.len ks'.cells])])]) 100 61 hnt [4] (e := .ret) (z := ⟨[(4, .bool true)], ⟨[⟨[.int .i64 k', .int .i64 n', .str s', .slice (Dats.len ks') (Dats.cells ks')], 24⟩], []⟩⟩) (o := [(decide (0 ≤ (↑0 : Int) ∧ ((↑0 : Int) ≤ if 8000 < (↑(ByteArray.size s) : Int) then 8000 else (↑(ByteArray.size s) : Int)) ∧ (if 8000 < (↑(ByteArray.size s) : Int) then 8000 else (↑(ByteArray.size s) : Int)) ≤ (↑(ByteArray.size s) : Int)), true), (same (.str (ByteArray.extract s 0 (Int.toNat (if 8000 < (↑(ByteArray.size s) : Int) then (8000 : Int) else Int.ofNat (ByteArray.size s))))) (.str x), true), (true, true), (true, true), (same (PV.agg (Dat.cells (readD x))) (PV.agg [PV.int IntKind.i64 k', PV.int IntKind.i64 n', PV.str s', PV.slice (Dats.len ks') (Dats.cells ks')]), true), (onE x == (0 : Int), true), (true, true), (!widB w, false), (!onE x == (0 : Int), false), (false, false), (isdE x w == (0 : Int), true), (true, true), (isLy [PV.int IntKind.i64 k', PV.int IntKind.i64 n', PV.str s', PV.slice (Dats.len ks') (Dats.cells ks')], true), (decide (0 ≤ w ∧ w ≤ 4398046511104), true), (isdB x w == (ByteArray.toList (mkS (laC (Int.toNat w) [PV.int IntKind.i64 k', PV.int IntKind.i64 n', PV.str s', PV.slice (Dats.len ks') (Dats.cells ks')])) == ByteArray.toList x), true), (true, true)]) (by kernel_rfl) (by repeat' first | exact okO_nil | refine okN ?_ ?_ | assumption | rfl) (fun st hst => fin st _ hst)
  · have c1 : (onE x == (0 : Int)) = false := beqF h0
    have c2 : (!onE x == (0 : Int)) = true := by rw [c1]; rfl
    have hB : isdB x w = false := by
      cases hb : isdB x w with
      | false => rfl
      | true => exact absurd ((isdB_eq _ _).1 hb).1 h0
    have c3 : (!isdB x w) = true := by rw [hB]; rfl
    have c4 : (isdE x w == onE x) = true := by unfold isdE; rw [if_neg h0]; exact beq_self_eq_true _
    exact SWP.runQ (SLz [(61, [(15, true), (29, false), (36, true), (38, true), (42, true)])] [(61, [(15, .str x), (25, .agg [.int .i64 k', .int .i64 n', .str s', .slice ks'.len ks'.cells])])]) 100 61 hnt [4] (e := .ret) (z := ⟨[(4, .bool true)], ⟨[⟨[.int .i64 k', .int .i64 n', .str s', .slice (Dats.len ks') (Dats.cells ks')], 24⟩], []⟩⟩) (o := [(decide (0 ≤ (↑0 : Int) ∧ ((↑0 : Int) ≤ if 8000 < (↑(ByteArray.size s) : Int) then 8000 else (↑(ByteArray.size s) : Int)) ∧ (if 8000 < (↑(ByteArray.size s) : Int) then 8000 else (↑(ByteArray.size s) : Int)) ≤ (↑(ByteArray.size s) : Int)), true), (same (.str (ByteArray.extract s 0 (Int.toNat (if 8000 < (↑(ByteArray.size s) : Int) then (8000 : Int) else Int.ofNat (ByteArray.size s))))) (.str x), true), (true, true), (true, true), (same (PV.agg (Dat.cells (readD x))) (PV.agg [PV.int IntKind.i64 k', PV.int IntKind.i64 n', PV.str s', PV.slice (Dats.len ks') (Dats.cells ks')]), true), (onE x == (0 : Int), false), (!onE x == (0 : Int), true), (true, true), (!isdB x w, true), (isdE x w == onE x, true), (true, true)]) (by kernel_rfl) (by repeat' first | exact okO_nil | refine okN ?_ ?_ | assumption | rfl) (fun st hst => fin st _ hst)
end Seat
end Go.Proofs.YtkblfapbakfgpaaGreatDoor
namespace Go.Proofs.YtkblfapbakfgpaaGreatDoor
open Go.ChangeShapes Go.WideShapes Go.ChangeAt Go.RowKit
set_option linter.unusedVariables false
set_option maxRecDepth 100000
namespace Seat
def putG (h : Array Obj) (g : Nat) (cs : Array Value) : Array Obj := h.modify g fun
  | .cells _ t frozen => .cells cs t frozen
  | o => o
noncomputable def laidWorld (os : Os) : World :=
  let w0 := World.holding Tryz.prog os ⟨#[.cells #[.string ⟨#[118, 97, 108, 117, 101, 32, 111, 117, 116, 32, 111, 102, 32, 114, 97, 110, 103, 101]⟩] 163, .cells #[.string ⟨#[105, 110, 118, 97, 108, 105, 100, 32, 115, 121, 110, 116, 97, 120]⟩] 163], #[], []⟩
  { w0 with heap := putG (putG (putG (putG (putG (w0.heap) 4 #[.int .u8 0, .int .u8 1, .int .u8 28, .int .u8 2, .int .u8 29, .int .u8 14, .int .u8 24, .int .u8 3, .int .u8 30, .int .u8 22, .int .u8 20, .int .u8 15, .int .u8 25, .int .u8 17, .int .u8 4, .int .u8 8, .int .u8 31, .int .u8 27, .int .u8 13, .int .u8 23, .int .u8 21, .int .u8 19, .int .u8 16, .int .u8 7, .int .u8 26, .int .u8 12, .int .u8 18, .int .u8 6, .int .u8 11, .int .u8 5, .int .u8 10, .int .u8 9]) 5 #[.int .u8 0, .int .u8 1, .int .u8 56, .int .u8 2, .int .u8 57, .int .u8 49, .int .u8 28, .int .u8 3, .int .u8 61, .int .u8 58, .int .u8 42, .int .u8 50, .int .u8 38, .int .u8 29, .int .u8 17, .int .u8 4, .int .u8 62, .int .u8 47, .int .u8 59, .int .u8 36, .int .u8 45, .int .u8 43, .int .u8 51, .int .u8 22, .int .u8 53, .int .u8 39, .int .u8 33, .int .u8 30, .int .u8 24, .int .u8 18, .int .u8 12, .int .u8 5, .int .u8 63, .int .u8 55, .int .u8 48, .int .u8 27, .int .u8 60, .int .u8 41, .int .u8 37, .int .u8 16, .int .u8 46, .int .u8 35, .int .u8 44, .int .u8 21, .int .u8 52, .int .u8 32, .int .u8 23, .int .u8 11, .int .u8 54, .int .u8 26, .int .u8 40, .int .u8 15, .int .u8 34, .int .u8 20, .int .u8 31, .int .u8 10, .int .u8 25, .int .u8 14, .int .u8 19, .int .u8 9, .int .u8 13, .int .u8 8, .int .u8 7, .int .u8 6]) 0 #[.int .u64 1, .int .u64 10, .int .u64 100, .int .u64 1000, .int .u64 10000, .int .u64 100000, .int .u64 1000000, .int .u64 10000000, .int .u64 100000000, .int .u64 1000000000, .int .u64 10000000000, .int .u64 100000000000, .int .u64 1000000000000, .int .u64 10000000000000, .int .u64 100000000000000, .int .u64 1000000000000000, .int .u64 10000000000000000, .int .u64 100000000000000000, .int .u64 1000000000000000000, .int .u64 10000000000000000000]) 3 #[.iface 161 (.pointer (some ⟨(World.settled Tryz.prog os).heap.size + 0, 0, none⟩))]) 2 #[.iface 161 (.pointer (some ⟨(World.settled Tryz.prog os).heap.size + 1, 0, none⟩))] }
theorem laid_met (os : Os) (args : Array Value) : laidMet Tryz.prog Rows.layoutBackRow.laid ((laidWorld os).forCall (fun _ _ => 0) ⟨#[], args, []⟩).memory :=
  laidMet_of_run' 9 (by kernel_rfl) (by kernel_rfl)
theorem own : ownKnob Tryz.prog.godebug = none := by kernel_rfl
end Seat
end Go.Proofs.YtkblfapbakfgpaaGreatDoor
namespace Go.AS
open Go.ChangeShapes Go.WideShapes Go.ChangeAt Go.RowKit
set_option linter.unusedVariables false
set_option linter.unusedSimpArgs false
section
variable {H : Type} {enc : TypeId × Value → H} {P : Program} {w w' : World} {base : Nat} {held : Bool}
structure Flat (P : Program) (S : TypeId → Prop) : Prop where
  at' : ∀ t, S t → P.underlying t = some .bool ∨ (∃ k, P.underlying t = some (.int k)) ∨ P.underlying t = some .string ∨ (∃ e, P.underlying t = some (.slice e) ∧ S e ∧ 0 < P.cellsOf e) ∨ (∃ fs, P.underlying t = some (.struct fs) ∧ ∀ f ∈ fs.toList, S f.type)
theorem cells?_move {a : Addr} {n : Nat} {cs : List Value} (hw : ∀ a v, w.cell? a = some v → w'.cell? a = some v) (h : w.cells? base a n = some cs) : w'.cells? 0 a n = some cs := by
  obtain ⟨_, hl, hc⟩ := World.cells?_some h
  unfold World.cells?
  rw [if_pos (Nat.zero_le _)]
  refine mapM_some_of_get _ _ (by simp [hl]) fun i x hx => ?_
  have hi : i < n := by have := (List.getElem?_eq_some_iff.1 hx).1; simpa using this
  rw [List.getElem?_range hi] at hx
  cases hx
  rw [← hc i hi]
  cases hv : w.cell? (a.add i) with
  | none => rw [hc i hi] at hv; rw [List.getElem?_eq_none_iff] at hv; omega
  | some v => exact hw _ _ hv
theorem trod_move {S : TypeId → Prop} (hS : Flat P S) (hw : ∀ a v, w.cell? a = some v → w'.cell? a = some v) (sp : Nat → Bool) : ∀ (m : Nat) (t : TypeId) (cs : List Value) (x : DataW H × List MemPlace), S t → DataW.trod enc P w base (fun _ => true) held m t cs = some x → (∀ q ∈ x.2, sp q.block = true) → DataW.trod enc P w' 0 sp held m t cs = some x := by
  intro m
  induction m with
  | zero => intro t cs x _ h; simp [DataW.trod] at h
  | succ m ih =>
    intro t cs x ht h hp
    rcases hS.at' t ht with hu | ⟨k, hu⟩ | hu | ⟨e, hu, he, hpos⟩ | ⟨fs, hu, hfs⟩
    · obtain ⟨b, rfl, rfl⟩ := DataW.trod_bool hu h
      unfold DataW.trod
      rw [hu]
    · obtain ⟨n, rfl, rfl, hwf⟩ := DataW.trod_int hu h
      exact trod_int_mk m hu hwf
    · obtain ⟨s, rfl, rfl, hs⟩ := DataW.trod_string hu h
      unfold DataW.trod
      rw [hu]
      simp [hs]
    · rcases DataW.trod_slice hu h with ⟨rfl, rfl⟩ | ⟨a, len, cap, elems, rest, n, hn, rfl, rfl, h1, h2, h3, h4, h5, h6, _⟩
      · unfold DataW.trod
        rw [hu]
        rfl
      · obtain rfl : m = n := by omega
        obtain ⟨h6, h7⟩ := h6 rfl
        have hin : ∀ y, y ∈ elems ∨ y ∈ rest → ∀ q ∈ y.2, sp q.block = true := fun y hy q hq => hp q (List.mem_append_right _ (List.mem_flatMap.2 ⟨y, List.mem_append.2 hy, hq⟩))
        have go : ∀ (i : Nat) (y : DataW H × List MemPlace), (w.cells? base (a.add (i * P.cellsOf e)) (P.cellsOf e)).bind (DataW.trod enc P w base (fun _ => true) held m e) = some y → (∀ q ∈ y.2, sp q.block = true) → (w'.cells? 0 (a.add (i * P.cellsOf e)) (P.cellsOf e)).bind (DataW.trod enc P w' 0 sp held m e) = some y := fun i y hy hq => by
          obtain ⟨cs, hcs, htr⟩ := Option.bind_eq_some_iff.1 hy
          rw [cells?_move hw hcs]
          exact ih e cs y he htr hq
        have e1 : (List.range len).mapM (fun i => (w'.cells? 0 (a.add (i * P.cellsOf e)) (P.cellsOf e)).bind (DataW.trod enc P w' 0 sp held m e)) = some elems := mapM_some_of_get _ _ (by simp [h4]) fun i y hy => by
          have hi : i < len := by have := (List.getElem?_eq_some_iff.1 hy).1; simpa using this
          rw [List.getElem?_range hi] at hy
          cases hy
          obtain ⟨z, hz⟩ : ∃ z, elems[i]? = some z := ⟨_, List.getElem?_eq_getElem (by omega)⟩
          rw [hz]
          exact go i z (by rw [h5 i hi, hz]) (hin z (.inl (List.mem_of_getElem? hz)))
        have e2 : (List.range (cap - len)).mapM (fun j => (w'.cells? 0 (a.add ((len + j) * P.cellsOf e)) (P.cellsOf e)).bind (DataW.trod enc P w' 0 sp held m e)) = some rest := mapM_some_of_get _ _ (by simp [h6]) fun i y hy => by
          have hi : i < cap - len := by have := (List.getElem?_eq_some_iff.1 hy).1; simpa using this
          rw [List.getElem?_range hi] at hy
          cases hy
          obtain ⟨z, hz⟩ : ∃ z, rest[i]? = some z := ⟨_, List.getElem?_eq_getElem (by omega)⟩
          rw [hz]
          exact go (len + i) z (by rw [h7 i hi, hz]) (hin z (.inr (List.mem_of_getElem? hz)))
        have e3 : (if sp a.block then (List.range (cap - len)).mapM (fun j => (w'.cells? 0 (a.add ((len + j) * P.cellsOf e)) (P.cellsOf e)).bind (DataW.trod enc P w' 0 sp held m e)) else some []) = some rest := by
          by_cases hz : (elems.length + rest.length) * P.cellsOf e = 0
          · have : rest = [] := by
              rcases Nat.mul_eq_zero.1 hz with h | h
              · exact List.eq_nil_of_length_eq_zero (by omega)
              · omega
            subst this
            split
            · exact e2
            · rfl
          · have : sp a.block = true := hp (.cell a.block (a.off + 0)) (List.mem_append_left _ (List.mem_map.2 ⟨0, List.mem_range.2 (by omega), rfl⟩))
            rw [if_pos this]
            exact e2
        unfold DataW.trod
        rw [hu]
        simp only [e1, e3, Option.bind_some, Option.map_some]
        rw [if_pos ⟨Nat.zero_le _, h2, h3⟩]
    · obtain ⟨xs, n, hn, rfl, hl, hlen, hf⟩ := DataW.trod_struct hu h
      obtain rfl : m = n := by omega
      refine trod_struct_mk hu hl (mapM_some_of_get _ _ (by simpa using hlen) fun i f hi => ?_)
      obtain ⟨y, hy⟩ : ∃ y, xs[i]? = some y := ⟨_, List.getElem?_eq_getElem (by have := (List.getElem?_eq_some_iff.1 hi).1; simp at this; omega)⟩
      rw [hy]
      exact ih f.type _ y (hfs f (List.mem_of_getElem? hi)) (by rw [hf i f (by simpa using hi), hy]) (fun q hq => hp q (List.mem_flatMap.2 ⟨y, List.mem_of_getElem? hy, hq⟩))
theorem cell_keep (hk : ∀ k, k < w.heap.size → w'.heap[k]? = w.heap[k]?) (a : Addr) (v : Value) (h : w.cell? a = some v) : w'.cell? a = some v := by
  rw [← h]
  have hb : a.block < w.heap.size := by
    rcases Nat.lt_or_ge a.block w.heap.size with h' | h'
    · exact h'
    · unfold World.cell? at h
      rw [show w.heap[a.block]? = none from Array.getElem?_eq_none h'] at h
      simp at h
  unfold World.cell?
  rw [hk _ hb]
theorem trodAll_move {S : TypeId → Prop} (hS : Flat P S) (hk : ∀ k, k < w.heap.size → w'.heap[k]? = w.heap[k]?) (sp : Nat → Bool) : ∀ (ts : List TypeId) (vs : List Value) (ds : List (DataW H)) (p : List MemPlace), (∀ t ∈ ts, S t) → DataW.TrodAll enc P w base (fun _ => true) held ts vs ds p → (∀ q ∈ p, sp q.block = true) → DataW.TrodAll enc P w' 0 sp held ts vs ds p
  | [], [], [], p, _, h, _ => h
  | t :: ts, v :: vs, d :: ds, p, ht, h, hp => by
    obtain ⟨p1, q1, ⟨m, h1⟩, h2, rfl⟩ := h
    exact ⟨p1, q1, ⟨m, trod_move hS (cell_keep hk) sp m t _ _ (ht t (by simp)) h1 fun q hq => hp q (List.mem_append_left _ hq)⟩, trodAll_move hS hk sp ts vs ds q1 (fun t h => ht t (by simp [h])) h2 (fun q hq => hp q (List.mem_append_right _ hq)), rfl⟩
  | [], _ :: _, _, _, _, h, _ => by simp [DataW.TrodAll] at h
  | [], [], _ :: _, _, _, h, _ => by simp [DataW.TrodAll] at h
  | _ :: _, [], _, _, _, h, _ => by simp [DataW.TrodAll] at h
  | _ :: _, _ :: _, [], _, _, h, _ => by simp [DataW.TrodAll] at h
structure DatT (P : Program) (tD tK : TypeId) : Prop where
  st : ∃ fs f0 f1 f2 f3, P.underlying tD = some (.struct fs) ∧ fs.toList = [f0, f1, f2, f3] ∧ f0.offset = 0 ∧ f1.offset = 1 ∧ f2.offset = 2 ∧ f3.offset = 3 ∧ P.underlying f0.type = some (.int .i64) ∧ P.underlying f1.type = some (.int .i64) ∧ P.underlying f2.type = some .string ∧ f3.type = tK ∧ P.cellsOf f0.type = 1 ∧ P.cellsOf f1.type = 1 ∧ P.cellsOf f2.type = 1 ∧ P.cellsOf f3.type = 1
  sl : P.underlying tK = some (.slice tD)
  sz : P.cellsOf tD = 4
theorem dats_row {tD : TypeId} {sp : Nat → Bool} {n : Nat} {a : Addr} (hsz : P.cellsOf tD = 4)
    (ih : ∀ cs d p, DataW.trod enc P w base sp held n tD cs = some (d, p) → ∃ D : Dat, D.ok ∧ IReps (old w) w D.cells cs ∧ allOne D.cells = true ∧ D.rng) : ∀ (len k : Nat),
    (∀ i, i < len → ∃ x, (w.cells? base (a.add ((k + i) * 4)) 4).bind (DataW.trod enc P w base sp held n tD) = some x) →
    ∃ (ks : Dats) (vs : List Value), ks.len = len ∧ ks.ok ∧ vs.length = len * 4 ∧ (∀ (j : Nat) (v : Value), vs[j]? = some v → w.cell? (a.add (k * 4 + j)) = some v) ∧ IReps (old w) w ks.cells vs ∧ allOne ks.cells = true ∧ (0 < vs.length → a.block < w.heap.size) ∧ ks.rng := by
  intro len
  induction len with
  | zero => intro k _; exact ⟨.nil, [], rfl, trivial, rfl, (fun j v h => by simp at h), .nil _ _, rfl, (fun h => by simp at h), trivial⟩
  | succ len ihl =>
    intro k h
    obtain ⟨⟨d, p⟩, hp⟩ := h 0 (by omega)
    obtain ⟨cs, hcs, htr⟩ := Option.bind_eq_some_iff.1 hp
    obtain ⟨hb, hlen, hcell⟩ := World.cells?_some hcs
    obtain ⟨D, hok, h1, h2, h9⟩ := ih cs d p htr
    obtain ⟨ks, vs, g0, g1, g2, g3, g4, g5, g6, g9⟩ := ihl (k + 1) (fun i hi => by
      have := h (i + 1) (by omega)
      rw [show k + (i + 1) = k + 1 + i from by omega] at this
      exact this)
    refine ⟨.cons D ks, cs ++ vs, by simp [Dats.len, g0], ⟨hok, g1⟩, by simp [hlen, g2]; omega, fun j v hv => ?_, h1.append g4, allOne_append h2 g5, fun _ => ?_, ⟨h9, g9⟩⟩
    · rcases Nat.lt_or_ge j cs.length with hlt | hge
      · rw [List.getElem?_append_left hlt] at hv
        have := hcell j (by omega)
        rw [add_of_add, Nat.add_zero] at this
        rw [this]; exact hv
      · rw [List.getElem?_append_right hge] at hv
        have := g3 _ v hv
        rw [← this]
        congr 2
        omega
    · have := World.cells?_block hcs (by omega)
      rw [block_of_add] at this
      exact this
theorem trod_dat {tD tK : TypeId} (hT : DatT P tD tK) {sp : Nat → Bool} : ∀ (m : Nat), ∀ m', m' ≤ m → ∀ (cs : List Value) (d : DataW H) (p : List MemPlace), DataW.trod enc P w base sp held m' tD cs = some (d, p) → ∃ D : Dat, D.ok ∧ IReps (old w) w D.cells cs ∧ allOne D.cells = true ∧ D.rng := by
  obtain ⟨fs, f0, f1, f2, f3, hu, hfs, o0, o1, o2, o3, u0, u1, u2, rfl, c0, c1, c2, c3⟩ := hT.st
  intro m
  induction m with
  | zero => intro m' hm cs d p h; obtain rfl : m' = 0 := by omega
            simp [DataW.trod] at h
  | succ m ih =>
    intro m' hm cs d p h
    obtain ⟨xs, n, rfl, hx, hl, hlen, hf⟩ := DataW.trod_struct hu h
    have hsz := hT.sz
    have hcl : cs.length = 4 := by omega
    match cs, hcl with
    | [v0, v1, v2, v3], _ =>
      have e0 := hf 0 f0 (by rw [← Array.getElem?_toList, hfs]; rfl)
      have e1 := hf 1 f1 (by rw [← Array.getElem?_toList, hfs]; rfl)
      have e2 := hf 2 f2 (by rw [← Array.getElem?_toList, hfs]; rfl)
      have e3 := hf 3 f3 (by rw [← Array.getElem?_toList, hfs]; rfl)
      rw [o0, c0] at e0; rw [o1, c1] at e1; rw [o2, c2] at e2; rw [o3, c3] at e3
      simp only [List.drop_zero, List.drop_succ_cons, List.take_succ_cons, List.take_zero] at e0 e1 e2 e3
      have hxl : xs.length = 4 := by rw [hlen, ← Array.length_toList, hfs]; rfl
      match xs, hxl with
      | [x0, x1, x2, x3], _ =>
        simp only [List.getElem?_cons_zero, List.getElem?_cons_succ] at e0 e1 e2 e3
        obtain ⟨k, ek, _⟩ := DataW.trod_int u0 e0
        obtain ⟨z, ez, _, wz⟩ := DataW.trod_int u1 e1
        obtain ⟨s, es, _⟩ := DataW.trod_string u2 e2
        simp only [List.cons.injEq, and_true] at ek ez es
        subst ek ez es
        have fin : ∀ (ks : Dats), ks.len ≤ 9223372036854775807 → ks.ok → ks.rng → IRep (old w) w (.slice ks.len ks.cells) v3 → ∃ D : Dat, D.ok ∧ IReps (old w) w D.cells [.int .i64 k, .int .i64 z, .string s, v3] ∧ allOne D.cells = true ∧ D.rng := fun ks h1 h2 h9 h3 =>
          ⟨.mk k z s ks, ⟨h1, h2⟩, ⟨rfl, fun j x v hx hv => by
            match j with
            | 0 => simp [Dat.cells] at hx hv; subst hx; subst hv; exact .int _ _
            | 1 => simp [Dat.cells] at hx hv; subst hx; subst hv; exact .int _ _
            | 2 => simp [Dat.cells] at hx hv; subst hx; subst hv; exact .str _
            | 3 => simp [Dat.cells] at hx hv; subst hx; subst hv; exact h3
            | j + 4 => simp at hv⟩, rfl, bounds_i64 wz, h9⟩
        rcases DataW.trod_slice hT.sl e3 with ⟨hcs, _⟩ | ⟨a, len, cap, elems, rest, n', hn', hcs, _, h1, h2, h3, h4, h5, _⟩
        · simp only [List.cons.injEq, and_true] at hcs
          subst hcs
          exact fin .nil (by simp [Dats.len]) trivial trivial .slice0
        · simp only [List.cons.injEq, and_true] at hcs
          subst hcs
          obtain ⟨ks, vs, g0, g1, g2, g3, g4, g5, g6, g9⟩ := dats_row (a := a) hsz (ih n' (by omega)) len 0 (fun i hi => by
            have := h5 i hi
            rw [hsz] at this
            rw [Nat.zero_add]
            exact ⟨_, this.trans (List.getElem?_eq_getElem (by omega))⟩)
          unfold maxLen at h3
          refine fin ks (by omega) g1 g9 ?_
          rw [g0]
          exact .slice h2 g4.1 (fun h => g6 h) (fun j v hv => by have := g3 j v hv; rwa [Nat.zero_mul, Nat.zero_add] at this) (iones g4 g5) g4.2
end
end Go.AS
namespace Go.AS
open Go.RowKit
set_option linter.unusedVariables false
section
variable {G : Prg} {C : Ctx} {Q : AEx → AS → Prop} {st : AS}
end
section
variable {G : Prg} {C : Ctx} {Q : AEx → AS → Prop}
end
end Go.AS
namespace Go.Proofs.YtkblfapbakfgpaaGreatDoor.Seat
open Go.ChangeShapes Go.WideShapes Go.ChangeAt Go.RowKit Go.AS
set_option linter.unusedVariables false
set_option maxRecDepth 100000
def flatT (t : TypeId) : Prop := t = 3 ∨ t = 2 ∨ t = 9 ∨ t = 22 ∨ t = 24
theorem flat : Flat Tryz.prog flatT := ⟨fun t ht => by
  rcases ht with rfl | rfl | rfl | rfl | rfl
  · exact .inr (.inl ⟨_, Tryz.underlying3⟩)
  · exact .inr (.inl ⟨_, Tryz.underlying2⟩)
  · exact .inr (.inr (.inl Tryz.underlying9))
  · exact .inr (.inr (.inr (.inl ⟨_, Tryz.underlying22, .inr (.inr (.inr (.inr rfl))), by rw [show Tryz.prog.cellsOf 24 = 4 by kernel_rfl]; exact Nat.le_of_ble_eq_true rfl⟩)))
  · refine .inr (.inr (.inr (.inr ⟨_, Tryz.underlying24, fun f hf => ?_⟩)))
    simp only [List.mem_cons, List.not_mem_nil, or_false] at hf
    rcases hf with rfl | rfl | rfl | rfl
    · exact .inl rfl
    · exact .inr (.inl rfl)
    · exact .inr (.inr (.inl rfl))
    · exact .inr (.inr (.inr (.inl rfl)))⟩
theorem datT : DatT Tryz.prog 24 22 :=
  ⟨⟨_, _, _, _, _, Tryz.underlying24, rfl, rfl, rfl, rfl, rfl, Tryz.underlying3, Tryz.underlying2, Tryz.underlying9, rfl, by kernel_rfl, by kernel_rfl, by kernel_rfl, by kernel_rfl⟩, Tryz.underlying22, by kernel_rfl⟩
theorem open_dat {H : Type} {enc : TypeId × Value → H} {W : World} {base b0 : Nat} {sp : Nat → Bool} {held : Bool} {v : Value} {d : DataW H} {p : List MemPlace} (hv : Value.okWide Tryz.prog W .any base 24 v) (h : DataW.Trod enc Tryz.prog W b0 sp held 24 v d p) :
    ∃ D : Dat, D.ok ∧ IRep (old W) W (.agg D.cells) v ∧ D.rng := by
  unfold Value.okWide at hv
  rw [Tryz.underlying24] at hv
  obtain ⟨cs, rfl, _, _⟩ := hv
  obtain ⟨m, h⟩ := h
  obtain ⟨D, h1, h2, _, h3⟩ := trod_dat (enc := enc) (w := W) datT m m (Nat.le_refl _) _ _ _ h
  refine ⟨D, h1, ?_, h3⟩
  have : IRep (old W) W (.agg D.cells) (.agg cs.toList.toArray) := .agg h2.1 h2.2
  rwa [Array.toArray_toList] at this
end Go.Proofs.YtkblfapbakfgpaaGreatDoor.Seat
