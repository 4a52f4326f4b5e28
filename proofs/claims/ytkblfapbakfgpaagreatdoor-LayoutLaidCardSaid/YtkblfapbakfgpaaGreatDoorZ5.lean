/- Texts of this session, packed: Lay3, Lay4, Lay5, Lay6, Lay8, Lay9, Lay10, Lay11, Lay18, Read0, Read1, Read2, Read3, Read4, Read5, Read6. -/
import Derived.Test.YtkblfapbakfgpaaGreatDoorZ4
namespace Go.Proofs.YtkblfapbakfgpaaGreatDoor
open Go.AS Go.RowKit
set_option linter.unusedVariables false
set_option linter.unusedSimpArgs false
set_option maxRecDepth 100000
set_option maxHeartbeats 4000000
namespace Seat
noncomputable def rlC (w c r : Nat) (b : List UInt8) (cs : List PV) : List UInt8 := ofCells (fun d => layG rS w d c r b) [] cs
theorem rlC_at (w c r : Nat) (b : List UInt8) (d : Dat) : rlC w c r b d.cells = layG rS w d c r b := ofCells_at _ _ d
def RLayAt (N : Nat) : Prop := ∀ d : Dat, d.size < N → d.ok → d.rng → formedD d = true → (textD d).length ≤ 4398046511104 → ∀ w c r : Nat, w ≤ 4398046511104 → c + 2 * N ≤ 4398046511104 → r + N ≤ 4398046511104 → ∀ b : List UInt8, b.length + (layT w d c r).length ≤ 140737488355328 →
  RCalls G0 22 [.own 0 b.length, .agg d.cells, .int .i64 c, .int .i64 r, .int .i64 w] ⟨[], [some (bR (bytesPL b) b.length)]⟩ (fun o H => o = .ret (.own 0 (layG rS w d c r b).length) ∧ H = ⟨[], [some (bR (bytesPL (layG rS w d c r b)) (layG rS w d c r b).length)]⟩)
noncomputable def rlayV (N : Nat) (f : Nat) (xs : List PV) (H : Hp) : Option (PV × Hp × Ob) := match f, xs, H with
  | 22, [.own 0 n, .agg cs, .int .i64 c, .int .i64 r, .int .i64 w], ⟨[], [some ⟨rc, m, e, 1⟩]⟩ => match Nat.beq e 5 with
    | true => some (.own 0 (rlC w.toNat c.toNat r.toNat (bytesOf rc) cs).length, ⟨[], [some ⟨bytesPL (rlC w.toNat c.toNat r.toNat (bytesOf rc) cs), (rlC w.toNat c.toNat r.toNat (bytesOf rc) cs).length, e, 1⟩]⟩,
        [(isLay N cs, true), (decide (0 ≤ w ∧ w ≤ 4398046511104), true), (decide (0 ≤ c ∧ c + 2 * (N : Int) ≤ 4398046511104), true), (decide (0 ≤ r ∧ r + (N : Int) ≤ 4398046511104), true), (Nat.beq n m, true), (Nat.beq rc.length m, true), (isBytes8 rc, true), (Nat.ble (m + lrC w.toNat c.toNat r.toNat cs) 140737488355328, true)])
    | false => none
  | _, _, _ => none
theorem rlayV_ok {N : Nat} (ih : RLayAt N) (f : Nat) (xs : List PV) (H : Hp) (r : PV) (H' : Hp) (o : Ob) (h : rlayV N f xs H = some (r, H', o)) (ho : ∀ p ∈ o, p.1 = p.2) : RCalls G0 f xs H (fun o' H2 => o' = .ret r ∧ H2 = H') ∧ r.scP (belowN H'.bx.length) (belowN H'.rw.length) = true ∧ H'.scB H'.bx.length H'.rw.length = true := by
  unfold rlayV at h
  split at h
  · rename_i n cs c r' w rc m e
    split at h
    · rename_i hc
      cases h
      simp only [Nat.beq_eq] at hc
      subst hc
      obtain ⟨d, rfl, h1, h2, h3, h4, h5⟩ := isLay_of (ho (isLay N cs, true) (by simp))
      have g1 := of_decide_eq_true (ho (decide (0 ≤ w ∧ w ≤ 4398046511104), true) (by simp))
      have g2 := of_decide_eq_true (ho (decide (0 ≤ c ∧ c + 2 * (N : Int) ≤ 4398046511104), true) (by simp))
      have g3 := of_decide_eq_true (ho (decide (0 ≤ r' ∧ r' + (N : Int) ≤ 4398046511104), true) (by simp))
      have g4 := ho (Nat.beq n m, true) (by simp)
      have g5 := ho (Nat.beq rc.length m, true) (by simp)
      have g6 := ho (isBytes8 rc, true) (by simp)
      have g7 := ho (Nat.ble (m + lrC w.toNat c.toNat r'.toNat d.cells) 140737488355328, true) (by simp)
      simp only [Nat.beq_eq, Nat.ble_eq] at g4 g5 g7
      subst g4
      rw [lrC_at] at g7
      rw [rlC_at]
      have hb := bytesPL_of8 rc g6
      have hbl : (bytesOf rc).length = n := by rw [bytesOf_length]; exact g5
      have key := ih d h1 h2 h3 h4 h5 w.toNat c.toNat r'.toNat (by omega) (by omega) (by omega) (bytesOf rc) (by rw [hbl]; exact g7)
      rw [hbl, hb, Int.toNat_of_nonneg g1.1, Int.toNat_of_nonneg g2.1, Int.toNat_of_nonneg g3.1] at key
      exact ⟨key, rfl, rfl⟩
    · cases h
  · cases h
noncomputable def SLR {N : Nat} (ih : RLayAt N) (l : List (Nat × List (Nat × Bool))) (v : List (Nat × List (Nat × PV))) : Cfg G0 := { F := F, hF := hF, S := txS, hS := txS_ok, V := rlayV N, hV := rlayV_ok ih, orc := orcM l, val := valM v }
def RLSt (x : PV) (rws : List (Option Row)) (b : List UInt8) : Prop := (x = .own 0 b.length ∧ rws = [some (bR (bytesPL b) b.length)]) ∨ (x = .nil ∧ rws = [] ∧ b = [])
theorem rlay_gen {N : Nat} (ih : RLayAt N) (d : Dat) (hN : d.size < N + 1) (hok : d.ok) (hrng : d.rng) (hfm : formedD d = true) (htl : (textD d).length ≤ 4398046511104) (w c r : Nat) (hw : w ≤ 4398046511104) (hc : c + 2 * (N + 1) ≤ 4398046511104) (hr : r + (N + 1) ≤ 4398046511104)
    (x : PV) (rws : List (Option Row)) (b : List UInt8) (hB : RLSt x rws b) (hb : b.length + (layT w d c r).length ≤ 140737488355328) :
    RCalls G0 22 [x, .agg d.cells, .int .i64 c, .int .i64 r, .int .i64 w] ⟨[], rws⟩ (fun o H => o = .ret (.own 0 (layG rS w d c r b).length) ∧ H = ⟨[], [some (bR (bytesPL (layG rS w d c r b)) (layG rS w d c r b).length)]⟩) := by
  obtain ⟨k, n, s, ks⟩ := d
  have hlen := hok.1
  have tx : txC [PV.int IntKind.i64 k, PV.int IntKind.i64 n, PV.str s, PV.slice (Dats.len ks) (Dats.cells ks)] = textD (.mk k n s ks) := txC_at (.mk k n s ks)
  have c1 : isTxt [PV.int IntKind.i64 k, PV.int IntKind.i64 n, PV.str s, PV.slice (Dats.len ks) (Dats.cells ks)] = true := isTxt_at (d := .mk k n s ks) hok hrng (by omega)
  refine Fn.enterH Tryz.func22 Tryz.ntmps22 rfl (Nat.le_of_ble_eq_true rfl) fun C fr fp hnt hnb hfr => ?_
  have fin : ∀ st l, l = layG rS w (.mk k n s ks) c r b → nrm [10] st = ⟨[(10, .own 0 l.length)], ⟨[DB k n s ks], [some (bR (bytesPL l) l.length)]⟩⟩ → fr st := fun st l hl hs => hfr st [10] (by
    rw [hs, ← hl]
    rcases hB with ⟨rfl, rfl⟩ | ⟨rfl, rfl, _⟩
    · exact ⟨0, 1, .own 0 l.length, Nat.le_refl _, Nat.zero_le _, Nat.le_refl _, Nat.le_refl _, rfl, rfl, rfl, rfl, rfl⟩
    · exact ⟨0, 1, .own 0 l.length, Nat.le_refl _, Nat.zero_le _, Nat.zero_le _, Nat.le_refl _, rfl, rfl, rfl, rfl, rfl⟩)
  have hmt : ∀ t, rS.more t = true := fun _ => rfl
  have hsz : ByteArray.size (mkS (txC [PV.int IntKind.i64 k, PV.int IntKind.i64 n, PV.str s, PV.slice (Dats.len ks) (Dats.cells ks)])) = (textD (.mk k n s ks)).length := by rw [tx]; rfl
  have hwr : IntKind.wrap IntKind.i64 (IntKind.wrap IntKind.i64 ((↑c : Int) + (↑(ByteArray.size (mkS (txC [PV.int IntKind.i64 k, PV.int IntKind.i64 n, PV.str s, PV.slice (Dats.len ks) (Dats.cells ks)]))) : Int)) + (↑r : Int)) = ((c + (textD (.mk k n s ks)).length + r : Nat) : Int) := by
    rw [hsz]; exact wrap3 _ _ _ (by omega)
  have short : ∀ (hs : ks.len = 0 ∨ c + (textD (.mk k n s ks)).length + r ≤ w), layG rS w (.mk k n s ks) c r b = b ++ textD (.mk k n s ks) ∧ b.length + (textD (.mk k n s ks)).length ≤ 140737488355328 := fun hs => by
    refine ⟨by rw [layG, hmt]; simp only []; rw [if_pos hs]; rfl, ?_⟩
    have : layT w (.mk k n s ks) c r = textD (.mk k n s ks) := by
      unfold layT
      rw [layG]
      simp only [rS]
      rw [if_pos hs]
      simp
    rw [this] at hb
    exact hb
  have hfk : (k ≠ 3 → ks.len = 0) ∧ (k = 3 → formedL ks = true) := by
    simp only [formedD, Bool.or_eq_true, Bool.and_eq_true, decide_eq_true_eq] at hfm
    rcases hfm with (h | h) | h
    · exact ⟨fun _ => h.2, fun h3 => absurd (h.1.1.symm.trans h3) (by decide)⟩
    · exact ⟨fun _ => h.2, fun h3 => absurd (h.1.1.1.symm.trans h3) (by decide)⟩
    · exact ⟨fun h3 => absurd h.1.1.1 h3, fun _ => h.2⟩
  by_cases hk : k = 3
  case neg =>
    obtain ⟨lg, hb2⟩ := short (.inl (hfk.1 hk))
    have c2 : (!k == (3 : Int)) = true := by rw [Bool.not_eq_true', beq_eq_false_iff_ne]; exact hk
    rcases hB with ⟨rfl, rfl⟩ | ⟨rfl, rfl, rfl⟩
    · have c4 : Nat.ble (List.length b + ByteArray.size (mkS (txC [PV.int IntKind.i64 k, PV.int IntKind.i64 n, PV.str s, PV.slice (Dats.len ks) (Dats.cells ks)]))) 140737488355328 = true := by rw [Nat.ble_eq, hsz]; exact hb2
      refine SWP.runQ (SLR ih [(88, [(20, true), (39, true)])] []) 100 88 hnt [10] (e := .ret) (z := ⟨[(10, .own 0 (List.length b + ByteArray.size (mkS (txC [.int .i64 k, .int .i64 n, .str s, .slice (Dats.len ks) (Dats.cells ks)]))))], ⟨[⟨[.int .i64 k, .int .i64 n, .str s, .slice (Dats.len ks) (Dats.cells ks)], 24⟩], [some ⟨bytesPL b ++ bytesPV (mkS (txC [.int .i64 k, .int .i64 n, .str s, .slice (Dats.len ks) (Dats.cells ks)])), List.length b + ByteArray.size (mkS (txC [.int .i64 k, .int .i64 n, .str s, .slice (Dats.len ks) (Dats.cells ks)])), 5, 1⟩]⟩⟩) (o := [(true, true), (isTxt [PV.int IntKind.i64 k, PV.int IntKind.i64 n, PV.str s, PV.slice (Dats.len ks) (Dats.cells ks)], true), (!k == (3 : Int), true), (Nat.ble (List.length b + ByteArray.size (mkS (txC [PV.int IntKind.i64 k, PV.int IntKind.i64 n, PV.str s, PV.slice (Dats.len ks) (Dats.cells ks)]))) 140737488355328, true)]) (by kernel_rfl) (by repeat' first | exact okO_nil | refine okN ?_ ?_ | assumption | rfl) (fun st hs => fin st _ lg.symm ?_)
      rw [hs, tx, bytesPL_append, List.length_append]; rfl
    · have c4 : Nat.ble (0 + ByteArray.size (mkS (txC [PV.int IntKind.i64 k, PV.int IntKind.i64 n, PV.str s, PV.slice (Dats.len ks) (Dats.cells ks)]))) 140737488355328 = true := by rw [Nat.ble_eq, hsz]; exact hb2
      refine SWP.runQ (SLR ih [(88, [(20, true), (39, true)])] []) 100 88 hnt [10] (e := .ret) (z := ⟨[(10, .own 0 (0 + ByteArray.size (mkS (txC [.int .i64 k, .int .i64 n, .str s, .slice (Dats.len ks) (Dats.cells ks)]))))], ⟨[⟨[.int .i64 k, .int .i64 n, .str s, .slice (Dats.len ks) (Dats.cells ks)], 24⟩], [some ⟨[] ++ bytesPV (mkS (txC [.int .i64 k, .int .i64 n, .str s, .slice (Dats.len ks) (Dats.cells ks)])), 0 + ByteArray.size (mkS (txC [.int .i64 k, .int .i64 n, .str s, .slice (Dats.len ks) (Dats.cells ks)])), 5, 1⟩]⟩⟩) (o := [(true, true), (isTxt [PV.int IntKind.i64 k, PV.int IntKind.i64 n, PV.str s, PV.slice (Dats.len ks) (Dats.cells ks)], true), (!k == (3 : Int), true), (Nat.ble (0 + ByteArray.size (mkS (txC [PV.int IntKind.i64 k, PV.int IntKind.i64 n, PV.str s, PV.slice (Dats.len ks) (Dats.cells ks)]))) 140737488355328, true)]) (by kernel_rfl) (by repeat' first | exact okO_nil | refine okN ?_ ?_ | assumption | rfl) (fun st hs => fin st _ lg.symm ?_)
      rw [hs, tx, bytesPL_append, List.length_append]; rfl
  have c2 : (!k == (3 : Int)) = false := by rw [Bool.not_eq_false', beq_iff_eq]; exact hk
  by_cases h0 : ks.len = 0
  case pos =>
    obtain ⟨lg, hb2⟩ := short (.inl h0)
    have c3 : (Int.ofNat (Dats.len ks) == (0 : Int)) = true := by rw [h0]; rfl
    rcases hB with ⟨rfl, rfl⟩ | ⟨rfl, rfl, rfl⟩
    · have c4 : Nat.ble (List.length b + ByteArray.size (mkS (txC [PV.int IntKind.i64 k, PV.int IntKind.i64 n, PV.str s, PV.slice (Dats.len ks) (Dats.cells ks)]))) 140737488355328 = true := by rw [Nat.ble_eq, hsz]; exact hb2
      refine SWP.runQ (SLR ih [(88, [(20, false), (25, true), (39, true)])] []) 100 88 hnt [10] (e := .ret) (z := ⟨[(10, .own 0 (List.length b + ByteArray.size (mkS (txC [.int .i64 k, .int .i64 n, .str s, .slice (Dats.len ks) (Dats.cells ks)]))))], ⟨[⟨[.int .i64 k, .int .i64 n, .str s, .slice (Dats.len ks) (Dats.cells ks)], 24⟩], [some ⟨bytesPL b ++ bytesPV (mkS (txC [.int .i64 k, .int .i64 n, .str s, .slice (Dats.len ks) (Dats.cells ks)])), List.length b + ByteArray.size (mkS (txC [.int .i64 k, .int .i64 n, .str s, .slice (Dats.len ks) (Dats.cells ks)])), 5, 1⟩]⟩⟩) (o := [(true, true), (isTxt [PV.int IntKind.i64 k, PV.int IntKind.i64 n, PV.str s, PV.slice (Dats.len ks) (Dats.cells ks)], true), (!k == (3 : Int), false), (Int.ofNat (Dats.len ks) == (0 : Int), true), (Nat.ble (List.length b + ByteArray.size (mkS (txC [PV.int IntKind.i64 k, PV.int IntKind.i64 n, PV.str s, PV.slice (Dats.len ks) (Dats.cells ks)]))) 140737488355328, true)]) (by kernel_rfl) (by repeat' first | exact okO_nil | refine okN ?_ ?_ | assumption | rfl) (fun st hs => fin st _ lg.symm ?_)
      rw [hs, tx, bytesPL_append, List.length_append]; rfl
    · have c4 : Nat.ble (0 + ByteArray.size (mkS (txC [PV.int IntKind.i64 k, PV.int IntKind.i64 n, PV.str s, PV.slice (Dats.len ks) (Dats.cells ks)]))) 140737488355328 = true := by rw [Nat.ble_eq, hsz]; exact hb2
      refine SWP.runQ (SLR ih [(88, [(20, false), (25, true), (39, true)])] []) 100 88 hnt [10] (e := .ret) (z := ⟨[(10, .own 0 (0 + ByteArray.size (mkS (txC [.int .i64 k, .int .i64 n, .str s, .slice (Dats.len ks) (Dats.cells ks)]))))], ⟨[⟨[.int .i64 k, .int .i64 n, .str s, .slice (Dats.len ks) (Dats.cells ks)], 24⟩], [some ⟨[] ++ bytesPV (mkS (txC [.int .i64 k, .int .i64 n, .str s, .slice (Dats.len ks) (Dats.cells ks)])), 0 + ByteArray.size (mkS (txC [.int .i64 k, .int .i64 n, .str s, .slice (Dats.len ks) (Dats.cells ks)])), 5, 1⟩]⟩⟩) (o := [(true, true), (isTxt [PV.int IntKind.i64 k, PV.int IntKind.i64 n, PV.str s, PV.slice (Dats.len ks) (Dats.cells ks)], true), (!k == (3 : Int), false), (Int.ofNat (Dats.len ks) == (0 : Int), true), (Nat.ble (0 + ByteArray.size (mkS (txC [PV.int IntKind.i64 k, PV.int IntKind.i64 n, PV.str s, PV.slice (Dats.len ks) (Dats.cells ks)]))) 140737488355328, true)]) (by kernel_rfl) (by repeat' first | exact okO_nil | refine okN ?_ ?_ | assumption | rfl) (fun st hs => fin st _ lg.symm ?_)
      rw [hs, tx, bytesPL_append, List.length_append]; rfl
  have c3 : (Int.ofNat (Dats.len ks) == (0 : Int)) = false := by rw [beq_eq_false_iff_ne]; show (ks.len : Int) ≠ 0; omega
  by_cases hft : c + (textD (.mk k n s ks)).length + r ≤ w
  case pos =>
    obtain ⟨lg, hb2⟩ := short (.inr hft)
    have c5 : decide (IntKind.wrap IntKind.i64 (IntKind.wrap IntKind.i64 ((↑c : Int) + (↑(ByteArray.size (mkS (txC [PV.int IntKind.i64 k, PV.int IntKind.i64 n, PV.str s, PV.slice (Dats.len ks) (Dats.cells ks)]))) : Int)) + (↑r : Int)) ≤ (↑w : Int)) = true := by rw [hwr, decide_eq_true_eq]; omega
    rcases hB with ⟨rfl, rfl⟩ | ⟨rfl, rfl, rfl⟩
    · have c4 : Nat.ble (List.length b + ByteArray.size (mkS (txC [PV.int IntKind.i64 k, PV.int IntKind.i64 n, PV.str s, PV.slice (Dats.len ks) (Dats.cells ks)]))) 140737488355328 = true := by rw [Nat.ble_eq, hsz]; exact hb2
      refine SWP.runQ (SLR ih [(88, [(20, false), (25, false), (35, true), (39, true)])] []) 100 88 hnt [10] (e := .ret) (z := ⟨[(10, .own 0 (List.length b + ByteArray.size (mkS (txC [.int .i64 k, .int .i64 n, .str s, .slice (Dats.len ks) (Dats.cells ks)]))))], ⟨[⟨[.int .i64 k, .int .i64 n, .str s, .slice (Dats.len ks) (Dats.cells ks)], 24⟩], [some ⟨bytesPL b ++ bytesPV (mkS (txC [.int .i64 k, .int .i64 n, .str s, .slice (Dats.len ks) (Dats.cells ks)])), List.length b + ByteArray.size (mkS (txC [.int .i64 k, .int .i64 n, .str s, .slice (Dats.len ks) (Dats.cells ks)])), 5, 1⟩]⟩⟩) (o := [(true, true), (isTxt [PV.int IntKind.i64 k, PV.int IntKind.i64 n, PV.str s, PV.slice (Dats.len ks) (Dats.cells ks)], true), (!k == (3 : Int), false), (Int.ofNat (Dats.len ks) == (0 : Int), false), (decide (IntKind.wrap IntKind.i64 (IntKind.wrap IntKind.i64 (Int.ofNat (c + ByteArray.size (mkS (txC [PV.int IntKind.i64 k, PV.int IntKind.i64 n, PV.str s, PV.slice (Dats.len ks) (Dats.cells ks)])))) + Int.ofNat r) ≤ Int.ofNat w), true), (Nat.ble (List.length b + ByteArray.size (mkS (txC [PV.int IntKind.i64 k, PV.int IntKind.i64 n, PV.str s, PV.slice (Dats.len ks) (Dats.cells ks)]))) 140737488355328, true)]) (by kernel_rfl) (by repeat' first | exact okO_nil | refine okN ?_ ?_ | assumption | rfl) (fun st hs => fin st _ lg.symm ?_)
      rw [hs, tx, bytesPL_append, List.length_append]; rfl
    · have c4 : Nat.ble (0 + ByteArray.size (mkS (txC [PV.int IntKind.i64 k, PV.int IntKind.i64 n, PV.str s, PV.slice (Dats.len ks) (Dats.cells ks)]))) 140737488355328 = true := by rw [Nat.ble_eq, hsz]; exact hb2
      refine SWP.runQ (SLR ih [(88, [(20, false), (25, false), (35, true), (39, true)])] []) 100 88 hnt [10] (e := .ret) (z := ⟨[(10, .own 0 (0 + ByteArray.size (mkS (txC [.int .i64 k, .int .i64 n, .str s, .slice (Dats.len ks) (Dats.cells ks)]))))], ⟨[⟨[.int .i64 k, .int .i64 n, .str s, .slice (Dats.len ks) (Dats.cells ks)], 24⟩], [some ⟨[] ++ bytesPV (mkS (txC [.int .i64 k, .int .i64 n, .str s, .slice (Dats.len ks) (Dats.cells ks)])), 0 + ByteArray.size (mkS (txC [.int .i64 k, .int .i64 n, .str s, .slice (Dats.len ks) (Dats.cells ks)])), 5, 1⟩]⟩⟩) (o := [(true, true), (isTxt [PV.int IntKind.i64 k, PV.int IntKind.i64 n, PV.str s, PV.slice (Dats.len ks) (Dats.cells ks)], true), (!k == (3 : Int), false), (Int.ofNat (Dats.len ks) == (0 : Int), false), (decide (IntKind.wrap IntKind.i64 (IntKind.wrap IntKind.i64 (Int.ofNat (c + ByteArray.size (mkS (txC [PV.int IntKind.i64 k, PV.int IntKind.i64 n, PV.str s, PV.slice (Dats.len ks) (Dats.cells ks)])))) + Int.ofNat r) ≤ Int.ofNat w), true), (Nat.ble (0 + ByteArray.size (mkS (txC [PV.int IntKind.i64 k, PV.int IntKind.i64 n, PV.str s, PV.slice (Dats.len ks) (Dats.cells ks)]))) 140737488355328, true)]) (by kernel_rfl) (by repeat' first | exact okO_nil | refine okN ?_ ?_ | assumption | rfl) (fun st hs => fin st _ lg.symm ?_)
      rw [hs, tx, bytesPL_append, List.length_append]; rfl
  have hnot : ¬ (ks.len = 0 ∨ c + (textD (.mk k n s ks)).length + r ≤ w) := fun h => h.elim h0 hft
  have c5 : decide (IntKind.wrap IntKind.i64 (IntKind.wrap IntKind.i64 ((↑c : Int) + (↑(ByteArray.size (mkS (txC [PV.int IntKind.i64 k, PV.int IntKind.i64 n, PV.str s, PV.slice (Dats.len ks) (Dats.cells ks)]))) : Int)) + (↑r : Int)) ≤ (↑w : Int)) = false := by rw [hwr, decide_eq_false_iff_not]; omega
  have lg : layG rS w (.mk k n s ks) c r b = layGL rS w ks true c r true (b ++ [40]) ++ [41] := by
    rw [layG, hmt]; simp only []; rw [if_neg hnot]; rfl
  have hT := layT_list w k n s ks c r hnot
  rw [hT] at hb
  simp only [List.length_cons, List.length_append, List.length_nil] at hb
  have hks : ks.size < N + 1 := by simp only [Dat.size] at hN; omega
  have hfk := hfk.2 hk
  have htx : (textD (.mk k n s ks)).length = (textL true ks).length + 2 := by subst hk; rw [textD, if_neg (by decide), if_neg (by decide)]; simp
  have wc1 := wrapC (c + 1) (by omega)
  have wc1' : IntKind.wrap IntKind.i64 ((c : Int) + 1) = ((c + 1 : Nat) : Int) := wc1
  have wc2 := wrapC (c + 2) (by omega)
  have wr1 := wrapC (r + 1) (by omega)
  have wr1' : IntKind.wrap IntKind.i64 ((r : Int) + 1) = ((r + 1 : Nat) : Int) := wr1
  have wl : IntKind.wrap IntKind.i64 (Int.ofNat (Dats.len ks) - (1 : Int)) = ((ks.len - 1 : Nat) : Int) := wrapD _ (by omega) (by omega)
  refine Q.runSeq (SLR ih [(88, [])] []) 100 88 hnt [0, 2, 3, 4, 6] (z := ⟨[(0, x), (2, .int .i64 c), (3, .int .i64 r), (4, .int .i64 w), (6, .ptr 0 0)], ⟨[DB k n s ks], rws⟩⟩) (o := []) (by kernel_rfl) okO_nil ?_
  refine Q.runSeq (SLR ih [(88, [])] []) 100 88 hnt [0, 2, 3, 4, 6, 11] (z := ⟨[(0, x), (2, .int .i64 c), (3, .int .i64 r), (4, .int .i64 w), (6, .ptr 0 0), (11, .str (mkS (txC [PV.int IntKind.i64 k, PV.int IntKind.i64 n, PV.str s, PV.slice (Dats.len ks) (Dats.cells ks)])))], ⟨[DB k n s ks], rws⟩⟩) (o := [(true, true), (isTxt [PV.int IntKind.i64 k, PV.int IntKind.i64 n, PV.str s, PV.slice (Dats.len ks) (Dats.cells ks)], true)]) (by kernel_rfl) (by repeat' first | exact okO_nil | refine okN ?_ ?_ | assumption | rfl) ?_
  refine Q.runSeq (SLR ih [(88, [(20, false), (25, false), (35, false)])] []) 100 88 hnt [0, 2, 3, 4, 6] (z := ⟨[(0, x), (2, .int .i64 c), (3, .int .i64 r), (4, .int .i64 w), (6, .ptr 0 0)], ⟨[DB k n s ks], rws⟩⟩) (o := [(!k == (3 : Int), false), (Int.ofNat (Dats.len ks) == (0 : Int), false), (decide (IntKind.wrap IntKind.i64 (IntKind.wrap IntKind.i64 ((↑c : Int) + (↑(ByteArray.size (mkS (txC [PV.int IntKind.i64 k, PV.int IntKind.i64 n, PV.str s, PV.slice (Dats.len ks) (Dats.cells ks)]))) : Int)) + (↑r : Int)) ≤ (↑w : Int)), false)]) (by kernel_rfl) (by repeat' first | exact okO_nil | refine okN ?_ ?_ | assumption | rfl) ?_
  refine Q.seq fun K hK => ?_
  have rest : ∀ st, nrm [0, 2, 3, 4, 6] st = ⟨[(0, .own 0 (b.length + 1)), (2, .int .i64 c), (3, .int .i64 r), (4, .int .i64 w), (6, .ptr 0 0)], ⟨[DB k n s ks], [some (bR (bytesPL b ++ [.int .u8 40]) (b.length + 1))]⟩⟩ → K st := fun st hs => hK st (.norm [0, 2, 3, 4, 6] (by
   rw [hs]
   clear hs hK
   let P (j : Nat) : List UInt8 := layGL rS w (ks.take j) true c r (decide (j = ks.len)) (b ++ [40])
   have hP0 : P 0 = b ++ [40] := by
     simp only [P]
     cases ks <;> rfl
   have hPl : P ks.len = layGL rS w ks true c r true (b ++ [40]) := by simp only [P, take_all, decide_true]
   let T (j : Nat) : AS := ⟨[(0, .own 0 (P j).length), (2, .int .i64 c), (3, .int .i64 r), (4, .int .i64 w), (6, .ptr 0 0), (12, .int .i64 j)], ⟨[DB k n s ks], [some (bR (bytesPL (P j)) (P j).length)]⟩⟩
   refine Q.seq fun K3 hK3 => ?_
   refine Q.runSeq (SLR ih [(88, [])] []) 100 88 hnt [0, 2, 3, 4, 6, 12] (z := T 0) (o := []) (by simp only [T, hP0, bytesPL_append, List.length_append]; kernel_rfl) okO_nil ?_
   refine Q.block ?_
   refine Q.loopI (σ := { j : Nat // j ≤ ks.len }) [0, 2, 3, 4, 6, 12] (fun j => T j.1) (fun j => ks.len - j.1) ⟨0, Nat.zero_le _⟩ rfl fun ⟨j, hj⟩ => ?_
   rcases Nat.lt_or_ge j ks.len with hlt | hge
   · obtain ⟨k', n', s', ks', hget⟩ := Dats.get_mk ks j
     have hsz := Dats.get_size ks j hlt
     have hoj := Dats.get_ok ks j hlt hok.2
     have hrj := Dats.get_rng ks j hlt hrng.2
     have hfj := (formedL_iff ks).1 hfk j hlt
     have htj := textL_get ks true j hlt
     have hPj : decide (j = ks.len) = false := decide_eq_false_iff_not.2 (by omega)
     have hPn : P (j + 1) = layG rS w (.mk k' n' s' ks') (if j = 0 ∧ true = true then c + 1 else c + 2) (if decide (j + 1 = ks.len) = true then r + 1 else 0) (if j = 0 ∧ true = true then P j else rS.line (c + 2) (P j)) := by
       have e0 : P (j + 1) = layGL rS w (ks.take (j + 1)) true c r (decide (j + 1 = ks.len)) (b ++ [40]) := rfl
       have e1 : P j = layGL rS w (ks.take j) true c r false (b ++ [40]) := by
         show layGL rS w (ks.take j) true c r (decide (j = ks.len)) (b ++ [40]) = _
         rw [hPj]
       rw [e0, e1, layGL_take rS w c r ks true j _ _ hlt, hget]
     have hbd : (P j).length + (if j = 0 then ([] : List UInt8) else 10 :: List.replicate (c + 2) 32).length + (layT w (.mk k' n' s' ks') (if j = 0 then c + 1 else c + 2) (if j + 1 = ks.len then r + 1 else 0)).length + 1 ≤ 140737488355328 := by
       have h1 : (P j).length = (b ++ [40]).length + (layTL w (ks.take j) true c r false).length := by
         show (layGL rS w (ks.take j) true c r (decide (j = ks.len)) (b ++ [40])).length = _
         rw [hPj, (lay_app w).2, List.length_append]
       have h2 := congrArg List.length (layTL_take w c r ks j (decide (j + 1 = ks.len)) hlt)
       have h3 : (layTL w (ks.take (j + 1)) true c r (decide (j + 1 = ks.len))).length ≤ (layTL w ks true c r true).length := by
         by_cases h : j + 1 = ks.len
         · rw [decide_eq_true h, h, take_all]; exact Nat.le_refl _
         · rw [decide_eq_false h]; exact layTL_mono w c r ks (j + 1) (by omega)
       rw [hget] at h2
       simp only [List.length_append, List.length_cons, List.length_nil, decide_eq_true_eq] at h1 h2
       omega
     rw [hget] at hsz hoj hrj hfj htj
     have hrl : ∀ w c r t, rlC w c r t [PV.int IntKind.i64 k', PV.int IntKind.i64 n', PV.str s', PV.slice (Dats.len ks') (Dats.cells ks')] = layG rS w (.mk k' n' s' ks') c r t := fun w c r b => rlC_at w c r b (.mk k' n' s' ks')
     have hlr : ∀ w c r, lrC w c r [PV.int IntKind.i64 k', PV.int IntKind.i64 n', PV.str s', PV.slice (Dats.len ks') (Dats.cells ks')] = (layT w (.mk k' n' s' ks') c r).length := fun w c r => lrC_at w c r (.mk k' n' s' ks')
     have d1 : isLay N [PV.int IntKind.i64 k', PV.int IntKind.i64 n', PV.str s', PV.slice (Dats.len ks') (Dats.cells ks')] = true := isLay_at (d := .mk k' n' s' ks') (by omega) hoj hrj hfj (by omega)
     have d2 := lt_at hlt
     have d3 := in_at hlt
     have d4 : decide (TD.size d24 ≤ List.length (List.drop (Int.toNat (j : Int) * TD.size d24) (Dats.cells ks))) = true := kid_len hlt
     have d5 := kid_same' hlt hget
     have wj' := wrapC (j + 1) (by omega)
     show SWP G0 C _ _ ⟨[(0, .own 0 (P j).length), (2, .int .i64 c), (3, .int .i64 r), (4, .int .i64 w), (6, .ptr 0 0), (12, .int .i64 j)], ⟨[DB k n s ks], [some (bR (bytesPL (P j)) (P j).length)]⟩⟩
     obtain ⟨p, hp⟩ : ∃ p, p = P j := ⟨_, rfl⟩
     rw [← hp] at hbd hPn ⊢
     clear hp hP0 hPl hK3
     by_cases hz : j = 0 <;> by_cases hl : j + 1 = ks.len
     · have e1 : (Int.ofNat j == IntKind.wrap IntKind.i64 (Int.ofNat (Dats.len ks) - (1 : Int))) = true := by
         rw [wl, beq_iff_eq]
         show (j : Int) = _
         omega
       have hPs : P (j + 1) = layG rS w (.mk k' n' s' ks') (c + 1) (r + 1) p := by
         simp only [hPn, and_true, decide_eq_true_eq, if_pos hz, if_pos hl]
         try rfl
       simp only [if_pos hz, if_pos hl, List.length_nil, List.length_cons, List.length_replicate] at hbd
       clear hPn
       have e2 : (Int.ofNat j == (0 : Int)) = true := by
         rw [beq_iff_eq]
         show (j : Int) = 0
         omega
       refine SWP.runQ (SLR ih [(88, [(47, true), (53, true), (72, true), (79, true), (80, true)])] [(88, [(80, .agg [.int .i64 k', .int .i64 n', .str s', .slice ks'.len ks'.cells])])]) 100 88 hnt [0, 2, 3, 4, 6, 12] (e := .normal) (z := ⟨[(0, .own 0 (List.length (rlC (Int.toNat (Int.ofNat w)) (Int.toNat (IntKind.wrap IntKind.i64 (Int.ofNat (c + 1)))) (Int.toNat (IntKind.wrap IntKind.i64 (Int.ofNat (r + 1)))) (bytesOf (bytesPL p)) [.int .i64 k', .int .i64 n', .str s', .slice (Dats.len ks') (Dats.cells ks')]))), (2, .int .i64 (Int.ofNat c)), (3, .int .i64 (Int.ofNat r)), (4, .int .i64 (Int.ofNat w)), (6, .ptr 0 0), (12, .int .i64 (IntKind.wrap IntKind.i64 (Int.ofNat (j + 1))))], ⟨[⟨[.int .i64 k, .int .i64 n, .str s, .slice (Dats.len ks) (Dats.cells ks)], 24⟩], [some ⟨bytesPL (rlC (Int.toNat (Int.ofNat w)) (Int.toNat (IntKind.wrap IntKind.i64 (Int.ofNat (c + 1)))) (Int.toNat (IntKind.wrap IntKind.i64 (Int.ofNat (r + 1)))) (bytesOf (bytesPL p)) [.int .i64 k', .int .i64 n', .str s', .slice (Dats.len ks') (Dats.cells ks')]), List.length (rlC (Int.toNat (Int.ofNat w)) (Int.toNat (IntKind.wrap IntKind.i64 (Int.ofNat (c + 1)))) (Int.toNat (IntKind.wrap IntKind.i64 (Int.ofNat (r + 1)))) (bytesOf (bytesPL p)) [.int .i64 k', .int .i64 n', .str s', .slice (Dats.len ks') (Dats.cells ks')]), 5, 1⟩]⟩⟩) (o := [(decide ((↑j : Int) < (↑(Dats.len ks) : Int)), true), (true, true), (Int.ofNat j == (0 : Int), true), (true, true), (Int.ofNat j == IntKind.wrap IntKind.i64 (Int.ofNat (Dats.len ks) - (1 : Int)), true), (true, true), (decide (0 ≤ (↑j : Int) ∧ (↑j : Int) < (↑(Dats.len ks) : Int)), true), (decide (TD.size d24 ≤ List.length (List.drop (Int.toNat (↑j : Int) * TD.size d24) (Dats.cells ks))), true), (same (PV.agg (List.take 4 (List.drop (Int.toNat (Int.ofNat j) * 4) (Dats.cells ks)))) (PV.agg [PV.int IntKind.i64 k', PV.int IntKind.i64 n', PV.str s', PV.slice (Dats.len ks') (Dats.cells ks')]), true), (isLay N [PV.int IntKind.i64 k', PV.int IntKind.i64 n', PV.str s', PV.slice (Dats.len ks') (Dats.cells ks')], true), (decide (0 ≤ (↑w : Int) ∧ (↑w : Int) ≤ 4398046511104), true), (decide (0 ≤ IntKind.wrap IntKind.i64 ((↑c : Int) + 1) ∧ IntKind.wrap IntKind.i64 ((↑c : Int) + 1) + 2 * (↑N : Int) ≤ 4398046511104), true), (decide (0 ≤ IntKind.wrap IntKind.i64 ((↑r : Int) + 1) ∧ IntKind.wrap IntKind.i64 ((↑r : Int) + 1) + (↑N : Int) ≤ 4398046511104), true), (Nat.beq (List.length p) (List.length p), true), (Nat.beq (List.length (bytesPL p)) (List.length p), true), (isBytes8 (bytesPL p), true), (Nat.ble (List.length p + lrC (Int.toNat (Int.ofNat w)) (Int.toNat (IntKind.wrap IntKind.i64 (Int.ofNat (c + 1)))) (Int.toNat (IntKind.wrap IntKind.i64 (Int.ofNat (r + 1)))) [PV.int IntKind.i64 k', PV.int IntKind.i64 n', PV.str s', PV.slice (Dats.len ks') (Dats.cells ks')]) 140737488355328, true)]) (by kernel_rfl) (by clear hPs; (repeat' (first | exact okO_nil | refine okN ?_ ?_)); all_goals first | (with_reducible rfl) | assumption | (simp only [Int.ofNat_eq_natCast, wc1, wc1', wr1, wr1', Int.toNat_natCast, isBytes8_PL, bytesPL_length, hlr]; done) | ((try simp only [Int.ofNat_eq_natCast, wc1, wc1', wr1, wr1', Int.toNat_natCast, isBytes8_PL, bytesPL_length, hlr]); simp only [decide_eq_true_eq, decide_eq_false_iff_not, Nat.ble_eq, Nat.beq_eq] <;> omega)) (fun st hs => ⟨⟨j + 1, hlt⟩, Nat.sub_lt_sub_left hlt (Nat.lt_succ_self j), ?_⟩)
       rw [hs]
       simp only [T, hPs]
       simp only [Int.ofNat_eq_natCast, wc1, wr1, Int.toNat_natCast, bytesOf_PL, hrl, wj']
       rfl
     · have e1 : (Int.ofNat j == IntKind.wrap IntKind.i64 (Int.ofNat (Dats.len ks) - (1 : Int))) = false := by
         rw [wl, beq_eq_false_iff_ne]
         show (j : Int) ≠ _
         omega
       have hPs : P (j + 1) = layG rS w (.mk k' n' s' ks') (c + 1) (0) p := by
         simp only [hPn, and_true, decide_eq_true_eq, if_pos hz, if_neg hl]
         try rfl
       simp only [if_pos hz, if_neg hl, List.length_nil, List.length_cons, List.length_replicate] at hbd
       clear hPn
       have e2 : (Int.ofNat j == (0 : Int)) = true := by
         rw [beq_iff_eq]
         show (j : Int) = 0
         omega
       refine SWP.runQ (SLR ih [(88, [(47, true), (53, true), (72, false), (79, true), (80, true)])] [(88, [(80, .agg [.int .i64 k', .int .i64 n', .str s', .slice ks'.len ks'.cells])])]) 100 88 hnt [0, 2, 3, 4, 6, 12] (e := .normal) (z := ⟨[(0, .own 0 (List.length (rlC (Int.toNat (Int.ofNat w)) (Int.toNat (IntKind.wrap IntKind.i64 (Int.ofNat (c + 1)))) 0 (bytesOf (bytesPL p)) [.int .i64 k', .int .i64 n', .str s', .slice (Dats.len ks') (Dats.cells ks')]))), (2, .int .i64 (Int.ofNat c)), (3, .int .i64 (Int.ofNat r)), (4, .int .i64 (Int.ofNat w)), (6, .ptr 0 0), (12, .int .i64 (IntKind.wrap IntKind.i64 (Int.ofNat (j + 1))))], ⟨[⟨[.int .i64 k, .int .i64 n, .str s, .slice (Dats.len ks) (Dats.cells ks)], 24⟩], [some ⟨bytesPL (rlC (Int.toNat (Int.ofNat w)) (Int.toNat (IntKind.wrap IntKind.i64 (Int.ofNat (c + 1)))) 0 (bytesOf (bytesPL p)) [.int .i64 k', .int .i64 n', .str s', .slice (Dats.len ks') (Dats.cells ks')]), List.length (rlC (Int.toNat (Int.ofNat w)) (Int.toNat (IntKind.wrap IntKind.i64 (Int.ofNat (c + 1)))) 0 (bytesOf (bytesPL p)) [.int .i64 k', .int .i64 n', .str s', .slice (Dats.len ks') (Dats.cells ks')]), 5, 1⟩]⟩⟩) (o := [(decide ((↑j : Int) < (↑(Dats.len ks) : Int)), true), (true, true), (Int.ofNat j == (0 : Int), true), (true, true), (Int.ofNat j == IntKind.wrap IntKind.i64 (Int.ofNat (Dats.len ks) - (1 : Int)), false), (false, false), (decide (0 ≤ (↑j : Int) ∧ (↑j : Int) < (↑(Dats.len ks) : Int)), true), (decide (TD.size d24 ≤ List.length (List.drop (Int.toNat (↑j : Int) * TD.size d24) (Dats.cells ks))), true), (same (PV.agg (List.take 4 (List.drop (Int.toNat (Int.ofNat j) * 4) (Dats.cells ks)))) (PV.agg [PV.int IntKind.i64 k', PV.int IntKind.i64 n', PV.str s', PV.slice (Dats.len ks') (Dats.cells ks')]), true), (isLay N [PV.int IntKind.i64 k', PV.int IntKind.i64 n', PV.str s', PV.slice (Dats.len ks') (Dats.cells ks')], true), (decide (0 ≤ (↑w : Int) ∧ (↑w : Int) ≤ 4398046511104), true), (decide (0 ≤ IntKind.wrap IntKind.i64 ((↑c : Int) + 1) ∧ IntKind.wrap IntKind.i64 ((↑c : Int) + 1) + 2 * (↑N : Int) ≤ 4398046511104), true), (decide ((0 : Int) ≤ 0 ∧ 0 + (↑N : Int) ≤ 4398046511104), true), (Nat.beq (List.length p) (List.length p), true), (Nat.beq (List.length (bytesPL p)) (List.length p), true), (isBytes8 (bytesPL p), true), (Nat.ble (List.length p + lrC (Int.toNat (Int.ofNat w)) (Int.toNat (IntKind.wrap IntKind.i64 (Int.ofNat (c + 1)))) 0 [PV.int IntKind.i64 k', PV.int IntKind.i64 n', PV.str s', PV.slice (Dats.len ks') (Dats.cells ks')]) 140737488355328, true)]) (by kernel_rfl) (by clear hPs; (repeat' (first | exact okO_nil | refine okN ?_ ?_)); all_goals first | (with_reducible rfl) | assumption | (simp only [Int.ofNat_eq_natCast, wc1, wc1', wr1, wr1', Int.toNat_natCast, isBytes8_PL, bytesPL_length, hlr]; done) | ((try simp only [Int.ofNat_eq_natCast, wc1, wc1', wr1, wr1', Int.toNat_natCast, isBytes8_PL, bytesPL_length, hlr]); simp only [decide_eq_true_eq, decide_eq_false_iff_not, Nat.ble_eq, Nat.beq_eq] <;> omega)) (fun st hs => ⟨⟨j + 1, hlt⟩, Nat.sub_lt_sub_left hlt (Nat.lt_succ_self j), ?_⟩)
       rw [hs]
       simp only [T, hPs]
       simp only [Int.ofNat_eq_natCast, wc1, wr1, Int.toNat_natCast, bytesOf_PL, hrl, wj']
       rfl
     · have e1 : (Int.ofNat j == IntKind.wrap IntKind.i64 (Int.ofNat (Dats.len ks) - (1 : Int))) = true := by
         rw [wl, beq_iff_eq]
         show (j : Int) = _
         omega
       have hPs : P (j + 1) = layG rS w (.mk k' n' s' ks') (c + 2) (r + 1) (p ++ 10 :: List.replicate (c + 2) 32) := by
         simp only [hPn, and_true, decide_eq_true_eq, if_neg hz, if_pos hl]
         try rfl
       simp only [if_neg hz, if_pos hl, List.length_nil, List.length_cons, List.length_replicate] at hbd
       clear hPn
       have e2 : (Int.ofNat j == (0 : Int)) = false := by
         rw [beq_eq_false_iff_ne]
         show (j : Int) ≠ 0
         omega
       refine Q.runSeq (SLR ih [(88, [(47, true)])] []) 100 88 hnt [0, 2, 3, 4, 6, 12] (z := ⟨[(0, .own 0 (List.length p)), (2, .int .i64 (Int.ofNat c)), (3, .int .i64 (Int.ofNat r)), (4, .int .i64 (Int.ofNat w)), (6, .ptr 0 0), (12, .int .i64 (Int.ofNat j))], ⟨[⟨[.int .i64 k, .int .i64 n, .str s, .slice (Dats.len ks) (Dats.cells ks)], 24⟩], [some ⟨bytesPL p, List.length p, 5, 1⟩]⟩⟩) (o := [(decide ((↑j : Int) < (↑(Dats.len ks) : Int)), true), (true, true)]) (by kernel_rfl) (by repeat' first | exact okO_nil | refine okN ?_ ?_ | assumption | rfl) ?_
       refine Q.seq fun K hK => ?_
       refine Q.block ?_
       refine Q.runSeq (SLR ih [(88, [])] []) 100 88 hnt [0, 2, 3, 4, 6, 12, 13, 14] (z := ⟨[(0, .own 0 (List.length p)), (2, .int .i64 (Int.ofNat c)), (3, .int .i64 (Int.ofNat r)), (4, .int .i64 (Int.ofNat w)), (6, .ptr 0 0), (12, .int .i64 (Int.ofNat j)), (13, .int .i64 (IntKind.wrap IntKind.i64 (Int.ofNat (c + 2)))), (14, .int .i64 (0 : Int))], ⟨[⟨[.int .i64 k, .int .i64 n, .str s, .slice (Dats.len ks) (Dats.cells ks)], 24⟩], [some ⟨bytesPL p, List.length p, 5, 1⟩]⟩⟩) (o := []) (by kernel_rfl) (by repeat' first | exact okO_nil | refine okN ?_ ?_ | assumption | rfl) ?_
       simp only [Int.ofNat_eq_natCast, wc2]
       refine Q.seq fun K2 hK2 => ?_
       refine Q.runSeq (SLR ih [(88, [(53, false)])] []) 100 88 hnt [0, 2, 3, 4, 6, 12, 13, 14, 53] (z := ⟨[(0, .own 0 (List.length p)), (2, .int .i64 (Int.ofNat c)), (3, .int .i64 (Int.ofNat r)), (4, .int .i64 (Int.ofNat w)), (6, .ptr 0 0), (12, .int .i64 (Int.ofNat j)), (13, .int .i64 (Int.ofNat (c + 2))), (14, .int .i64 (0 : Int)), (53, .bool false)], ⟨[⟨[.int .i64 k, .int .i64 n, .str s, .slice (Dats.len ks) (Dats.cells ks)], 24⟩], [some ⟨bytesPL p, List.length p, 5, 1⟩]⟩⟩) (o := [(Int.ofNat j == (0 : Int), false)]) (by kernel_rfl) (by repeat' first | exact okO_nil | refine okN ?_ ?_ | assumption | rfl) ?_
       refine Q.cond (b := false) rfl (fun h => by cases h) (fun _ => ?_)
       have d8 : Nat.ble ((List.length p + 1) * 1) 140737488355328 = true := by rw [Nat.ble_eq]; omega
       have d9 : Nat.ble (List.length p + 1) 9223372036854775807 = true := by rw [Nat.ble_eq]; omega
       refine Q.runSeq (SLR ih [(88, [(58, true)])] []) 100 88 hnt [0, 2, 3, 4, 6, 12, 13, 14] (z := ⟨[(0, .own 0 (List.length p + 1)), (2, .int .i64 (Int.ofNat c)), (3, .int .i64 (Int.ofNat r)), (4, .int .i64 (Int.ofNat w)), (6, .ptr 0 0), (12, .int .i64 (Int.ofNat j)), (13, .int .i64 (Int.ofNat (c + 2))), (14, .int .i64 (0 : Int))], ⟨[⟨[.int .i64 k, .int .i64 n, .str s, .slice (Dats.len ks) (Dats.cells ks)], 24⟩], [some ⟨bytesPL p ++ [PV.int IntKind.u8 (10 : Int)], List.length p + 1, 5, 1⟩]⟩⟩) (o := [(true, true), (Nat.ble ((List.length p + 1) * 1) 140737488355328, true), (Nat.ble (List.length p + 1) 9223372036854775807, true)]) (by kernel_rfl) (by repeat' first | exact okO_nil | refine okN ?_ ?_ | assumption | rfl) ?_
       let T2 (v : Nat) : AS := ⟨[(0, .own 0 (p ++ 10 :: List.replicate v 32).length), (2, .int .i64 c), (3, .int .i64 r), (4, .int .i64 w), (6, .ptr 0 0), (12, .int .i64 j), (13, .int .i64 (c + 2 : Nat)), (14, .int .i64 0), (15, .int .i64 v)], ⟨[DB k n s ks], [some (bR (bytesPL (p ++ 10 :: List.replicate v 32)) (p ++ 10 :: List.replicate v 32).length)]⟩⟩
       have hq0 : bytesPL p ++ [PV.int IntKind.u8 (10 : Int)] = bytesPL (p ++ 10 :: List.replicate 0 32) := by rw [bytesPL_append]; rfl
       have hq1 : List.length p + 1 = (p ++ 10 :: List.replicate 0 32).length := by simp
       refine Q.runSeq (SLR ih [(88, [])] []) 100 88 hnt [0, 2, 3, 4, 6, 12, 13, 14, 15] (z := T2 0) (o := []) (by rw [hq0, hq1]; kernel_rfl) (by repeat' first | exact okO_nil | refine okN ?_ ?_ | assumption | rfl) ?_
       refine Q.block ?_
       refine Q.loopI (σ := { v : Nat // v ≤ c + 2 }) [0, 2, 3, 4, 6, 12, 13, 14, 15] (fun v => T2 v.1) (fun v => c + 2 - v.1) ⟨0, Nat.zero_le _⟩ rfl fun ⟨v, hv⟩ => ?_
       obtain ⟨q, hq⟩ : ∃ q, q = p ++ 10 :: List.replicate v 32 := ⟨_, rfl⟩
       have hql : q.length = p.length + 1 + v := by rw [hq]; simp; omega
       show SWP G0 C _ _ ⟨[(0, .own 0 (p ++ 10 :: List.replicate v 32).length), (2, .int .i64 c), (3, .int .i64 r), (4, .int .i64 w), (6, .ptr 0 0), (12, .int .i64 j), (13, .int .i64 (c + 2 : Nat)), (14, .int .i64 0), (15, .int .i64 v)], ⟨[DB k n s ks], [some (bR (bytesPL (p ++ 10 :: List.replicate v 32)) (p ++ 10 :: List.replicate v 32).length)]⟩⟩
       rw [← hq]
       rcases Nat.lt_or_ge v (c + 2) with hvl | hvg
       · have g1 : decide ((↑v : Int) < (↑(c + 2) : Int)) = true := by rw [decide_eq_true_eq]; omega
         have g8 : Nat.ble ((List.length q + 1) * 1) 140737488355328 = true := by rw [Nat.ble_eq]; omega
         have g9 : Nat.ble (List.length q + 1) 9223372036854775807 = true := by rw [Nat.ble_eq]; omega
         have wv := wrapC (v + 1) (by omega)
         have hqs : q ++ [32] = p ++ 10 :: List.replicate (v + 1) 32 := by rw [hq, List.replicate_succ']; simp
         have hqb : bytesPL q ++ [PV.int IntKind.u8 (32 : Int)] = bytesPL (p ++ 10 :: List.replicate (v + 1) 32) := by rw [← hqs, bytesPL_append]; rfl
         have hqn : List.length q + 1 = (p ++ 10 :: List.replicate (v + 1) 32).length := by rw [← hqs]; simp
         refine SWP.runQ (SLR ih [(88, [(61, true), (66, true)])] []) 100 88 hnt [0, 2, 3, 4, 6, 12, 13, 14, 15] (e := .normal) (z := ⟨[(0, .own 0 (List.length q + 1)), (2, .int .i64 (Int.ofNat c)), (3, .int .i64 (Int.ofNat r)), (4, .int .i64 (Int.ofNat w)), (6, .ptr 0 0), (12, .int .i64 (Int.ofNat j)), (13, .int .i64 (Int.ofNat (c + 2))), (14, .int .i64 (0 : Int)), (15, .int .i64 (IntKind.wrap IntKind.i64 (Int.ofNat (v + 1))))], ⟨[⟨[.int .i64 k, .int .i64 n, .str s, .slice (Dats.len ks) (Dats.cells ks)], 24⟩], [some ⟨bytesPL q ++ [PV.int IntKind.u8 (32 : Int)], List.length q + 1, 5, 1⟩]⟩⟩) (o := [(decide ((↑v : Int) < (↑(c + 2) : Int)), true), (true, true), (true, true), (Nat.ble ((List.length q + 1) * 1) 140737488355328, true), (Nat.ble (List.length q + 1) 9223372036854775807, true)]) (by kernel_rfl) (by repeat' first | exact okO_nil | refine okN ?_ ?_ | assumption | rfl) (fun st hs => ⟨⟨v + 1, hvl⟩, Nat.sub_lt_sub_left hvl (Nat.lt_succ_self v), ?_⟩)
         rw [hs, hqb, hqn]
         simp only [Int.ofNat_eq_natCast, wv]
         rfl
       obtain rfl : v = c + 2 := by omega
       have g1 : decide ((↑(c + 2) : Int) < (↑(c + 2) : Int)) = false := by rw [decide_eq_false_iff_not]; omega
       refine SWP.runQ (SLR ih [(88, [(61, false)])] []) 100 88 hnt [0, 2, 3, 4, 6, 12, 13, 14] (e := .exit 2) (z := ⟨[(0, .own 0 q.length), (2, .int .i64 c), (3, .int .i64 r), (4, .int .i64 w), (6, .ptr 0 0), (12, .int .i64 j), (13, .int .i64 (c + 2 : Nat)), (14, .int .i64 0)], ⟨[DB k n s ks], [some (bR (bytesPL q) q.length)]⟩⟩) (o := [(decide ((↑(c + 2) : Int) < (↑(c + 2) : Int)), false), (false, false)]) (by kernel_rfl) (by repeat' first | exact okO_nil | refine okN ?_ ?_ | assumption | rfl) (fun st hs => hK2 st (.norm [0, 2, 3, 4, 6, 12, 13, 14] ?_))
       rw [hs]
       clear hs hK2
       rw [← hq] at hPs
       refine SWP.runQ (SLR ih [(88, [(72, true), (79, true), (80, true)])] [(88, [(80, .agg [.int .i64 k', .int .i64 n', .str s', .slice ks'.len ks'.cells])])]) 100 88 hnt [0, 2, 3, 4, 6, 12] (e := .normal) (z := ⟨[(0, .own 0 (List.length (rlC (Int.toNat (Int.ofNat w)) (Int.toNat (Int.ofNat (c + 2))) (Int.toNat (IntKind.wrap IntKind.i64 (Int.ofNat (r + 1)))) (bytesOf (bytesPL q)) [.int .i64 k', .int .i64 n', .str s', .slice (Dats.len ks') (Dats.cells ks')]))), (2, .int .i64 (Int.ofNat c)), (3, .int .i64 (Int.ofNat r)), (4, .int .i64 (Int.ofNat w)), (6, .ptr 0 0), (12, .int .i64 (Int.ofNat j))], ⟨[⟨[.int .i64 k, .int .i64 n, .str s, .slice (Dats.len ks) (Dats.cells ks)], 24⟩], [some ⟨bytesPL (rlC (Int.toNat (Int.ofNat w)) (Int.toNat (Int.ofNat (c + 2))) (Int.toNat (IntKind.wrap IntKind.i64 (Int.ofNat (r + 1)))) (bytesOf (bytesPL q)) [.int .i64 k', .int .i64 n', .str s', .slice (Dats.len ks') (Dats.cells ks')]), List.length (rlC (Int.toNat (Int.ofNat w)) (Int.toNat (Int.ofNat (c + 2))) (Int.toNat (IntKind.wrap IntKind.i64 (Int.ofNat (r + 1)))) (bytesOf (bytesPL q)) [.int .i64 k', .int .i64 n', .str s', .slice (Dats.len ks') (Dats.cells ks')]), 5, 1⟩]⟩⟩) (o := [(Int.ofNat j == IntKind.wrap IntKind.i64 (Int.ofNat (Dats.len ks) - (1 : Int)), true), (true, true), (decide (0 ≤ (↑j : Int) ∧ (↑j : Int) < (↑(Dats.len ks) : Int)), true), (decide (TD.size d24 ≤ List.length (List.drop (Int.toNat (↑j : Int) * TD.size d24) (Dats.cells ks))), true), (same (PV.agg (List.take 4 (List.drop (Int.toNat (Int.ofNat j) * 4) (Dats.cells ks)))) (PV.agg [PV.int IntKind.i64 k', PV.int IntKind.i64 n', PV.str s', PV.slice (Dats.len ks') (Dats.cells ks')]), true), (isLay N [PV.int IntKind.i64 k', PV.int IntKind.i64 n', PV.str s', PV.slice (Dats.len ks') (Dats.cells ks')], true), (decide (0 ≤ (↑w : Int) ∧ (↑w : Int) ≤ 4398046511104), true), (decide (0 ≤ (↑(c + 2) : Int) ∧ (↑(c + 2) : Int) + 2 * (↑N : Int) ≤ 4398046511104), true), (decide (0 ≤ IntKind.wrap IntKind.i64 ((↑r : Int) + 1) ∧ IntKind.wrap IntKind.i64 ((↑r : Int) + 1) + (↑N : Int) ≤ 4398046511104), true), (Nat.beq (List.length q) (List.length q), true), (Nat.beq (List.length (bytesPL q)) (List.length q), true), (isBytes8 (bytesPL q), true), (Nat.ble (List.length q + lrC (Int.toNat (Int.ofNat w)) (Int.toNat (Int.ofNat (c + 2))) (Int.toNat (IntKind.wrap IntKind.i64 (Int.ofNat (r + 1)))) [PV.int IntKind.i64 k', PV.int IntKind.i64 n', PV.str s', PV.slice (Dats.len ks') (Dats.cells ks')]) 140737488355328, true)]) (by kernel_rfl) (by clear hPs; (repeat' (first | exact okO_nil | refine okN ?_ ?_)); all_goals first | (with_reducible rfl) | assumption | (simp only [Int.ofNat_eq_natCast, wc1, wc1', wr1, wr1', Int.toNat_natCast, isBytes8_PL, bytesPL_length, hlr]; done) | ((try simp only [Int.ofNat_eq_natCast, wc1, wc1', wr1, wr1', Int.toNat_natCast, isBytes8_PL, bytesPL_length, hlr]); simp only [decide_eq_true_eq, decide_eq_false_iff_not, Nat.ble_eq, Nat.beq_eq] <;> omega)) (fun st hs => hK st (.norm [0, 2, 3, 4, 6, 12] ?_))
       rw [hs]
       simp only [Int.ofNat_eq_natCast, wc2, wr1, Int.toNat_natCast, bytesOf_PL, hrl]
       rw [← hPs]
       obtain ⟨p2, hp2⟩ : ∃ x, x = P (j + 1) := ⟨_, rfl⟩
       rw [← hp2]
       refine SWP.runQ (SLR ih [(88, [])] []) 100 88 hnt [0, 2, 3, 4, 6, 12] (e := .normal) (z := ⟨[(0, .own 0 (List.length p2)), (2, .int .i64 (Int.ofNat c)), (3, .int .i64 (Int.ofNat r)), (4, .int .i64 (Int.ofNat w)), (6, .ptr 0 0), (12, .int .i64 (IntKind.wrap IntKind.i64 (Int.ofNat (j + 1))))], ⟨[⟨[.int .i64 k, .int .i64 n, .str s, .slice (Dats.len ks) (Dats.cells ks)], 24⟩], [some ⟨bytesPL p2, List.length p2, 5, 1⟩]⟩⟩) (o := []) (by kernel_rfl) (by repeat' first | exact okO_nil | refine okN ?_ ?_ | assumption | rfl) (fun st hs => ⟨⟨j + 1, hlt⟩, Nat.sub_lt_sub_left hlt (Nat.lt_succ_self j), ?_⟩)
       rw [hs, hp2]
       simp only [Int.ofNat_eq_natCast, wj']
       rfl
     · have e1 : (Int.ofNat j == IntKind.wrap IntKind.i64 (Int.ofNat (Dats.len ks) - (1 : Int))) = false := by
         rw [wl, beq_eq_false_iff_ne]
         show (j : Int) ≠ _
         omega
       have hPs : P (j + 1) = layG rS w (.mk k' n' s' ks') (c + 2) (0) (p ++ 10 :: List.replicate (c + 2) 32) := by
         simp only [hPn, and_true, decide_eq_true_eq, if_neg hz, if_neg hl]
         try rfl
       simp only [if_neg hz, if_neg hl, List.length_nil, List.length_cons, List.length_replicate] at hbd
       clear hPn
       have e2 : (Int.ofNat j == (0 : Int)) = false := by
         rw [beq_eq_false_iff_ne]
         show (j : Int) ≠ 0
         omega
       refine Q.runSeq (SLR ih [(88, [(47, true)])] []) 100 88 hnt [0, 2, 3, 4, 6, 12] (z := ⟨[(0, .own 0 (List.length p)), (2, .int .i64 (Int.ofNat c)), (3, .int .i64 (Int.ofNat r)), (4, .int .i64 (Int.ofNat w)), (6, .ptr 0 0), (12, .int .i64 (Int.ofNat j))], ⟨[⟨[.int .i64 k, .int .i64 n, .str s, .slice (Dats.len ks) (Dats.cells ks)], 24⟩], [some ⟨bytesPL p, List.length p, 5, 1⟩]⟩⟩) (o := [(decide ((↑j : Int) < (↑(Dats.len ks) : Int)), true), (true, true)]) (by kernel_rfl) (by repeat' first | exact okO_nil | refine okN ?_ ?_ | assumption | rfl) ?_
       refine Q.seq fun K hK => ?_
       refine Q.block ?_
       refine Q.runSeq (SLR ih [(88, [])] []) 100 88 hnt [0, 2, 3, 4, 6, 12, 13, 14] (z := ⟨[(0, .own 0 (List.length p)), (2, .int .i64 (Int.ofNat c)), (3, .int .i64 (Int.ofNat r)), (4, .int .i64 (Int.ofNat w)), (6, .ptr 0 0), (12, .int .i64 (Int.ofNat j)), (13, .int .i64 (IntKind.wrap IntKind.i64 (Int.ofNat (c + 2)))), (14, .int .i64 (0 : Int))], ⟨[⟨[.int .i64 k, .int .i64 n, .str s, .slice (Dats.len ks) (Dats.cells ks)], 24⟩], [some ⟨bytesPL p, List.length p, 5, 1⟩]⟩⟩) (o := []) (by kernel_rfl) (by repeat' first | exact okO_nil | refine okN ?_ ?_ | assumption | rfl) ?_
       simp only [Int.ofNat_eq_natCast, wc2]
       refine Q.seq fun K2 hK2 => ?_
       refine Q.runSeq (SLR ih [(88, [(53, false)])] []) 100 88 hnt [0, 2, 3, 4, 6, 12, 13, 14, 53] (z := ⟨[(0, .own 0 (List.length p)), (2, .int .i64 (Int.ofNat c)), (3, .int .i64 (Int.ofNat r)), (4, .int .i64 (Int.ofNat w)), (6, .ptr 0 0), (12, .int .i64 (Int.ofNat j)), (13, .int .i64 (Int.ofNat (c + 2))), (14, .int .i64 (0 : Int)), (53, .bool false)], ⟨[⟨[.int .i64 k, .int .i64 n, .str s, .slice (Dats.len ks) (Dats.cells ks)], 24⟩], [some ⟨bytesPL p, List.length p, 5, 1⟩]⟩⟩) (o := [(Int.ofNat j == (0 : Int), false)]) (by kernel_rfl) (by repeat' first | exact okO_nil | refine okN ?_ ?_ | assumption | rfl) ?_
       refine Q.cond (b := false) rfl (fun h => by cases h) (fun _ => ?_)
       have d8 : Nat.ble ((List.length p + 1) * 1) 140737488355328 = true := by rw [Nat.ble_eq]; omega
       have d9 : Nat.ble (List.length p + 1) 9223372036854775807 = true := by rw [Nat.ble_eq]; omega
       refine Q.runSeq (SLR ih [(88, [(58, true)])] []) 100 88 hnt [0, 2, 3, 4, 6, 12, 13, 14] (z := ⟨[(0, .own 0 (List.length p + 1)), (2, .int .i64 (Int.ofNat c)), (3, .int .i64 (Int.ofNat r)), (4, .int .i64 (Int.ofNat w)), (6, .ptr 0 0), (12, .int .i64 (Int.ofNat j)), (13, .int .i64 (Int.ofNat (c + 2))), (14, .int .i64 (0 : Int))], ⟨[⟨[.int .i64 k, .int .i64 n, .str s, .slice (Dats.len ks) (Dats.cells ks)], 24⟩], [some ⟨bytesPL p ++ [PV.int IntKind.u8 (10 : Int)], List.length p + 1, 5, 1⟩]⟩⟩) (o := [(true, true), (Nat.ble ((List.length p + 1) * 1) 140737488355328, true), (Nat.ble (List.length p + 1) 9223372036854775807, true)]) (by kernel_rfl) (by repeat' first | exact okO_nil | refine okN ?_ ?_ | assumption | rfl) ?_
       let T2 (v : Nat) : AS := ⟨[(0, .own 0 (p ++ 10 :: List.replicate v 32).length), (2, .int .i64 c), (3, .int .i64 r), (4, .int .i64 w), (6, .ptr 0 0), (12, .int .i64 j), (13, .int .i64 (c + 2 : Nat)), (14, .int .i64 0), (15, .int .i64 v)], ⟨[DB k n s ks], [some (bR (bytesPL (p ++ 10 :: List.replicate v 32)) (p ++ 10 :: List.replicate v 32).length)]⟩⟩
       have hq0 : bytesPL p ++ [PV.int IntKind.u8 (10 : Int)] = bytesPL (p ++ 10 :: List.replicate 0 32) := by rw [bytesPL_append]; rfl
       have hq1 : List.length p + 1 = (p ++ 10 :: List.replicate 0 32).length := by simp
       refine Q.runSeq (SLR ih [(88, [])] []) 100 88 hnt [0, 2, 3, 4, 6, 12, 13, 14, 15] (z := T2 0) (o := []) (by rw [hq0, hq1]; kernel_rfl) (by repeat' first | exact okO_nil | refine okN ?_ ?_ | assumption | rfl) ?_
       refine Q.block ?_
       refine Q.loopI (σ := { v : Nat // v ≤ c + 2 }) [0, 2, 3, 4, 6, 12, 13, 14, 15] (fun v => T2 v.1) (fun v => c + 2 - v.1) ⟨0, Nat.zero_le _⟩ rfl fun ⟨v, hv⟩ => ?_
       obtain ⟨q, hq⟩ : ∃ q, q = p ++ 10 :: List.replicate v 32 := ⟨_, rfl⟩
       have hql : q.length = p.length + 1 + v := by rw [hq]; simp; omega
       show SWP G0 C _ _ ⟨[(0, .own 0 (p ++ 10 :: List.replicate v 32).length), (2, .int .i64 c), (3, .int .i64 r), (4, .int .i64 w), (6, .ptr 0 0), (12, .int .i64 j), (13, .int .i64 (c + 2 : Nat)), (14, .int .i64 0), (15, .int .i64 v)], ⟨[DB k n s ks], [some (bR (bytesPL (p ++ 10 :: List.replicate v 32)) (p ++ 10 :: List.replicate v 32).length)]⟩⟩
       rw [← hq]
       rcases Nat.lt_or_ge v (c + 2) with hvl | hvg
       · have g1 : decide ((↑v : Int) < (↑(c + 2) : Int)) = true := by rw [decide_eq_true_eq]; omega
         have g8 : Nat.ble ((List.length q + 1) * 1) 140737488355328 = true := by rw [Nat.ble_eq]; omega
         have g9 : Nat.ble (List.length q + 1) 9223372036854775807 = true := by rw [Nat.ble_eq]; omega
         have wv := wrapC (v + 1) (by omega)
         have hqs : q ++ [32] = p ++ 10 :: List.replicate (v + 1) 32 := by rw [hq, List.replicate_succ']; simp
         have hqb : bytesPL q ++ [PV.int IntKind.u8 (32 : Int)] = bytesPL (p ++ 10 :: List.replicate (v + 1) 32) := by rw [← hqs, bytesPL_append]; rfl
         have hqn : List.length q + 1 = (p ++ 10 :: List.replicate (v + 1) 32).length := by rw [← hqs]; simp
         refine SWP.runQ (SLR ih [(88, [(61, true), (66, true)])] []) 100 88 hnt [0, 2, 3, 4, 6, 12, 13, 14, 15] (e := .normal) (z := ⟨[(0, .own 0 (List.length q + 1)), (2, .int .i64 (Int.ofNat c)), (3, .int .i64 (Int.ofNat r)), (4, .int .i64 (Int.ofNat w)), (6, .ptr 0 0), (12, .int .i64 (Int.ofNat j)), (13, .int .i64 (Int.ofNat (c + 2))), (14, .int .i64 (0 : Int)), (15, .int .i64 (IntKind.wrap IntKind.i64 (Int.ofNat (v + 1))))], ⟨[⟨[.int .i64 k, .int .i64 n, .str s, .slice (Dats.len ks) (Dats.cells ks)], 24⟩], [some ⟨bytesPL q ++ [PV.int IntKind.u8 (32 : Int)], List.length q + 1, 5, 1⟩]⟩⟩) (o := [(decide ((↑v : Int) < (↑(c + 2) : Int)), true), (true, true), (true, true), (Nat.ble ((List.length q + 1) * 1) 140737488355328, true), (Nat.ble (List.length q + 1) 9223372036854775807, true)]) (by kernel_rfl) (by repeat' first | exact okO_nil | refine okN ?_ ?_ | assumption | rfl) (fun st hs => ⟨⟨v + 1, hvl⟩, Nat.sub_lt_sub_left hvl (Nat.lt_succ_self v), ?_⟩)
         rw [hs, hqb, hqn]
         simp only [Int.ofNat_eq_natCast, wv]
         rfl
       obtain rfl : v = c + 2 := by omega
       have g1 : decide ((↑(c + 2) : Int) < (↑(c + 2) : Int)) = false := by rw [decide_eq_false_iff_not]; omega
       refine SWP.runQ (SLR ih [(88, [(61, false)])] []) 100 88 hnt [0, 2, 3, 4, 6, 12, 13, 14] (e := .exit 2) (z := ⟨[(0, .own 0 q.length), (2, .int .i64 c), (3, .int .i64 r), (4, .int .i64 w), (6, .ptr 0 0), (12, .int .i64 j), (13, .int .i64 (c + 2 : Nat)), (14, .int .i64 0)], ⟨[DB k n s ks], [some (bR (bytesPL q) q.length)]⟩⟩) (o := [(decide ((↑(c + 2) : Int) < (↑(c + 2) : Int)), false), (false, false)]) (by kernel_rfl) (by repeat' first | exact okO_nil | refine okN ?_ ?_ | assumption | rfl) (fun st hs => hK2 st (.norm [0, 2, 3, 4, 6, 12, 13, 14] ?_))
       rw [hs]
       clear hs hK2
       rw [← hq] at hPs
       refine SWP.runQ (SLR ih [(88, [(72, false), (79, true), (80, true)])] [(88, [(80, .agg [.int .i64 k', .int .i64 n', .str s', .slice ks'.len ks'.cells])])]) 100 88 hnt [0, 2, 3, 4, 6, 12] (e := .normal) (z := ⟨[(0, .own 0 (List.length (rlC (Int.toNat (Int.ofNat w)) (Int.toNat (Int.ofNat (c + 2))) 0 (bytesOf (bytesPL q)) [.int .i64 k', .int .i64 n', .str s', .slice (Dats.len ks') (Dats.cells ks')]))), (2, .int .i64 (Int.ofNat c)), (3, .int .i64 (Int.ofNat r)), (4, .int .i64 (Int.ofNat w)), (6, .ptr 0 0), (12, .int .i64 (Int.ofNat j))], ⟨[⟨[.int .i64 k, .int .i64 n, .str s, .slice (Dats.len ks) (Dats.cells ks)], 24⟩], [some ⟨bytesPL (rlC (Int.toNat (Int.ofNat w)) (Int.toNat (Int.ofNat (c + 2))) 0 (bytesOf (bytesPL q)) [.int .i64 k', .int .i64 n', .str s', .slice (Dats.len ks') (Dats.cells ks')]), List.length (rlC (Int.toNat (Int.ofNat w)) (Int.toNat (Int.ofNat (c + 2))) 0 (bytesOf (bytesPL q)) [.int .i64 k', .int .i64 n', .str s', .slice (Dats.len ks') (Dats.cells ks')]), 5, 1⟩]⟩⟩) (o := [(Int.ofNat j == IntKind.wrap IntKind.i64 (Int.ofNat (Dats.len ks) - (1 : Int)), false), (false, false), (decide (0 ≤ (↑j : Int) ∧ (↑j : Int) < (↑(Dats.len ks) : Int)), true), (decide (TD.size d24 ≤ List.length (List.drop (Int.toNat (↑j : Int) * TD.size d24) (Dats.cells ks))), true), (same (PV.agg (List.take 4 (List.drop (Int.toNat (Int.ofNat j) * 4) (Dats.cells ks)))) (PV.agg [PV.int IntKind.i64 k', PV.int IntKind.i64 n', PV.str s', PV.slice (Dats.len ks') (Dats.cells ks')]), true), (isLay N [PV.int IntKind.i64 k', PV.int IntKind.i64 n', PV.str s', PV.slice (Dats.len ks') (Dats.cells ks')], true), (decide (0 ≤ (↑w : Int) ∧ (↑w : Int) ≤ 4398046511104), true), (decide (0 ≤ (↑(c + 2) : Int) ∧ (↑(c + 2) : Int) + 2 * (↑N : Int) ≤ 4398046511104), true), (decide ((0 : Int) ≤ 0 ∧ 0 + (↑N : Int) ≤ 4398046511104), true), (Nat.beq (List.length q) (List.length q), true), (Nat.beq (List.length (bytesPL q)) (List.length q), true), (isBytes8 (bytesPL q), true), (Nat.ble (List.length q + lrC (Int.toNat (Int.ofNat w)) (Int.toNat (Int.ofNat (c + 2))) 0 [PV.int IntKind.i64 k', PV.int IntKind.i64 n', PV.str s', PV.slice (Dats.len ks') (Dats.cells ks')]) 140737488355328, true)]) (by kernel_rfl) (by clear hPs; (repeat' (first | exact okO_nil | refine okN ?_ ?_)); all_goals first | (with_reducible rfl) | assumption | (simp only [Int.ofNat_eq_natCast, wc1, wc1', wr1, wr1', Int.toNat_natCast, isBytes8_PL, bytesPL_length, hlr]; done) | ((try simp only [Int.ofNat_eq_natCast, wc1, wc1', wr1, wr1', Int.toNat_natCast, isBytes8_PL, bytesPL_length, hlr]); simp only [decide_eq_true_eq, decide_eq_false_iff_not, Nat.ble_eq, Nat.beq_eq] <;> omega)) (fun st hs => hK st (.norm [0, 2, 3, 4, 6, 12] ?_))
       rw [hs]
       simp only [Int.ofNat_eq_natCast, wc2, wr1, Int.toNat_natCast, bytesOf_PL, hrl]
       rw [← hPs]
       obtain ⟨p2, hp2⟩ : ∃ x, x = P (j + 1) := ⟨_, rfl⟩
       rw [← hp2]
       refine SWP.runQ (SLR ih [(88, [])] []) 100 88 hnt [0, 2, 3, 4, 6, 12] (e := .normal) (z := ⟨[(0, .own 0 (List.length p2)), (2, .int .i64 (Int.ofNat c)), (3, .int .i64 (Int.ofNat r)), (4, .int .i64 (Int.ofNat w)), (6, .ptr 0 0), (12, .int .i64 (IntKind.wrap IntKind.i64 (Int.ofNat (j + 1))))], ⟨[⟨[.int .i64 k, .int .i64 n, .str s, .slice (Dats.len ks) (Dats.cells ks)], 24⟩], [some ⟨bytesPL p2, List.length p2, 5, 1⟩]⟩⟩) (o := []) (by kernel_rfl) (by repeat' first | exact okO_nil | refine okN ?_ ?_ | assumption | rfl) (fun st hs => ⟨⟨j + 1, hlt⟩, Nat.sub_lt_sub_left hlt (Nat.lt_succ_self j), ?_⟩)
       rw [hs, hp2]
       simp only [Int.ofNat_eq_natCast, wj']
       rfl
   · obtain rfl : j = ks.len := by omega
     have d2 := ge_at hge
     have hpl : (P ks.len).length = b.length + 1 + (layTL w ks true c r true).length := by
       rw [hPl, (lay_app w).2]; simp; omega
     show SWP G0 C _ _ ⟨[(0, .own 0 (P ks.len).length), (2, .int .i64 c), (3, .int .i64 r), (4, .int .i64 w), (6, .ptr 0 0), (12, .int .i64 ks.len)], ⟨[DB k n s ks], [some (bR (bytesPL (P ks.len)) (P ks.len).length)]⟩⟩
     obtain ⟨p, hp⟩ : ∃ x, x = P ks.len := ⟨_, rfl⟩
     rw [← hp] at hpl hPl ⊢
     refine SWP.runQ (SLR ih [(88, [(47, false)])] []) 100 88 hnt [0, 2, 3, 4, 6] (e := .exit 0) (z := ⟨[(0, .own 0 (List.length p)), (2, .int .i64 (Int.ofNat c)), (3, .int .i64 (Int.ofNat r)), (4, .int .i64 (Int.ofNat w)), (6, .ptr 0 0)], ⟨[⟨[.int .i64 k, .int .i64 n, .str s, .slice (Dats.len ks) (Dats.cells ks)], 24⟩], [some ⟨bytesPL p, List.length p, 5, 1⟩]⟩⟩) (o := [(decide ((ks.len : Int) < (ks.len : Int)), false), (false, false)]) (by kernel_rfl) (by repeat' first | exact okO_nil | refine okN ?_ ?_ | assumption | rfl) (fun st hs => hK3 st (.norm [0, 2, 3, 4, 6] ?_))
     rw [hs]
     have d8 : Nat.ble ((List.length p + 1) * 1) 140737488355328 = true := by rw [Nat.ble_eq]; omega
     have d9 : Nat.ble (List.length p + 1) 9223372036854775807 = true := by rw [Nat.ble_eq]; omega
     refine SWP.runQ (SLR ih [(88, [(87, true)])] []) 100 88 hnt [10] (e := .ret) (z := ⟨[(10, .own 0 (List.length p + 1))], ⟨[⟨[.int .i64 k, .int .i64 n, .str s, .slice (Dats.len ks) (Dats.cells ks)], 24⟩], [some ⟨bytesPL p ++ [PV.int IntKind.u8 (41 : Int)], List.length p + 1, 5, 1⟩]⟩⟩) (o := [(true, true), (Nat.ble ((List.length p + 1) * 1) 140737488355328, true), (Nat.ble (List.length p + 1) 9223372036854775807, true)]) (by kernel_rfl) (by repeat' first | exact okO_nil | refine okN ?_ ?_ | assumption | rfl) (fun st hs => fin st (p ++ [41]) (by rw [lg, hPl]) ?_)
     rw [hs, bytesPL_append, List.length_append]; rfl))
  rcases hB with ⟨rfl, rfl⟩ | ⟨rfl, rfl, rfl⟩
  · have d8 : Nat.ble ((List.length b + 1) * 1) 140737488355328 = true := by rw [Nat.ble_eq]; omega
    have d9 : Nat.ble (List.length b + 1) 9223372036854775807 = true := by rw [Nat.ble_eq]; omega
    exact SWP.runQ (SLR ih [(88, [(42, true)])] []) 100 88 hnt [0, 2, 3, 4, 6] (e := .normal) (z := ⟨[(0, .own 0 (List.length b + 1)), (2, .int .i64 (Int.ofNat c)), (3, .int .i64 (Int.ofNat r)), (4, .int .i64 (Int.ofNat w)), (6, .ptr 0 0)], ⟨[⟨[.int .i64 k, .int .i64 n, .str s, .slice (Dats.len ks) (Dats.cells ks)], 24⟩], [some ⟨bytesPL b ++ [PV.int IntKind.u8 (40 : Int)], List.length b + 1, 5, 1⟩]⟩⟩) (o := [(true, true), (Nat.ble ((List.length b + 1) * 1) 140737488355328, true), (Nat.ble (List.length b + 1) 9223372036854775807, true)]) (by kernel_rfl) (by repeat' first | exact okO_nil | refine okN ?_ ?_ | assumption | rfl) (fun st hs => rest st hs)
  · exact SWP.runQ (SLR ih [(88, [(42, true)])] []) 100 88 hnt [0, 2, 3, 4, 6] (e := .normal) (z := ⟨[(0, .own 0 1), (2, .int .i64 (Int.ofNat c)), (3, .int .i64 (Int.ofNat r)), (4, .int .i64 (Int.ofNat w)), (6, .ptr 0 0)], ⟨[⟨[.int .i64 k, .int .i64 n, .str s, .slice (Dats.len ks) (Dats.cells ks)], 24⟩], [some ⟨[PV.int IntKind.u8 (40 : Int)], 1, 5, 1⟩]⟩⟩) (o := [(true, true), (true, true), (true, true)]) (by kernel_rfl) (by repeat' first | exact okO_nil | refine okN ?_ ?_ | assumption | rfl) (fun st hs => rest st hs)
theorem rlayAt (N : Nat) : RLayAt N := by
  induction N with
  | zero => intro d h; omega
  | succ N ih => exact fun d hN hok hrng hf ht w c r hw hc hr b hb => rlay_gen ih d hN hok hrng hf ht w c r hw hc hr _ _ b (.inl ⟨rfl, rfl⟩) hb
theorem rlay_new (d : Dat) (hok : d.ok) (hrng : d.rng) (hf : formedD d = true) (ht : (textD d).length ≤ 4398046511104) (w c r : Nat) (hw : w ≤ 4398046511104) (hc : c + 2 * (d.size + 2) ≤ 4398046511104) (hr : r + (d.size + 2) ≤ 4398046511104) (hb : (layT w d c r).length ≤ 140737488355328) :
    RCalls G0 22 [.nil, .agg d.cells, .int .i64 c, .int .i64 r, .int .i64 w] ⟨[], []⟩ (fun o H => o = .ret (.own 0 (layT w d c r).length) ∧ H = ⟨[], [some (bR (bytesPL (layT w d c r)) (layT w d c r).length)]⟩) :=
  rlay_gen (rlayAt (d.size + 1)) d (by omega) hok hrng hf ht w c r hw (by omega) (by omega) .nil [] [] (.inr ⟨rfl, rfl, rfl⟩) (by simpa using hb)
end Seat
end Go.Proofs.YtkblfapbakfgpaaGreatDoor
namespace Go.Proofs.YtkblfapbakfgpaaGreatDoor
open Go.AS Go.RowKit
set_option linter.unusedVariables false
set_option linter.unusedSimpArgs false
set_option maxRecDepth 100000
namespace Seat
mutual
theorem size_parts : ∀ d : Dat, d.size + 1 = 2 * parts d
  | .mk k n s ks => by simp only [Dat.size, parts]; have := size_partsL ks; omega
theorem size_partsL : ∀ ks : Dats, ks.size = 2 * partsL ks
  | .nil => rfl
  | .cons d ds => by simp only [Dats.size, partsL]; have := size_parts d; have := size_partsL ds; omega
end
theorem itoa_len (n : Int) (h0 : -9223372036854775808 ≤ n) (h1 : n ≤ 9223372036854775807) : (Go.Lib.itoa n).length ≤ 21 := by
  have h10 : ∀ u : Nat, u ≤ 9223372036854775808 → Go.Lib.nDigits u ≤ 20 := fun u hu => nd_le 19 u (by rw [show (10 : Nat) ^ (19 + 1) = 100000000000000000000 from rfl]; omega)
  rw [Go.Lib.itoa]
  split
  · simp only [List.length_cons, Go.Lib.decDigits_length]
    have := h10 n.natAbs (by omega)
    omega
  · rw [Go.Lib.decDigits_length]
    have := h10 n.toNat (by omega)
    omega
mutual
theorem text_len : ∀ d : Dat, d.rng → formedD d = true → (textD d).length ≤ 42 * d.size
  | .mk k n s ks, hr, hf => by
    simp only [formedD, Bool.or_eq_true, Bool.and_eq_true, decide_eq_true_eq] at hf
    simp only [Dat.size]
    rw [textD]
    split
    · have := itoa_len n hr.1.1 hr.1.2
      omega
    · split
      · rename_i h1 h2
        have hs : s.size ≤ 40 := by
          rcases hf with (h | h) | h
          · omega
          · have := h.1.2
            simp only [symOk, symBad, Bool.and_eq_true, Bool.not_eq_true', Bool.or_eq_false_iff, decide_eq_false_iff_not] at this
            omega
          · omega
        show s.size ≤ _
        omega
      · have hk : formedL ks = true := by
          rcases hf with (h | h) | h
          · omega
          · omega
          · exact h.2
        have := text_lenL ks true hr.2 hk
        simp only [List.length_cons, List.length_append, List.length_nil]
        omega
theorem text_lenL : ∀ (ks : Dats) (f : Bool), ks.rng → formedL ks = true → (textL f ks).length ≤ 42 * ks.size
  | .nil, f, hr, hf => by simp [textL]
  | .cons d ds, f, hr, hf => by
    simp only [formedL, Bool.and_eq_true] at hf
    have h1 := text_len d hr.1 hf.1
    have h2 := text_lenL ds false hr.2 hf.2
    simp only [textL, List.length_append, Dats.size]
    cases f <;> simp <;> omega
end
theorem layTL_cons (w : Nat) (d : Dat) (ds : Dats) (f : Bool) (c r : Nat) (l : Bool) : layTL w (.cons d ds) f c r l = ((if f = true then [] else 10 :: List.replicate (c + 2) 32) ++ layT w d (if f = true then c + 1 else c + 2) (if ds.len = 0 ∧ l = true then r + 1 else 0)) ++ layTL w ds false c r l := by
  unfold layTL
  rw [layGL, (lay_app w).2, (lay_app w).1]
  cases f <;> rfl
mutual
theorem layT_len (K : Nat) : ∀ (d : Dat), d.rng → formedD d = true → ∀ w c r, c + 2 * d.size ≤ K → (layT w d c r).length ≤ d.size * (K + 45)
  | .mk k n s ks, hr, hf, w, c, r, h => by
    by_cases hc : ks.len = 0 ∨ c + (textD (.mk k n s ks)).length + r ≤ w
    · have : layT w (.mk k n s ks) c r = textD (.mk k n s ks) := by
        unfold layT
        rw [layG]
        simp only [rS]
        rw [if_pos hc]
        simp
      rw [this]
      have h1 := text_len (.mk k n s ks) hr hf
      have h2 : (Dat.mk k n s ks).size * 42 ≤ (Dat.mk k n s ks).size * (K + 45) := Nat.mul_le_mul_left _ (by omega)
      omega
    · rw [layT_list w k n s ks c r hc]
      have hk : formedL ks = true := by
        simp only [formedD, Bool.or_eq_true, Bool.and_eq_true, decide_eq_true_eq] at hf
        rcases hf with (h | h) | h
        · exact absurd (.inl h.2) hc
        · exact absurd (.inl h.2) hc
        · exact h.2
      simp only [Dat.size] at h ⊢
      have := layTL_len K ks hr.2 hk w true c r true (by omega)
      simp only [List.length_cons, List.length_append, List.length_nil, Nat.add_mul]
      omega
theorem layTL_len (K : Nat) : ∀ (ks : Dats), ks.rng → formedL ks = true → ∀ w f c r l, c + 2 * ks.size + 2 ≤ K → (layTL w ks f c r l).length ≤ ks.size * (K + 45)
  | .nil, hr, hf, w, f, c, r, l, h => by simp [layTL, layGL]
  | .cons d ds, hr, hf, w, f, c, r, l, h => by
    simp only [formedL, Bool.and_eq_true] at hf
    simp only [Dats.size] at h ⊢
    rw [layTL_cons, List.length_append, List.length_append]
    have h2 := layTL_len K ds hr.2 hf.2 w false c r l (by omega)
    have h1 := layT_len K d hr.1 hf.1 w (if f = true then c + 1 else c + 2) (if ds.len = 0 ∧ l = true then r + 1 else 0) (by split <;> omega)
    simp only [Nat.add_mul]
    cases f <;> simp at h1 ⊢ <;> omega
end
def Small (d : Dat) : Prop := d.ok ∧ d.rng ∧ parts d ≤ 400000
theorem Small.text {d : Dat} (h : Small d) (hf : formedD d = true) : (textD d).length ≤ 4398046511104 := by
  have := text_len d h.2.1 hf
  have := size_parts d
  have := h.2.2
  omega
theorem Small.lay {d : Dat} (h : Small d) (hf : formedD d = true) (w : Nat) : (layT w d 0 0).length ≤ d.size * 1600045 := by
  have := size_parts d
  have h2 := h.2.2
  exact layT_len 1600000 d h.2.1 hf w 0 0 (by omega)
theorem deepN_parts : ∀ d : Dat, deepN d ≤ parts d := by
  have key : (∀ N, (∀ d : Dat, d.size < N → deepN d ≤ parts d) ∧ (∀ ks : Dats, ks.size < N → deepNL ks ≤ partsL ks)) := by
    intro N
    induction N with
    | zero => exact ⟨fun d h => by omega, fun d h => by omega⟩
    | succ N ih =>
      refine ⟨fun d hd => ?_, fun ks hk => ?_⟩
      · obtain ⟨k, n, s, ks⟩ := d
        simp only [Dat.size] at hd
        have := ih.2 ks (by omega)
        simp only [deepN, parts]
        omega
      · cases ks with
        | nil => exact Nat.le_refl _
        | cons d ds =>
          simp only [Dats.size] at hk
          have h1 := ih.1 d (by omega)
          have h2 := ih.2 ds (by omega)
          simp only [deepNL, partsL]
          omega
  exact fun d => (key (d.size + 1)).1 d (by omega)
mutual
theorem cutD_rng : ∀ (d : Dat) (dp p : Int), d.rng → (cutD d dp p).1.rng
  | .mk k n s ks, dp, p, h => ⟨h.1, cutL_rng ks dp (p - 1) h.2⟩
theorem cutL_rng : ∀ (ks : Dats) (dp p : Int), ks.rng → (cutL ks dp p).1.rng
  | .nil, dp, p, h => by simp only [cutL, Dats.rng]
  | .cons d ds, dp, p, h => by
    simp only [cutL]
    split
    · exact ⟨cutD_rng d (dp - 1) p h.1, cutL_rng ds dp _ h.2⟩
    · trivial
end
theorem cut_small (d : Dat) (ho : d.ok) (hr : d.rng) (p dp : Int) (h1 : 1 ≤ p) (h2 : p ≤ 400000) : Small (cutD d dp p).1 := ⟨cutD_ok d dp p ho, cutD_rng d dp p hr, by have := cutD_parts d dp p h1; omega⟩
theorem Small.good {d : Dat} (h : Small d) : Good d := ⟨h.1, by have := deepN_parts d; have := h.2.2; omega⟩
end Seat
end Go.Proofs.YtkblfapbakfgpaaGreatDoor
namespace Go.Proofs.YtkblfapbakfgpaaGreatDoor
open Go.AS Go.RowKit
set_option linter.unusedVariables false
set_option linter.unusedSimpArgs false
set_option maxRecDepth 100000
set_option maxHeartbeats 4000000
namespace Seat
def fitE (w : Int) : Int := if w < 10 then 2 else if 200 < w then 2 else 0
theorem fits_ok (w : Int) : Pure G0 19 [.int .i64 w] (fun r => r = .int .i64 (fitE w)) := by
  by_cases h1 : w < 10
  · have : fitE w = 2 := by rw [fitE, if_pos h1]
    rw [this]
    exact Pure.runO (S := SK [(9, [(4, true)])]) 60 (o := [(decide (w < 10), true)]) (by kernel_rfl) (by simp [okO, h1])
  · by_cases h2 : 200 < w
    · have : fitE w = 2 := by rw [fitE, if_neg h1, if_pos h2]
      rw [this]
      exact Pure.runO (S := SK [(9, [(4, false), (7, true)])]) 60 (o := [(decide (w < 10), false), (decide (w > 200), true)]) (by kernel_rfl) (by simp [okO, h1, h2])
    · have : fitE w = 0 := by rw [fitE, if_neg h1, if_neg h2]
      rw [this]
      exact Pure.runO (S := SK [(9, [(4, false), (7, false)])]) 60 (o := [(decide (w < 10), false), (decide (w > 200), false)]) (by kernel_rfl) (by simp [okO, h1, h2])
open Classical in
noncomputable def isLy (cs : List PV) : Bool := decide (∃ d : Dat, d.cells = cs ∧ Small d ∧ formedD d = true)
theorem isLy_at {d : Dat} (h : Small d) (hf : formedD d = true) : isLy d.cells = true := by
  unfold isLy
  classical exact decide_eq_true ⟨d, rfl, h, hf⟩
theorem isLy_of {cs : List PV} (h : isLy cs = true) : ∃ d : Dat, d.cells = cs ∧ Small d ∧ formedD d = true := by
  unfold isLy at h
  classical exact of_decide_eq_true h
noncomputable def alS (f : Nat) (args : List PV) : Option (PV × Ob) := match f, args with
  | 24, [.agg cs] => some (.int .i64 (ofCells chkD 0 cs), [(isGood cs, true)])
  | 19, [.int .i64 w] => some (.int .i64 (fitE w), [])
  | _, _ => none
theorem alS_ok (f : Nat) (args : List PV) (r : PV) (o : Ob) (h : alS f args = some (r, o)) (ho : ∀ p ∈ o, p.1 = p.2) (_ : pureL args = true) : Pure G0 f args (fun x => x = r) := by
  unfold alS at h
  split at h
  · cases h
    obtain ⟨d, rfl, h1⟩ := isGood_of (ho _ (List.mem_singleton.2 rfl))
    rw [ofCells_at]; exact dcheck_ok d h1
  · cases h
    exact fits_ok _
  · cases h
noncomputable def lyV (f : Nat) (xs : List PV) (H : Hp) : Option (PV × Hp × Ob) := match f, xs, H with
  | 26, [.agg [.iface tp (.ptr 0 0), .int .i64 w], .agg cs, .int .i64 0, .int .i64 0], ⟨[⟨[.ptr 0 0, .own 0 n], ty⟩], [some ⟨rc, m, e, 1⟩]⟩ => match Nat.beq tp 62 && Nat.beq ty 67 && Nat.beq e 5 with
    | true => some (.tup [], ⟨[⟨[.ptr 0 0, .own 0 (lpC w.toNat 0 0 (bytesOf rc) cs).length], ty⟩], [some ⟨bytesPL (lpC w.toNat 0 0 (bytesOf rc) cs), (lpC w.toNat 0 0 (bytesOf rc) cs).length, e, 1⟩]⟩,
        [(isLy cs, true), (decide (0 ≤ w ∧ w ≤ 4398046511104), true), (Nat.beq n m, true), (Nat.beq rc.length m, true), (isBytes8 rc, true), (Nat.ble (m + lrC w.toNat 0 0 cs) 140737488355328, true)])
    | false => none
  | 26, [.agg [.iface tp (.ptr 0 0), .int .i64 w], .agg cs, .int .i64 0, .int .i64 0], ⟨[⟨[.nilptr, .nil], ty⟩], []⟩ => match Nat.beq tp 62 && Nat.beq ty 67 with
    | true => some (.tup [], ⟨[⟨[.ptr 0 0, .own 0 (lpC w.toNat 0 0 [] cs).length], ty⟩], [some ⟨bytesPL (lpC w.toNat 0 0 [] cs), (lpC w.toNat 0 0 [] cs).length, 5, 1⟩]⟩,
        [(isLy cs, true), (decide (0 ≤ w ∧ w ≤ 4398046511104), true)])
    | false => none
  | _, _, _ => none
theorem lyV_ok (f : Nat) (xs : List PV) (H : Hp) (r : PV) (H' : Hp) (o : Ob) (h : lyV f xs H = some (r, H', o)) (ho : ∀ p ∈ o, p.1 = p.2) : RCalls G0 f xs H (fun o' H2 => o' = .ret r ∧ H2 = H') ∧ r.scP (belowN H'.bx.length) (belowN H'.rw.length) = true ∧ H'.scB H'.bx.length H'.rw.length = true := by
  unfold lyV at h
  split at h
  · rename_i tp w cs n ty rc m e
    split at h
    · rename_i hc
      cases h
      simp only [Bool.and_eq_true, Nat.beq_eq] at hc
      obtain ⟨⟨rfl, rfl⟩, rfl⟩ := hc
      obtain ⟨d, rfl, h1, h2⟩ := isLy_of (ho (isLy cs, true) (by simp))
      have g1 := of_decide_eq_true (ho (decide (0 ≤ w ∧ w ≤ 4398046511104), true) (by simp))
      have g4 := ho (Nat.beq n m, true) (by simp)
      have g5 := ho (Nat.beq rc.length m, true) (by simp)
      have g6 := ho (isBytes8 rc, true) (by simp)
      have g7 := ho (Nat.ble (m + lrC w.toNat 0 0 d.cells) 140737488355328, true) (by simp)
      simp only [Nat.beq_eq, Nat.ble_eq] at g4 g5 g7
      subst g4
      rw [lrC_at] at g7
      rw [lpC_at]
      have hb := bytesPL_of8 rc g6
      have hbl : (bytesOf rc).length = n := by rw [bytesOf_length]; exact g5
      have hs := size_parts d
      have hp := h1.2.2
      have key := layAt (d.size + 1) d (by omega) h1.1 h1.2.1 h2 (h1.text h2) w.toNat 0 0 (by omega) (by omega) (by omega) (bytesOf rc) (by rw [hbl]; exact g7)
      rw [hbl, hb, Int.toNat_of_nonneg g1.1] at key
      exact ⟨key, rfl, rfl⟩
    · cases h
  · rename_i tp w cs ty
    split at h
    · rename_i hc
      cases h
      simp only [Bool.and_eq_true, Nat.beq_eq] at hc
      obtain ⟨rfl, rfl⟩ := hc
      obtain ⟨d, rfl, h1, h2⟩ := isLy_of (ho (isLy cs, true) (by simp))
      have g1 := of_decide_eq_true (ho (decide (0 ≤ w ∧ w ≤ 4398046511104), true) (by simp))
      rw [lpC_at]
      have hs := size_parts d
      have hp := h1.2.2
      have hl := h1.lay h2 w.toNat
      have key := lay_new d h1.1 h1.2.1 h2 (h1.text h2) w.toNat 0 0 (by omega) (by omega) (by omega) (by omega)
      rw [Int.toNat_of_nonneg g1.1] at key
      exact ⟨key, rfl, rfl⟩
    · cases h
  · cases h
noncomputable def lyV2 (f : Nat) (xs : List PV) (H : Hp) : Option (PV × Hp × Ob) := match lyV f xs H with
  | some r => some r
  | none => ccV f xs H
theorem lyV2_ok (f : Nat) (xs : List PV) (H : Hp) (r : PV) (H' : Hp) (o : Ob) (h : lyV2 f xs H = some (r, H', o)) (ho : ∀ p ∈ o, p.1 = p.2) : RCalls G0 f xs H (fun o' H2 => o' = .ret r ∧ H2 = H') ∧ r.scP (belowN H'.bx.length) (belowN H'.rw.length) = true ∧ H'.scB H'.bx.length H'.rw.length = true := by
  unfold lyV2 at h
  split at h
  · rename_i x hx
    cases h
    exact lyV_ok f xs H r H' o hx ho
  · exact ccV_ok f xs H r H' o h ho
noncomputable def SA (l : List (Nat × List (Nat × Bool))) (v : List (Nat × List (Nat × PV))) : Cfg G0 := { F := F, hF := hF, S := alS, hS := alS_ok, V := lyV2, hV := lyV2_ok, hp := hpB, D := hpB, orc := orcM l, val := valM v }
def allGL {σ : Type} (S : Snk σ) (w : Nat) : Dats → Bool → σ → σ
  | .nil, _, x => x
  | .cons d ds, f, x => allGL S w ds false (S.text [10] (layG S w d 0 0 (if f = true then x else S.text [10] x)))
theorem allGL_take {σ : Type} (S : Snk σ) (w : Nat) : ∀ (ks : Dats) (f : Bool) (j : Nat) (x : σ), j < ks.len →
    allGL S w (ks.take (j + 1)) f x = S.text [10] (layG S w (ks.get j) 0 0 (if j = 0 ∧ f = true then allGL S w (ks.take j) f x else S.text [10] (allGL S w (ks.take j) f x)))
  | .nil, f, j, x, h => by simp [Dats.len] at h
  | .cons d ds, f, 0, x, h => by cases f <;> simp [Dats.take, allGL, Dats.get]
  | .cons d ds, f, j + 1, x, h => by
    have hj : j < ds.len := by simp only [Dats.len] at h; omega
    have ih := allGL_take S w ds false j (S.text [10] (layG S w d 0 0 (if f = true then x else S.text [10] x))) hj
    rw [Dats.take, allGL, ih]
    simp only [Dats.get, Dats.take, allGL, Bool.false_eq_true, and_false, if_false, Nat.add_eq_zero_iff, false_and, Nat.one_ne_zero]
theorem simA {σ τ : Type} {S : Snk σ} {T : Snk τ} {R : σ → τ → Prop} (h : Sim S T R) (w : Nat) : ∀ (ks : Dats) (f : Bool) (x : σ) (y : τ), R x y → R (allGL S w ks f x) (allGL T w ks f y)
  | .nil, _, _, _, hR => hR
  | .cons d ds, f, x, y, hR => by
    rw [allGL, allGL]
    refine simA h w ds _ _ _ (h.text _ _ _ ((sim h w).1 d 0 0 _ _ ?_))
    split
    · exact hR
    · exact h.text _ _ _ hR
theorem sim_le : Sim pS rS (fun x y => x.length ≤ y.length) := ⟨fun t x y h => by simp [pS, rS]; exact h, fun n x y h => by simp [pS, rS]; exact h, fun x y _ h => ⟨fun t => by simp [rS]; omega, fun n => by simp [rS]; omega⟩, fun y => rfl⟩
theorem sim_eq : Sim pS rS (fun x y => x = y ∨ (2000000 < x.length ∧ 2000000 < y.length)) :=
  ⟨fun t x y h => by
    rcases h with rfl | h
    · exact .inl rfl
    · refine .inr ?_; simp [pS, rS]; omega, fun n x y h => by
    rcases h with rfl | h
    · exact .inl rfl
    · refine .inr ?_; simp [pS, rS]; omega, fun x y hm h => by
    have hl : 2000000 < x.length := by
      rcases Nat.lt_or_ge 2000000 x.length with h | h
      · exact h
      · have : pS.more x = true := by simp only [pS, Nat.ble_eq]; exact h
        rw [this] at hm; cases hm
    have hy : 2000000 < y.length := by
      rcases h with rfl | h
      · exact hl
      · exact h.2
    exact ⟨fun t => .inr ⟨hl, by simp [rS]; omega⟩, fun n => .inr ⟨hl, by simp [rS]; omega⟩⟩, fun y => rfl⟩
def aT (w : Nat) (ks : Dats) : List UInt8 := allGL rS w ks true []
def aP (w : Nat) (ks : Dats) : List UInt8 := allGL pS w ks true []
theorem aP_aT (w : Nat) (ks : Dats) : aP w ks = aT w ks ∨ (2000000 < (aP w ks).length ∧ 2000000 < (aT w ks).length) := simA sim_eq w ks true [] [] (.inl rfl)
theorem all_len (w : Nat) : ∀ (ks : Dats) (f : Bool) (x : List UInt8), ks.rng → formedL ks = true → ks.size ≤ 800000 → (allGL rS w ks f x).length ≤ x.length + ks.size * 1600047
  | .nil, f, x, _, _, _ => by simp [allGL]
  | .cons d ds, f, x, hr, hf, hs => by
    simp only [formedL, Bool.and_eq_true] at hf
    simp only [Dats.size] at hs ⊢
    rw [allGL]
    refine Nat.le_trans (all_len w ds false _ hr.2 hf.2 (by omega)) ?_
    have h1 := layT_len 1600000 d hr.1 hf.1 w 0 0 (by omega)
    rw [(lay_app w).1]
    simp only [rS, List.length_append, List.length_cons, List.length_nil]
    have h2 : (if f = true then x else x ++ [10]).length ≤ x.length + 1 := by split <;> simp
    omega
theorem take_size : ∀ (ks : Dats) (j : Nat), (ks.take j).size ≤ ks.size
  | .nil, 0 => by simp [Dats.take]
  | .nil, j + 1 => by simp [Dats.take]
  | .cons d ds, 0 => by simp [Dats.take, Dats.size]
  | .cons d ds, j + 1 => by simp only [Dats.take, Dats.size]; have := take_size ds j; omega
theorem take_rng : ∀ (ks : Dats) (j : Nat), ks.rng → (ks.take j).rng
  | .nil, 0, h => by simp [Dats.take, Dats.rng]
  | .nil, j + 1, h => by simp [Dats.take, Dats.rng]
  | .cons d ds, 0, h => by simp [Dats.take, Dats.rng]
  | .cons d ds, j + 1, h => ⟨h.1, take_rng ds j h.2⟩
theorem take_formed : ∀ (ks : Dats) (j : Nat), formedL ks = true → formedL (ks.take j) = true
  | .nil, 0, h => by simp [Dats.take, formedL]
  | .nil, j + 1, h => by simp [Dats.take, formedL]
  | .cons d ds, 0, h => by simp [Dats.take, formedL]
  | .cons d ds, j + 1, h => by
    simp only [formedL, Bool.and_eq_true] at h
    simp only [Dats.take, formedL, Bool.and_eq_true]
    exact ⟨h.1, take_formed ds j h.2⟩
theorem parts_get : ∀ (ks : Dats) (j : Nat), j < ks.len → parts (ks.get j) ≤ partsL ks
  | .nil, j, h => by simp [Dats.len] at h
  | .cons d ds, 0, h => by simp only [Dats.get, partsL]; omega
  | .cons d ds, j + 1, h => by
    have := parts_get ds j (by simp only [Dats.len] at h; omega)
    simp only [Dats.get, partsL]; omega
theorem parts_pos : ∀ d : Dat, 1 ≤ parts d
  | .mk _ _ _ ks => by simp only [parts]; omega
theorem len_parts : ∀ ks : Dats, ks.len ≤ partsL ks
  | .nil => Nat.le_refl _
  | .cons d ds => by simp only [Dats.len, partsL]; have := len_parts ds; have := parts_pos d; omega
def chkA : Dats → Int
  | .nil => 0
  | .cons d ds => if chkD d = 0 then chkA ds else chkD d
theorem chkA_at : ∀ (ks : Dats) (j : Nat), j < ks.len → (∀ i, i < j → chkD (ks.get i) = 0) → chkD (ks.get j) ≠ 0 → chkA ks = chkD (ks.get j)
  | .nil, j, h, _, _ => by simp [Dats.len] at h
  | .cons d ds, 0, h, _, hn => by
    have hn' : chkD d ≠ 0 := hn
    rw [chkA, if_neg hn']; rfl
  | .cons d ds, j + 1, h, hl, hn => by
    have h0 : chkD d = 0 := hl 0 (by omega)
    rw [chkA, if_pos h0]
    exact chkA_at ds j (by simp only [Dats.len] at h; omega) (fun i hi => hl (i + 1) (by omega)) hn
theorem chkA_none : ∀ (ks : Dats), (∀ i, i < ks.len → chkD (ks.get i) = 0) → chkA ks = 0
  | .nil, _ => rfl
  | .cons d ds, h => by
    have h0 : chkD d = 0 := h 0 (by simp only [Dats.len]; omega)
    rw [chkA, if_pos h0]
    exact chkA_none ds fun i hi => h (i + 1) (by simp only [Dats.len]; omega)
theorem chk_formed {d : Dat} (h : chkD d = 0) : formedD d = true := by
  unfold chkD at h
  cases hf : formedD d with
  | true => rfl
  | false => rw [hf] at h; simp at h
def SmallL (ks : Dats) : Prop := ks.ok ∧ ks.rng ∧ partsL ks ≤ 400000
theorem SmallL.get {ks : Dats} (h : SmallL ks) {j : Nat} (hj : j < ks.len) : Small (ks.get j) := ⟨Dats.get_ok ks j hj h.1, Dats.get_rng ks j hj h.2.1, Nat.le_trans (parts_get ks j hj) h.2.2⟩
def allR (ks : Dats) (w : Int) : PV := if chkA ks = 0 then if fitE w = 0 then if (aT w.toNat ks).length ≤ 2000000 then .tup [.str (mkS (aT w.toNat ks)), .int .i64 0] else .tup [.str ⟨#[]⟩, .int .i64 3] else .tup [.str ⟨#[]⟩, .int .i64 (fitE w)] else .tup [.str ⟨#[]⟩, .int .i64 (chkA ks)]
def HqP (j : Nat) (p : List UInt8) : Hp := if j = 0 then ⟨[pB0], []⟩ else ⟨[pB p.length], [some (bR (bytesPL p) p.length)]⟩
theorem all_ok (ks : Dats) (hs : SmallL ks) (w : Int) : Pure G0 16 [.slice ks.len ks.cells, .int .i64 w] (fun r => r = allR ks w) := by
  have hlen := len_parts ks
  have hls := size_partsL ks
  have hpl := hs.2.2
  refine Fn.enterB Tryz.func16 Tryz.ntmps16 rfl (Nat.le_of_ble_eq_true rfl) fun C fr fp hnt hnb hp hfr hfp => ?_
  have fin : ∀ st s e H, allR ks w = .tup [.str s, .int .i64 e] → nrm [4, 5] st = ⟨[(4, .str s), (5, .int .i64 e)], H⟩ → fr st := fun st s e H hr hst => hfr st [4, 5] (by
    rw [hst]
    exact ⟨0, .tup [.str s, .int .i64 e], Nat.le_refl _, Nat.zero_le _, rfl, rfl, rfl, rfl, _, rfl, hr.symm⟩)
  refine Q.runSeq (SA [] []) 100 59 hnt [0, 1] (z := ⟨[(0, .slice (Dats.len ks) (Dats.cells ks)), (1, .int .i64 w)], ⟨[], []⟩⟩) (o := []) (by kernel_rfl) (by repeat' first | exact okO_nil | refine okN ?_ ?_ | assumption | rfl) ?_
  refine Q.seq fun K1 hK1 => ?_
  have r1 : (∀ i, i < ks.len → chkD (ks.get i) = 0) → ∀ st bs, nrm [0, 1] st = ⟨[(0, .slice ks.len ks.cells), (1, .int .i64 w)], ⟨bs, []⟩⟩ → K1 st := fun hall st bs hst => hK1 st (.norm [0, 1] (by
    rw [hst]
    clear hst hK1
    refine SWP.dropB 0 (by rw [hnb]; exact Nat.le_refl _) (Nat.zero_le _) rfl rfl ?_
    show SWP G0 C _ _ ⟨[(0, .slice ks.len ks.cells), (1, .int .i64 w)], ⟨[], []⟩⟩
    have hA := chkA_none ks hall
    by_cases hfit : fitE w = 0
    case neg =>
      have c1 : (!fitE w == (0 : Int)) = true := by rw [Bool.not_eq_true', beq_eq_false_iff_ne]; exact hfit
      refine Q.seq fun K2 hK2 => ?_
      exact SWP.runQ (SA [(59, [(28, true)])] []) 100 59 hnt [4, 5] (e := .ret) (z := ⟨[(4, .str ⟨#[]⟩), (5, .int .i64 (fitE w))], ⟨[], []⟩⟩) (o := [(true, true), (!fitE w == (0 : Int), true), (true, true)]) (by kernel_rfl) (by repeat' first | exact okO_nil | refine okN ?_ ?_ | assumption | rfl) (fun st hs => fin st _ _ _ (by rw [allR, if_pos hA, if_neg hfit]) hs)
    have c1 : (!fitE w == (0 : Int)) = false := by rw [Bool.not_eq_false', beq_iff_eq]; exact hfit
    refine Q.runSeq (SA [(59, [(28, false)])] []) 100 59 hnt [0, 1] (z := ⟨[(0, .slice (Dats.len ks) (Dats.cells ks)), (1, .int .i64 w)], ⟨[], []⟩⟩) (o := [(true, true), (!fitE w == (0 : Int), false), (false, false)]) (by kernel_rfl) (by repeat' first | exact okO_nil | refine okN ?_ ?_ | assumption | rfl) ?_
    refine Q.runSeq (SA [] []) 100 59 hnt [0, 1, 10] (z := ⟨[(0, .slice (Dats.len ks) (Dats.cells ks)), (1, .int .i64 w), (10, .ptr 0 0)], ⟨[⟨[PV.nilptr, PV.nil], 67⟩], []⟩⟩) (o := []) (by kernel_rfl) (by repeat' first | exact okO_nil | refine okN ?_ ?_ | assumption | rfl) ?_
    have hw : 10 ≤ w ∧ w ≤ 200 := by
      unfold fitE at hfit
      split at hfit
      · cases hfit
      · split at hfit
        · cases hfit
        · omega
    have hR : allR ks w = if (aT w.toNat ks).length ≤ 2000000 then .tup [.str (mkS (aT w.toNat ks)), .int .i64 0] else .tup [.str ⟨#[]⟩, .int .i64 3] := by rw [allR, if_pos hA, if_pos hfit]
    clear c1 hfit hA
    obtain ⟨w, rfl⟩ : ∃ n : Nat, w = n := ⟨w.toNat, by omega⟩
    rw [Int.toNat_natCast] at hR
    have hfk : formedL ks = true := (formedL_iff ks).2 fun j hj => chk_formed (hall j hj)
    have hpb : ∀ j, (allGL pS w (ks.take j) true []).length ≤ 1280037600000 := fun j => by
      have h1 := simA sim_le w (ks.take j) true [] [] (Nat.le_refl _)
      have h2 := take_size ks j
      have h3 := all_len w (ks.take j) true [] (take_rng ks j hs.2.1) (take_formed ks j hfk) (by omega)
      simp only [List.length_nil] at h3
      omega
    refine Q.seq fun K2 hK2 => ?_
    let P (j : Nat) : List UInt8 := allGL pS w (ks.take j) true []
    have hPe : P ks.len = aP w ks := by simp only [P, aP, take_all]
    have hPx := aP_aT w ks
    let T (j : Nat) : AS := ⟨[(1, .int .i64 w), (10, .ptr 0 0), (32, .slice ks.len ks.cells), (33, .int .i64 ks.len), (34, .int .i64 j)], HqP j (P j)⟩
    refine Q.runSeq (SA [] []) 100 59 hnt [1, 10, 32, 33, 34] (z := T 0) (o := []) (by kernel_rfl) okO_nil ?_
    refine Q.block ?_
    refine Q.loopH (σ := { j : Nat // j ≤ ks.len }) [1, 10, 32, 33, 34] 1 (by rw [hnb]; exact (by decide : 0 ≤ 1)) (fun j => T j.1) (fun j => ks.len - j.1) ⟨0, Nat.zero_le _⟩ (fun j => by simp only [T, HqP]; split <;> exact ⟨rfl, rfl, rfl⟩) ⟨[], by simp only [List.append_nil]; rfl⟩ fun ⟨j, hj⟩ => ?_
    rcases Nat.lt_or_ge j ks.len with hlt | hge
    · obtain ⟨k', n', s', ks', hget⟩ := Dats.get_mk ks j
      have hsm := hs.get hlt
      have hfj := chk_formed (hall j hlt)
      have hPn : P (j + 1) = pS.text [10] (layG pS w (.mk k' n' s' ks') 0 0 (if j = 0 ∧ true = true then P j else pS.text [10] (P j))) := by
        show allGL pS w (ks.take (j + 1)) true [] = _
        rw [allGL_take pS w ks true j _ hlt, hget]
      have hbn := hpb (j + 1)
      have hbj := hpb j
      have hl := hsm.lay hfj w
      have hsz := size_parts (ks.get j)
      have hsp := hsm.2.2
      rw [hget] at hsm hfj hl hsz hsp
      have hlp : ∀ w c r b, lpC w c r b [PV.int IntKind.i64 k', PV.int IntKind.i64 n', PV.str s', PV.slice (Dats.len ks') (Dats.cells ks')] = layG pS w (.mk k' n' s' ks') c r b := fun w c r b => lpC_at w c r b (.mk k' n' s' ks')
      have hlr : ∀ w c r, lrC w c r [PV.int IntKind.i64 k', PV.int IntKind.i64 n', PV.str s', PV.slice (Dats.len ks') (Dats.cells ks')] = (layT w (.mk k' n' s' ks') c r).length := fun w c r => lrC_at w c r (.mk k' n' s' ks')
      have d1 : isLy [PV.int IntKind.i64 k', PV.int IntKind.i64 n', PV.str s', PV.slice (Dats.len ks') (Dats.cells ks')] = true := isLy_at (d := .mk k' n' s' ks') hsm hfj
      have d2 := lt_at hlt
      have d3 := in_at hlt
      have d4 : decide (TD.size d24 ≤ List.length (List.drop (Int.toNat (j : Int) * TD.size d24) (Dats.cells ks))) = true := kid_len hlt
      have d5 := kid_same' hlt hget
      have wj' := wrapC (j + 1) (by omega)
      have hbn' : (P (j + 1)).length ≤ 1280037600000 := hbn
      have hbj' : (P j).length ≤ 1280037600000 := hbj
      clear hbn hbj hpb
      by_cases hz : j = 0
      · have d6 : decide (0 < (j : Int)) = false := by rw [decide_eq_false_iff_not]; omega
        have h0 : P j = [] := by
          show allGL pS w (ks.take j) true [] = []
          rw [hz]; cases ks <;> rfl
        have hPs : P (j + 1) = layG pS w (.mk k' n' s' ks') 0 0 [] ++ [10] := by
          rw [hPn, h0]
          simp only [and_true, if_pos hz]; rfl
        rw [hPs, List.length_append] at hbn'
        simp only [List.length_cons, List.length_nil] at hbn'
        show SWP G0 C _ _ ⟨[(1, .int .i64 w), (10, .ptr 0 0), (32, .slice ks.len ks.cells), (33, .int .i64 ks.len), (34, .int .i64 j)], HqP j (P j)⟩
        rw [HqP, if_pos hz]
        clear hPn h0
        refine SWP.runQ (SA [(59, [(35, true), (37, true), (38, true), (40, false)]), (19, [(14, true)])] [(59, [(38, .agg [.int .i64 k', .int .i64 n', .str s', .slice ks'.len ks'.cells])])]) 100 59 hnt [1, 10, 32, 33, 34] (e := .normal) (z := ⟨[(1, .int .i64 (Int.ofNat w)), (10, .ptr 0 0), (32, .slice (Dats.len ks) (Dats.cells ks)), (33, .int .i64 (Int.ofNat (Dats.len ks))), (34, .int .i64 (IntKind.wrap IntKind.i64 (Int.ofNat (j + 1))))], ⟨[⟨[.ptr 0 0, .own 0 (List.length (lpC (Int.toNat (Int.ofNat w)) 0 0 [] [.int .i64 k', .int .i64 n', .str s', .slice (Dats.len ks') (Dats.cells ks')]) + 1)], 67⟩, ⟨[.int .i64 k', .int .i64 n', .str s', .slice (Dats.len ks') (Dats.cells ks')], 24⟩], [some ⟨bytesPL (lpC (Int.toNat (Int.ofNat w)) 0 0 [] [.int .i64 k', .int .i64 n', .str s', .slice (Dats.len ks') (Dats.cells ks')]) ++ [PV.int IntKind.u8 (10 : Int)], List.length (lpC (Int.toNat (Int.ofNat w)) 0 0 [] [.int .i64 k', .int .i64 n', .str s', .slice (Dats.len ks') (Dats.cells ks')]) + 1, 5, 1⟩]⟩⟩) (o := [(decide ((↑j : Int) < (↑(Dats.len ks) : Int)), true), (true, true), (decide (0 ≤ (↑j : Int) ∧ (↑j : Int) < (↑(Dats.len ks) : Int)), true), (decide (TD.size d24 ≤ List.length (List.drop (Int.toNat (↑j : Int) * TD.size d24) (Dats.cells ks))), true), (same (PV.agg (List.take 4 (List.drop (Int.toNat (Int.ofNat j) * 4) (Dats.cells ks)))) (PV.agg [PV.int IntKind.i64 k', PV.int IntKind.i64 n', PV.str s', PV.slice (Dats.len ks') (Dats.cells ks')]), true), (decide (0 < (↑j : Int)), false), (false, false), (isLy [PV.int IntKind.i64 k', PV.int IntKind.i64 n', PV.str s', PV.slice (Dats.len ks') (Dats.cells ks')], true), (decide (0 ≤ (↑w : Int) ∧ (↑w : Int) ≤ 4398046511104), true), (Nat.ble (List.length (lpC (Int.toNat (Int.ofNat w)) 0 0 [] [PV.int IntKind.i64 k', PV.int IntKind.i64 n', PV.str s', PV.slice (Dats.len ks') (Dats.cells ks')]) + 1) 140737488355328, true)]) (by kernel_rfl) (by clear hPs hR hPx hPe; (repeat' (first | exact okO_nil | refine okN ?_ ?_)); all_goals first | (with_reducible rfl) | assumption | (simp only [Int.ofNat_eq_natCast, Int.toNat_natCast, hlp, hlr, bytesPL_length, isBytes8_PL, List.length_append, List.length_cons, List.length_nil]; done) | ((try simp only [Int.ofNat_eq_natCast, Int.toNat_natCast, hlp, hlr, bytesPL_length, isBytes8_PL, List.length_append, List.length_cons, List.length_nil]); simp only [decide_eq_true_eq, decide_eq_false_iff_not, Nat.ble_eq, Nat.beq_eq] <;> omega)) (fun st hs => ⟨⟨j + 1, hlt⟩, Nat.sub_lt_sub_left hlt (Nat.lt_succ_self j), [DB k' n' s' ks'], ?_⟩)
        rw [hs]
        simp only [T, hPs, HqP, if_neg (Nat.succ_ne_zero j)]
        simp only [Int.ofNat_eq_natCast, Int.toNat_natCast, hlp, wj', bytesPL_append, List.length_append]
        rfl
      · have d6 : decide (0 < (j : Int)) = true := by rw [decide_eq_true_eq]; omega
        show SWP G0 C _ _ ⟨[(1, .int .i64 w), (10, .ptr 0 0), (32, .slice ks.len ks.cells), (33, .int .i64 ks.len), (34, .int .i64 j)], HqP j (P j)⟩
        rw [HqP, if_neg hz]
        obtain ⟨p, hp⟩ : ∃ x, x = P j := ⟨_, rfl⟩
        rw [← hp] at hbj' hPn ⊢
        have hPs : P (j + 1) = layG pS w (.mk k' n' s' ks') 0 0 (p ++ [10]) ++ [10] := by
          rw [hPn]
          simp only [and_true, if_neg hz]; rfl
        rw [hPs, List.length_append] at hbn'
        simp only [List.length_cons, List.length_nil] at hbn'
        have hq : bytesPL p ++ [PV.int IntKind.u8 (10 : Int)] = bytesPL (p ++ [10]) := by rw [bytesPL_append]; rfl
        clear hPn
        refine SWP.runQ (SA [(59, [(35, true), (37, true), (38, true), (40, true)]), (19, [(14, true)])] [(59, [(38, .agg [.int .i64 k', .int .i64 n', .str s', .slice ks'.len ks'.cells])])]) 100 59 hnt [1, 10, 32, 33, 34] (e := .normal) (z := ⟨[(1, .int .i64 (Int.ofNat w)), (10, .ptr 0 0), (32, .slice (Dats.len ks) (Dats.cells ks)), (33, .int .i64 (Int.ofNat (Dats.len ks))), (34, .int .i64 (IntKind.wrap IntKind.i64 (Int.ofNat (j + 1))))], ⟨[⟨[.ptr 0 0, .own 0 (List.length (lpC (Int.toNat (Int.ofNat w)) 0 0 (bytesOf (bytesPL p ++ [PV.int IntKind.u8 (10 : Int)])) [.int .i64 k', .int .i64 n', .str s', .slice (Dats.len ks') (Dats.cells ks')]) + 1)], 67⟩, ⟨[.int .i64 k', .int .i64 n', .str s', .slice (Dats.len ks') (Dats.cells ks')], 24⟩], [some ⟨bytesPL (lpC (Int.toNat (Int.ofNat w)) 0 0 (bytesOf (bytesPL p ++ [PV.int IntKind.u8 (10 : Int)])) [.int .i64 k', .int .i64 n', .str s', .slice (Dats.len ks') (Dats.cells ks')]) ++ [PV.int IntKind.u8 (10 : Int)], List.length (lpC (Int.toNat (Int.ofNat w)) 0 0 (bytesOf (bytesPL p ++ [PV.int IntKind.u8 (10 : Int)])) [.int .i64 k', .int .i64 n', .str s', .slice (Dats.len ks') (Dats.cells ks')]) + 1, 5, 1⟩]⟩⟩) (o := [(decide ((↑j : Int) < (↑(Dats.len ks) : Int)), true), (true, true), (decide (0 ≤ (↑j : Int) ∧ (↑j : Int) < (↑(Dats.len ks) : Int)), true), (decide (TD.size d24 ≤ List.length (List.drop (Int.toNat (↑j : Int) * TD.size d24) (Dats.cells ks))), true), (same (PV.agg (List.take 4 (List.drop (Int.toNat (Int.ofNat j) * 4) (Dats.cells ks)))) (PV.agg [PV.int IntKind.i64 k', PV.int IntKind.i64 n', PV.str s', PV.slice (Dats.len ks') (Dats.cells ks')]), true), (decide (0 < (↑j : Int)), true), (true, true), (Nat.ble (List.length p + 1) 140737488355328, true), (isLy [PV.int IntKind.i64 k', PV.int IntKind.i64 n', PV.str s', PV.slice (Dats.len ks') (Dats.cells ks')], true), (decide (0 ≤ (↑w : Int) ∧ (↑w : Int) ≤ 4398046511104), true), (Nat.beq (List.length p + 1) (List.length p + 1), true), (Nat.beq (List.length (bytesPL p ++ [PV.int IntKind.u8 (10 : Int)])) (List.length p + 1), true), (isBytes8 (bytesPL p ++ [PV.int IntKind.u8 (10 : Int)]), true), (Nat.ble (List.length p + 1 + lrC (Int.toNat (Int.ofNat w)) 0 0 [PV.int IntKind.i64 k', PV.int IntKind.i64 n', PV.str s', PV.slice (Dats.len ks') (Dats.cells ks')]) 140737488355328, true), (Nat.ble (List.length (lpC (Int.toNat (Int.ofNat w)) 0 0 (bytesOf (bytesPL p ++ [PV.int IntKind.u8 (10 : Int)])) [PV.int IntKind.i64 k', PV.int IntKind.i64 n', PV.str s', PV.slice (Dats.len ks') (Dats.cells ks')]) + 1) 140737488355328, true)]) (by kernel_rfl) (by clear hPs hR hPx hPe; (repeat' (first | exact okO_nil | refine okN ?_ ?_)); all_goals first | (with_reducible rfl) | assumption | (simp only [Int.ofNat_eq_natCast, Int.toNat_natCast, hlp, hlr, bytesPL_length, isBytes8_PL, hq, bytesOf_PL, List.length_append, List.length_cons, List.length_nil]; done) | ((try simp only [Int.ofNat_eq_natCast, Int.toNat_natCast, hlp, hlr, bytesPL_length, isBytes8_PL, hq, bytesOf_PL, List.length_append, List.length_cons, List.length_nil]); simp only [decide_eq_true_eq, decide_eq_false_iff_not, Nat.ble_eq, Nat.beq_eq] <;> omega)) (fun st hs => ⟨⟨j + 1, hlt⟩, Nat.sub_lt_sub_left hlt (Nat.lt_succ_self j), [DB k' n' s' ks'], ?_⟩)
        rw [hs]
        simp only [T, hPs, HqP, if_neg (Nat.succ_ne_zero j)]
        simp only [Int.ofNat_eq_natCast, Int.toNat_natCast, hq, bytesOf_PL, hlp, wj']
        simp only [bytesPL_append, List.length_append]
        rfl
    · obtain rfl : j = ks.len := by omega
      have d2 := ge_at hge
      show SWP G0 C _ _ ⟨[(1, .int .i64 w), (10, .ptr 0 0), (32, .slice ks.len ks.cells), (33, .int .i64 ks.len), (34, .int .i64 ks.len)], HqP ks.len (P ks.len)⟩
      by_cases hz : ks.len = 0
      · have hn : ks = .nil := by cases ks with | nil => rfl | cons d ds => simp [Dats.len] at hz
        have hT0 : aT w ks = [] := by rw [hn]; rfl
        rw [HqP, if_pos hz]
        refine SWP.runQ (SA [(59, [(35, false)])] []) 100 59 hnt [10] (e := .exit 2) (z := ⟨[(10, .ptr 0 0)], ⟨[⟨[PV.nilptr, PV.nil], 67⟩], []⟩⟩) (o := [(decide ((ks.len : Int) < (ks.len : Int)), false), (false, false)]) (by kernel_rfl) (by repeat' first | exact okO_nil | refine okN ?_ ?_ | assumption | rfl) (fun st hs => hK2 st (.norm [10] ?_))
        rw [hs]
        exact SWP.runQ (SA [] []) 100 59 hnt [4, 5] (e := .ret) (z := ⟨[(4, .str ⟨#[]⟩), (5, .int .i64 (0 : Int))], ⟨[⟨[PV.nilptr, PV.nil], 67⟩], []⟩⟩) (o := []) (by kernel_rfl) (by repeat' first | exact okO_nil | refine okN ?_ ?_ | assumption | rfl) (fun st hs => fin st _ _ _ (by rw [hR, hT0]; rfl) hs)
      · rw [HqP, if_neg hz]
        have hp1 : 1 ≤ (P ks.len).length := by
          have e1 : P (ks.len - 1 + 1) = pS.text [10] (layG pS w (ks.get (ks.len - 1)) 0 0 (if ks.len - 1 = 0 ∧ true = true then P (ks.len - 1) else pS.text [10] (P (ks.len - 1)))) := allGL_take pS w ks true (ks.len - 1) [] (by omega)
          rw [show ks.len - 1 + 1 = ks.len by omega] at e1
          rw [e1]
          simp [pS]
        have hbn : (P ks.len).length ≤ 1280037600000 := hpb ks.len
        obtain ⟨p, hp⟩ : ∃ x, x = P ks.len := ⟨_, rfl⟩
        rw [← hp] at hp1 hPe hbn ⊢
        refine SWP.runQ (SA [(59, [(35, false)])] []) 100 59 hnt [10] (e := .exit 2) (z := ⟨[(10, .ptr 0 0)], ⟨[⟨[.ptr 0 0, .own 0 (List.length p)], 67⟩], [some ⟨bytesPL p, List.length p, 5, 1⟩]⟩⟩) (o := [(decide ((ks.len : Int) < (ks.len : Int)), false), (false, false)]) (by kernel_rfl) (by repeat' first | exact okO_nil | refine okN ?_ ?_ | assumption | rfl) (fun st hs => hK2 st (.norm [10] ?_))
        rw [hs]
        rw [← hPe] at hPx
        by_cases hm : p.length ≤ 2000000
        · have c1 : decide ((↑(List.length p) : Int) ≤ 2000000) = true := by rw [decide_eq_true_eq]; omega
          have c2 : Nat.ble 1 (List.length p) = true := by rw [Nat.ble_eq]; exact hp1
          have c3 : Nat.beq (List.length (bytesPL p)) (List.length p) = true := by rw [Nat.beq_eq, bytesPL_length]
          have c4 : Nat.ble (List.length p) 9223372036854775807 = true := by rw [Nat.ble_eq]; omega
          have c5 : isBytes8 (bytesPL p) = true := isBytes8_PL _
          have c6 : Nat.beq (List.length p) (List.length p) = true := by rw [Nat.beq_eq]
          have hpe : p = aT w ks := by
            rcases hPx with h | h
            · exact h
            · omega
          refine SWP.runQ (SA [(8, [(7, true)]), (14, [(7, true), (13, true)])] []) 100 59 hnt [4, 5] (e := .ret) (z := ⟨[(4, .str (strOf (bytesPL p))), (5, .int .i64 (0 : Int))], ⟨[⟨[.ptr 0 0, .own 0 (List.length p)], 67⟩], [none]⟩⟩) (o := [(decide ((↑(List.length p) : Int) ≤ 2000000), true), (Nat.ble 1 (List.length p), true), (Nat.beq (List.length p) (List.length p), true), (Nat.beq (List.length (bytesPL p)) (List.length p), true), (Nat.ble 1 (List.length p), true), (Nat.ble (List.length p) 9223372036854775807, true), (isBytes8 (bytesPL p), true)]) (by kernel_rfl) (by repeat' first | exact okO_nil | refine okN ?_ ?_ | assumption | rfl) (fun st hs => fin st _ _ _ ?_ hs)
          rw [hR, ← hpe, if_pos hm]
          exact congrArg (fun x => PV.tup [.str x, .int .i64 0]) (strOf_PV (mkS p)).symm
        · have c1 : decide ((↑(List.length p) : Int) ≤ 2000000) = false := by rw [decide_eq_false_iff_not]; omega
          have hpe : ¬ (aT w ks).length ≤ 2000000 := by
            rcases hPx with h | h
            · rw [← h]; exact hm
            · omega
          exact SWP.runQ (SA [(8, [(7, false)])] []) 100 59 hnt [4, 5] (e := .ret) (z := ⟨[(4, .str ⟨#[]⟩), (5, .int .i64 (3 : Int))], ⟨[⟨[.ptr 0 0, .own 0 (List.length p)], 67⟩], [some ⟨bytesPL p, List.length p, 5, 1⟩]⟩⟩) (o := [(decide ((↑(List.length p) : Int) ≤ 2000000), false)]) (by kernel_rfl) (by repeat' first | exact okO_nil | refine okN ?_ ?_ | assumption | rfl) (fun st hs => fin st _ _ _ (by rw [hR, if_neg hpe]) hs)))
  refine Q.runSeq (SA [] []) 100 59 hnt [0, 1, 13, 14, 15] (z := ⟨[(0, .slice (Dats.len ks) (Dats.cells ks)), (1, .int .i64 w), (13, .slice (Dats.len ks) (Dats.cells ks)), (14, .int .i64 (Int.ofNat (Dats.len ks))), (15, .int .i64 (0 : Int))], ⟨[], []⟩⟩) (o := []) (by kernel_rfl) (by repeat' first | exact okO_nil | refine okN ?_ ?_ | assumption | rfl) ?_
  refine Q.block ?_
  refine Q.loopH (σ := { j : Nat // j ≤ ks.len ∧ ∀ i, i < j → chkD (ks.get i) = 0 }) [0, 1, 13, 14, 15] 0 (by rw [hnb]; exact Nat.le_refl _) (fun j => ⟨[(0, .slice ks.len ks.cells), (1, .int .i64 w), (13, .slice ks.len ks.cells), (14, .int .i64 ks.len), (15, .int .i64 j.1)], ⟨[], []⟩⟩) (fun j => ks.len - j.1) ⟨0, Nat.zero_le _, fun i h => absurd h (Nat.not_lt_zero _)⟩ (fun j => ⟨rfl, rfl, rfl⟩) ⟨[], by simp only [List.append_nil]; rfl⟩ fun ⟨j, hj, hall⟩ => ?_
  rcases Nat.lt_or_ge j ks.len with hlt | hge
  · obtain ⟨k', n', s', ks', hget⟩ := Dats.get_mk ks j
    have hsm := hs.get hlt
    have hAt := chkA_at ks j hlt hall
    have hck : ofCells chkD (0 : Int) [PV.int IntKind.i64 k', PV.int IntKind.i64 n', PV.str s', PV.slice (Dats.len ks') (Dats.cells ks')] = chkD (ks.get j) := by rw [hget]; exact ofCells_at _ _ (.mk k' n' s' ks')
    rw [hget] at hsm
    have d1 : isGood [PV.int IntKind.i64 k', PV.int IntKind.i64 n', PV.str s', PV.slice (Dats.len ks') (Dats.cells ks')] = true := isGood_at (d := .mk k' n' s' ks') hsm.good
    have d2 := lt_at hlt
    have d3 := in_at hlt
    have d4 : decide (TD.size d24 ≤ List.length (List.drop (Int.toNat (j : Int) * TD.size d24) (Dats.cells ks))) = true := kid_len hlt
    have d5 := kid_same' hlt hget
    have wj' : IntKind.wrap IntKind.i64 (Int.ofNat (j + 1)) = ((j + 1 : Nat) : Int) := wrapC (j + 1) (by omega)
    by_cases hc : chkD (ks.get j) = 0
    · have d6 : (!ofCells chkD (0 : Int) [PV.int IntKind.i64 k', PV.int IntKind.i64 n', PV.str s', PV.slice (Dats.len ks') (Dats.cells ks')] == (0 : Int)) = false := by rw [hck, Bool.not_eq_false', beq_iff_eq]; exact hc
      refine SWP.runQ (SA [(59, [(16, true), (17, true), (18, true), (22, false)])] [(59, [(18, .agg [.int .i64 k', .int .i64 n', .str s', .slice ks'.len ks'.cells])])]) 100 59 hnt [0, 1, 13, 14, 15] (e := .normal) (z := ⟨[(0, .slice (Dats.len ks) (Dats.cells ks)), (1, .int .i64 w), (13, .slice (Dats.len ks) (Dats.cells ks)), (14, .int .i64 (Int.ofNat (Dats.len ks))), (15, .int .i64 (IntKind.wrap IntKind.i64 (Int.ofNat (j + 1))))], ⟨[⟨[.int .i64 k', .int .i64 n', .str s', .slice (Dats.len ks') (Dats.cells ks')], 24⟩], []⟩⟩) (o := [(decide ((↑j : Int) < (↑(Dats.len ks) : Int)), true), (true, true), (decide (0 ≤ (↑j : Int) ∧ (↑j : Int) < (↑(Dats.len ks) : Int)), true), (decide (TD.size d24 ≤ List.length (List.drop (Int.toNat (↑j : Int) * TD.size d24) (Dats.cells ks))), true), (same (PV.agg (List.take 4 (List.drop (Int.toNat (Int.ofNat j) * 4) (Dats.cells ks)))) (PV.agg [PV.int IntKind.i64 k', PV.int IntKind.i64 n', PV.str s', PV.slice (Dats.len ks') (Dats.cells ks')]), true), (true, true), (isGood [PV.int IntKind.i64 k', PV.int IntKind.i64 n', PV.str s', PV.slice (Dats.len ks') (Dats.cells ks')], true), (!ofCells chkD (0 : Int) [PV.int IntKind.i64 k', PV.int IntKind.i64 n', PV.str s', PV.slice (Dats.len ks') (Dats.cells ks')] == (0 : Int), false), (false, false)]) (by kernel_rfl) (by repeat' first | exact okO_nil | refine okN ?_ ?_ | assumption | rfl) (fun st hs => ⟨⟨j + 1, hlt, fun i hi => by rcases Nat.lt_or_ge i j with h | h; exact hall i h; rw [show i = j by omega]; exact hc⟩, Nat.sub_lt_sub_left hlt (Nat.lt_succ_self j), [DB k' n' s' ks'], ?_⟩)
      rw [hs, wj']
      rfl
    · have d6 : (!ofCells chkD (0 : Int) [PV.int IntKind.i64 k', PV.int IntKind.i64 n', PV.str s', PV.slice (Dats.len ks') (Dats.cells ks')] == (0 : Int)) = true := by rw [hck, Bool.not_eq_true', beq_eq_false_iff_ne]; exact hc
      exact SWP.runQ (SA [(59, [(16, true), (17, true), (18, true), (22, true)])] [(59, [(18, .agg [.int .i64 k', .int .i64 n', .str s', .slice ks'.len ks'.cells])])]) 100 59 hnt [4, 5] (e := .ret) (z := ⟨[(4, .str ⟨#[]⟩), (5, .int .i64 (ofCells chkD (0 : Int) [.int .i64 k', .int .i64 n', .str s', .slice (Dats.len ks') (Dats.cells ks')]))], ⟨[⟨[.int .i64 k', .int .i64 n', .str s', .slice (Dats.len ks') (Dats.cells ks')], 24⟩], []⟩⟩) (o := [(decide ((↑j : Int) < (↑(Dats.len ks) : Int)), true), (true, true), (decide (0 ≤ (↑j : Int) ∧ (↑j : Int) < (↑(Dats.len ks) : Int)), true), (decide (TD.size d24 ≤ List.length (List.drop (Int.toNat (↑j : Int) * TD.size d24) (Dats.cells ks))), true), (same (PV.agg (List.take 4 (List.drop (Int.toNat (Int.ofNat j) * 4) (Dats.cells ks)))) (PV.agg [PV.int IntKind.i64 k', PV.int IntKind.i64 n', PV.str s', PV.slice (Dats.len ks') (Dats.cells ks')]), true), (true, true), (isGood [PV.int IntKind.i64 k', PV.int IntKind.i64 n', PV.str s', PV.slice (Dats.len ks') (Dats.cells ks')], true), (!ofCells chkD (0 : Int) [PV.int IntKind.i64 k', PV.int IntKind.i64 n', PV.str s', PV.slice (Dats.len ks') (Dats.cells ks')] == (0 : Int), true), (true, true)]) (by kernel_rfl) (by repeat' first | exact okO_nil | refine okN ?_ ?_ | assumption | rfl) (fun st hs => fin st _ _ _ (by rw [hck, allR, if_neg (by rw [hAt hc]; exact hc), hAt hc]) hs)
  · obtain rfl : j = ks.len := by omega
    have d2 := ge_at hge
    exact SWP.runQ (SA [(59, [(16, false)])] []) 100 59 hnt [0, 1] (e := .exit 0) (z := ⟨[(0, .slice (Dats.len ks) (Dats.cells ks)), (1, .int .i64 w)], ⟨[], []⟩⟩) (o := [(decide ((ks.len : Int) < (ks.len : Int)), false), (false, false)]) (by kernel_rfl) (by repeat' first | exact okO_nil | refine okN ?_ ?_ | assumption | rfl) (fun st hs => r1 hall st _ hs)
end Seat
end Go.Proofs.YtkblfapbakfgpaaGreatDoor
namespace Go.Proofs.YtkblfapbakfgpaaGreatDoor
open Go.AS Go.RowKit
set_option linter.unusedVariables false
set_option linter.unusedSimpArgs false
set_option maxRecDepth 100000
set_option maxHeartbeats 4000000
namespace Seat
def alE (ks : Dats) (w : Int) : Int := if chkA ks = 0 then if fitE w = 0 then if (aT w.toNat ks).length ≤ 2000000 then 0 else 3 else fitE w else chkA ks
def alB (ks : Dats) (w : Int) : ByteArray := if alE ks w = 0 then mkS (aT w.toNat ks) else ⟨#[]⟩
theorem allR_eq (ks : Dats) (w : Int) : allR ks w = .tup [.str (alB ks w), .int .i64 (alE ks w)] := by
  unfold allR alB alE
  by_cases h1 : chkA ks = 0
  · rw [if_pos h1, if_pos h1]
    by_cases h2 : fitE w = 0
    · rw [if_pos h2, if_pos h2]
      by_cases h3 : (aT w.toNat ks).length ≤ 2000000
      · rw [if_pos h3, if_pos h3, if_pos rfl]
      · rw [if_neg h3, if_neg h3, if_neg (by decide)]
    · rw [if_neg h2, if_neg h2, if_neg h2]
  · rw [if_neg h1, if_neg h1, if_neg h1]
open Classical in
noncomputable def isSmL (m : Nat) (cs : List PV) : Bool := decide (∃ ks : Dats, ks.len = m ∧ ks.cells = cs ∧ SmallL ks)
theorem isSmL_at {ks : Dats} (h : SmallL ks) : isSmL ks.len ks.cells = true := by
  unfold isSmL
  classical exact decide_eq_true ⟨ks, rfl, rfl, h⟩
theorem isSmL_of {m : Nat} {cs : List PV} (h : isSmL m cs = true) : ∃ ks : Dats, ks.len = m ∧ ks.cells = cs ∧ SmallL ks := by
  unfold isSmL at h
  classical exact of_decide_eq_true h
noncomputable def alBC (w : Int) (cs : List PV) : ByteArray := ofCellsL (fun ks => alB ks w) ⟨#[]⟩ cs
noncomputable def alEC (w : Int) (cs : List PV) : Int := ofCellsL (fun ks => alE ks w) 0 cs
noncomputable def lyS (f : Nat) (args : List PV) : Option (PV × Ob) := match f, args with
  | 16, [.slice m cs, .int .i64 w] => some (.tup [.str (alBC w cs), .int .i64 (alEC w cs)], [(isSmL m cs, true)])
  | _, _ => none
theorem lyS_ok (f : Nat) (args : List PV) (r : PV) (o : Ob) (h : lyS f args = some (r, o)) (ho : ∀ p ∈ o, p.1 = p.2) (_ : pureL args = true) : Pure G0 f args (fun x => x = r) := by
  unfold lyS at h
  split at h
  · rename_i m cs w _
    cases h
    obtain ⟨ks, rfl, rfl, h1⟩ := isSmL_of (ho _ (List.mem_singleton.2 rfl))
    have := all_ok ks h1 w
    rw [allR_eq] at this
    unfold alBC alEC
    rw [ofCellsL_at, ofCellsL_at]
    exact this
  · cases h
noncomputable def rnV (f : Nat) (xs : List PV) (H : Hp) : Option (PV × Hp × Ob) := match f, xs, H with
  | 22, [.nil, .agg cs, .int .i64 0, .int .i64 0, .int .i64 w], ⟨[], []⟩ => some (.own 0 (rlC w.toNat 0 0 [] cs).length, ⟨[], [some ⟨bytesPL (rlC w.toNat 0 0 [] cs), (rlC w.toNat 0 0 [] cs).length, 5, 1⟩]⟩, [(isLy cs, true), (decide (0 ≤ w ∧ w ≤ 4398046511104), true)])
  | _, _, _ => none
theorem rnV_ok (f : Nat) (xs : List PV) (H : Hp) (r : PV) (H' : Hp) (o : Ob) (h : rnV f xs H = some (r, H', o)) (ho : ∀ p ∈ o, p.1 = p.2) : RCalls G0 f xs H (fun o' H2 => o' = .ret r ∧ H2 = H') ∧ r.scP (belowN H'.bx.length) (belowN H'.rw.length) = true ∧ H'.scB H'.bx.length H'.rw.length = true := by
  unfold rnV at h
  split at h
  · rename_i cs w
    cases h
    obtain ⟨d, rfl, h1, h2⟩ := isLy_of (ho (isLy cs, true) (by simp))
    have g1 := of_decide_eq_true (ho (decide (0 ≤ w ∧ w ≤ 4398046511104), true) (by simp))
    rw [rlC_at]
    have hs := size_parts d
    have hp := h1.2.2
    have hl := h1.lay h2 w.toNat
    have key := rlay_new d h1.1 h1.2.1 h2 (h1.text h2) w.toNat 0 0 (by omega) (by omega) (by omega) (by omega)
    rw [Int.toNat_of_nonneg g1.1] at key
    exact ⟨key, rfl, rfl⟩
  · cases h
noncomputable def SLy (l : List (Nat × List (Nat × Bool))) : Cfg G0 := { F := F, hF := hF, S := lyS, hS := lyS_ok, V := rnV, hV := rnV_ok, orc := orcM l }
theorem aT_one (w : Nat) (d : Dat) : aT w (.cons d .nil) = layT w d 0 0 ++ [10] := rfl
theorem SmallL_one {d : Dat} (h : Small d) : SmallL (.cons d .nil) := ⟨⟨h.1, trivial⟩, ⟨h.2.1, trivial⟩, by simp only [partsL]; have := h.2.2; omega⟩
theorem lay_ok (d : Dat) (hd : Small d) (w : Int) : Pure G0 7 [.agg d.cells, .int .i64 w] (fun r => r = .tup [.str (alB (.cons d .nil) w), .int .i64 (alE (.cons d .nil) w)]) := by
  have hL := SmallL_one hd
  obtain ⟨k, n, s, ks⟩ := d
  have d1 : isSmL 1 [PV.int IntKind.i64 k, PV.int IntKind.i64 n, PV.str s, PV.slice (Dats.len ks) (Dats.cells ks)] = true := isSmL_at (ks := .cons (.mk k n s ks) .nil) hL
  have e1 : alBC w [PV.int IntKind.i64 k, PV.int IntKind.i64 n, PV.str s, PV.slice (Dats.len ks) (Dats.cells ks)] = alB (.cons (.mk k n s ks) .nil) w := ofCellsL_at _ _ (.cons (.mk k n s ks) .nil)
  have e2 : alEC w [PV.int IntKind.i64 k, PV.int IntKind.i64 n, PV.str s, PV.slice (Dats.len ks) (Dats.cells ks)] = alE (.cons (.mk k n s ks) .nil) w := ofCellsL_at _ _ (.cons (.mk k n s ks) .nil)
  refine Fn.enterB Tryz.func7 Tryz.ntmps7 rfl (Nat.le_of_ble_eq_true rfl) fun C fr fp hnt hnb hp hfr hfp => ?_
  refine SWP.runQ (SLy []) 100 12 hnt [4, 5] (e := .ret) (z := ⟨[(4, .str (alBC w [.int .i64 k, .int .i64 n, .str s, .slice (Dats.len ks) (Dats.cells ks)])), (5, .int .i64 (alEC w [.int .i64 k, .int .i64 n, .str s, .slice (Dats.len ks) (Dats.cells ks)]))], ⟨[⟨[.int .i64 k, .int .i64 n, .str s, .slice (Dats.len ks) (Dats.cells ks)], 24⟩], []⟩⟩) (o := [(true, true), (isSmL 1 [PV.int IntKind.i64 k, PV.int IntKind.i64 n, PV.str s, PV.slice (Dats.len ks) (Dats.cells ks)], true)]) (by kernel_rfl) (by repeat' first | exact okO_nil | refine okN ?_ ?_ | assumption | rfl) (fun st hs => hfr st [4, 5] ?_)
  rw [hs, e1, e2]
  exact ⟨0, .tup [.str (alB (.cons (.mk k n s ks) .nil) w), .int .i64 (alE (.cons (.mk k n s ks) .nil) w)], Nat.le_refl _, Nat.zero_le _, rfl, rfl, rfl, rfl, _, rfl, rfl⟩
theorem reflay_ok (d : Dat) (hd : Small d) (hf : formedD d = true) (w : Nat) (hw : w ≤ 4398046511104) : Pure G0 14 [.agg d.cells, .int .i64 w] (fun r => r = .str (mkS (layT w d 0 0 ++ [10]))) := by
  have hl := hd.lay hf w
  have hsz := size_parts d
  have hsp := hd.2.2
  obtain ⟨k, n, s, ks⟩ := d
  have d1 : isLy [PV.int IntKind.i64 k, PV.int IntKind.i64 n, PV.str s, PV.slice (Dats.len ks) (Dats.cells ks)] = true := isLy_at (d := .mk k n s ks) hd hf
  have e1 : rlC (Int.toNat (Int.ofNat w)) 0 0 [] [PV.int IntKind.i64 k, PV.int IntKind.i64 n, PV.str s, PV.slice (Dats.len ks) (Dats.cells ks)] = layT w (.mk k n s ks) 0 0 := rlC_at w 0 0 [] (.mk k n s ks)
  have hq : ∀ p : List UInt8, bytesPL p ++ [PV.int IntKind.u8 (10 : Int)] = bytesPL (p ++ [10]) := fun p => by rw [bytesPL_append]; rfl
  refine Fn.enterB Tryz.func14 Tryz.ntmps14 rfl (Nat.le_of_ble_eq_true rfl) fun C fr fp hnt hnb hp hfr hfp => ?_
  refine SWP.runQ (SLy [(11, [(9, true), (10, true)])]) 100 11 hnt [4] (e := .ret) (z := ⟨[(4, .str (strOf (bytesPL (rlC (Int.toNat (Int.ofNat w)) 0 0 [] [.int .i64 k, .int .i64 n, .str s, .slice (Dats.len ks) (Dats.cells ks)]) ++ [PV.int IntKind.u8 (10 : Int)])))], ⟨[⟨[.int .i64 k, .int .i64 n, .str s, .slice (Dats.len ks) (Dats.cells ks)], 24⟩], [some ⟨bytesPL (rlC (Int.toNat (Int.ofNat w)) 0 0 [] [.int .i64 k, .int .i64 n, .str s, .slice (Dats.len ks) (Dats.cells ks)]) ++ [PV.int IntKind.u8 (10 : Int)], List.length (rlC (Int.toNat (Int.ofNat w)) 0 0 [] [.int .i64 k, .int .i64 n, .str s, .slice (Dats.len ks) (Dats.cells ks)]) + 1, 5, 1⟩]⟩⟩) (o := [(isLy [PV.int IntKind.i64 k, PV.int IntKind.i64 n, PV.str s, PV.slice (Dats.len ks) (Dats.cells ks)], true), (decide (0 ≤ (↑w : Int) ∧ (↑w : Int) ≤ 4398046511104), true), (true, true), (Nat.ble ((List.length (rlC (Int.toNat (Int.ofNat w)) 0 0 [] [PV.int IntKind.i64 k, PV.int IntKind.i64 n, PV.str s, PV.slice (Dats.len ks) (Dats.cells ks)]) + 1) * 1) 140737488355328, true), (Nat.ble (List.length (rlC (Int.toNat (Int.ofNat w)) 0 0 [] [PV.int IntKind.i64 k, PV.int IntKind.i64 n, PV.str s, PV.slice (Dats.len ks) (Dats.cells ks)]) + 1) 9223372036854775807, true), (Nat.beq (List.length (bytesPL (rlC (Int.toNat (Int.ofNat w)) 0 0 [] [PV.int IntKind.i64 k, PV.int IntKind.i64 n, PV.str s, PV.slice (Dats.len ks) (Dats.cells ks)]) ++ [PV.int IntKind.u8 (10 : Int)])) (List.length (rlC (Int.toNat (Int.ofNat w)) 0 0 [] [PV.int IntKind.i64 k, PV.int IntKind.i64 n, PV.str s, PV.slice (Dats.len ks) (Dats.cells ks)]) + 1), true), (isBytes (bytesPL (rlC (Int.toNat (Int.ofNat w)) 0 0 [] [PV.int IntKind.i64 k, PV.int IntKind.i64 n, PV.str s, PV.slice (Dats.len ks) (Dats.cells ks)]) ++ [PV.int IntKind.u8 (10 : Int)]), true)]) (by kernel_rfl) ?_ (fun st hs => hfr st [4] ?_)
  · simp only [e1, hq, bytesPL_length, isBytes_PL, List.length_append, List.length_cons, List.length_nil]
    (repeat' (first | exact okO_nil | refine okN ?_ ?_)); all_goals first | (with_reducible rfl) | assumption | (simp only [decide_eq_true_eq, Nat.ble_eq, Nat.beq_eq] <;> omega)
  · rw [hs, e1, hq]
    exact ⟨0, .str (strOf (bytesPL (layT w (.mk k n s ks) 0 0 ++ [10]))), Nat.le_refl _, Nat.zero_le _, rfl, rfl, rfl, rfl, _, rfl, congrArg PV.str (strOf_PV (mkS (layT w (.mk k n s ks) 0 0 ++ [10])))⟩
end Seat
end Go.Proofs.YtkblfapbakfgpaaGreatDoor
namespace Go.Proofs.YtkblfapbakfgpaaGreatDoor
open Go.AS Go.RowKit
set_option linter.unusedVariables false
set_option linter.unusedSimpArgs false
set_option maxRecDepth 100000
set_option maxHeartbeats 4000000
namespace Seat
def widB (w : Int) : Bool := decide (10 ≤ w ∧ w ≤ 200)
theorem width_ok (w : Int) : Pure G0 13 [.int .i64 w] (fun r => r = .bool (widB w)) := by
  by_cases h1 : 10 ≤ w
  · by_cases h2 : w ≤ 200
    · have : widB w = true := decide_eq_true ⟨h1, h2⟩
      rw [this]
      exact Pure.runO (S := SK [(9, [(4, true), (7, true)])]) 60 (o := [(decide (w ≥ 10), true), (decide (w ≤ 200), true)]) (by kernel_rfl) (by simp [okO, h1, h2])
    · have : widB w = false := decide_eq_false (by omega)
      rw [this]
      exact Pure.runO (S := SK [(9, [(4, true), (7, false)])]) 60 (o := [(decide (w ≥ 10), true), (decide (w ≤ 200), false)]) (by kernel_rfl) (by simp [okO, h1, h2])
  · have : widB w = false := decide_eq_false (by omega)
    rw [this]
    exact Pure.runO (S := SK [(9, [(4, false)])]) 60 (o := [(decide (w ≥ 10), false)]) (by kernel_rfl) (by simp [okO, h1])
theorem fitE_wid (w : Int) : fitE w = if widB w = true then 0 else 2 := by
  unfold fitE widB
  by_cases h1 : w < 10
  · rw [if_pos h1, if_neg (by simp; omega)]
  · by_cases h2 : 200 < w
    · rw [if_neg h1, if_pos h2, if_neg (by simp; omega)]
    · rw [if_neg h1, if_neg h2, if_pos (by simp; omega)]
end Seat
end Go.Proofs.YtkblfapbakfgpaaGreatDoor
namespace Go.Proofs.YtkblfapbakfgpaaGreatDoor
open Go.AS Go.RowKit
set_option linter.unusedVariables false
set_option linter.unusedSimpArgs false
set_option maxRecDepth 100000
set_option maxHeartbeats 4000000
namespace Seat
open Classical in
noncomputable def isSml (cs : List PV) : Bool := decide (∃ d : Dat, d.cells = cs ∧ Small d)
theorem isSml_at {d : Dat} (h : Small d) : isSml d.cells = true := by
  unfold isSml
  classical exact decide_eq_true ⟨d, rfl, h⟩
theorem isSml_of {cs : List PV} (h : isSml cs = true) : ∃ d : Dat, d.cells = cs ∧ Small d := by
  unfold isSml at h
  classical exact of_decide_eq_true h
noncomputable def loBC (w : Int) (cs : List PV) : ByteArray := ofCells (fun d => alB (.cons d .nil) w) ⟨#[]⟩ cs
noncomputable def loEC (w : Int) (cs : List PV) : Int := ofCells (fun d => alE (.cons d .nil) w) 0 cs
noncomputable def loS (f : Nat) (args : List PV) : Option (PV × Ob) := match f, args with
  | 7, [.agg cs, .int .i64 w] => some (.tup [.str (loBC w cs), .int .i64 (loEC w cs)], [(isSml cs, true)])
  | _, _ => none
theorem loS_ok (f : Nat) (args : List PV) (r : PV) (o : Ob) (h : loS f args = some (r, o)) (ho : ∀ p ∈ o, p.1 = p.2) (_ : pureL args = true) : Pure G0 f args (fun x => x = r) := by
  unfold loS at h
  split at h
  · rename_i cs w _
    cases h
    obtain ⟨d, rfl, h1⟩ := isSml_of (ho _ (List.mem_singleton.2 rfl))
    unfold loBC loEC
    rw [ofCells_at, ofCells_at]
    exact lay_ok d h1 w
  · cases h
noncomputable def meV (f : Nat) (xs : List PV) (H : Hp) : Option (PV × Hp × Ob) := match f, xs, H with
  | 26, [.agg [.iface tp (.ptr 0 0), .int .i64 w], .agg cs, .int .i64 0, .int .i64 0], ⟨[⟨[.int .i64 1, .int .i64 0, .int .i64 0], ty⟩], []⟩ => match Nat.beq tp 75 && Nat.beq ty 79 with
    | true => some (.tup [], ⟨[⟨[.int .i64 (lmC w.toNat 0 0 (1, 0, 0) cs).1, .int .i64 (lmC w.toNat 0 0 (1, 0, 0) cs).2.1, .int .i64 (lmC w.toNat 0 0 (1, 0, 0) cs).2.2], ty⟩], []⟩, [(isLy cs, true), (decide (0 ≤ w ∧ w ≤ 4398046511104), true)])
    | false => none
  | _, _, _ => none
theorem meV_ok (f : Nat) (xs : List PV) (H : Hp) (r : PV) (H' : Hp) (o : Ob) (h : meV f xs H = some (r, H', o)) (ho : ∀ p ∈ o, p.1 = p.2) : RCalls G0 f xs H (fun o' H2 => o' = .ret r ∧ H2 = H') ∧ r.scP (belowN H'.bx.length) (belowN H'.rw.length) = true ∧ H'.scB H'.bx.length H'.rw.length = true := by
  unfold meV at h
  split at h
  · rename_i tp w cs ty
    split at h
    · rename_i hc
      cases h
      simp only [Bool.and_eq_true, Nat.beq_eq] at hc
      obtain ⟨rfl, rfl⟩ := hc
      obtain ⟨d, rfl, h1, h2⟩ := isLy_of (ho (isLy cs, true) (by simp))
      have g1 := of_decide_eq_true (ho (decide (0 ≤ w ∧ w ≤ 4398046511104), true) (by simp))
      rw [lmC_at]
      have hs := size_parts d
      have hp := h1.2.2
      have hl := h1.lay h2 w.toNat
      have key := metAt (d.size + 1) d (by omega) h1.1 h1.2.1 h2 (h1.text h2) w.toNat 0 0 (by omega) (by omega) (by omega) 1 0 0 (by omega) (by omega)
      rw [Int.toNat_of_nonneg g1.1] at key
      exact ⟨key, rfl, rfl⟩
    · cases h
  · cases h
noncomputable def SMe (l : List (Nat × List (Nat × Bool))) : Cfg G0 := { F := F, hF := hF, S := loS, hS := loS_ok, V := meV, hV := meV_ok, orc := orcM l }
theorem measured_ok (d : Dat) (hd : Small d) (hf : formedD d = true) (w : Nat) (hw : w ≤ 4398046511104) : RCalls G0 41 [.agg d.cells, .int .i64 w] ⟨[], []⟩ (fun o H => o = .ret (.ptr 1 0) ∧ H = ⟨[⟨d.cells, 24⟩, mT (layG mS w d 0 0 (1, 0, 0))], []⟩) := by
  obtain ⟨k, n, s, ks⟩ := d
  have d1 : isLy [PV.int IntKind.i64 k, PV.int IntKind.i64 n, PV.str s, PV.slice (Dats.len ks) (Dats.cells ks)] = true := isLy_at (d := .mk k n s ks) hd hf
  have e1 : lmC (Int.toNat (Int.ofNat w)) 0 0 (1, 0, 0) [PV.int IntKind.i64 k, PV.int IntKind.i64 n, PV.str s, PV.slice (Dats.len ks) (Dats.cells ks)] = layG mS w (.mk k n s ks) 0 0 (1, 0, 0) := lmC_at w 0 0 _ (.mk k n s ks)
  refine Fn.enterH Tryz.func41 Tryz.ntmps41 rfl (Nat.le_of_ble_eq_true rfl) fun C fr fp hnt hnb hfr => ?_
  refine SWP.runQ (SMe []) 100 15 hnt [4] (e := .ret) (z := ⟨[(4, .ptr 1 0)], ⟨[⟨[.int .i64 k, .int .i64 n, .str s, .slice (Dats.len ks) (Dats.cells ks)], 24⟩, ⟨[.int .i64 (Int.ofNat (Prod.fst (lmC (Int.toNat (Int.ofNat w)) 0 0 (1, 0, 0) [.int .i64 k, .int .i64 n, .str s, .slice (Dats.len ks) (Dats.cells ks)]))), .int .i64 (Int.ofNat (Prod.fst (Prod.snd (lmC (Int.toNat (Int.ofNat w)) 0 0 (1, 0, 0) [.int .i64 k, .int .i64 n, .str s, .slice (Dats.len ks) (Dats.cells ks)])))), .int .i64 (Int.ofNat (Prod.snd (Prod.snd (lmC (Int.toNat (Int.ofNat w)) 0 0 (1, 0, 0) [.int .i64 k, .int .i64 n, .str s, .slice (Dats.len ks) (Dats.cells ks)]))))], 79⟩], []⟩⟩) (o := [(isLy [PV.int IntKind.i64 k, PV.int IntKind.i64 n, PV.str s, PV.slice (Dats.len ks) (Dats.cells ks)], true), (decide (0 ≤ (↑w : Int) ∧ (↑w : Int) ≤ 4398046511104), true)]) (by kernel_rfl) (by ((repeat' (first | exact okO_nil | refine okN ?_ ?_)); all_goals first | assumption | rfl | exact same_of rfl | exact sameS_self _ | (simp only [decide_eq_true_eq, decide_eq_false_iff_not, Nat.ble_eq, Nat.beq_eq, beq_eq_false_iff_ne, beq_iff_eq, ne_eq] <;> omega))) (fun st hs => hfr st [4] ?_)
  rw [hs, e1]
  exact ⟨2, 0, .ptr 1 0, Nat.zero_le _, Nat.le_refl _, Nat.le_refl _, Nat.le_refl _, rfl, rfl, rfl, rfl, rfl⟩
noncomputable def msV (f : Nat) (xs : List PV) (H : Hp) : Option (PV × Hp × Ob) := match f, xs, H with
  | 41, [.agg cs, .int .i64 w], ⟨[], []⟩ => some (.ptr 1 0, ⟨[⟨cs, 24⟩, ⟨[.int .i64 (lmC w.toNat 0 0 (1, 0, 0) cs).1, .int .i64 (lmC w.toNat 0 0 (1, 0, 0) cs).2.1, .int .i64 (lmC w.toNat 0 0 (1, 0, 0) cs).2.2], 79⟩], []⟩, [(isLy cs, true), (decide (0 ≤ w ∧ w ≤ 4398046511104), true)])
  | _, _, _ => none
theorem msV_ok (f : Nat) (xs : List PV) (H : Hp) (r : PV) (H' : Hp) (o : Ob) (h : msV f xs H = some (r, H', o)) (ho : ∀ p ∈ o, p.1 = p.2) : RCalls G0 f xs H (fun o' H2 => o' = .ret r ∧ H2 = H') ∧ r.scP (belowN H'.bx.length) (belowN H'.rw.length) = true ∧ H'.scB H'.bx.length H'.rw.length = true := by
  unfold msV at h
  split at h
  · rename_i cs w
    cases h
    obtain ⟨d, rfl, h1, h2⟩ := isLy_of (ho (isLy cs, true) (by simp))
    have g1 := of_decide_eq_true (ho (decide (0 ≤ w ∧ w ≤ 4398046511104), true) (by simp))
    rw [lmC_at]
    have key := measured_ok d h1 h2 w.toNat (by omega)
    rw [Int.toNat_of_nonneg g1.1] at key
    obtain ⟨k, n, s, ks⟩ := d
    exact ⟨key, rfl, rfl⟩
  · cases h
noncomputable def SLk (l : List (Nat × List (Nat × Bool))) : Cfg G0 := { F := F, hF := hF, S := loS, hS := loS_ok, V := msV, hV := msV_ok, orc := orcM l }
end Seat
end Go.Proofs.YtkblfapbakfgpaaGreatDoor
namespace Go.Proofs.YtkblfapbakfgpaaGreatDoor
open Go.AS Go.RowKit
set_option linter.unusedVariables false
set_option linter.unusedSimpArgs false
set_option maxRecDepth 100000
set_option maxHeartbeats 4000000
namespace Seat
theorem alE_zero {d : Dat} {w : Int} (h : alE (.cons d .nil) w = 0) : chkD d = 0 ∧ 10 ≤ w ∧ w ≤ 200 := by
  unfold alE at h
  have hc : chkA (.cons d .nil) = if chkD d = 0 then 0 else chkD d := rfl
  by_cases h1 : chkD d = 0
  · rw [hc, if_pos h1, if_pos rfl] at h
    by_cases h2 : fitE w = 0
    · refine ⟨h1, ?_⟩
      unfold fitE at h2
      split at h2
      · cases h2
      · split at h2
        · cases h2
        · omega
    · rw [if_neg h2] at h; exact absurd h h2
  · rw [hc, if_neg h1, if_neg h1] at h; exact absurd h h1
theorem look_bad (d : Dat) (hd : Small d) (w : Int) (he : alE (.cons d .nil) w ≠ 0) : RCalls G0 29 [.agg d.cells, .int .i64 w] ⟨[], []⟩ (fun o H => o = .ret (.tup [.ptr 1 0, .int .i64 (alE (.cons d .nil) w)]) ∧ H = ⟨[⟨d.cells, 24⟩, mT (0, 0, 0)], []⟩) := by
  obtain ⟨k, n, s, ks⟩ := d
  have d1 : isSml [PV.int IntKind.i64 k, PV.int IntKind.i64 n, PV.str s, PV.slice (Dats.len ks) (Dats.cells ks)] = true := isSml_at (d := .mk k n s ks) hd
  have e1 : loEC w [PV.int IntKind.i64 k, PV.int IntKind.i64 n, PV.str s, PV.slice (Dats.len ks) (Dats.cells ks)] = alE (.cons (.mk k n s ks) .nil) w := ofCells_at _ _ (.mk k n s ks)
  have d2 : (!loEC w [PV.int IntKind.i64 k, PV.int IntKind.i64 n, PV.str s, PV.slice (Dats.len ks) (Dats.cells ks)] == (0 : Int)) = true := by rw [e1, Bool.not_eq_true', beq_eq_false_iff_ne]; exact he
  refine Fn.enterH Tryz.func29 Tryz.ntmps29 rfl (Nat.le_of_ble_eq_true rfl) fun C fr fp hnt hnb hfr => ?_
  refine SWP.runQ (SLk [(22, [(15, true)])]) 100 22 hnt [4, 5] (e := .ret) (z := ⟨[(4, .ptr 1 0), (5, .int .i64 (loEC w [.int .i64 k, .int .i64 n, .str s, .slice (Dats.len ks) (Dats.cells ks)]))], ⟨[⟨[.int .i64 k, .int .i64 n, .str s, .slice (Dats.len ks) (Dats.cells ks)], 24⟩, ⟨[.int .i64 (0 : Int), .int .i64 (0 : Int), .int .i64 (0 : Int)], 79⟩], []⟩⟩) (o := [(true, true), (isSml [PV.int IntKind.i64 k, PV.int IntKind.i64 n, PV.str s, PV.slice (Dats.len ks) (Dats.cells ks)], true), (!loEC w [PV.int IntKind.i64 k, PV.int IntKind.i64 n, PV.str s, PV.slice (Dats.len ks) (Dats.cells ks)] == (0 : Int), true), (true, true)]) (by kernel_rfl) (by repeat' first | exact okO_nil | refine okN ?_ ?_ | assumption | rfl) (fun st hs => hfr st [4, 5] ?_)
  rw [hs, e1]
  exact ⟨2, 0, .tup [.ptr 1 0, .int .i64 (alE (.cons (.mk k n s ks) .nil) w)], Nat.zero_le _, Nat.le_refl _, Nat.le_refl _, Nat.le_refl _, rfl, rfl, rfl, rfl, rfl⟩
theorem look_ok (d : Dat) (hd : Small d) (w : Nat) (he : alE (.cons d .nil) w = 0) : RCalls G0 29 [.agg d.cells, .int .i64 w] ⟨[], []⟩ (fun o H => o = .ret (.tup [.ptr 2 0, .int .i64 0]) ∧ H = ⟨[⟨d.cells, 24⟩, ⟨d.cells, 24⟩, mT (layG mS w d 0 0 (1, 0, 0))], []⟩) := by
  obtain ⟨g1, g2, g3⟩ := alE_zero he
  have hf := chk_formed g1
  obtain ⟨k, n, s, ks⟩ := d
  have d1 : isSml [PV.int IntKind.i64 k, PV.int IntKind.i64 n, PV.str s, PV.slice (Dats.len ks) (Dats.cells ks)] = true := isSml_at (d := .mk k n s ks) hd
  have d0 : isLy [PV.int IntKind.i64 k, PV.int IntKind.i64 n, PV.str s, PV.slice (Dats.len ks) (Dats.cells ks)] = true := isLy_at (d := .mk k n s ks) hd hf
  have e1 : loEC (Int.ofNat w) [PV.int IntKind.i64 k, PV.int IntKind.i64 n, PV.str s, PV.slice (Dats.len ks) (Dats.cells ks)] = alE (.cons (.mk k n s ks) .nil) w := ofCells_at _ _ (.mk k n s ks)
  have d2 : (!loEC (Int.ofNat w) [PV.int IntKind.i64 k, PV.int IntKind.i64 n, PV.str s, PV.slice (Dats.len ks) (Dats.cells ks)] == (0 : Int)) = false := by rw [e1, Bool.not_eq_false', beq_iff_eq]; exact he
  have e2 : lmC (Int.toNat (Int.ofNat w)) 0 0 (1, 0, 0) [PV.int IntKind.i64 k, PV.int IntKind.i64 n, PV.str s, PV.slice (Dats.len ks) (Dats.cells ks)] = layG mS w (.mk k n s ks) 0 0 (1, 0, 0) := lmC_at w 0 0 _ (.mk k n s ks)
  refine Fn.enterH Tryz.func29 Tryz.ntmps29 rfl (Nat.le_of_ble_eq_true rfl) fun C fr fp hnt hnb hfr => ?_
  refine SWP.runQ (SLk [(22, [(15, false)])]) 100 22 hnt [4, 5] (e := .ret) (z := ⟨[(4, .ptr 2 0), (5, .int .i64 (0 : Int))], ⟨[⟨[.int .i64 k, .int .i64 n, .str s, .slice (Dats.len ks) (Dats.cells ks)], 24⟩, ⟨[.int .i64 k, .int .i64 n, .str s, .slice (Dats.len ks) (Dats.cells ks)], 24⟩, ⟨[.int .i64 (Int.ofNat (Prod.fst (lmC (Int.toNat (Int.ofNat w)) 0 0 (1, 0, 0) [.int .i64 k, .int .i64 n, .str s, .slice (Dats.len ks) (Dats.cells ks)]))), .int .i64 (Int.ofNat (Prod.fst (Prod.snd (lmC (Int.toNat (Int.ofNat w)) 0 0 (1, 0, 0) [.int .i64 k, .int .i64 n, .str s, .slice (Dats.len ks) (Dats.cells ks)])))), .int .i64 (Int.ofNat (Prod.snd (Prod.snd (lmC (Int.toNat (Int.ofNat w)) 0 0 (1, 0, 0) [.int .i64 k, .int .i64 n, .str s, .slice (Dats.len ks) (Dats.cells ks)]))))], 79⟩], []⟩⟩) (o := [(true, true), (isSml [PV.int IntKind.i64 k, PV.int IntKind.i64 n, PV.str s, PV.slice (Dats.len ks) (Dats.cells ks)], true), (!loEC (Int.ofNat w) [PV.int IntKind.i64 k, PV.int IntKind.i64 n, PV.str s, PV.slice (Dats.len ks) (Dats.cells ks)] == (0 : Int), false), (false, false), (isLy [PV.int IntKind.i64 k, PV.int IntKind.i64 n, PV.str s, PV.slice (Dats.len ks) (Dats.cells ks)], true), (decide (0 ≤ (↑w : Int) ∧ (↑w : Int) ≤ 4398046511104), true)]) (by kernel_rfl) (by ((repeat' (first | exact okO_nil | refine okN ?_ ?_)); all_goals first | assumption | rfl | exact same_of rfl | exact sameS_self _ | (simp only [decide_eq_true_eq, decide_eq_false_iff_not, Nat.ble_eq, Nat.beq_eq, beq_eq_false_iff_ne, beq_iff_eq, ne_eq] <;> omega))) (fun st hs => hfr st [4, 5] ?_)
  rw [hs, e2]
  exact ⟨3, 0, .tup [.ptr 2 0, .int .i64 0], Nat.zero_le _, Nat.le_refl _, Nat.le_refl _, Nat.le_refl _, rfl, rfl, rfl, rfl, rfl⟩
noncomputable def lkV (b : Bool) (f : Nat) (xs : List PV) (H : Hp) : Option (PV × Hp × Ob) := match f, xs, H with
  | 29, [.agg cs, .int .i64 w], ⟨[], []⟩ => match b with
    | true => some (.tup [.ptr 2 0, .int .i64 0], ⟨[⟨cs, 24⟩, ⟨cs, 24⟩, ⟨[.int .i64 (lmC w.toNat 0 0 (1, 0, 0) cs).1, .int .i64 (lmC w.toNat 0 0 (1, 0, 0) cs).2.1, .int .i64 (lmC w.toNat 0 0 (1, 0, 0) cs).2.2], 79⟩], []⟩, [(isSml cs, true), (loEC w cs == 0, true)])
    | false => some (.tup [.ptr 1 0, .int .i64 (loEC w cs)], ⟨[⟨cs, 24⟩, ⟨[.int .i64 0, .int .i64 0, .int .i64 0], 79⟩], []⟩, [(isSml cs, true), (loEC w cs == 0, false)])
  | _, _, _ => none
theorem lkV_ok (b : Bool) (f : Nat) (xs : List PV) (H : Hp) (r : PV) (H' : Hp) (o : Ob) (h : lkV b f xs H = some (r, H', o)) (ho : ∀ p ∈ o, p.1 = p.2) : RCalls G0 f xs H (fun o' H2 => o' = .ret r ∧ H2 = H') ∧ r.scP (belowN H'.bx.length) (belowN H'.rw.length) = true ∧ H'.scB H'.bx.length H'.rw.length = true := by
  unfold lkV at h
  split at h
  · rename_i cs w
    cases b with
    | true =>
      cases h
      obtain ⟨d, rfl, h1⟩ := isSml_of (ho (isSml cs, true) (by simp))
      have h2 := ho (loEC w d.cells == 0, true) (by simp)
      have e1 : loEC w d.cells = alE (.cons d .nil) w := ofCells_at _ _ d
      simp only [e1, beq_iff_eq] at h2
      obtain ⟨g1, g2, g3⟩ := alE_zero h2
      rw [lmC_at]
      have key := look_ok d h1 w.toNat (by rw [Int.toNat_of_nonneg (by omega)]; exact h2)
      rw [Int.toNat_of_nonneg (by omega)] at key
      obtain ⟨k, n, s, ks⟩ := d
      exact ⟨key, rfl, rfl⟩
    | false =>
      cases h
      obtain ⟨d, rfl, h1⟩ := isSml_of (ho (isSml cs, true) (by simp))
      have h2 := ho (loEC w d.cells == 0, false) (by simp)
      have e1 : loEC w d.cells = alE (.cons d .nil) w := ofCells_at _ _ d
      simp only [e1, beq_eq_false_iff_ne] at h2
      rw [e1]
      have key := look_bad d h1 w h2
      obtain ⟨k, n, s, ks⟩ := d
      exact ⟨key, rfl, rfl⟩
  · cases h
noncomputable def SLi (b : Bool) : Cfg G0 := { F := F, hF := hF, S := loS, hS := loS_ok, V := lkV b, hV := lkV_ok b }
end Seat
end Go.Proofs.YtkblfapbakfgpaaGreatDoor
namespace Go.Proofs.YtkblfapbakfgpaaGreatDoor
open Go.AS Go.RowKit
set_option linter.unusedVariables false
set_option linter.unusedSimpArgs false
set_option maxRecDepth 100000
set_option maxHeartbeats 4000000
namespace Seat
def metR (d : Dat) (w : Int) : Nat × Nat × Nat := if alE (.cons d .nil) w = 0 then layG mS w.toNat d 0 0 (1, 0, 0) else (0, 0, 0)
theorem lines_ok (d : Dat) (hd : Small d) (w : Int) : Pure G0 17 [.agg d.cells, .int .i64 w] (fun r => r = .tup [.int .i64 ((metR d w).1 : Nat), .int .i64 (alE (.cons d .nil) w)]) := by
  obtain ⟨k, n, s, ks⟩ := d
  have d1 : isSml [PV.int IntKind.i64 k, PV.int IntKind.i64 n, PV.str s, PV.slice (Dats.len ks) (Dats.cells ks)] = true := isSml_at (d := .mk k n s ks) hd
  have e1 : loEC w [PV.int IntKind.i64 k, PV.int IntKind.i64 n, PV.str s, PV.slice (Dats.len ks) (Dats.cells ks)] = alE (.cons (.mk k n s ks) .nil) w := ofCells_at _ _ (.mk k n s ks)
  have e2 : lmC w.toNat 0 0 (1, 0, 0) [PV.int IntKind.i64 k, PV.int IntKind.i64 n, PV.str s, PV.slice (Dats.len ks) (Dats.cells ks)] = layG mS w.toNat (.mk k n s ks) 0 0 (1, 0, 0) := lmC_at w.toNat 0 0 _ (.mk k n s ks)
  refine Fn.enterB Tryz.func17 Tryz.ntmps17 rfl (Nat.le_of_ble_eq_true rfl) fun C fr fp hnt hnb hp hfr hfp => ?_
  by_cases he : alE (.cons (.mk k n s ks) .nil) w = 0
  · have d2 : (loEC w [PV.int IntKind.i64 k, PV.int IntKind.i64 n, PV.str s, PV.slice (Dats.len ks) (Dats.cells ks)] == (0 : Int)) = true := by rw [e1, beq_iff_eq]; exact he
    refine SWP.runQ (SLi true) 100 19 hnt [4, 5] (e := .ret) (z := ⟨[(4, .int .i64 (Int.ofNat (Prod.fst (lmC (Int.toNat w) 0 0 (1, 0, 0) [.int .i64 k, .int .i64 n, .str s, .slice (Dats.len ks) (Dats.cells ks)])))), (5, .int .i64 (0 : Int))], ⟨[⟨[.int .i64 k, .int .i64 n, .str s, .slice (Dats.len ks) (Dats.cells ks)], 24⟩, ⟨[.int .i64 k, .int .i64 n, .str s, .slice (Dats.len ks) (Dats.cells ks)], 24⟩, ⟨[.int .i64 k, .int .i64 n, .str s, .slice (Dats.len ks) (Dats.cells ks)], 24⟩, ⟨[.int .i64 (Int.ofNat (Prod.fst (lmC (Int.toNat w) 0 0 (1, 0, 0) [.int .i64 k, .int .i64 n, .str s, .slice (Dats.len ks) (Dats.cells ks)]))), .int .i64 (Int.ofNat (Prod.fst (Prod.snd (lmC (Int.toNat w) 0 0 (1, 0, 0) [.int .i64 k, .int .i64 n, .str s, .slice (Dats.len ks) (Dats.cells ks)])))), .int .i64 (Int.ofNat (Prod.snd (Prod.snd (lmC (Int.toNat w) 0 0 (1, 0, 0) [.int .i64 k, .int .i64 n, .str s, .slice (Dats.len ks) (Dats.cells ks)]))))], 79⟩], []⟩⟩) (o := [(isSml [PV.int IntKind.i64 k, PV.int IntKind.i64 n, PV.str s, PV.slice (Dats.len ks) (Dats.cells ks)], true), (loEC w [PV.int IntKind.i64 k, PV.int IntKind.i64 n, PV.str s, PV.slice (Dats.len ks) (Dats.cells ks)] == (0 : Int), true)]) (by kernel_rfl) (by repeat' first | exact okO_nil | refine okN ?_ ?_ | assumption | rfl) (fun st hs => hfr st [4, 5] ?_)
    rw [hs, e2, metR, if_pos he, he]
    exact ⟨0, .tup [.int .i64 ((layG mS w.toNat (.mk k n s ks) 0 0 (1, 0, 0)).1 : Nat), .int .i64 0], Nat.le_refl _, Nat.zero_le _, rfl, rfl, rfl, rfl, _, rfl, rfl⟩
  · have d2 : (loEC w [PV.int IntKind.i64 k, PV.int IntKind.i64 n, PV.str s, PV.slice (Dats.len ks) (Dats.cells ks)] == (0 : Int)) = false := by rw [e1, beq_eq_false_iff_ne]; exact he
    refine SWP.runQ (SLi false) 100 19 hnt [4, 5] (e := .ret) (z := ⟨[(4, .int .i64 (0 : Int)), (5, .int .i64 (loEC w [.int .i64 k, .int .i64 n, .str s, .slice (Dats.len ks) (Dats.cells ks)]))], ⟨[⟨[.int .i64 k, .int .i64 n, .str s, .slice (Dats.len ks) (Dats.cells ks)], 24⟩, ⟨[.int .i64 k, .int .i64 n, .str s, .slice (Dats.len ks) (Dats.cells ks)], 24⟩, ⟨[.int .i64 (0 : Int), .int .i64 (0 : Int), .int .i64 (0 : Int)], 79⟩], []⟩⟩) (o := [(isSml [PV.int IntKind.i64 k, PV.int IntKind.i64 n, PV.str s, PV.slice (Dats.len ks) (Dats.cells ks)], true), (loEC w [PV.int IntKind.i64 k, PV.int IntKind.i64 n, PV.str s, PV.slice (Dats.len ks) (Dats.cells ks)] == (0 : Int), false)]) (by kernel_rfl) (by repeat' first | exact okO_nil | refine okN ?_ ?_ | assumption | rfl) (fun st hs => hfr st [4, 5] ?_)
    rw [hs, e1, metR, if_neg he]
    exact ⟨0, .tup [.int .i64 0, .int .i64 (alE (.cons (.mk k n s ks) .nil) w)], Nat.le_refl _, Nat.zero_le _, rfl, rfl, rfl, rfl, _, rfl, rfl⟩
end Seat
end Go.Proofs.YtkblfapbakfgpaaGreatDoor
namespace Go.Proofs.YtkblfapbakfgpaaGreatDoor
open Go.AS Go.RowKit
set_option linter.unusedVariables false
set_option linter.unusedSimpArgs false
set_option maxRecDepth 100000
set_option maxHeartbeats 4000000
namespace Seat
noncomputable def cuA (cs : List PV) : Int := ofCells (fun d => match (cutD d 1020 2000).1 with | .mk k _ _ _ => k) 0 cs
noncomputable def cuB (cs : List PV) : Int := ofCells (fun d => match (cutD d 1020 2000).1 with | .mk _ n _ _ => n) 0 cs
noncomputable def cuC (cs : List PV) : ByteArray := ofCells (fun d => match (cutD d 1020 2000).1 with | .mk _ _ s _ => s) ⟨#[]⟩ cs
noncomputable def cuD (cs : List PV) : Dats := ofCells (fun d => match (cutD d 1020 2000).1 with | .mk _ _ _ ks => ks) .nil cs
noncomputable def cuS (f : Nat) (args : List PV) : Option (PV × Ob) := match f, args with
  | 15, [.agg cs, .int .i64 2000, .int .i64 1020] => some (.agg [.int .i64 (cuA cs), .int .i64 (cuB cs), .str (cuC cs), .slice (cuD cs).len (cuD cs).cells], [(isOk cs, true)])
  | _, _ => none
theorem cuS_ok (f : Nat) (args : List PV) (r : PV) (o : Ob) (h : cuS f args = some (r, o)) (ho : ∀ p ∈ o, p.1 = p.2) (_ : pureL args = true) : Pure G0 f args (fun x => x = r) := by
  unfold cuS at h
  split at h
  · rename_i cs _
    cases h
    obtain ⟨d, rfl, h1⟩ := isOk_of (ho _ (List.mem_singleton.2 rfl))
    have key := cut_ok d h1 2000 1020 (by omega)
    unfold cuA cuB cuC cuD
    rw [ofCells_at, ofCells_at, ofCells_at, ofCells_at]
    cases hc : (cutD d 1020 2000).1 with
    | mk k n s ks =>
      rw [hc] at key
      exact key
  · cases h
noncomputable def SLcu : Cfg G0 := { F := F, hF := hF, S := cuS, hS := cuS_ok }
theorem lawcut_ok (d : Dat) (hd : d.ok) : Pure G0 6 [.agg d.cells] (fun r => r = .agg (cutD d 1020 2000).1.cells) := by
  have hg := isOk_at hd
  obtain ⟨k, n, s, ks⟩ := d
  have d1 : isOk [PV.int IntKind.i64 k, PV.int IntKind.i64 n, PV.str s, PV.slice (Dats.len ks) (Dats.cells ks)] = true := hg
  have e1 : [.int .i64 (cuA [PV.int IntKind.i64 k, PV.int IntKind.i64 n, PV.str s, PV.slice (Dats.len ks) (Dats.cells ks)]), .int .i64 (cuB [PV.int IntKind.i64 k, PV.int IntKind.i64 n, PV.str s, PV.slice (Dats.len ks) (Dats.cells ks)]), .str (cuC [PV.int IntKind.i64 k, PV.int IntKind.i64 n, PV.str s, PV.slice (Dats.len ks) (Dats.cells ks)]), .slice (cuD [PV.int IntKind.i64 k, PV.int IntKind.i64 n, PV.str s, PV.slice (Dats.len ks) (Dats.cells ks)]).len (cuD [PV.int IntKind.i64 k, PV.int IntKind.i64 n, PV.str s, PV.slice (Dats.len ks) (Dats.cells ks)]).cells] = (cutD (.mk k n s ks) 1020 2000).1.cells := by
    have a1 : cuA [PV.int IntKind.i64 k, PV.int IntKind.i64 n, PV.str s, PV.slice (Dats.len ks) (Dats.cells ks)] = _ := ofCells_at _ _ (.mk k n s ks)
    have a2 : cuB [PV.int IntKind.i64 k, PV.int IntKind.i64 n, PV.str s, PV.slice (Dats.len ks) (Dats.cells ks)] = _ := ofCells_at _ _ (.mk k n s ks)
    have a3 : cuC [PV.int IntKind.i64 k, PV.int IntKind.i64 n, PV.str s, PV.slice (Dats.len ks) (Dats.cells ks)] = _ := ofCells_at _ _ (.mk k n s ks)
    have a4 : cuD [PV.int IntKind.i64 k, PV.int IntKind.i64 n, PV.str s, PV.slice (Dats.len ks) (Dats.cells ks)] = _ := ofCells_at _ _ (.mk k n s ks)
    rw [a1, a2, a3, a4]
    cases (cutD (.mk k n s ks) 1020 2000).1 with
    | mk k n s ks => rfl
  refine Fn.enterB Tryz.func6 Tryz.ntmps6 rfl (Nat.le_of_ble_eq_true rfl) fun C fr fp hnt hnb hp hfr hfp => ?_
  refine SWP.runQ SLcu 100 5 hnt [2] (e := .ret) (z := ⟨[(2, .ptr 1 0)], ⟨[DB k n s ks, ⟨[.int .i64 (cuA [PV.int IntKind.i64 k, PV.int IntKind.i64 n, PV.str s, PV.slice (Dats.len ks) (Dats.cells ks)]), .int .i64 (cuB [PV.int IntKind.i64 k, PV.int IntKind.i64 n, PV.str s, PV.slice (Dats.len ks) (Dats.cells ks)]), .str (cuC [PV.int IntKind.i64 k, PV.int IntKind.i64 n, PV.str s, PV.slice (Dats.len ks) (Dats.cells ks)]), .slice (cuD [PV.int IntKind.i64 k, PV.int IntKind.i64 n, PV.str s, PV.slice (Dats.len ks) (Dats.cells ks)]).len (cuD [PV.int IntKind.i64 k, PV.int IntKind.i64 n, PV.str s, PV.slice (Dats.len ks) (Dats.cells ks)]).cells], 24⟩], []⟩⟩) (o := [(true, true), (isOk [PV.int IntKind.i64 k, PV.int IntKind.i64 n, PV.str s, PV.slice (Dats.len ks) (Dats.cells ks)], true)]) (by kernel_rfl) (by repeat' first | exact okO_nil | refine okN ?_ ?_ | assumption | rfl) (fun st hs => hfr st [2] ?_)
  rw [hs, ← e1]
  exact ⟨0, .agg [.int .i64 (cuA [PV.int IntKind.i64 k, PV.int IntKind.i64 n, PV.str s, PV.slice (Dats.len ks) (Dats.cells ks)]), .int .i64 (cuB [PV.int IntKind.i64 k, PV.int IntKind.i64 n, PV.str s, PV.slice (Dats.len ks) (Dats.cells ks)]), .str (cuC [PV.int IntKind.i64 k, PV.int IntKind.i64 n, PV.str s, PV.slice (Dats.len ks) (Dats.cells ks)]), .slice (cuD [PV.int IntKind.i64 k, PV.int IntKind.i64 n, PV.str s, PV.slice (Dats.len ks) (Dats.cells ks)]).len (cuD [PV.int IntKind.i64 k, PV.int IntKind.i64 n, PV.str s, PV.slice (Dats.len ks) (Dats.cells ks)]).cells], Nat.le_refl _, Nat.zero_le _, rfl, rfl, rfl, rfl, _, rfl, rfl⟩
end Seat
end Go.Proofs.YtkblfapbakfgpaaGreatDoor
namespace Go.Proofs.YtkblfapbakfgpaaGreatDoor
open Go.AS
set_option linter.unusedVariables false
set_option linter.unusedSimpArgs false
namespace Seat
mutual
inductive Nd where
  | mk (k n : Int) (t : ByteArray) (ks : Nds) (a : Int)
inductive Nds where
  | nil
  | cons (d : Nd) (ds : Nds)
end
mutual
def Nd.cells : Nd → List PV
  | .mk k n t ks a => [.int .i64 k, .int .i64 n, .str t, .slice ks.len ks.cells, .int .i64 a]
def Nds.cells : Nds → List PV
  | .nil => []
  | .cons d ds => d.cells ++ ds.cells
def Nds.len : Nds → Nat
  | .nil => 0
  | .cons _ ds => ds.len + 1
end
mutual
def Nd.dat : Nd → Dat
  | .mk k n t ks _ => .mk k n t ks.dat
def Nds.dat : Nds → Dats
  | .nil => .nil
  | .cons d ds => .cons d.dat ds.dat
end
def Nds.snoc : Nds → Nd → Nds
  | .nil, x => .cons x .nil
  | .cons d ds, x => .cons d (ds.snoc x)
def Nd.zero : Nd := .mk 0 0 ⟨#[]⟩ .nil 0
theorem Nd.cells_len (d : Nd) : d.cells.length = 5 := by cases d; rfl
theorem Nds.cells_len : ∀ ds : Nds, ds.cells.length = ds.len * 5
  | .nil => rfl
  | .cons d ds => by simp only [Nds.cells, Nds.len, List.length_append, Nd.cells_len, Nds.cells_len ds]; omega
theorem Nds.snoc_len : ∀ (ds : Nds) (x : Nd), (ds.snoc x).len = ds.len + 1
  | .nil, x => rfl
  | .cons d ds, x => by simp only [Nds.snoc, Nds.len, Nds.snoc_len ds x]
theorem Nds.snoc_cells : ∀ (ds : Nds) (x : Nd), (ds.snoc x).cells = ds.cells ++ x.cells
  | .nil, x => by simp [Nds.snoc, Nds.cells]
  | .cons d ds, x => by simp only [Nds.snoc, Nds.cells, Nds.snoc_cells ds x, List.append_assoc]
theorem Nds.dat_len : ∀ ds : Nds, ds.dat.len = ds.len
  | .nil => rfl
  | .cons d ds => by simp only [Nds.dat, Dats.len, Nds.len, Nds.dat_len ds]
mutual
theorem Nd.inj : ∀ (a b : Nd), a.cells = b.cells → a = b
  | .mk k n s ks a, .mk k' n' s' ks' a', h => by
    simp only [Nd.cells, List.cons.injEq, PV.int.injEq, PV.str.injEq, PV.slice.injEq, true_and, and_true] at h
    obtain ⟨rfl, rfl, rfl, ⟨_, h⟩, rfl⟩ := h
    rw [Nds.inj ks ks' h]
theorem Nds.inj : ∀ (a b : Nds), a.cells = b.cells → a = b
  | .nil, .nil, _ => rfl
  | .nil, .cons d ds, h => by
    have := congrArg List.length h
    simp only [Nds.cells, List.length_append, Nd.cells_len, List.length_nil] at this
    omega
  | .cons d ds, .nil, h => by
    have := congrArg List.length h
    simp only [Nds.cells, List.length_append, Nd.cells_len, List.length_nil] at this
    omega
  | .cons d ds, .cons e es, h => by
    simp only [Nds.cells] at h
    obtain ⟨h1, h2⟩ := List.append_inj h (by rw [Nd.cells_len, Nd.cells_len])
    rw [Nd.inj d e h1, Nds.inj ds es h2]
end
def blank (c : Int) : Bool := c == 32 || c == 9 || c == 10 || c == 13
def remK (s : ByteArray) : Nat → Nat → Nat
  | 0, a => a
  | k + 1, a => if a < s.size ∧ bt s (a : Int) ≠ 10 then remK s k (a + 1) else a
def remE (s : ByteArray) (a : Nat) : Nat := remK s (s.size - a) a
theorem remE_eq (s : ByteArray) (a : Nat) : remE s a = if a < s.size ∧ bt s (a : Int) ≠ 10 then remE s (a + 1) else a := by
  unfold remE
  by_cases h : a < s.size
  · obtain ⟨k, hk⟩ : ∃ k, s.size - a = k + 1 := ⟨s.size - a - 1, by omega⟩
    rw [hk, show s.size - (a + 1) = k by omega]
    rfl
  · rw [if_neg (fun g => h g.1), show s.size - a = 0 by omega]; rfl
theorem remK_ge (s : ByteArray) : ∀ k a, a ≤ remK s k a
  | 0, a => Nat.le_refl _
  | k + 1, a => by rw [remK]; split; exact Nat.le_trans (Nat.le_succ a) (remK_ge s k (a + 1)); exact Nat.le_refl _
theorem remE_ge (s : ByteArray) (a : Nat) : a ≤ remE s a := remK_ge s _ a
theorem remK_le (s : ByteArray) : ∀ k a, a ≤ s.size → remK s k a ≤ s.size
  | 0, a, h => h
  | k + 1, a, h => by
    rw [remK]
    split
    · rename_i g; exact remK_le s k (a + 1) g.1
    · exact h
theorem remE_le (s : ByteArray) (a : Nat) (h : a ≤ s.size) : remE s a ≤ s.size := remK_le s _ a h
def skpK (s : ByteArray) : Nat → Nat → Nat
  | 0, a => a
  | k + 1, a => if a < s.size then if blank (bt s (a : Int)) = true then skpK s k (a + 1) else if bt s (a : Int) = 59 then skpK s k (remE s a) else a else a
theorem remE_59 {s : ByteArray} {a : Nat} (h : a < s.size) (h9 : bt s (a : Int) = 59) : a + 1 ≤ remE s a := by
  rw [remE_eq, if_pos ⟨h, by rw [h9]; decide⟩]; exact remE_ge s (a + 1)
theorem skpK_more (s : ByteArray) : ∀ k m a, s.size - a ≤ k → k ≤ m → skpK s m a = skpK s k a
  | 0, m, a, h, _ => by
    cases m with
    | zero => rfl
    | succ m => simp only [skpK]; rw [if_neg (by omega)]
  | k + 1, m, a, h, hm => by
    obtain ⟨m, rfl⟩ : ∃ j, m = j + 1 := ⟨m - 1, by omega⟩
    rw [skpK, skpK]
    by_cases ha : a < s.size
    · rw [if_pos ha, if_pos ha, skpK_more s k m (a + 1) (by omega) (by omega)]
      by_cases h9 : bt s (a : Int) = 59
      · have := remE_59 ha h9
        rw [skpK_more s k m (remE s a) (by omega) (by omega)]
      · rw [if_neg h9, if_neg h9]
    · rw [if_neg ha, if_neg ha]
def skp (s : ByteArray) (a : Nat) : Nat := skpK s (s.size - a) a
theorem skp_eq (s : ByteArray) (a : Nat) : skp s a = if a < s.size then if blank (bt s (a : Int)) = true then skp s (a + 1) else if bt s (a : Int) = 59 then skp s (remE s a) else a else a := by
  by_cases h : a < s.size
  · unfold skp
    obtain ⟨k, hk⟩ : ∃ k, s.size - a = k + 1 := ⟨s.size - a - 1, by omega⟩
    rw [hk, show s.size - (a + 1) = k by omega, skpK]
    rw [if_pos h, if_pos h]
    by_cases h9 : bt s (a : Int) = 59
    · have := remE_59 h h9
      rw [skpK_more s (s.size - remE s a) k (remE s a) (Nat.le_refl _) (by omega)]
    · rw [if_neg h9, if_neg h9]
  · rw [if_neg h, skp, show s.size - a = 0 by omega]; rfl
theorem skpK_ge (s : ByteArray) : ∀ k a, a ≤ skpK s k a
  | 0, a => Nat.le_refl _
  | k + 1, a => by
    rw [skpK]
    split
    · split
      · exact Nat.le_trans (Nat.le_succ a) (skpK_ge s k (a + 1))
      · split
        · exact Nat.le_trans (remE_ge s a) (skpK_ge s k _)
        · exact Nat.le_refl _
    · exact Nat.le_refl _
theorem skp_ge (s : ByteArray) (a : Nat) : a ≤ skp s a := skpK_ge s _ a
theorem skpK_le (s : ByteArray) : ∀ k a, a ≤ s.size → skpK s k a ≤ s.size
  | 0, a, h => h
  | k + 1, a, h => by
    rw [skpK]
    split
    · rename_i h1
      split
      · exact skpK_le s k (a + 1) h1
      · split
        · exact skpK_le s k _ (remE_le s a h)
        · exact h
    · exact h
theorem skp_le (s : ByteArray) (a : Nat) (h : a ≤ s.size) : skp s a ≤ s.size := skpK_le s _ a h
theorem skp_out (s : ByteArray) (a : Nat) (h : s.size ≤ a) : skp s a = a := by rw [skp_eq, if_neg (by omega)]
def letK (s : ByteArray) : Nat → Nat → Nat
  | 0, a => a
  | k + 1, a => if a < s.size ∧ letC (bt s (a : Int)) = true then letK s k (a + 1) else a
def letE (s : ByteArray) (a : Nat) : Nat := letK s (s.size - a) a
theorem letE_eq (s : ByteArray) (a : Nat) : letE s a = if a < s.size ∧ letC (bt s (a : Int)) = true then letE s (a + 1) else a := by
  unfold letE
  by_cases h : a < s.size
  · obtain ⟨k, hk⟩ : ∃ k, s.size - a = k + 1 := ⟨s.size - a - 1, by omega⟩
    rw [hk, show s.size - (a + 1) = k by omega]
    rfl
  · rw [if_neg (fun g => h g.1), show s.size - a = 0 by omega]; rfl
theorem letK_ge (s : ByteArray) : ∀ k a, a ≤ letK s k a
  | 0, a => Nat.le_refl _
  | k + 1, a => by rw [letK]; split; exact Nat.le_trans (Nat.le_succ a) (letK_ge s k (a + 1)); exact Nat.le_refl _
theorem letE_ge (s : ByteArray) (a : Nat) : a ≤ letE s a := letK_ge s _ a
theorem letK_le (s : ByteArray) : ∀ k a, a ≤ s.size → letK s k a ≤ s.size
  | 0, a, h => h
  | k + 1, a, h => by
    rw [letK]
    split
    · rename_i g; exact letK_le s k (a + 1) g.1
    · exact h
theorem letE_le (s : ByteArray) (a : Nat) (h : a ≤ s.size) : letE s a ≤ s.size := letK_le s _ a h
theorem letE_gt {s : ByteArray} {a : Nat} (h : a < s.size) (hc : letC (bt s (a : Int)) = true) : a < letE s a := by
  rw [letE_eq, if_pos ⟨h, hc⟩]; exact letE_ge s (a + 1)
def numK (t : ByteArray) : Nat → Nat → Nat → Option Nat
  | 0, _, n => some n
  | k + 1, i, n => if 48 ≤ bt t (i : Int) ∧ bt t (i : Int) ≤ 57 ∧ 10 * n + (bt t (i : Int) - 48).toNat ≤ 9223372036854775808 then numK t k (i + 1) (10 * n + (bt t (i : Int) - 48).toNat) else none
def numT (t : ByteArray) (below : Bool) : Int × Bool :=
  if t.size = 0 ∨ (bt t 0 = 48 ∧ (1 < t.size ∨ below = true)) then (0, false) else
  match numK t t.size 0 0 with
  | none => (0, false)
  | some n => if below = true then (IntKind.i64.wrap (-(n : Int)), true) else (IntKind.i64.wrap (n : Int), decide (n < 9223372036854775808))
def numB (w : ByteArray) : Bool := decide (0 < w.size ∧ bt w 0 = 45)
def numV (w : ByteArray) : Int × Bool := if numB w = true then numT (w.extract 1 w.size) true else numT w false
structure RS where
  a : Nat
  e : Int
  b : Int
def atomR (s : ByteArray) (a : Nat) : Nd × RS :=
  if (numV (s.extract a (letE s a))).2 = true then (.mk 1 (numV (s.extract a (letE s a))).1 ⟨#[]⟩ .nil a, ⟨letE s a, 0, 0⟩)
  else if symOk (s.extract a (letE s a)) = true then (.mk 2 0 (s.extract a (letE s a)) .nil a, ⟨letE s a, 0, 0⟩)
  else (.zero, ⟨letE s a, 4, a⟩)
def wQuote : ByteArray := ⟨#[113, 117, 111, 116, 101]⟩
def goes (s : ByteArray) (r : RS) : Bool := r.e == 0 && !(decide (r.a < s.size) && bt s (r.a : Int) == 41)
def rdL (f : Nat → Nd × RS) (s : ByteArray) : Nat → RS → Nds → Nds × RS
  | 0, r, l => (l, r)
  | k + 1, r, l => if goes s r = true then rdL f s k ⟨skp s (f r.a).2.a, (f r.a).2.e, (f r.a).2.b⟩ (l.snoc (f r.a).1) else (l, r)
def rdD (s : ByteArray) : Nat → Nat → Nd × RS
  | n, a => if s.size ≤ a then (.zero, ⟨a, 4, s.size⟩) else
    if bt s (a : Int) ≠ 40 ∧ bt s (a : Int) ≠ 39 ∧ letC (bt s (a : Int)) = false then (.zero, ⟨a, 4, a⟩) else
    match n with
    | 0 => (.zero, ⟨a, 3, a⟩)
    | n + 1 => if bt s (a : Int) = 39 ∧ n = 0 then (.zero, ⟨a, 3, a⟩) else
      if letC (bt s (a : Int)) = true then atomR s a else
      if bt s (a : Int) = 39 then (.mk 3 0 ⟨#[]⟩ (.cons (.mk 2 0 wQuote .nil a) (.cons (rdD s n (skp s (a + 1))).1 .nil)) a, (rdD s n (skp s (a + 1))).2)
      else (.mk 3 0 ⟨#[]⟩ (rdL (rdD s n) s (s.size + 1) ⟨skp s (a + 1), 0, 0⟩ .nil).1 a, ⟨(rdL (rdD s n) s (s.size + 1) ⟨skp s (a + 1), 0, 0⟩ .nil).2.a + 1, (rdL (rdD s n) s (s.size + 1) ⟨skp s (a + 1), 0, 0⟩ .nil).2.e, (rdL (rdD s n) s (s.size + 1) ⟨skp s (a + 1), 0, 0⟩ .nil).2.b⟩)
structure RS.In (s : ByteArray) (m : Nat) (r : RS) : Prop where
  ok : r.e = 0 → r.a ≤ s.size ∧ r.b = 0
  le : r.a ≤ s.size + m
  er : r.e = 0 ∨ r.e = 3 ∨ r.e = 4
  ba : 0 ≤ r.b ∧ r.b ≤ s.size
def Steps (s : ByteArray) (m : Nat) (f : Nat → Nd × RS) : Prop := ∀ a, a ≤ s.size → (f a).2.In s m ∧ ((f a).2.e = 0 → a < (f a).2.a)
theorem RS.In.skp {s : ByteArray} {m : Nat} {r : RS} (h : r.In s m) : RS.In s m ⟨skp s r.a, r.e, r.b⟩ where
  ok := fun he => ⟨skp_le s _ (h.ok he).1, (h.ok he).2⟩
  le := by
    rcases Nat.lt_or_ge s.size r.a with hl | hl
    · show Seat.skp s r.a ≤ _
      rw [skp_out s r.a (by omega)]; exact h.le
    · exact Nat.le_trans (skp_le s _ hl) (Nat.le_add_right _ _)
  er := h.er
  ba := h.ba
theorem n4 : ¬ (4 : Int) = 0 := by decide
theorem n3 : ¬ (3 : Int) = 0 := by decide
theorem goes_e {s : ByteArray} {r : RS} (h : goes s r = true) : r.e = 0 := by
  unfold goes at h
  simp only [Bool.and_eq_true, beq_iff_eq] at h
  exact h.1
theorem rdL_stop {f : Nat → Nd × RS} {s : ByteArray} {r : RS} (h : goes s r = false) : ∀ k l, rdL f s k r l = (l, r)
  | 0, l => rfl
  | k + 1, l => by rw [rdL, if_neg (by rw [h]; decide)]
theorem goes_err {s : ByteArray} {r : RS} (h : r.e ≠ 0) : goes s r = false := by
  unfold goes
  rw [beq_eq_false_iff_ne.2 h, Bool.false_and]
theorem rdL_steps {f : Nat → Nd × RS} {s : ByteArray} {m : Nat} (hf : Steps s m f) : ∀ k r l, r.In s m → (r.e = 0 → s.size + 1 - r.a ≤ k) → (rdL f s k r l).2.In s m ∧ goes s (rdL f s k r l).2 = false ∧ ((rdL f s k r l).2.e = 0 → r.a ≤ (rdL f s k r l).2.a) ∧ (rdL f s k r l).1.len ≤ l.len + k
  | 0, r, l, hi, hk => by
    refine ⟨hi, goes_err fun h => ?_, fun _ => Nat.le_refl _, Nat.le_refl _⟩
    have := hk h
    have := (hi.ok h).1
    omega
  | k + 1, r, l, hi, hk => by
    rw [rdL]
    by_cases hg : goes s r = true
    · rw [if_pos hg]
      have he := goes_e hg
      have h1 := hf r.a (hi.ok he).1
      have h2 := h1.1.skp
      have hge := skp_ge s (f r.a).2.a
      obtain ⟨g1, g2, g3, g4⟩ := rdL_steps hf k ⟨Seat.skp s (f r.a).2.a, (f r.a).2.e, (f r.a).2.b⟩ (l.snoc (f r.a).1) h2 (fun h => by
        have := h1.2 h
        have := hk he
        show s.size + 1 - Seat.skp s (f r.a).2.a ≤ k
        omega)
      refine ⟨g1, g2, fun h => ?_, by rw [Nds.snoc_len] at g4; omega⟩
      have g5 := g3 h
      have g6 : (f r.a).2.e = 0 := by
        by_cases h' : (f r.a).2.e = 0
        · exact h'
        · rw [rdL_stop (goes_err (r := ⟨Seat.skp s (f r.a).2.a, (f r.a).2.e, (f r.a).2.b⟩) h')] at h
          exact h
      have := h1.2 g6
      have g7 : Seat.skp s (f r.a).2.a ≤ _ := g5
      omega
    · rw [if_neg hg]
      exact ⟨hi, by simpa using hg, fun _ => Nat.le_refl _, by show l.len ≤ _; omega⟩
theorem goes_at {s : ByteArray} {r : RS} (h : goes s r = false) (he : r.e = 0) : r.a < s.size := by
  unfold goes at h
  rw [he] at h
  simp at h
  exact h.1
theorem rdD_eq (s : ByteArray) (n a : Nat) : rdD s n a = (if s.size ≤ a then (.zero, ⟨a, 4, s.size⟩) else
    if bt s (a : Int) ≠ 40 ∧ bt s (a : Int) ≠ 39 ∧ letC (bt s (a : Int)) = false then (.zero, ⟨a, 4, a⟩) else
    match n with
    | 0 => (.zero, ⟨a, 3, a⟩)
    | n + 1 => if bt s (a : Int) = 39 ∧ n = 0 then (.zero, ⟨a, 3, a⟩) else
      if letC (bt s (a : Int)) = true then atomR s a else
      if bt s (a : Int) = 39 then (.mk 3 0 ⟨#[]⟩ (.cons (.mk 2 0 wQuote .nil a) (.cons (rdD s n (skp s (a + 1))).1 .nil)) a, (rdD s n (skp s (a + 1))).2)
      else (.mk 3 0 ⟨#[]⟩ (rdL (rdD s n) s (s.size + 1) ⟨skp s (a + 1), 0, 0⟩ .nil).1 a, ⟨(rdL (rdD s n) s (s.size + 1) ⟨skp s (a + 1), 0, 0⟩ .nil).2.a + 1, (rdL (rdD s n) s (s.size + 1) ⟨skp s (a + 1), 0, 0⟩ .nil).2.e, (rdL (rdD s n) s (s.size + 1) ⟨skp s (a + 1), 0, 0⟩ .nil).2.b⟩)) := by
  cases n <;> rfl
theorem In0 {s : ByteArray} {m a : Nat} (h : a ≤ s.size) : RS.In s m ⟨a, 0, 0⟩ := ⟨fun _ => ⟨h, rfl⟩, Nat.le_trans h (Nat.le_add_right _ _), .inl rfl, Int.le_refl _, Int.natCast_nonneg _⟩
theorem rdD_steps (s : ByteArray) (n : Nat) : Steps s n (rdD s n) := by
  induction n with
  | zero =>
    intro a ha
    have hz : (0 : Int) ≤ (a : Int) ∧ (a : Int) ≤ (s.size : Int) := by omega
    rw [rdD_eq]
    split
    · exact ⟨⟨fun h => absurd h n4, ha, .inr (.inr rfl), (by omega : (0 : Int) ≤ (s.size : Int)), Int.le_refl _⟩, fun h => absurd h n4⟩
    · split
      · exact ⟨⟨fun h => absurd h n4, ha, .inr (.inr rfl), hz.1, hz.2⟩, fun h => absurd h n4⟩
      · exact ⟨⟨fun h => absurd h n3, ha, .inr (.inl rfl), hz.1, hz.2⟩, fun h => absurd h n3⟩
  | succ n ih =>
    intro a ha
    have hz : (0 : Int) ≤ (a : Int) ∧ (a : Int) ≤ (s.size : Int) := by omega
    rw [rdD_eq]
    split
    · exact ⟨⟨fun h => absurd h n4, by show a ≤ _; omega, .inr (.inr rfl), (by omega : (0 : Int) ≤ (s.size : Int)), Int.le_refl _⟩, fun h => absurd h n4⟩
    · rename_i hlt
      split
      · exact ⟨⟨fun h => absurd h n4, by show a ≤ _; omega, .inr (.inr rfl), hz.1, hz.2⟩, fun h => absurd h n4⟩
      · simp only []
        split
        · exact ⟨⟨fun h => absurd h n3, by show a ≤ _; omega, .inr (.inl rfl), hz.1, hz.2⟩, fun h => absurd h n3⟩
        · split
          · rename_i hl
            have g1 := letE_gt (by omega : a < s.size) hl
            have g2 := letE_le s a ha
            unfold atomR
            split
            · exact ⟨⟨fun _ => ⟨g2, rfl⟩, by show letE s a ≤ _; omega, .inl rfl, Int.le_refl _, Int.natCast_nonneg _⟩, fun _ => g1⟩
            · split
              · exact ⟨⟨fun _ => ⟨g2, rfl⟩, by show letE s a ≤ _; omega, .inl rfl, Int.le_refl _, Int.natCast_nonneg _⟩, fun _ => g1⟩
              · exact ⟨⟨fun h => absurd h n4, by show letE s a ≤ _; omega, .inr (.inr rfl), hz.1, hz.2⟩, fun h => absurd h n4⟩
          · have hs1 := skp_ge s (a + 1)
            have hs2 := skp_le s (a + 1) (by omega)
            split
            · have g := ih (skp s (a + 1)) hs2
              exact ⟨⟨g.1.ok, Nat.le_trans g.1.le (by omega), g.1.er, g.1.ba⟩, fun h => Nat.lt_of_lt_of_le (Nat.lt_of_succ_le hs1) (Nat.le_of_lt (g.2 h))⟩
            · obtain ⟨g1, g2, g3, g4⟩ := rdL_steps ih (s.size + 1) ⟨skp s (a + 1), 0, 0⟩ .nil (In0 hs2) (fun _ => by omega)
              refine ⟨⟨fun h => ?_, Nat.succ_le_succ g1.le, g1.er, g1.ba⟩, fun h => ?_⟩
              · exact ⟨goes_at g2 h, (g1.ok h).2⟩
              · exact Nat.lt_succ_of_le (Nat.le_trans (Nat.le_of_succ_le hs1) (g3 h))
end Seat
end Go.Proofs.YtkblfapbakfgpaaGreatDoor
namespace Go.Proofs.YtkblfapbakfgpaaGreatDoor
open Go.AS Go.RowKit
set_option linter.unusedVariables false
set_option linter.unusedSimpArgs false
set_option maxRecDepth 100000
set_option maxHeartbeats 4000000
namespace Seat
def rB (s : ByteArray) (a : Nat) (e b : Int) : Box := ⟨[.str s, .int .i64 a, .int .i64 e, .int .i64 b], 82⟩
noncomputable def SRk (l : List (Nat × List (Nat × Bool))) (v : List (Nat × List (Nat × PV))) : Cfg G0 := { F := F, hF := hF, S := fun _ _ => none, hS := (fun _ _ _ _ h => by cases h), orc := orcM l, val := valM v }
theorem wrapI (a : Nat) (h : a ≤ 9223372036854775807) : IntKind.wrap IntKind.i64 (Int.ofNat a) = (a : Int) := by
  show IntKind.wrap IntKind.i64 (a : Int) = _
  rw [IntKind.wrap_i64]; omega
theorem sameB {x y : Bool} (h : x = y) : same (.bool x) (.bool y) = true := same_of (congrArg PV.bool h)
theorem beqT {x y : Int} (h : x = y) : (x == y) = true := by rw [beq_iff_eq]; exact h
theorem beqF {x y : Int} (h : ¬ x = y) : (x == y) = false := by rw [beq_eq_false_iff_ne]; exact h
theorem skip_ok (s : ByteArray) (hs : s.size ≤ 1099511627776) (a : Nat) (e b : Int) : PCalls G0 31 [.ptr 0 0] [rB s a e b] (fun o b' => o = .ret (.tup []) ∧ b' = [rB s (skp s a) e b]) := by
  refine Fn.enterN Tryz.func31 Tryz.ntmps31 rfl (Nat.le_of_ble_eq_true rfl) fun C fr fp hnt hp hfr hfp => ?_
  have fin : ∀ st x, skp s x = x → skp s x = skp s a → nrm [] st = ⟨[], ⟨[rB s x e b], []⟩⟩ → fr st := fun st x h1 h2 hst => hfr st [] (by
    rw [hst, ← h2.symm.trans h1]
    exact ⟨1, .tup [], Nat.le_refl _, Nat.le_refl _, rfl, rfl, rfl, rfl, rfl⟩)
  let T (x : Nat) : AS := ⟨[(0, .ptr 0 0)], ⟨[rB s x e b], []⟩⟩
  refine Q.block ?_
  refine Q.loopI (σ := { x : Nat // skp s x = skp s a }) [0] (fun x => T x.1) (fun x => s.size - x.1) ⟨a, rfl⟩ rfl fun ⟨x, hk⟩ => ?_
  show SWP G0 C _ _ ⟨[(0, .ptr 0 0)], ⟨[rB s x e b], []⟩⟩
  rcases Nat.lt_or_ge x s.size with hlt | hge
  · have d1 := lt_at hlt
    have d2 := in_at hlt
    have wi : IntKind.wrap IntKind.i64 (Int.ofNat (x + 1)) = ((x + 1 : Nat) : Int) := wrapI (x + 1) (by omega)
    have sk := skp_eq s x
    rw [if_pos hlt] at sk
    have bl : blank (bt s (x : Int)) = true → ∀ st, nrm [0] st = ⟨[(0, .ptr 0 0)], ⟨[⟨[.str s, .int .i64 (IntKind.wrap IntKind.i64 (Int.ofNat (x + 1))), .int .i64 e, .int .i64 b], 82⟩], []⟩⟩ → ∃ y : { x : Nat // skp s x = skp s a }, s.size - y.1 < s.size - x ∧ nrm [0] st = T y.1 := fun hb st hst =>
      ⟨⟨x + 1, by rw [← hk, sk, if_pos hb]⟩, Nat.sub_lt_sub_left hlt (Nat.lt_succ_self x), by rw [hst, wi]; rfl⟩
    by_cases c32 : bt s (x : Int) = 32
    · have e1 := beqT c32
      exact SWP.runQ (SRk [(64, [(11, true), (20, true), (22, true)])] []) 100 64 hnt [0] (e := .normal) (z := ⟨[(0, .ptr 0 0)], ⟨[⟨[.str s, .int .i64 (IntKind.wrap IntKind.i64 (Int.ofNat (x + 1))), .int .i64 e, .int .i64 b], 82⟩], []⟩⟩) (o := [(decide ((↑x : Int) < (↑(ByteArray.size s) : Int)), true), (decide (0 ≤ (↑x : Int) ∧ (↑x : Int) < (↑(ByteArray.size s) : Int)), true), (bt s (Int.ofNat x) == (32 : Int), true)]) (by kernel_rfl) (by repeat' first | exact okO_nil | refine okN ?_ ?_ | assumption | rfl) (bl (by rw [c32]; rfl))
    have e1 := beqF c32
    by_cases c9 : bt s (x : Int) = 9
    · have e2 := beqT c9
      exact SWP.runQ (SRk [(64, [(11, true), (20, true), (22, false), (23, true)])] []) 100 64 hnt [0] (e := .normal) (z := ⟨[(0, .ptr 0 0)], ⟨[⟨[.str s, .int .i64 (IntKind.wrap IntKind.i64 (Int.ofNat (x + 1))), .int .i64 e, .int .i64 b], 82⟩], []⟩⟩) (o := [(decide ((↑x : Int) < (↑(ByteArray.size s) : Int)), true), (decide (0 ≤ (↑x : Int) ∧ (↑x : Int) < (↑(ByteArray.size s) : Int)), true), (bt s (Int.ofNat x) == (32 : Int), false), (bt s (Int.ofNat x) == (9 : Int), true)]) (by kernel_rfl) (by repeat' first | exact okO_nil | refine okN ?_ ?_ | assumption | rfl) (bl (by rw [c9]; rfl))
    have e2 := beqF c9
    by_cases c10 : bt s (x : Int) = 10
    · have e3 := beqT c10
      exact SWP.runQ (SRk [(64, [(11, true), (20, true), (22, false), (23, false), (24, true)])] []) 100 64 hnt [0] (e := .normal) (z := ⟨[(0, .ptr 0 0)], ⟨[⟨[.str s, .int .i64 (IntKind.wrap IntKind.i64 (Int.ofNat (x + 1))), .int .i64 e, .int .i64 b], 82⟩], []⟩⟩) (o := [(decide ((↑x : Int) < (↑(ByteArray.size s) : Int)), true), (decide (0 ≤ (↑x : Int) ∧ (↑x : Int) < (↑(ByteArray.size s) : Int)), true), (bt s (Int.ofNat x) == (32 : Int), false), (bt s (Int.ofNat x) == (9 : Int), false), (bt s (Int.ofNat x) == (10 : Int), true)]) (by kernel_rfl) (by repeat' first | exact okO_nil | refine okN ?_ ?_ | assumption | rfl) (bl (by rw [c10]; rfl))
    have e3 := beqF c10
    by_cases c13 : bt s (x : Int) = 13
    · have e4 := beqT c13
      exact SWP.runQ (SRk [(64, [(11, true), (20, true), (22, false), (23, false), (24, false), (25, true)])] []) 100 64 hnt [0] (e := .normal) (z := ⟨[(0, .ptr 0 0)], ⟨[⟨[.str s, .int .i64 (IntKind.wrap IntKind.i64 (Int.ofNat (x + 1))), .int .i64 e, .int .i64 b], 82⟩], []⟩⟩) (o := [(decide ((↑x : Int) < (↑(ByteArray.size s) : Int)), true), (decide (0 ≤ (↑x : Int) ∧ (↑x : Int) < (↑(ByteArray.size s) : Int)), true), (bt s (Int.ofNat x) == (32 : Int), false), (bt s (Int.ofNat x) == (9 : Int), false), (bt s (Int.ofNat x) == (10 : Int), false), (bt s (Int.ofNat x) == (13 : Int), true)]) (by kernel_rfl) (by repeat' first | exact okO_nil | refine okN ?_ ?_ | assumption | rfl) (bl (by rw [c13]; rfl))
    have e4 := beqF c13
    have nb : ¬ blank (bt s (x : Int)) = true := by simp [blank, c32, c9, c10, c13]
    rw [if_neg nb] at sk
    by_cases c59 : bt s (x : Int) = 59
    · have e5 := beqT c59
      rw [if_pos c59] at sk
      refine Q.runSeq (SRk [(64, [(11, true)])] []) 100 64 hnt [0] (z := ⟨[(0, .ptr 0 0)], ⟨[⟨[.str s, .int .i64 (Int.ofNat x), .int .i64 e, .int .i64 b], 82⟩], []⟩⟩) (o := [(decide ((↑x : Int) < (↑(ByteArray.size s) : Int)), true)]) (by kernel_rfl) (by repeat' first | exact okO_nil | refine okN ?_ ?_ | assumption | rfl) ?_
      refine Q.block ?_
      refine Q.runSeq (SRk [(64, [(20, true)])] []) 100 64 hnt [0, 20] (z := ⟨[(0, .ptr 0 0), (20, PV.int IntKind.u8 (bt s (Int.ofNat x)))], ⟨[⟨[.str s, .int .i64 (Int.ofNat x), .int .i64 e, .int .i64 b], 82⟩], []⟩⟩) (o := [(decide (0 ≤ (↑x : Int) ∧ (↑x : Int) < (↑(ByteArray.size s) : Int)), true)]) (by kernel_rfl) (by repeat' first | exact okO_nil | refine okN ?_ ?_ | assumption | rfl) ?_
      refine Q.block ?_
      refine Q.runSeq (SRk [(64, [(22, false), (23, false), (24, false), (25, false)])] []) 100 64 hnt [0, 20, 21] (z := ⟨[(0, .ptr 0 0), (20, PV.int IntKind.u8 (bt s (Int.ofNat x))), (21, .bool false)], ⟨[⟨[.str s, .int .i64 (Int.ofNat x), .int .i64 e, .int .i64 b], 82⟩], []⟩⟩) (o := [(bt s (Int.ofNat x) == (32 : Int), false), (bt s (Int.ofNat x) == (9 : Int), false), (bt s (Int.ofNat x) == (10 : Int), false), (bt s (Int.ofNat x) == (13 : Int), false)]) (by kernel_rfl) (by repeat' first | exact okO_nil | refine okN ?_ ?_ | assumption | rfl) ?_
      refine Q.cond (b := false) rfl (fun h => by cases h) (fun _ => ?_)
      refine Q.runSeq (SRk [(64, [(34, true)])] []) 100 64 hnt [0, 33] (z := ⟨[(0, .ptr 0 0), (33, .bool true)], ⟨[⟨[.str s, .int .i64 (Int.ofNat x), .int .i64 e, .int .i64 b], 82⟩], []⟩⟩) (o := [(bt s (Int.ofNat x) == (59 : Int), true)]) (by kernel_rfl) (by repeat' first | exact okO_nil | refine okN ?_ ?_ | assumption | rfl) ?_
      refine Q.cond (b := true) rfl (fun _ => ?_) (fun h => by cases h)
      refine Q.block ?_
      refine Q.loopI (σ := { y : Nat // remE s y = remE s x }) [0] (fun y => T y.1) (fun y => s.size - y.1) ⟨x, rfl⟩ rfl fun ⟨y, hr⟩ => ?_
      show SWP G0 C _ _ ⟨[(0, .ptr 0 0)], ⟨[rB s y e b], []⟩⟩
      have out : remE s y = y → ∀ st, nrm [0] st = T y → ∃ z : { x : Nat // skp s x = skp s a }, s.size - z.1 < s.size - x ∧ nrm [0] st = T z.1 := fun h st hst => by
        have h2 : remE s x = y := hr.symm.trans h
        have := remE_59 hlt c59
        exact ⟨⟨y, by rw [← hk, sk, h2]⟩, by show s.size - y < _; omega, hst⟩
      have rm := remE_eq s y
      rcases Nat.lt_or_ge y s.size with hl2 | hg2
      · have d3 := sameB (lt_at hl2)
        have d4 := in_at hl2
        have wj : IntKind.wrap IntKind.i64 (Int.ofNat (y + 1)) = ((y + 1 : Nat) : Int) := wrapI (y + 1) (by omega)
        by_cases n10 : bt s (y : Int) = 10
        · have e6 := sameB (show (!bt s (y : Int) == (10 : Int)) = false by rw [beqT n10]; rfl)
          rw [if_neg (fun h => h.2 n10)] at rm
          exact SWP.runQ (SRk [(64, [(54, true)])] [(64, [(44, .bool true), (55, .bool false)])]) 100 64 hnt [0] (e := .exit 3) (z := ⟨[(0, .ptr 0 0)], ⟨[⟨[.str s, .int .i64 (Int.ofNat y), .int .i64 e, .int .i64 b], 82⟩], []⟩⟩) (o := [(same (.bool (decide ((↑y : Int) < (↑(ByteArray.size s) : Int)))) (.bool true), true), (decide (0 ≤ (↑y : Int) ∧ (↑y : Int) < (↑(ByteArray.size s) : Int)), true), (same (.bool !bt s (Int.ofNat y) == (10 : Int)) (.bool false), true)]) (by kernel_rfl) (by repeat' first | exact okO_nil | refine okN ?_ ?_ | assumption | rfl) (out rm)
        · have e6 := sameB (show (!bt s (y : Int) == (10 : Int)) = true by rw [beqF n10]; rfl)
          rw [if_pos ⟨hl2, n10⟩] at rm
          exact SWP.runQ (SRk [(64, [(54, true)])] [(64, [(44, .bool true), (55, .bool true)])]) 100 64 hnt [0] (e := .normal) (z := ⟨[(0, .ptr 0 0)], ⟨[⟨[.str s, .int .i64 (IntKind.wrap IntKind.i64 (Int.ofNat (y + 1))), .int .i64 e, .int .i64 b], 82⟩], []⟩⟩) (o := [(same (.bool (decide ((↑y : Int) < (↑(ByteArray.size s) : Int)))) (.bool true), true), (decide (0 ≤ (↑y : Int) ∧ (↑y : Int) < (↑(ByteArray.size s) : Int)), true), (same (.bool !bt s (Int.ofNat y) == (10 : Int)) (.bool true), true)]) (by kernel_rfl) (by repeat' first | exact okO_nil | refine okN ?_ ?_ | assumption | rfl) (fun st hst => ⟨⟨y + 1, rm.symm.trans hr⟩, Nat.sub_lt_sub_left hl2 (Nat.lt_succ_self y), by rw [hst, wj]; rfl⟩)
      · have d3 := sameB (ge_at hg2)
        rw [if_neg (fun h => absurd h.1 (by omega))] at rm
        exact SWP.runQ (SRk [(64, [])] [(64, [(44, .bool false)])]) 100 64 hnt [0] (e := .exit 3) (z := ⟨[(0, .ptr 0 0)], ⟨[⟨[.str s, .int .i64 (Int.ofNat y), .int .i64 e, .int .i64 b], 82⟩], []⟩⟩) (o := [(same (.bool (decide ((↑y : Int) < (↑(ByteArray.size s) : Int)))) (.bool false), true)]) (by kernel_rfl) (by repeat' first | exact okO_nil | refine okN ?_ ?_ | assumption | rfl) (out rm)
    · have e5 := beqF c59
      rw [if_neg c59] at sk
      exact SWP.runQ (SRk [(64, [(11, true), (20, true), (22, false), (23, false), (24, false), (25, false), (34, false)])] []) 100 64 hnt [] (e := .ret) (z := ⟨[], ⟨[⟨[.str s, .int .i64 (Int.ofNat x), .int .i64 e, .int .i64 b], 82⟩], []⟩⟩) (o := [(decide ((↑x : Int) < (↑(ByteArray.size s) : Int)), true), (decide (0 ≤ (↑x : Int) ∧ (↑x : Int) < (↑(ByteArray.size s) : Int)), true), (bt s (Int.ofNat x) == (32 : Int), false), (bt s (Int.ofNat x) == (9 : Int), false), (bt s (Int.ofNat x) == (10 : Int), false), (bt s (Int.ofNat x) == (13 : Int), false), (bt s (Int.ofNat x) == (59 : Int), false)]) (by kernel_rfl) (by repeat' first | exact okO_nil | refine okN ?_ ?_ | assumption | rfl) (fun st hst => fin st x sk hk hst)
  · have d1 := ge_at hge
    exact SWP.runQ (SRk [(64, [(11, false)])] []) 100 64 hnt [] (e := .exit 0) (z := ⟨[], ⟨[⟨[.str s, .int .i64 (Int.ofNat x), .int .i64 e, .int .i64 b], 82⟩], []⟩⟩) (o := [(decide ((↑x : Int) < (↑(ByteArray.size s) : Int)), false)]) (by kernel_rfl) (by repeat' first | exact okO_nil | refine okN ?_ ?_ | assumption | rfl) (fun st hst => fin st x (skp_out s x hge) hk hst)
end Seat
end Go.Proofs.YtkblfapbakfgpaaGreatDoor
namespace Go.Proofs.YtkblfapbakfgpaaGreatDoor
open Go.AS Go.RowKit
set_option linter.unusedVariables false
set_option linter.unusedSimpArgs false
set_option maxRecDepth 100000
set_option maxHeartbeats 4000000
namespace Seat
theorem emp (s : ByteArray) {b : Bool} (h : decide (s.size = 0) = b) : (ByteArray.toList s == []) = b := by
  rw [← h]
  by_cases h : s.size = 0 <;> simp [str_nil, h]
theorem wrapU (x : Int) (h0 : 0 ≤ x) (h : x ≤ 18446744073709551615) : IntKind.wrap IntKind.u64 x = x := by rw [IntKind.wrap_u64]; omega
theorem wrapIU (x : Int) : IntKind.wrap IntKind.i64 (IntKind.wrap IntKind.u64 x) = IntKind.wrap IntKind.i64 x := by rw [IntKind.wrap_u64, IntKind.wrap_i64, IntKind.wrap_i64]; omega
theorem quoF (n c : Nat) (hc : c ≤ 9) : IntKind.wrap IntKind.u64 (Int.tdiv (IntKind.wrap IntKind.u64 (9223372036854775808 - (c : Int))) 10) < (n : Int) ↔ 9223372036854775808 < 10 * n + c := by
  rw [wrapU (9223372036854775808 - (c : Int)) (by omega) (by omega), Int.tdiv_eq_ediv_of_nonneg (by omega), wrapU _ (by omega) (by omega)]
  omega
theorem decN (n : Nat) : decide ((n : Int) < 9223372036854775808) = decide (n < 9223372036854775808) := decide_eq_decide.2 (by omega)
theorem number_ok (w : ByteArray) (hw : w.size ≤ 1099511627776) : Pure G0 63 [.str w] (fun r => r = .tup [.int .i64 (numV w).1, .bool (numV w).2]) := by
  refine Fn.enterB Tryz.func63 Tryz.ntmps63 rfl (Nat.le_of_ble_eq_true rfl) fun C fr fp hnt hnb hp hfr hfp => ?_
  have fin : ∀ st p, p = numV w → nrm [2, 3] st = ⟨[(2, .int .i64 p.1), (3, .bool p.2)], ⟨[], []⟩⟩ → fr st := fun st p h hst => hfr st [2, 3] (by
    rw [hst, h]
    exact ⟨0, .tup [.int .i64 (numV w).1, .bool (numV w).2], Nat.le_refl _, Nat.zero_le _, rfl, rfl, rfl, rfl, _, rfl, rfl⟩)
  refine Q.runSeq (SRk [] []) 100 74 hnt [0, 2, 3] (z := ⟨[(0, .str w), (2, .int .i64 (0 : Int)), (3, .bool false)], ⟨[], []⟩⟩) (o := []) (by kernel_rfl) (by repeat' first | exact okO_nil | refine okN ?_ ?_ | assumption | rfl) ?_
  refine Q.runSeq (SRk [] []) 100 74 hnt [4, 5] (z := ⟨[(4, .str w), (5, .bool false)], ⟨[], []⟩⟩) (o := []) (by kernel_rfl) (by repeat' first | exact okO_nil | refine okN ?_ ?_ | assumption | rfl) ?_
  refine Q.seq fun K hK => ?_
  have rest : ∀ st (t : ByteArray) (b : Bool), numT t b = numV w → t.size ≤ 1099511627776 → nrm [4, 5] st = ⟨[(4, .str t), (5, .bool b)], ⟨[], []⟩⟩ → K st := fun st t b hv ht hst => hK st (.norm [4, 5] (by
    rw [hst]
    clear hst hK
    have u1 : ∀ {x : Bool}, decide (t.size = 0) = x → (ByteArray.toList t == []) = x := emp t
    by_cases h0 : t.size = 0
    · have c1 := u1 (decide_eq_true h0)
      refine Q.seq fun K2 hK2 => ?_
      exact SWP.runQ (SRk [(74, [(20, true)])] []) 100 74 hnt [2, 3] (e := .ret) (z := ⟨[(2, .int .i64 (0 : Int)), (3, .bool false)], ⟨[], []⟩⟩) (o := [(ByteArray.toList t == [], true)]) (by kernel_rfl) (by repeat' first | exact okO_nil | refine okN ?_ ?_ | assumption | rfl) (fun st hst => fin st (0, false) (by rw [← hv, numT, if_pos (.inl h0)]) hst)
    have c1 := u1 (decide_eq_false h0)
    have c2 : decide ((0 : Int) ≤ 0 ∧ (0 : Int) < (t.size : Int)) = true := by rw [decide_eq_true_eq]; omega
    refine Q.seq fun K2 hK2 => ?_
    have rest2 : ∀ st, ¬ (t.size = 0 ∨ (bt t 0 = 48 ∧ (1 < t.size ∨ b = true))) → nrm [4, 5] st = ⟨[(4, .str t), (5, .bool b)], ⟨[], []⟩⟩ → K2 st := fun st hn hst => hK2 st (.norm [4, 5] (by
      rw [hst]
      clear hst hK2
      rw [numT, if_neg hn] at hv
      refine Q.runSeq (SRk [] []) 100 74 hnt [4, 5, 6] (z := ⟨[(4, .str t), (5, .bool b), (6, PV.int IntKind.u64 (0 : Int))], ⟨[], []⟩⟩) (o := []) (by kernel_rfl) (by repeat' first | exact okO_nil | refine okN ?_ ?_ | assumption | rfl) ?_
      refine Q.seq fun K3 hK3 => ?_
      refine Q.runSeq (SRk [] []) 100 74 hnt [4, 5, 6, 7] (z := ⟨[(4, .str t), (5, .bool b), (6, PV.int IntKind.u64 (0 : Int)), (7, .int .i64 (0 : Int))], ⟨[], []⟩⟩) (o := []) (by kernel_rfl) (by repeat' first | exact okO_nil | refine okN ?_ ?_ | assumption | rfl) ?_
      refine Q.block ?_
      let T (i n : Nat) : AS := ⟨[(4, .str t), (5, .bool b), (6, .int .u64 n), (7, .int .i64 i)], ⟨[], []⟩⟩
      refine Q.loopI (σ := { x : Nat × Nat // x.1 ≤ t.size ∧ x.2 ≤ 9223372036854775808 ∧ numK t (t.size - x.1) x.1 x.2 = numK t t.size 0 0 }) [4, 5, 6, 7] (fun x => T x.1.1 x.1.2) (fun x => t.size - x.1.1) ⟨(0, 0), Nat.zero_le _, Nat.zero_le _, rfl⟩ rfl fun ⟨(i, n), hi, hn, hk⟩ => ?_
      show SWP G0 C _ _ ⟨[(4, .str t), (5, .bool b), (6, .int .u64 n), (7, .int .i64 i)], ⟨[], []⟩⟩
      have hi : i ≤ t.size := hi
      have hn : n ≤ 9223372036854775808 := hn
      have hk : numK t (t.size - i) i n = numK t t.size 0 0 := hk
      rcases Nat.lt_or_ge i t.size with hlt | hge
      · have d1 := lt_at hlt
        have d2 := in_at hlt
        obtain ⟨m, hm⟩ : ∃ m, t.size - i = m + 1 := ⟨t.size - i - 1, by omega⟩
        rw [hm, numK] at hk
        have bad : ¬ (48 ≤ bt t (i : Int) ∧ bt t (i : Int) ≤ 57 ∧ 10 * n + (bt t (i : Int) - 48).toNat ≤ 9223372036854775808) → (0, false) = numV w := fun h => by
          rw [if_neg h] at hk
          rw [← hk] at hv
          exact hv
        by_cases hl : bt t (i : Int) < 48
        · have d3 : decide (bt t (i : Int) < 48) = true := decide_eq_true hl
          exact SWP.runQ (SRk [(74, [(37, true), (42, true), (47, true), (48, true)])] []) 100 74 hnt [2, 3] (e := .ret) (z := ⟨[(2, .int .i64 (0 : Int)), (3, .bool false)], ⟨[], []⟩⟩) (o := [(decide ((↑i : Int) < (↑(ByteArray.size t) : Int)), true), (true, true), (decide (0 ≤ (↑i : Int) ∧ (↑i : Int) < (↑(ByteArray.size t) : Int)), true), (decide (0 ≤ (↑i : Int) ∧ (↑i : Int) < (↑(ByteArray.size t) : Int)), true), (decide (bt t (↑i : Int) < 48), true)]) (by kernel_rfl) (by repeat' first | exact okO_nil | refine okN ?_ ?_ | assumption | rfl) (fun st hst => fin st (0, false) (bad (by omega)) hst)
        have d3 : decide (bt t (i : Int) < 48) = false := decide_eq_false hl
        by_cases hg : 57 < bt t (i : Int)
        · have d4 : decide (57 < bt t (i : Int)) = true := decide_eq_true hg
          exact SWP.runQ (SRk [(74, [(37, true), (42, true), (47, true), (48, false), (52, true), (53, true)])] []) 100 74 hnt [2, 3] (e := .ret) (z := ⟨[(2, .int .i64 (0 : Int)), (3, .bool false)], ⟨[], []⟩⟩) (o := [(decide ((↑i : Int) < (↑(ByteArray.size t) : Int)), true), (true, true), (decide (0 ≤ (↑i : Int) ∧ (↑i : Int) < (↑(ByteArray.size t) : Int)), true), (decide (0 ≤ (↑i : Int) ∧ (↑i : Int) < (↑(ByteArray.size t) : Int)), true), (decide (bt t (↑i : Int) < 48), false), (decide (0 ≤ (↑i : Int) ∧ (↑i : Int) < (↑(ByteArray.size t) : Int)), true), (decide (57 < bt t (↑i : Int)), true)]) (by kernel_rfl) (by repeat' first | exact okO_nil | refine okN ?_ ?_ | assumption | rfl) (fun st hst => fin st (0, false) (bad (by omega)) hst)
        have d4 : decide (57 < bt t (i : Int)) = false := decide_eq_false hg
        obtain ⟨c, hc⟩ : ∃ c : Nat, bt t (i : Int) = ((48 + c : Nat) : Int) := ⟨(bt t (i : Int) - 48).toNat, by omega⟩
        have hc9 : c ≤ 9 := by omega
        have hcc : bt t (i : Int) - 48 = (c : Int) := by omega
        have d5 : same (PV.int IntKind.u64 (IntKind.wrap IntKind.u64 (IntKind.wrap IntKind.u64 (bt t (Int.ofNat i)) - (48 : Int)))) (PV.int IntKind.u64 (bt t (Int.ofNat i) - (48 : Int))) = true := same_of (congrArg (PV.int .u64) (by
          show IntKind.wrap IntKind.u64 (IntKind.wrap IntKind.u64 (bt t (i : Int)) - (48 : Int)) = bt t (i : Int) - 48
          rw [wrapU (bt t (i : Int)) (by omega) (by omega), wrapU _ (by omega) (by omega)]))
        have hq := quoF n c hc9
        rw [← hcc] at hq
        by_cases ho : 9223372036854775808 < 10 * n + c
        · have d6 : decide (IntKind.wrap IntKind.u64 (Int.tdiv (IntKind.wrap IntKind.u64 (9223372036854775808 - (bt t (i : Int) - 48))) 10) < (n : Int)) = true := decide_eq_true (hq.2 ho)
          exact SWP.runQ (SRk [(74, [(37, true), (42, true), (47, true), (48, false), (52, true), (53, false), (60, true)])] [(74, [(44, .int .u64 (bt t (i : Nat) - 48))])]) 100 74 hnt [2, 3] (e := .ret) (z := ⟨[(2, .int .i64 (0 : Int)), (3, .bool false)], ⟨[], []⟩⟩) (o := [(decide ((↑i : Int) < (↑(ByteArray.size t) : Int)), true), (true, true), (decide (0 ≤ (↑i : Int) ∧ (↑i : Int) < (↑(ByteArray.size t) : Int)), true), (same (.int .u64 (IntKind.wrap IntKind.u64 (IntKind.wrap IntKind.u64 (bt t (Int.ofNat i)) - (48 : Int)))) (.int .u64 (bt t (Int.ofNat i) - (48 : Int))), true), (decide (0 ≤ (↑i : Int) ∧ (↑i : Int) < (↑(ByteArray.size t) : Int)), true), (decide (bt t (↑i : Int) < 48), false), (decide (0 ≤ (↑i : Int) ∧ (↑i : Int) < (↑(ByteArray.size t) : Int)), true), (decide (57 < bt t (↑i : Int)), false), (decide (IntKind.wrap IntKind.u64 (Int.tdiv (IntKind.wrap IntKind.u64 (9223372036854775808 - (bt t (↑i : Int) - 48))) 10) < (↑n : Int)), true)]) (by kernel_rfl) (by repeat' first | exact okO_nil | refine okN ?_ ?_ | assumption | rfl) (fun st hst => fin st (0, false) (bad (by omega)) hst)
        · have d6 : decide (IntKind.wrap IntKind.u64 (Int.tdiv (IntKind.wrap IntKind.u64 (9223372036854775808 - (bt t (i : Int) - 48))) 10) < (n : Int)) = false := decide_eq_false (fun h => ho (hq.1 h))
          have w1 : IntKind.wrap IntKind.u64 (Int.ofNat (10 * n % 18446744073709551616) + (bt t (Int.ofNat i) - (48 : Int))) = ((10 * n + c : Nat) : Int) := by
            show IntKind.wrap IntKind.u64 (((10 * n % 18446744073709551616 : Nat) : Int) + (bt t (i : Int) - (48 : Int))) = _
            rw [hcc, wrapU _ (by omega) (by omega)]; omega
          have w2 : IntKind.wrap IntKind.i64 (Int.ofNat (i + 1)) = ((i + 1 : Nat) : Int) := wrapI (i + 1) (by omega)
          rw [if_pos ⟨by omega, by omega, by omega⟩, show (bt t (i : Int) - 48).toNat = c by omega] at hk
          exact SWP.runQ (SRk [(74, [(37, true), (42, true), (47, true), (48, false), (52, true), (53, false), (60, false)])] [(74, [(44, .int .u64 (bt t (i : Nat) - 48))])]) 100 74 hnt [4, 5, 6, 7] (e := .normal) (z := ⟨[(4, .str t), (5, .bool b), (6, PV.int IntKind.u64 (IntKind.wrap IntKind.u64 (Int.ofNat (10 * n % 18446744073709551616) + (bt t (Int.ofNat i) - (48 : Int))))), (7, .int .i64 (IntKind.wrap IntKind.i64 (Int.ofNat (i + 1))))], ⟨[], []⟩⟩) (o := [(decide ((↑i : Int) < (↑(ByteArray.size t) : Int)), true), (true, true), (decide (0 ≤ (↑i : Int) ∧ (↑i : Int) < (↑(ByteArray.size t) : Int)), true), (same (.int .u64 (IntKind.wrap IntKind.u64 (IntKind.wrap IntKind.u64 (bt t (Int.ofNat i)) - (48 : Int)))) (.int .u64 (bt t (Int.ofNat i) - (48 : Int))), true), (decide (0 ≤ (↑i : Int) ∧ (↑i : Int) < (↑(ByteArray.size t) : Int)), true), (decide (bt t (↑i : Int) < 48), false), (decide (0 ≤ (↑i : Int) ∧ (↑i : Int) < (↑(ByteArray.size t) : Int)), true), (decide (57 < bt t (↑i : Int)), false), (decide (IntKind.wrap IntKind.u64 (Int.tdiv (IntKind.wrap IntKind.u64 (9223372036854775808 - (bt t (↑i : Int) - 48))) 10) < (↑n : Int)), false)]) (by kernel_rfl) (by repeat' first | exact okO_nil | refine okN ?_ ?_ | assumption | rfl) (fun st hst => ⟨⟨(i + 1, 10 * n + c), hlt, by show 10 * n + c ≤ _; omega, by show numK t (t.size - (i + 1)) (i + 1) (10 * n + c) = _; rw [show t.size - (i + 1) = m by omega]; exact hk⟩, Nat.sub_lt_sub_left hlt (Nat.lt_succ_self i), by rw [hst, w1, w2]⟩)
      · have d1 := ge_at hge
        rw [show t.size - i = 0 by omega, numK] at hk
        refine SWP.runQ (SRk [(74, [(37, false)])] []) 100 74 hnt [4, 5, 6] (e := .exit 0) (z := ⟨[(4, .str t), (5, .bool b), (6, PV.int IntKind.u64 (Int.ofNat n))], ⟨[], []⟩⟩) (o := [(decide ((↑i : Int) < (↑(ByteArray.size t) : Int)), false), (false, false)]) (by kernel_rfl) (by repeat' first | exact okO_nil | refine okN ?_ ?_ | assumption | rfl) (fun st hst => hK3 st (.norm [4, 5, 6] ?_))
        rw [hst]
        rw [← hk] at hv
        simp only [] at hv
        cases b with
        | true =>
          exact SWP.runQ (SRk [] []) 100 74 hnt [2, 3] (e := .ret) (z := ⟨[(2, .int .i64 (IntKind.wrap IntKind.i64 (IntKind.wrap IntKind.u64 ((0 : Int) - Int.ofNat n)))), (3, .bool true)], ⟨[], []⟩⟩) (o := []) (by kernel_rfl) (by repeat' first | exact okO_nil | refine okN ?_ ?_ | assumption | rfl) (fun st hst => fin st _ hv (by rw [hst, wrapIU, Int.zero_sub]; rfl))
        | false =>
          exact SWP.runQ (SRk [] []) 100 74 hnt [2, 3] (e := .ret) (z := ⟨[(2, .int .i64 (IntKind.wrap IntKind.i64 (Int.ofNat n))), (3, .bool (decide ((↑n : Int) < 9223372036854775808)))], ⟨[], []⟩⟩) (o := []) (by kernel_rfl) (by repeat' first | exact okO_nil | refine okN ?_ ?_ | assumption | rfl) (fun st hst => fin st _ hv (by rw [hst, decN]; rfl))))
    by_cases h48 : bt t 0 = 48
    · have c3 := beqT h48
      by_cases h1 : 1 < t.size
      · have c4 : decide ((1 : Int) < (t.size : Int)) = true := by rw [decide_eq_true_eq]; omega
        exact SWP.runQ (SRk [(74, [(20, false), (23, true), (24, true), (28, true)])] []) 100 74 hnt [2, 3] (e := .ret) (z := ⟨[(2, .int .i64 (0 : Int)), (3, .bool false)], ⟨[], []⟩⟩) (o := [(ByteArray.toList t == [], false), (decide ((0 : Int) ≤ 0 ∧ 0 < (↑(ByteArray.size t) : Int)), true), (bt t (0 : Int) == (48 : Int), true), (decide (1 < (↑(ByteArray.size t) : Int)), true)]) (by kernel_rfl) (by repeat' first | exact okO_nil | refine okN ?_ ?_ | assumption | rfl) (fun st hst => fin st (0, false) (by rw [← hv, numT, if_pos (.inr ⟨h48, .inl h1⟩)]) hst)
      · have c4 : decide ((1 : Int) < (t.size : Int)) = false := by rw [decide_eq_false_iff_not]; omega
        cases b with
        | true => exact SWP.runQ (SRk [(74, [(20, false), (23, true), (24, true), (28, false)])] []) 100 74 hnt [2, 3] (e := .ret) (z := ⟨[(2, .int .i64 (0 : Int)), (3, .bool false)], ⟨[], []⟩⟩) (o := [(ByteArray.toList t == [], false), (decide ((0 : Int) ≤ 0 ∧ 0 < (↑(ByteArray.size t) : Int)), true), (bt t (0 : Int) == (48 : Int), true), (decide (1 < (↑(ByteArray.size t) : Int)), false)]) (by kernel_rfl) (by repeat' first | exact okO_nil | refine okN ?_ ?_ | assumption | rfl) (fun st hst => fin st (0, false) (by rw [← hv, numT, if_pos (.inr ⟨h48, .inr rfl⟩)]) hst)
        | false => exact SWP.runQ (SRk [(74, [(20, false), (23, true), (24, true), (28, false)])] []) 100 74 hnt [4, 5] (e := .normal) (z := ⟨[(4, .str t), (5, .bool false)], ⟨[], []⟩⟩) (o := [(ByteArray.toList t == [], false), (decide ((0 : Int) ≤ 0 ∧ 0 < (↑(ByteArray.size t) : Int)), true), (bt t (0 : Int) == (48 : Int), true), (decide (1 < (↑(ByteArray.size t) : Int)), false)]) (by kernel_rfl) (by repeat' first | exact okO_nil | refine okN ?_ ?_ | assumption | rfl) (fun st hst => rest2 st (fun h => by rcases h with h | ⟨_, h | h⟩; exact h0 h; exact h1 h; cases h) hst)
    · have c3 := beqF h48
      exact SWP.runQ (SRk [(74, [(20, false), (23, true), (24, false)])] []) 100 74 hnt [4, 5] (e := .normal) (z := ⟨[(4, .str t), (5, .bool b)], ⟨[], []⟩⟩) (o := [(ByteArray.toList t == [], false), (decide ((0 : Int) ≤ 0 ∧ 0 < (↑(ByteArray.size t) : Int)), true), (bt t (0 : Int) == (48 : Int), false)]) (by kernel_rfl) (by repeat' first | exact okO_nil | refine okN ?_ ?_ | assumption | rfl) (fun st hst => rest2 st (fun h => by rcases h with h | h; exact h0 h; exact h48 h.1) hst)))
  by_cases h0 : w.size = 0
  · have c1 : (!ByteArray.toList w == []) = false := by rw [emp w (decide_eq_true h0)]; rfl
    exact SWP.runQ (SRk [(74, [(11, false)])] []) 100 74 hnt [4, 5] (e := .normal) (z := ⟨[(4, .str w), (5, .bool false)], ⟨[], []⟩⟩) (o := [(!ByteArray.toList w == [], false)]) (by kernel_rfl) (by repeat' first | exact okO_nil | refine okN ?_ ?_ | assumption | rfl) (fun st hst => rest st w false (by rw [numV, if_neg (by simp [numB, h0])]) hw hst)
  have c1 : (!ByteArray.toList w == []) = true := by rw [emp w (decide_eq_false h0)]; rfl
  have c2 : decide ((0 : Int) ≤ 0 ∧ (0 : Int) < (w.size : Int)) = true := by rw [decide_eq_true_eq]; omega
  by_cases h45 : bt w 0 = 45
  · have c3 := beqT h45
    have c4 : decide ((0 : Int) ≤ 1 ∧ (1 : Int) ≤ (w.size : Int) ∧ (w.size : Int) ≤ (w.size : Int)) = true := by rw [decide_eq_true_eq]; omega
    exact SWP.runQ (SRk [(74, [(11, true), (14, true), (15, true), (18, true)])] []) 100 74 hnt [4, 5] (e := .normal) (z := ⟨[(4, .str (ByteArray.extract w 1 (Int.toNat (Int.ofNat (ByteArray.size w))))), (5, .bool true)], ⟨[], []⟩⟩) (o := [(!ByteArray.toList w == [], true), (decide ((0 : Int) ≤ 0 ∧ 0 < (↑(ByteArray.size w) : Int)), true), (bt w (0 : Int) == (45 : Int), true), (decide ((0 : Int) ≤ 1 ∧ 1 ≤ (↑(ByteArray.size w) : Int) ∧ (↑(ByteArray.size w) : Int) ≤ (↑(ByteArray.size w) : Int)), true)]) (by kernel_rfl) (by repeat' first | exact okO_nil | refine okN ?_ ?_ | assumption | rfl) (fun st hst => rest st (w.extract 1 w.size) true (by rw [numV, if_pos (by rw [numB, decide_eq_true_eq]; exact ⟨by omega, h45⟩)]) (by rw [ByteArray.size_extract]; omega) hst)
  · have c3 := beqF h45
    exact SWP.runQ (SRk [(74, [(11, true), (14, true), (15, false)])] []) 100 74 hnt [4, 5] (e := .normal) (z := ⟨[(4, .str w), (5, .bool false)], ⟨[], []⟩⟩) (o := [(!ByteArray.toList w == [], true), (decide ((0 : Int) ≤ 0 ∧ 0 < (↑(ByteArray.size w) : Int)), true), (bt w (0 : Int) == (45 : Int), false)]) (by kernel_rfl) (by repeat' first | exact okO_nil | refine okN ?_ ?_ | assumption | rfl) (fun st hst => rest st w false (by rw [numV, if_neg (by rw [numB, decide_eq_true_eq]; exact fun h => h45 h.2)]) hw hst)
end Seat
end Go.Proofs.YtkblfapbakfgpaaGreatDoor
namespace Go.Proofs.YtkblfapbakfgpaaGreatDoor
open Go.AS Go.RowKit
set_option linter.unusedVariables false
set_option linter.unusedSimpArgs false
set_option maxRecDepth 100000
set_option maxHeartbeats 4000000
namespace Seat
def nZ : Box := ⟨[.int .i64 0, .int .i64 0, .str ⟨#[]⟩, .nil, .int .i64 0], 51⟩
noncomputable def atS (f : Nat) (args : List PV) : Option (PV × Ob) := match f, args with
  | 46, [.int .u8 c] => some (.bool (letC c), [(decide (0 ≤ c ∧ c < 256), true)])
  | 63, [.str w] => some (.tup [.int .i64 (numV w).1, .bool (numV w).2], [(Nat.ble w.size 1099511627776, true)])
  | 64, [.str w] => some (.bool (symOk w), [])
  | _, _ => none
theorem atS_ok (f : Nat) (args : List PV) (r : PV) (o : Ob) (h : atS f args = some (r, o)) (ho : ∀ p ∈ o, p.1 = p.2) (_ : pureL args = true) : Pure G0 f args (fun x => x = r) := by
  unfold atS at h
  split at h
  · cases h; exact letter_ok _ (of_decide_eq_true (ho _ (List.mem_singleton.2 rfl)))
  · cases h; exact number_ok _ (Nat.le_of_ble_eq_true (ho _ (List.mem_singleton.2 rfl)))
  · cases h; exact symbol_ok _
  · cases h
noncomputable def SAt (l : List (Nat × List (Nat × Bool))) (v : List (Nat × List (Nat × PV))) : Cfg G0 := { F := F, hF := hF, S := atS, hS := atS_ok, orc := orcM l, val := valM v }
theorem VRep.nil1 {E : Env} {w : World} {a b c d : PV} {v : Value} (h : VRep E w (.agg [a, b, c, .nil, d]) v) : VRep E w (.agg [a, b, c, .slice 0 [], d]) v := by
  obtain ⟨vs, rfl, g⟩ := h.agg_inv
  obtain ⟨v1, vs, rfl, h1, g⟩ := g.cons_inv
  obtain ⟨v2, vs, rfl, h2, g⟩ := g.cons_inv
  obtain ⟨v3, vs, rfl, h3, g⟩ := g.cons_inv
  obtain ⟨v4, vs, rfl, h4, g⟩ := g.cons_inv
  obtain ⟨v5, vs, rfl, h6, g⟩ := g.cons_inv
  obtain rfl := g.nil_inv
  have h5 := h4.nil_slice
  exact .agg rfl fun j x v hx hv => by
    match j, hx, hv with
    | 0, hx, hv => cases hx; cases hv; exact h1
    | 1, hx, hv => cases hx; cases hv; exact h2
    | 2, hx, hv => cases hx; cases hv; exact h3
    | 3, hx, hv => cases hx; cases hv; exact h5
    | 4, hx, hv => cases hx; cases hv; exact h6
    | j + 5, hx, hv => cases hx
theorem PCalls.weak {G : Prg} {f : FuncId} {args : List PV} {bx B : List Box} {r r' : PV} (hw : ∀ E w v, VRep E w r v → VRep E w r' v) (h : PCalls G f args bx (fun o b => o = .ret r ∧ b = B)) : PCalls G f args bx (fun o b => o = .ret r' ∧ b = B) := fun E w vs hh hv =>
  (h E w vs hh hv).mono fun e w' ⟨o, bx', E', ⟨ho, hb⟩, hout, hrest⟩ => by
    subst ho
    obtain ⟨v, rfl, hv⟩ := hout
    exact ⟨.ret r', bx', E', ⟨rfl, hb⟩, ⟨v, rfl, hw _ _ _ hv⟩, hrest⟩
def Nd.cells0 : Nd → List PV
  | .mk k n t ks a => [.int .i64 k, .int .i64 n, .str t, match ks with | .nil => .nil | .cons .. => .slice ks.len ks.cells, .int .i64 a]
theorem Nd.cells0_rep (d : Nd) {E : Env} {w : World} {v : Value} (h : VRep E w (.agg d.cells0) v) : VRep E w (.agg d.cells) v := by
  obtain ⟨k, n, t, ks, a⟩ := d
  cases ks with
  | nil => exact VRep.nil1 h
  | cons x xs => exact h
theorem atom_ok0 (s : ByteArray) (hs : s.size ≤ 1099511627776) (a : Nat) (ha : a ≤ s.size) : PCalls G0 47 [.ptr 0 0] [rB s a 0 0] (fun o b => o = .ret (.agg (atomR s a).1.cells0) ∧ b = [rB s (atomR s a).2.a (atomR s a).2.e (atomR s a).2.b]) := by
  refine Fn.enterN Tryz.func47 Tryz.ntmps47 rfl (Nat.le_of_ble_eq_true rfl) fun C fr fp hnt hp hfr hfp => ?_
  have fin : ∀ st d y e b, atomR s a = (d, ⟨y, e, b⟩) → nrm [2] st = ⟨[(2, .ptr 1 0)], ⟨[rB s y e b, ⟨d.cells0, 51⟩], []⟩⟩ → fr st := fun st d y e b h hst => hfr st [2] (by
    rw [hst, h]
    obtain ⟨k, n, t, ks, q⟩ := d
    cases ks <;> exact ⟨1, _, Nat.le_refl _, Nat.le_of_ble_eq_true rfl, rfl, rfl, rfl, rfl, rfl⟩)
  refine Q.runSeq (SAt [] []) 100 68 hnt [0, 2] (z := ⟨[(0, .ptr 0 0), (2, .ptr 1 0)], ⟨[⟨[.str s, .int .i64 (Int.ofNat a), .int .i64 (0 : Int), .int .i64 (0 : Int)], 82⟩, ⟨[.int .i64 (0 : Int), .int .i64 (0 : Int), .str ⟨#[]⟩, PV.nil, .int .i64 (0 : Int)], 51⟩], []⟩⟩) (o := []) (by kernel_rfl) (by repeat' first | exact okO_nil | refine okN ?_ ?_ | assumption | rfl) ?_
  refine Q.runSeq (SAt [] []) 100 68 hnt [0, 2, 3] (z := ⟨[(0, .ptr 0 0), (2, .ptr 1 0), (3, .int .i64 (Int.ofNat a))], ⟨[⟨[.str s, .int .i64 (Int.ofNat a), .int .i64 (0 : Int), .int .i64 (0 : Int)], 82⟩, ⟨[.int .i64 (0 : Int), .int .i64 (0 : Int), .str ⟨#[]⟩, PV.nil, .int .i64 (0 : Int)], 51⟩], []⟩⟩) (o := []) (by kernel_rfl) (by repeat' first | exact okO_nil | refine okN ?_ ?_ | assumption | rfl) ?_
  refine Q.seq fun K hK => ?_
  have rest : ∀ st x, letE s a = x → nrm [0, 2, 3] st = ⟨[(0, .ptr 0 0), (2, .ptr 1 0), (3, .int .i64 a)], ⟨[rB s x 0 0, nZ], []⟩⟩ → K st := fun st x hx hst => hK st (.norm [0, 2, 3] (by
    rw [hst]
    clear hst hK
    have h1 := letE_ge s a
    have h2 := letE_le s a ha
    obtain ⟨w, hw⟩ : ∃ w, w = s.extract a (letE s a) := ⟨_, rfl⟩
    have hat : atomR s a = if (numV w).2 = true then (.mk 1 (numV w).1 ⟨#[]⟩ .nil a, ⟨x, 0, 0⟩) else if symOk w = true then (.mk 2 0 w .nil a, ⟨x, 0, 0⟩) else (.zero, ⟨x, 4, a⟩) := by
      rw [hw, ← hx]; rfl
    have c0 : decide ((0 : Int) ≤ (a : Int) ∧ (a : Int) ≤ (x : Int) ∧ (x : Int) ≤ (s.size : Int)) = true := by rw [decide_eq_true_eq]; omega
    have c1 : same (PV.str (ByteArray.extract s (Int.toNat (Int.ofNat a)) (Int.toNat (Int.ofNat x)))) (PV.str w) = true := same_of (by rw [hw, hx]; rfl)
    have c2 : Nat.ble (ByteArray.size w) 1099511627776 = true := by rw [Nat.ble_eq, hw, ByteArray.size_extract]; omega
    refine Q.runSeq (SAt [(68, [(49, true)])] [(68, [(49, .str w)])]) 100 68 hnt [0, 2, 3, 4] (z := ⟨[(0, .ptr 0 0), (2, .ptr 1 0), (3, .int .i64 (Int.ofNat a)), (4, .str w)], ⟨[⟨[.str s, .int .i64 (Int.ofNat x), .int .i64 (0 : Int), .int .i64 (0 : Int)], 82⟩, ⟨[.int .i64 (0 : Int), .int .i64 (0 : Int), .str ⟨#[]⟩, PV.nil, .int .i64 (0 : Int)], 51⟩], []⟩⟩) (o := [(decide (0 ≤ (↑a : Int) ∧ (↑a : Int) ≤ (↑x : Int) ∧ (↑x : Int) ≤ (↑(ByteArray.size s) : Int)), true), (same (.str (ByteArray.extract s (Int.toNat (Int.ofNat a)) (Int.toNat (Int.ofNat x)))) (.str w), true)]) (by kernel_rfl) (by repeat' first | exact okO_nil | refine okN ?_ ?_ | assumption | rfl) ?_
    cases h3 : (numV w).2 with
    | true =>
      rw [if_pos h3] at hat
      exact SWP.runQ (SAt [(68, [(55, true)])] []) 100 68 hnt [2] (e := .ret) (z := ⟨[(2, .ptr 1 0)], ⟨[⟨[.str s, .int .i64 (Int.ofNat x), .int .i64 (0 : Int), .int .i64 (0 : Int)], 82⟩, ⟨[.int .i64 (1 : Int), .int .i64 (Prod.fst (numV w)), .str ⟨#[]⟩, PV.nil, .int .i64 (Int.ofNat a)], 51⟩], []⟩⟩) (o := [(true, true), (Nat.ble (ByteArray.size w) 1099511627776, true), (Prod.snd (numV w), true), (true, true)]) (by kernel_rfl) (by repeat' first | exact okO_nil | refine okN ?_ ?_ | assumption | rfl) (fun st hst => fin st _ _ _ _ hat hst)
    | false =>
      rw [if_neg (by rw [h3]; decide)] at hat
      cases h4 : symOk w with
      | true =>
        have c4 : (!symOk w) = false := by rw [h4]; rfl
        rw [if_pos h4] at hat
        exact SWP.runQ (SAt [(68, [(55, false), (61, false)])] []) 100 68 hnt [2] (e := .ret) (z := ⟨[(2, .ptr 1 0)], ⟨[⟨[.str s, .int .i64 (Int.ofNat x), .int .i64 (0 : Int), .int .i64 (0 : Int)], 82⟩, ⟨[.int .i64 (2 : Int), .int .i64 (0 : Int), .str w, PV.nil, .int .i64 (Int.ofNat a)], 51⟩], []⟩⟩) (o := [(true, true), (Nat.ble (ByteArray.size w) 1099511627776, true), (Prod.snd (numV w), false), (false, false), (true, true), (!symOk w, false), (false, false)]) (by kernel_rfl) (by repeat' first | exact okO_nil | refine okN ?_ ?_ | assumption | rfl) (fun st hst => fin st _ _ _ _ hat hst)
      | false =>
        have c4 : (!symOk w) = true := by rw [h4]; rfl
        rw [if_neg (by rw [h4]; decide)] at hat
        exact SWP.runQ (SAt [(68, [(55, false), (61, true)])] []) 100 68 hnt [2] (e := .ret) (z := ⟨[(2, .ptr 1 0)], ⟨[⟨[.str s, .int .i64 (Int.ofNat x), .int .i64 (4 : Int), .int .i64 (Int.ofNat a)], 82⟩, ⟨[.int .i64 (0 : Int), .int .i64 (0 : Int), .str ⟨#[]⟩, PV.nil, .int .i64 (0 : Int)], 51⟩], []⟩⟩) (o := [(true, true), (Nat.ble (ByteArray.size w) 1099511627776, true), (Prod.snd (numV w), false), (false, false), (true, true), (!symOk w, true), (true, true)]) (by kernel_rfl) (by repeat' first | exact okO_nil | refine okN ?_ ?_ | assumption | rfl) (fun st hst => fin st _ _ _ _ hat hst)))
  let T (x : Nat) : AS := ⟨[(0, .ptr 0 0), (2, .ptr 1 0), (3, .int .i64 a)], ⟨[rB s x 0 0, nZ], []⟩⟩
  refine Q.block ?_
  refine Q.loopI (σ := { x : Nat // letE s x = letE s a }) [0, 2, 3] (fun x => T x.1) (fun x => s.size - x.1) ⟨a, rfl⟩ rfl fun ⟨x, hk⟩ => ?_
  show SWP G0 C _ _ ⟨[(0, .ptr 0 0), (2, .ptr 1 0), (3, .int .i64 a)], ⟨[rB s x 0 0, nZ], []⟩⟩
  have le := letE_eq s x
  rcases Nat.lt_or_ge x s.size with hlt | hge
  · have d1 := sameB (lt_at hlt)
    have d2 := in_at hlt
    have d3 : decide (0 ≤ bt s (x : Int) ∧ bt s (x : Int) < 256) = true := decide_eq_true (bt_in s x)
    have wi : IntKind.wrap IntKind.i64 (Int.ofNat (x + 1)) = ((x + 1 : Nat) : Int) := wrapI (x + 1) (by omega)
    by_cases hc : letC (bt s (x : Int)) = true
    · have d4 := sameB hc
      rw [if_pos ⟨hlt, hc⟩] at le
      exact SWP.runQ (SAt [(68, [(30, true)])] [(68, [(20, .bool true), (31, .bool true)])]) 100 68 hnt [0, 2, 3] (e := .normal) (z := ⟨[(0, .ptr 0 0), (2, .ptr 1 0), (3, .int .i64 (Int.ofNat a))], ⟨[⟨[.str s, .int .i64 (IntKind.wrap IntKind.i64 (Int.ofNat (x + 1))), .int .i64 (0 : Int), .int .i64 (0 : Int)], 82⟩, ⟨[.int .i64 (0 : Int), .int .i64 (0 : Int), .str ⟨#[]⟩, PV.nil, .int .i64 (0 : Int)], 51⟩], []⟩⟩) (o := [(same (.bool (decide ((↑x : Int) < (↑(ByteArray.size s) : Int)))) (.bool true), true), (decide (0 ≤ (↑x : Int) ∧ (↑x : Int) < (↑(ByteArray.size s) : Int)), true), (true, true), (decide (0 ≤ bt s (↑x : Int) ∧ bt s (↑x : Int) < 256), true), (same (.bool (letC (bt s (Int.ofNat x)))) (.bool true), true)]) (by kernel_rfl) (by repeat' first | exact okO_nil | refine okN ?_ ?_ | assumption | rfl) (fun st hst => ⟨⟨x + 1, le.symm.trans hk⟩, Nat.sub_lt_sub_left hlt (Nat.lt_succ_self x), by rw [hst, wi]; rfl⟩)
    · have d4 := sameB (Bool.not_eq_true _ ▸ hc : letC (bt s (x : Int)) = false)
      rw [if_neg (fun h => hc h.2)] at le
      exact SWP.runQ (SAt [(68, [(30, true)])] [(68, [(20, .bool true), (31, .bool false)])]) 100 68 hnt [0, 2, 3] (e := .exit 0) (z := ⟨[(0, .ptr 0 0), (2, .ptr 1 0), (3, .int .i64 (Int.ofNat a))], ⟨[⟨[.str s, .int .i64 (Int.ofNat x), .int .i64 (0 : Int), .int .i64 (0 : Int)], 82⟩, ⟨[.int .i64 (0 : Int), .int .i64 (0 : Int), .str ⟨#[]⟩, PV.nil, .int .i64 (0 : Int)], 51⟩], []⟩⟩) (o := [(same (.bool (decide ((↑x : Int) < (↑(ByteArray.size s) : Int)))) (.bool true), true), (decide (0 ≤ (↑x : Int) ∧ (↑x : Int) < (↑(ByteArray.size s) : Int)), true), (true, true), (decide (0 ≤ bt s (↑x : Int) ∧ bt s (↑x : Int) < 256), true), (same (.bool (letC (bt s (Int.ofNat x)))) (.bool false), true)]) (by kernel_rfl) (by repeat' first | exact okO_nil | refine okN ?_ ?_ | assumption | rfl) (fun st hst => rest st x (hk.symm.trans le) hst)
  · have d1 := sameB (ge_at hge)
    rw [if_neg (fun h => absurd h.1 (by omega))] at le
    exact SWP.runQ (SAt [] [(68, [(20, .bool false)])]) 100 68 hnt [0, 2, 3] (e := .exit 0) (z := ⟨[(0, .ptr 0 0), (2, .ptr 1 0), (3, .int .i64 (Int.ofNat a))], ⟨[⟨[.str s, .int .i64 (Int.ofNat x), .int .i64 (0 : Int), .int .i64 (0 : Int)], 82⟩, ⟨[.int .i64 (0 : Int), .int .i64 (0 : Int), .str ⟨#[]⟩, PV.nil, .int .i64 (0 : Int)], 51⟩], []⟩⟩) (o := [(same (.bool (decide ((↑x : Int) < (↑(ByteArray.size s) : Int)))) (.bool false), true)]) (by kernel_rfl) (by repeat' first | exact okO_nil | refine okN ?_ ?_ | assumption | rfl) (fun st hst => rest st x (hk.symm.trans le) hst)
theorem atom_ok (s : ByteArray) (hs : s.size ≤ 1099511627776) (a : Nat) (ha : a ≤ s.size) : PCalls G0 47 [.ptr 0 0] [rB s a 0 0] (fun o b => o = .ret (.agg (atomR s a).1.cells) ∧ b = [rB s (atomR s a).2.a (atomR s a).2.e (atomR s a).2.b]) :=
  PCalls.weak (fun E w v h => Nd.cells0_rep _ h) (atom_ok0 s hs a ha)
end Seat
end Go.Proofs.YtkblfapbakfgpaaGreatDoor
namespace Go.Proofs.YtkblfapbakfgpaaGreatDoor
open Go.AS Go.RowKit
set_option linter.unusedVariables false
set_option linter.unusedSimpArgs false
set_option maxRecDepth 100000
set_option maxHeartbeats 4000000
namespace Seat
def ndK : Nd → Int | .mk k _ _ _ _ => k
def ndN : Nd → Int | .mk _ n _ _ _ => n
def ndT : Nd → ByteArray | .mk _ _ t _ _ => t
def ndS : Nd → Nds | .mk _ _ _ ks _ => ks
def ndA : Nd → Int | .mk _ _ _ _ a => a
def ndC (x : Nd) : List PV := [.int .i64 (ndK x), .int .i64 (ndN x), .str (ndT x), .slice (ndS x).len (ndS x).cells, .int .i64 (ndA x)]
theorem ndC_eq (x : Nd) : ndC x = x.cells := by obtain ⟨k, n, t, ks, a⟩ := x; rfl
def atX (s : ByteArray) (a : Nat) : Nd := (atomR s a).1
def atA (s : ByteArray) (a : Nat) : Nat := (atomR s a).2.a
def atE (s : ByteArray) (a : Nat) : Int := (atomR s a).2.e
def atF (s : ByteArray) (a : Nat) : Int := (atomR s a).2.b
def rdX (s : ByteArray) (n a : Nat) : Nd := (rdD s n a).1
def rdA (s : ByteArray) (n a : Nat) : Nat := (rdD s n a).2.a
def rdE (s : ByteArray) (n a : Nat) : Int := (rdD s n a).2.e
def rdF (s : ByteArray) (n a : Nat) : Int := (rdD s n a).2.b
def RdAt (n : Nat) : Prop := ∀ s : ByteArray, s.size ≤ 1099511627776 → ∀ a, a ≤ s.size → PCalls G0 32 [.ptr 0 0, .int .i64 (1000 - (n : Int))] [rB s a 0 0] (fun o b => o = .ret (.agg (ndC (rdX s n a))) ∧ b = [rB s (rdA s n a) (rdE s n a) (rdF s n a)])
noncomputable def dtB (u : Bool) (n : Nat) (f : Nat) (args : List PV) (x : Box) : Option (PV × Box × Ob) := match f, args, x with
  | 31, [.ptr 0 0], ⟨[.str s, .int .i64 a, .int .i64 e, .int .i64 b], ty⟩ => match Nat.beq ty 82 with
    | true => some (.tup [], rB s (skp s a.toNat) e b, [(decide (0 ≤ a), true), (Nat.ble s.size 1099511627776, true)])
    | false => none
  | 47, [.ptr 0 0], ⟨[.str s, .int .i64 a, .int .i64 0, .int .i64 0], ty⟩ => match Nat.beq ty 82 with
    | true => some (.agg (ndC (atX s a.toNat)), rB s (atA s a.toNat) (atE s a.toNat) (atF s a.toNat), [(decide (0 ≤ a ∧ a ≤ (s.size : Int)), true), (Nat.ble s.size 1099511627776, true)])
    | false => none
  | 32, [.ptr 0 0, .int .i64 w], ⟨[.str s, .int .i64 a, .int .i64 0, .int .i64 0], ty⟩ => match u && Nat.beq ty 82 with
    | true => some (.agg (ndC (rdX s n a.toNat)), rB s (rdA s n a.toNat) (rdE s n a.toNat) (rdF s n a.toNat), [(decide (0 ≤ a ∧ a ≤ (s.size : Int)), true), (decide (w = 1000 - (n : Int)), true), (Nat.ble s.size 1099511627776, true)])
    | false => none
  | _, _, _ => none
theorem dtB_ok {u : Bool} {n : Nat} (ih : u = true → RdAt n) : ∀ f xs x r x' o, dtB u n f xs x = some (r, x', o) → (∀ p ∈ o, p.1 = p.2) → PCalls G0 f xs [x] (fun o' b' => o' = .ret r ∧ b' = [x']) ∧ r.sc 0 = true ∧ scL 0 x.cs = true ∧ scL 0 x'.cs = true := by
  intro f args x r b o h ho
  unfold dtB at h
  split at h
  · rename_i s a e b ty
    split at h
    · rename_i hc
      cases h
      simp only [Nat.beq_eq] at hc
      subst hc
      have h1 : 0 ≤ a := of_decide_eq_true (ho (decide (0 ≤ a), true) (by simp))
      have h2 : s.size ≤ 1099511627776 := Nat.le_of_ble_eq_true (ho (Nat.ble s.size 1099511627776, true) (by simp))
      have key := skip_ok s h2 a.toNat e b
      unfold rB at key
      rw [Int.toNat_of_nonneg h1] at key
      exact ⟨key, rfl, rfl, rfl⟩
    · cases h
  · rename_i s a ty
    split at h
    · rename_i hc
      cases h
      simp only [Nat.beq_eq] at hc
      subst hc
      have h1 : 0 ≤ a ∧ a ≤ (s.size : Int) := of_decide_eq_true (ho (decide (0 ≤ a ∧ a ≤ (s.size : Int)), true) (by simp))
      have h2 : s.size ≤ 1099511627776 := Nat.le_of_ble_eq_true (ho (Nat.ble s.size 1099511627776, true) (by simp))
      have key := atom_ok s h2 a.toNat (by omega)
      rw [← ndC_eq] at key
      refine ⟨?_, rfl, rfl, rfl⟩
      have e1 : rB s a.toNat 0 0 = ⟨[.str s, .int .i64 a, .int .i64 0, .int .i64 0], 82⟩ := by unfold rB; rw [Int.toNat_of_nonneg h1.1]
      rw [e1] at key
      exact key
    · cases h
  · rename_i w s a ty
    split at h
    · rename_i hc
      cases h
      simp only [Nat.beq_eq, Bool.and_eq_true] at hc
      obtain ⟨hu, hc⟩ := hc
      subst hc
      have h1 : 0 ≤ a ∧ a ≤ (s.size : Int) := of_decide_eq_true (ho (decide (0 ≤ a ∧ a ≤ (s.size : Int)), true) (by simp))
      have h2 : s.size ≤ 1099511627776 := Nat.le_of_ble_eq_true (ho (Nat.ble s.size 1099511627776, true) (by simp))
      have h3 : w = 1000 - (n : Int) := of_decide_eq_true (ho (decide (w = 1000 - (n : Int)), true) (by simp))
      have key := ih hu s h2 a.toNat (by omega)
      refine ⟨?_, rfl, rfl, rfl⟩
      have e1 : rB s a.toNat 0 0 = ⟨[.str s, .int .i64 a, .int .i64 0, .int .i64 0], 82⟩ := by unfold rB; rw [Int.toNat_of_nonneg h1.1]
      rw [e1, ← h3] at key
      exact key
    · cases h
  · cases h
noncomputable def SRd (u : Bool) (n : Nat) (ih : u = true → RdAt n) (l : List (Nat × List (Nat × Bool))) (v : List (Nat × List (Nat × PV))) : Cfg G0 := { F := F, hF := hF, S := atS, hS := atS_ok, B := dtB u n, hB := dtB_ok ih, D := fun f => Nat.beq f 32, orc := orcM l, val := valM v }
def nL (a : Nat) (x : PV) : Box := ⟨[.int .i64 3, .int .i64 0, .str ⟨#[]⟩, x, .int .i64 a], 51⟩
def nR (rc : List PV) (m : Nat) : Row := ⟨rc, m, 51, 5⟩
def NilS (x : PV) (d : Nd) : Prop := x = .slice (ndS d).len (ndS d).cells ∨ (x = .nil ∧ ndS d = .nil) ∨ ∃ a y, ndS d = .cons (.mk 2 0 wQuote .nil a) (.cons y .nil) ∧ x = .slice 2 ([.int .i64 2, .int .i64 0, .str wQuote, .nil, .int .i64 a] ++ ndC y)
theorem slice_weak {E : Env} {w : World} {n : Nat} {cs cs' : List PV} {v : Value} (hl : cs'.length = cs.length) (hc : ∀ (j : Nat) (x x' : PV), cs[j]? = some x → cs'[j]? = some x' → x' = x ∨ (x = .nil ∧ x' = .slice 0 [])) (h : VRep E w (.slice n cs) v) : VRep E w (.slice n cs') v := by
  rcases h.slice_inv with ⟨rfl, rfl, rfl⟩ | ⟨a, c, vs, rfl, h1, h2, h3, h4, h5⟩
  · have : cs' = [] := List.eq_nil_of_length_eq_zero hl
    rw [this]
    exact .imm .slice0
  · refine .imm (.slice h1 (h4.1.trans hl.symm) h2 h3 h5 fun j x v hx hv => ?_)
    obtain ⟨y, hy⟩ : ∃ y, cs[j]? = some y := by
      have := (List.getElem?_eq_some_iff.1 hx).1
      exact ⟨cs[j]'(by omega), List.getElem?_eq_getElem (by omega)⟩
    have hr := h4.2 j y v hy hv
    rcases hc j y x hy hx with rfl | ⟨rfl, rfl⟩
    · exact hr
    · cases hr
      exact .slice0
theorem NilS.rep {x : PV} {d : Nd} (hx : NilS x d) {E : Env} {w : World} {v : Value} (h : VRep E w x v) : VRep E w (.slice (ndS d).len (ndS d).cells) v := by
  rcases hx with rfl | ⟨rfl, h2⟩ | ⟨a, y, h2, rfl⟩
  · exact h
  · rw [h2]; exact h.nil_slice
  · rw [h2]
    have e : (Nds.cons (.mk 2 0 wQuote .nil a) (.cons y .nil)).cells = [.int .i64 2, .int .i64 0, .str wQuote, .slice 0 [], .int .i64 a] ++ ndC y := by
      rw [ndC_eq]; simp [Nds.cells, Nd.cells, Nds.len]
    show VRep E w (.slice 2 (Nds.cons (.mk 2 0 wQuote .nil a) (.cons y .nil)).cells) v
    rw [e]
    refine slice_weak (cs := [.int .i64 2, .int .i64 0, .str wQuote, .nil, .int .i64 a] ++ ndC y) rfl (fun j x x' h1 h2 => ?_) h
    match j, h1, h2 with
    | 0, h1, h2 | 1, h1, h2 | 2, h1, h2 | 4, h1, h2 => cases h1; cases h2; exact .inl rfl
    | 3, h1, h2 => cases h1; cases h2; exact .inr ⟨rfl, rfl⟩
    | j + 5, h1, h2 => exact .inl (Option.some.inj (h2.symm.trans h1))
theorem node_weak {x : PV} {d : Nd} (hx : NilS x d) {E : Env} {w : World} {v : Value} (h : VRep E w (.agg [.int .i64 (ndK d), .int .i64 (ndN d), .str (ndT d), x, .int .i64 (ndA d)]) v) : VRep E w (.agg (ndC d)) v := by
  obtain ⟨vs, rfl, g⟩ := h.agg_inv
  obtain ⟨v1, vs, rfl, h1, g⟩ := g.cons_inv
  obtain ⟨v2, vs, rfl, h2, g⟩ := g.cons_inv
  obtain ⟨v3, vs, rfl, h3, g⟩ := g.cons_inv
  obtain ⟨v4, vs, rfl, h4, g⟩ := g.cons_inv
  obtain ⟨v5, vs, rfl, h6, g⟩ := g.cons_inv
  obtain rfl := g.nil_inv
  have h5 := hx.rep h4
  exact .agg rfl fun j x v hx hv => by
    match j, hx, hv with
    | 0, hx, hv => cases hx; cases hv; exact h1
    | 1, hx, hv => cases hx; cases hv; exact h2
    | 2, hx, hv => cases hx; cases hv; exact h3
    | 3, hx, hv => cases hx; cases hv; exact h5
    | 4, hx, hv => cases hx; cases hv; exact h6
    | j + 5, hx, hv => cases hx
theorem rd_weak {f : FuncId} {args : List PV} {bx B : List Box} {d : Nd} (h : PCalls G0 f args bx (fun o b => ∃ x, o = .ret (.agg [.int .i64 (ndK d), .int .i64 (ndN d), .str (ndT d), x, .int .i64 (ndA d)]) ∧ NilS x d ∧ b = B)) : PCalls G0 f args bx (fun o b => o = .ret (.agg (ndC d)) ∧ b = B) := fun E w vs hh hv =>
  (h E w vs hh hv).mono fun e w' ⟨o, bx', E', ⟨x, ho, hx, hb⟩, hout, hrest⟩ => by
    subst ho
    obtain ⟨v, rfl, hv⟩ := hout
    exact ⟨.ret (.agg (ndC d)), bx', E', ⟨rfl, hb⟩, ⟨v, rfl, node_weak hx hv⟩, hrest⟩
theorem swp_st {C : Ctx} {c : Code} {Q : AEx → AS → Prop} {st st' : AS} (h : st = st') (k : SWP G0 C c Q st') : SWP G0 C c Q st := h ▸ k
theorem rd_step (u : Bool) (n : Nat) (ih : u = true → RdAt n) (N : Nat) (h1 : u = true → N = n + 1) (h0 : u = false → N = 0) (hN : N ≤ 1000) : RdAt N := by
  intro s hs a ha
  obtain ⟨w, hw⟩ : ∃ w : Int, w = 1000 - (N : Int) := ⟨_, rfl⟩
  rw [← hw]
  refine rd_weak ?_
  have eq := rdD_eq s N a
  refine Fn.enterN Tryz.func32 Tryz.ntmps32 rfl (Nat.le_of_ble_eq_true rfl) fun C fr fp hnt hp hfr hfp => ?_
  have fin : ∀ st d y e b x bx rw', rdD s N a = (d, ⟨y, e, b⟩) → NilS x d → nrm [4] st = ⟨[(4, .ptr 1 0)], ⟨rB s y e b :: ⟨[.int .i64 (ndK d), .int .i64 (ndN d), .str (ndT d), x, .int .i64 (ndA d)], 51⟩ :: bx, rw'⟩⟩ → fr st := fun st d y e b x bx rw' h hx hst => hfr st [4] (by
    have a1 : rdX s N a = d := by unfold rdX; rw [h]
    have a2 : rdA s N a = y := by unfold rdA; rw [h]
    have a3 : rdE s N a = e := by unfold rdE; rw [h]
    have a4 : rdF s N a = b := by unfold rdF; rw [h]
    rw [hst, a1, a2, a3, a4]
    refine ⟨1, .agg [.int .i64 (ndK d), .int .i64 (ndN d), .str (ndT d), x, .int .i64 (ndA d)], Nat.le_refl _, Nat.succ_le_succ (Nat.zero_le _), rfl, ?_, rfl, x, rfl, hx, rfl⟩
    rcases hx with rfl | ⟨rfl, _⟩ | ⟨_, _, _, rfl⟩ <;> rfl)
  refine Q.runSeq (SRd u n ih [] []) 100 150 hnt [0, 1, 4] (z := ⟨[(0, .ptr 0 0), (1, .int .i64 w), (4, .ptr 1 0)], ⟨[⟨[.str s, .int .i64 (Int.ofNat a), .int .i64 (0 : Int), .int .i64 (0 : Int)], 82⟩, ⟨[.int .i64 (0 : Int), .int .i64 (0 : Int), .str ⟨#[]⟩, PV.nil, .int .i64 (0 : Int)], 51⟩], []⟩⟩) (o := []) (by kernel_rfl) (by repeat' first | exact okO_nil | refine okN ?_ ?_ | assumption | rfl) ?_
  refine Q.runSeq (SRd u n ih [] []) 100 150 hnt [0, 1, 4] (z := ⟨[(0, .ptr 0 0), (1, .int .i64 w), (4, .ptr 1 0)], ⟨[⟨[.str s, .int .i64 (Int.ofNat a), .int .i64 (0 : Int), .int .i64 (0 : Int)], 82⟩, ⟨[.int .i64 (0 : Int), .int .i64 (0 : Int), .str ⟨#[]⟩, PV.nil, .int .i64 (0 : Int)], 51⟩], []⟩⟩) (o := []) (by kernel_rfl) (by repeat' first | exact okO_nil | refine okN ?_ ?_ | assumption | rfl) ?_
  rcases Nat.lt_or_ge a s.size with hlt | hge
  case inr =>
    rw [if_pos hge] at eq
    have d1 : decide ((s.size : Int) ≤ (a : Int)) = true := by rw [decide_eq_true_eq]; omega
    refine Q.seq fun K hK => ?_
    exact SWP.runQ (SRd u n ih [(150, [(23, true)])] []) 100 150 hnt [4] (e := .ret) (z := ⟨[(4, .ptr 1 0)], ⟨[⟨[.str s, .int .i64 (Int.ofNat a), .int .i64 (4 : Int), .int .i64 (Int.ofNat (ByteArray.size s))], 82⟩, ⟨[.int .i64 (0 : Int), .int .i64 (0 : Int), .str ⟨#[]⟩, PV.nil, .int .i64 (0 : Int)], 51⟩], []⟩⟩) (o := [(decide ((↑(ByteArray.size s) : Int) ≤ (↑a : Int)), true)]) (by kernel_rfl) (by repeat' first | exact okO_nil | refine okN ?_ ?_ | assumption | rfl) (fun st hst => fin st .zero a 4 s.size .nil [] [] eq (.inr (.inl ⟨rfl, rfl⟩)) hst)
  have d1 : decide ((s.size : Int) ≤ (a : Int)) = false := by rw [decide_eq_false_iff_not]; omega
  have d2 := in_at hlt
  have d3 : decide (0 ≤ bt s (a : Int) ∧ bt s (a : Int) < 256) = true := decide_eq_true (bt_in s a)
  have wi : IntKind.wrap IntKind.i64 (Int.ofNat (a + 1)) = ((a + 1 : Nat) : Int) := wrapI (a + 1) (by omega)
  rw [if_neg (by omega)] at eq
  refine Q.runSeq (SRd u n ih [(150, [(23, false)])] []) 100 150 hnt [0, 1, 4] (z := ⟨[(0, .ptr 0 0), (1, .int .i64 w), (4, .ptr 1 0)], ⟨[⟨[.str s, .int .i64 (Int.ofNat a), .int .i64 (0 : Int), .int .i64 (0 : Int)], 82⟩, ⟨[.int .i64 (0 : Int), .int .i64 (0 : Int), .str ⟨#[]⟩, PV.nil, .int .i64 (0 : Int)], 51⟩], []⟩⟩) (o := [(decide ((↑(ByteArray.size s) : Int) ≤ (↑a : Int)), false)]) (by kernel_rfl) (by repeat' first | exact okO_nil | refine okN ?_ ?_ | assumption | rfl) ?_
  refine Q.runSeq (SRd u n ih [(150, [(43, true)])] []) 100 150 hnt [0, 1, 4, 5, 6] (z := ⟨[(0, .ptr 0 0), (1, .int .i64 w), (4, .ptr 1 0), (5, .int .i64 (Int.ofNat a)), (6, PV.int IntKind.u8 (bt s (Int.ofNat a)))], ⟨[⟨[.str s, .int .i64 (Int.ofNat a), .int .i64 (0 : Int), .int .i64 (0 : Int)], 82⟩, ⟨[.int .i64 (0 : Int), .int .i64 (0 : Int), .str ⟨#[]⟩, PV.nil, .int .i64 (0 : Int)], 51⟩], []⟩⟩) (o := [(decide (0 ≤ (↑a : Int) ∧ (↑a : Int) < (↑(ByteArray.size s) : Int)), true)]) (by kernel_rfl) (by repeat' first | exact okO_nil | refine okN ?_ ?_ | assumption | rfl) ?_
  refine Q.seq fun K hK => ?_
  have go6 : ¬ (bt s (a : Int) ≠ 40 ∧ bt s (a : Int) ≠ 39 ∧ letC (bt s (a : Int)) = false) → ∀ st, nrm [0, 1, 4, 5, 6] st = ⟨[(0, .ptr 0 0), (1, .int .i64 w), (4, .ptr 1 0), (5, .int .i64 a), (6, .int .u8 (bt s a))], ⟨[rB s a 0 0, nZ], []⟩⟩ → K st := fun hc st hst => hK st (.norm [0, 1, 4, 5, 6] (by
    rw [hst]
    clear hst hK
    rw [if_neg hc] at eq
    cases u with
    | false =>
      obtain rfl := h0 rfl
      have e59 : decide (1000 ≤ w) = true := by rw [decide_eq_true_eq]; omega
      refine Q.seq fun K hK => ?_
      exact SWP.runQ (SRd false n ih [(150, [(59, true)])] []) 100 150 hnt [4] (e := .ret) (z := ⟨[(4, .ptr 1 0)], ⟨[⟨[.str s, .int .i64 (Int.ofNat a), .int .i64 (3 : Int), .int .i64 (Int.ofNat a)], 82⟩, ⟨[.int .i64 (0 : Int), .int .i64 (0 : Int), .str ⟨#[]⟩, PV.nil, .int .i64 (0 : Int)], 51⟩], []⟩⟩) (o := [(decide (1000 ≤ w), true)]) (by kernel_rfl) (by repeat' first | exact okO_nil | refine okN ?_ ?_ | assumption | rfl) (fun st hst => fin st .zero a 3 a .nil [] [] eq (.inr (.inl ⟨rfl, rfl⟩)) hst)
    | true =>
      obtain rfl := h1 rfl
      have e59 : decide (1000 ≤ w) = false := by rw [decide_eq_false_iff_not]; omega
      have w2 : IntKind.wrap IntKind.i64 (w + 1) = 1000 - (n : Int) := by rw [IntKind.wrap_i64]; omega
      have fw : same (PV.int IntKind.i64 (IntKind.wrap IntKind.i64 (w + (1 : Int)))) (PV.int IntKind.i64 ((1000 : Int) - Int.ofNat n)) = true := same_of (by rw [w2]; rfl)
      refine Q.seq fun K hK => ?_
      have go8 : ¬ (bt s (a : Int) = 39 ∧ n = 0) → ∀ st, nrm [0, 1, 4, 5, 6] st = ⟨[(0, .ptr 0 0), (1, .int .i64 w), (4, .ptr 1 0), (5, .int .i64 a), (6, .int .u8 (bt s a))], ⟨[rB s a 0 0, nZ], []⟩⟩ → K st := fun hc st hst => hK st (.norm [0, 1, 4, 5, 6] (by
        rw [hst]
        clear hst hK
        simp only [] at eq
        rw [if_neg hc] at eq
        have dz : decide (0 ≤ (a : Int) ∧ (a : Int) ≤ (s.size : Int)) = true := by rw [decide_eq_true_eq]; omega
        cases hl : letC (bt s (a : Int)) with
        | true =>
          rw [if_pos hl] at eq
          refine Q.seq fun K hK => ?_
          exact SWP.runQ (SRd true n ih [(150, [(73, true)])] []) 100 150 hnt [4] (e := .ret) (z := ⟨[(4, .ptr 1 0)], ⟨[⟨[.str s, .int .i64 (Int.ofNat (RS.a (Prod.snd (atomR s (Int.toNat (↑a : Int)))))), .int .i64 (RS.e (Prod.snd (atomR s (Int.toNat (↑a : Int))))), .int .i64 (RS.b (Prod.snd (atomR s (Int.toNat (↑a : Int)))))], 82⟩, ⟨[.int .i64 (ndK (atX s (Int.toNat (↑a : Int)))), .int .i64 (ndN (atX s (Int.toNat (↑a : Int)))), .str (ndT (atX s (Int.toNat (↑a : Int)))), .slice (Nds.len (ndS (atX s (Int.toNat (↑a : Int))))) (Nds.cells (ndS (atX s (Int.toNat (↑a : Int))))), .int .i64 (ndA (atX s (Int.toNat (↑a : Int))))], 51⟩], []⟩⟩) (o := [(true, true), (decide (0 ≤ bt s (↑a : Int) ∧ bt s (↑a : Int) < 256), true), (letC (bt s (Int.ofNat a)), true), (true, true), (decide (0 ≤ (↑a : Int) ∧ (↑a : Int) ≤ (↑(ByteArray.size s) : Int)), true), (Nat.ble (ByteArray.size s) 1099511627776, true)]) (by kernel_rfl) (by ((repeat' (first | exact okO_nil | refine okN ?_ ?_)); all_goals first | assumption | rfl | exact same_of rfl | exact sameS_self _ | (simp only [decide_eq_true_eq, decide_eq_false_iff_not, Nat.ble_eq, Nat.beq_eq, beq_eq_false_iff_ne, beq_iff_eq, ne_eq] <;> omega))) (fun st hst => fin st (atX s a) (atA s a) (atE s a) (atF s a) (.slice (ndS (atX s a)).len (ndS (atX s a)).cells) [] [] eq (.inl rfl) hst)
        | false =>
        rw [if_neg (by rw [hl]; decide)] at eq
        refine Q.runSeq (SRd true n ih [(150, [(73, false)])] []) 100 150 hnt [0, 1, 4, 5, 6] (z := ⟨[(0, .ptr 0 0), (1, .int .i64 w), (4, .ptr 1 0), (5, .int .i64 (Int.ofNat a)), (6, PV.int IntKind.u8 (bt s (Int.ofNat a)))], ⟨[⟨[.str s, .int .i64 (Int.ofNat a), .int .i64 (0 : Int), .int .i64 (0 : Int)], 82⟩, ⟨[.int .i64 (0 : Int), .int .i64 (0 : Int), .str ⟨#[]⟩, PV.nil, .int .i64 (0 : Int)], 51⟩], []⟩⟩) (o := [(true, true), (decide (0 ≤ bt s (↑a : Int) ∧ bt s (↑a : Int) < 256), true), (letC (bt s (Int.ofNat a)), false), (false, false)]) (by kernel_rfl) (by repeat' first | exact okO_nil | refine okN ?_ ?_ | assumption | rfl) ?_
        refine Q.runSeq (SRd true n ih [] []) 100 150 hnt [0, 1, 4, 5, 6] (z := ⟨[(0, .ptr 0 0), (1, .int .i64 w), (4, .ptr 1 0), (5, .int .i64 (Int.ofNat a)), (6, PV.int IntKind.u8 (bt s (Int.ofNat a)))], ⟨[⟨[.str s, .int .i64 (IntKind.wrap IntKind.i64 (Int.ofNat (a + 1))), .int .i64 (0 : Int), .int .i64 (0 : Int)], 82⟩, ⟨[.int .i64 (0 : Int), .int .i64 (0 : Int), .str ⟨#[]⟩, PV.nil, .int .i64 (0 : Int)], 51⟩], []⟩⟩) (o := []) (by kernel_rfl) (by repeat' first | exact okO_nil | refine okN ?_ ?_ | assumption | rfl) ?_
        rw [wi]
        refine Q.runSeq (SRd true n ih [] []) 100 150 hnt [0, 1, 4, 5, 6] (z := ⟨[(0, .ptr 0 0), (1, .int .i64 w), (4, .ptr 1 0), (5, .int .i64 (Int.ofNat a)), (6, PV.int IntKind.u8 (bt s (Int.ofNat a)))], ⟨[⟨[.str s, .int .i64 (Int.ofNat (skp s (Int.toNat (Int.ofNat (a + 1))))), .int .i64 (0 : Int), .int .i64 (0 : Int)], 82⟩, ⟨[.int .i64 (0 : Int), .int .i64 (0 : Int), .str ⟨#[]⟩, PV.nil, .int .i64 (0 : Int)], 51⟩], []⟩⟩) (o := [(true, true), (Nat.ble (ByteArray.size s) 1099511627776, true)]) (by kernel_rfl) (by ((repeat' (first | exact okO_nil | refine okN ?_ ?_)); all_goals first | assumption | rfl | exact same_of rfl | exact sameS_self _ | (simp only [decide_eq_true_eq, decide_eq_false_iff_not, Nat.ble_eq, Nat.beq_eq, beq_eq_false_iff_ne, beq_iff_eq, ne_eq] <;> omega))) ?_
        obtain ⟨y, hy⟩ : ∃ y, y = skp s (a + 1) := ⟨_, rfl⟩
        have hy2 : y ≤ s.size := by rw [hy]; exact skp_le s (a + 1) hlt
        show SWP G0 C _ _ ⟨[(0, .ptr 0 0), (1, .int .i64 w), (4, .ptr 1 0), (5, .int .i64 a), (6, .int .u8 (bt s a))], ⟨[rB s (skp s (a + 1)) 0 0, nZ], []⟩⟩
        rw [← hy] at eq ⊢
        have dy : decide (0 ≤ (y : Int) ∧ (y : Int) ≤ (s.size : Int)) = true := by rw [decide_eq_true_eq]; omega
        refine Q.runSeq (SRd true n ih [] []) 100 150 hnt [0, 1, 4, 5, 6, 7] (z := ⟨[(0, .ptr 0 0), (1, .int .i64 w), (4, .ptr 1 0), (5, .int .i64 (Int.ofNat a)), (6, PV.int IntKind.u8 (bt s (Int.ofNat a))), (7, .ptr 2 0)], ⟨[⟨[.str s, .int .i64 (Int.ofNat y), .int .i64 (0 : Int), .int .i64 (0 : Int)], 82⟩, ⟨[.int .i64 (0 : Int), .int .i64 (0 : Int), .str ⟨#[]⟩, PV.nil, .int .i64 (0 : Int)], 51⟩, ⟨[.int .i64 (3 : Int), .int .i64 (0 : Int), .str ⟨#[]⟩, PV.nil, .int .i64 (Int.ofNat a)], 51⟩], []⟩⟩) (o := []) (by kernel_rfl) (by repeat' first | exact okO_nil | refine okN ?_ ?_ | assumption | rfl) ?_
        by_cases h39 : bt s (a : Int) = 39
        · have e88 := beqT h39
          rw [if_pos h39] at eq
          refine Q.seq fun K hK => ?_
          refine Q.runSeq (SRd true n ih [(150, [(88, true)])] []) 100 150 hnt [0, 1, 4, 5, 7, 88] (z := ⟨[(0, .ptr 0 0), (1, .int .i64 w), (4, .ptr 1 0), (5, .int .i64 (Int.ofNat a)), (7, .ptr 2 0), (88, .bool true)], ⟨[⟨[.str s, .int .i64 (Int.ofNat y), .int .i64 (0 : Int), .int .i64 (0 : Int)], 82⟩, ⟨[.int .i64 (0 : Int), .int .i64 (0 : Int), .str ⟨#[]⟩, PV.nil, .int .i64 (0 : Int)], 51⟩, ⟨[.int .i64 (3 : Int), .int .i64 (0 : Int), .str ⟨#[]⟩, PV.nil, .int .i64 (Int.ofNat a)], 51⟩], []⟩⟩) (o := [(bt s (Int.ofNat a) == (39 : Int), true)]) (by kernel_rfl) (by repeat' first | exact okO_nil | refine okN ?_ ?_ | assumption | rfl) ?_
          refine Q.cond (b := true) rfl (fun _ => ?_) (fun h => by cases h)
          refine SWP.adoptB 2 3 51 5 rfl rfl ?_
          refine Q.seq fun K2 hK2 => ?_
          refine SWP.runLQ (SRd true n ih [(150, [(98, true)])] [(150, [(95, .int .i64 (1000 - (n : Int)))])]) 100 150 hnt [4, 7] (l := [{ t := [(4, PV.ptr 1 0), (7, PV.ptr 2 0)], h := { bx := [{ cs := [PV.str s, PV.int IntKind.i64 (Int.ofNat (rdA s n (Int.toNat (Int.ofNat y)))), PV.int IntKind.i64 (rdE s n (Int.toNat (Int.ofNat y))), PV.int IntKind.i64 (rdF s n (Int.toNat (Int.ofNat y)))], ty := 82 }, { cs := [PV.int IntKind.i64 (0 : Int), PV.int IntKind.i64 (0 : Int), PV.str { data := #[] }, PV.nil, PV.int IntKind.i64 (0 : Int)], ty := 51 }, { cs := [PV.int IntKind.i64 (3 : Int), PV.int IntKind.i64 (0 : Int), PV.str { data := #[] }, PV.own 0 2, PV.int IntKind.i64 (Int.ofNat a)], ty := 51 }], rw := [some { cs := [PV.int IntKind.i64 (2 : Int), PV.int IntKind.i64 (0 : Int), PV.str { data := #[113, 117, 111, 116, 101] }, PV.nil, PV.int IntKind.i64 (Int.ofNat a), PV.int IntKind.i64 (ndK (rdX s n (Int.toNat (↑y : Int)))), PV.int IntKind.i64 (ndN (rdX s n (Int.toNat (↑y : Int)))), PV.str (ndT (rdX s n (Int.toNat (↑y : Int)))), PV.slice (Nds.len (ndS (rdX s n (Int.toNat (↑y : Int))))) (Nds.cells (ndS (rdX s n (Int.toNat (↑y : Int))))), PV.int IntKind.i64 (ndA (rdX s n (Int.toNat (↑y : Int))))], n := 2, ty := 51, sz := 5 }] } }, { t := [(4, PV.ptr 1 0), (7, PV.ptr 2 0)], h := { bx := [{ cs := [PV.str s, PV.int IntKind.i64 (Int.ofNat (rdA s n (Int.toNat (Int.ofNat y)))), PV.int IntKind.i64 (rdE s n (Int.toNat (Int.ofNat y))), PV.int IntKind.i64 (rdF s n (Int.toNat (Int.ofNat y)))], ty := 82 }, { cs := [PV.int IntKind.i64 (0 : Int), PV.int IntKind.i64 (0 : Int), PV.str { data := #[] }, PV.nil, PV.int IntKind.i64 (0 : Int)], ty := 51 }, { cs := [PV.int IntKind.i64 (3 : Int), PV.int IntKind.i64 (0 : Int), PV.str { data := #[] }, PV.own 0 2, PV.int IntKind.i64 (Int.ofNat a)], ty := 51 }], rw := [some { cs := [PV.int IntKind.i64 (2 : Int), PV.int IntKind.i64 (0 : Int), PV.str { data := #[113, 117, 111, 116, 101] }, PV.nil, PV.int IntKind.i64 (Int.ofNat a), PV.int IntKind.i64 (ndK (rdX s n (Int.toNat (↑y : Int)))), PV.int IntKind.i64 (ndN (rdX s n (Int.toNat (↑y : Int)))), PV.str (ndT (rdX s n (Int.toNat (↑y : Int)))), PV.slice (Nds.len (ndS (rdX s n (Int.toNat (↑y : Int))))) (Nds.cells (ndS (rdX s n (Int.toNat (↑y : Int))))), PV.int IntKind.i64 (ndA (rdX s n (Int.toNat (↑y : Int))))], n := 2, ty := 51, sz := 5 }] } }, { t := [(4, PV.ptr 1 0), (7, PV.ptr 2 0)], h := { bx := [{ cs := [PV.str s, PV.int IntKind.i64 (Int.ofNat (rdA s n (Int.toNat (Int.ofNat y)))), PV.int IntKind.i64 (rdE s n (Int.toNat (Int.ofNat y))), PV.int IntKind.i64 (rdF s n (Int.toNat (Int.ofNat y)))], ty := 82 }, { cs := [PV.int IntKind.i64 (0 : Int), PV.int IntKind.i64 (0 : Int), PV.str { data := #[] }, PV.nil, PV.int IntKind.i64 (0 : Int)], ty := 51 }, { cs := [PV.int IntKind.i64 (3 : Int), PV.int IntKind.i64 (0 : Int), PV.str { data := #[] }, PV.own 0 2, PV.int IntKind.i64 (Int.ofNat a)], ty := 51 }], rw := [some { cs := [PV.int IntKind.i64 (2 : Int), PV.int IntKind.i64 (0 : Int), PV.str { data := #[113, 117, 111, 116, 101] }, PV.nil, PV.int IntKind.i64 (Int.ofNat a), PV.int IntKind.i64 (ndK (rdX s n (Int.toNat (↑y : Int)))), PV.int IntKind.i64 (ndN (rdX s n (Int.toNat (↑y : Int)))), PV.str (ndT (rdX s n (Int.toNat (↑y : Int)))), PV.slice (Nds.len (ndS (rdX s n (Int.toNat (↑y : Int))))) (Nds.cells (ndS (rdX s n (Int.toNat (↑y : Int))))), PV.int IntKind.i64 (ndA (rdX s n (Int.toNat (↑y : Int))))], n := 2, ty := 51, sz := 5 }] } }, { t := [(4, PV.ptr 1 0), (7, PV.ptr 2 0)], h := { bx := [{ cs := [PV.str s, PV.int IntKind.i64 (Int.ofNat (rdA s n (Int.toNat (Int.ofNat y)))), PV.int IntKind.i64 (rdE s n (Int.toNat (Int.ofNat y))), PV.int IntKind.i64 (rdF s n (Int.toNat (Int.ofNat y)))], ty := 82 }, { cs := [PV.int IntKind.i64 (0 : Int), PV.int IntKind.i64 (0 : Int), PV.str { data := #[] }, PV.nil, PV.int IntKind.i64 (0 : Int)], ty := 51 }, { cs := [PV.int IntKind.i64 (3 : Int), PV.int IntKind.i64 (0 : Int), PV.str { data := #[] }, PV.own 0 2, PV.int IntKind.i64 (Int.ofNat a)], ty := 51 }], rw := [some { cs := [PV.int IntKind.i64 (2 : Int), PV.int IntKind.i64 (0 : Int), PV.str { data := #[113, 117, 111, 116, 101] }, PV.nil, PV.int IntKind.i64 (Int.ofNat a), PV.int IntKind.i64 (ndK (rdX s n (Int.toNat (↑y : Int)))), PV.int IntKind.i64 (ndN (rdX s n (Int.toNat (↑y : Int)))), PV.str (ndT (rdX s n (Int.toNat (↑y : Int)))), PV.slice (Nds.len (ndS (rdX s n (Int.toNat (↑y : Int))))) (Nds.cells (ndS (rdX s n (Int.toNat (↑y : Int))))), PV.int IntKind.i64 (ndA (rdX s n (Int.toNat (↑y : Int))))], n := 2, ty := 51, sz := 5 }] } }, { t := [(4, PV.ptr 1 0), (7, PV.ptr 2 0)], h := { bx := [{ cs := [PV.str s, PV.int IntKind.i64 (Int.ofNat (rdA s n (Int.toNat (Int.ofNat y)))), PV.int IntKind.i64 (rdE s n (Int.toNat (Int.ofNat y))), PV.int IntKind.i64 (rdF s n (Int.toNat (Int.ofNat y)))], ty := 82 }, { cs := [PV.int IntKind.i64 (0 : Int), PV.int IntKind.i64 (0 : Int), PV.str { data := #[] }, PV.nil, PV.int IntKind.i64 (0 : Int)], ty := 51 }, { cs := [PV.int IntKind.i64 (3 : Int), PV.int IntKind.i64 (0 : Int), PV.str { data := #[] }, PV.own 0 2, PV.int IntKind.i64 (Int.ofNat a)], ty := 51 }], rw := [some { cs := [PV.int IntKind.i64 (2 : Int), PV.int IntKind.i64 (0 : Int), PV.str { data := #[113, 117, 111, 116, 101] }, PV.nil, PV.int IntKind.i64 (Int.ofNat a), PV.int IntKind.i64 (ndK (rdX s n (Int.toNat (↑y : Int)))), PV.int IntKind.i64 (ndN (rdX s n (Int.toNat (↑y : Int)))), PV.str (ndT (rdX s n (Int.toNat (↑y : Int)))), PV.slice (Nds.len (ndS (rdX s n (Int.toNat (↑y : Int))))) (Nds.cells (ndS (rdX s n (Int.toNat (↑y : Int))))), PV.int IntKind.i64 (ndA (rdX s n (Int.toNat (↑y : Int))))], n := 2, ty := 51, sz := 5 }] } }, { t := [(4, PV.ptr 1 0), (7, PV.ptr 2 0)], h := { bx := [{ cs := [PV.str s, PV.int IntKind.i64 (Int.ofNat (rdA s n (Int.toNat (Int.ofNat y)))), PV.int IntKind.i64 (rdE s n (Int.toNat (Int.ofNat y))), PV.int IntKind.i64 (rdF s n (Int.toNat (Int.ofNat y)))], ty := 82 }, { cs := [PV.int IntKind.i64 (0 : Int), PV.int IntKind.i64 (0 : Int), PV.str { data := #[] }, PV.nil, PV.int IntKind.i64 (0 : Int)], ty := 51 }, { cs := [PV.int IntKind.i64 (3 : Int), PV.int IntKind.i64 (0 : Int), PV.str { data := #[] }, PV.own 0 2, PV.int IntKind.i64 (Int.ofNat a)], ty := 51 }], rw := [some { cs := [PV.int IntKind.i64 (2 : Int), PV.int IntKind.i64 (0 : Int), PV.str { data := #[113, 117, 111, 116, 101] }, PV.nil, PV.int IntKind.i64 (Int.ofNat a), PV.int IntKind.i64 (ndK (rdX s n (Int.toNat (↑y : Int)))), PV.int IntKind.i64 (ndN (rdX s n (Int.toNat (↑y : Int)))), PV.str (ndT (rdX s n (Int.toNat (↑y : Int)))), PV.slice (Nds.len (ndS (rdX s n (Int.toNat (↑y : Int))))) (Nds.cells (ndS (rdX s n (Int.toNat (↑y : Int))))), PV.int IntKind.i64 (ndA (rdX s n (Int.toNat (↑y : Int))))], n := 2, ty := 51, sz := 5 }] } }, { t := [(4, PV.ptr 1 0), (7, PV.ptr 2 0)], h := { bx := [{ cs := [PV.str s, PV.int IntKind.i64 (Int.ofNat (rdA s n (Int.toNat (Int.ofNat y)))), PV.int IntKind.i64 (rdE s n (Int.toNat (Int.ofNat y))), PV.int IntKind.i64 (rdF s n (Int.toNat (Int.ofNat y)))], ty := 82 }, { cs := [PV.int IntKind.i64 (0 : Int), PV.int IntKind.i64 (0 : Int), PV.str { data := #[] }, PV.nil, PV.int IntKind.i64 (0 : Int)], ty := 51 }, { cs := [PV.int IntKind.i64 (3 : Int), PV.int IntKind.i64 (0 : Int), PV.str { data := #[] }, PV.own 0 2, PV.int IntKind.i64 (Int.ofNat a)], ty := 51 }], rw := [some { cs := [PV.int IntKind.i64 (2 : Int), PV.int IntKind.i64 (0 : Int), PV.str { data := #[113, 117, 111, 116, 101] }, PV.nil, PV.int IntKind.i64 (Int.ofNat a), PV.int IntKind.i64 (ndK (rdX s n (Int.toNat (↑y : Int)))), PV.int IntKind.i64 (ndN (rdX s n (Int.toNat (↑y : Int)))), PV.str (ndT (rdX s n (Int.toNat (↑y : Int)))), PV.slice (Nds.len (ndS (rdX s n (Int.toNat (↑y : Int))))) (Nds.cells (ndS (rdX s n (Int.toNat (↑y : Int))))), PV.int IntKind.i64 (ndA (rdX s n (Int.toNat (↑y : Int))))], n := 2, ty := 51, sz := 5 }] } }, { t := [(4, PV.ptr 1 0), (7, PV.ptr 2 0)], h := { bx := [{ cs := [PV.str s, PV.int IntKind.i64 (Int.ofNat (rdA s n (Int.toNat (Int.ofNat y)))), PV.int IntKind.i64 (rdE s n (Int.toNat (Int.ofNat y))), PV.int IntKind.i64 (rdF s n (Int.toNat (Int.ofNat y)))], ty := 82 }, { cs := [PV.int IntKind.i64 (0 : Int), PV.int IntKind.i64 (0 : Int), PV.str { data := #[] }, PV.nil, PV.int IntKind.i64 (0 : Int)], ty := 51 }, { cs := [PV.int IntKind.i64 (3 : Int), PV.int IntKind.i64 (0 : Int), PV.str { data := #[] }, PV.own 0 2, PV.int IntKind.i64 (Int.ofNat a)], ty := 51 }], rw := [some { cs := [PV.int IntKind.i64 (2 : Int), PV.int IntKind.i64 (0 : Int), PV.str { data := #[113, 117, 111, 116, 101] }, PV.nil, PV.int IntKind.i64 (Int.ofNat a), PV.int IntKind.i64 (ndK (rdX s n (Int.toNat (↑y : Int)))), PV.int IntKind.i64 (ndN (rdX s n (Int.toNat (↑y : Int)))), PV.str (ndT (rdX s n (Int.toNat (↑y : Int)))), PV.slice (Nds.len (ndS (rdX s n (Int.toNat (↑y : Int))))) (Nds.cells (ndS (rdX s n (Int.toNat (↑y : Int))))), PV.int IntKind.i64 (ndA (rdX s n (Int.toNat (↑y : Int))))], n := 2, ty := 51, sz := 5 }] } }, { t := [(4, PV.ptr 1 0), (7, PV.ptr 2 0)], h := { bx := [{ cs := [PV.str s, PV.int IntKind.i64 (Int.ofNat (rdA s n (Int.toNat (Int.ofNat y)))), PV.int IntKind.i64 (rdE s n (Int.toNat (Int.ofNat y))), PV.int IntKind.i64 (rdF s n (Int.toNat (Int.ofNat y)))], ty := 82 }, { cs := [PV.int IntKind.i64 (0 : Int), PV.int IntKind.i64 (0 : Int), PV.str { data := #[] }, PV.nil, PV.int IntKind.i64 (0 : Int)], ty := 51 }, { cs := [PV.int IntKind.i64 (3 : Int), PV.int IntKind.i64 (0 : Int), PV.str { data := #[] }, PV.own 0 2, PV.int IntKind.i64 (Int.ofNat a)], ty := 51 }], rw := [some { cs := [PV.int IntKind.i64 (2 : Int), PV.int IntKind.i64 (0 : Int), PV.str { data := #[113, 117, 111, 116, 101] }, PV.nil, PV.int IntKind.i64 (Int.ofNat a), PV.int IntKind.i64 (ndK (rdX s n (Int.toNat (↑y : Int)))), PV.int IntKind.i64 (ndN (rdX s n (Int.toNat (↑y : Int)))), PV.str (ndT (rdX s n (Int.toNat (↑y : Int)))), PV.slice (Nds.len (ndS (rdX s n (Int.toNat (↑y : Int))))) (Nds.cells (ndS (rdX s n (Int.toNat (↑y : Int))))), PV.int IntKind.i64 (ndA (rdX s n (Int.toNat (↑y : Int))))], n := 2, ty := 51, sz := 5 }] } }]) (o := [(same (.int .i64 (IntKind.wrap IntKind.i64 (w + (1 : Int)))) (.int .i64 ((1000 : Int) - Int.ofNat n)), true), (decide (0 ≤ (↑y : Int) ∧ (↑y : Int) ≤ (↑(ByteArray.size s) : Int)), true), (decide (1000 - (↑n : Int) = 1000 - (↑n : Int)), true), (Nat.ble (ByteArray.size s) 1099511627776, true), (true, true), (true, true), (true, true), (decide (0 ≤ (↑y : Int) ∧ (↑y : Int) ≤ (↑(ByteArray.size s) : Int)), true), (decide (1000 - (↑n : Int) = 1000 - (↑n : Int)), true), (Nat.ble (ByteArray.size s) 1099511627776, true), (true, true), (true, true), (true, true), (decide (0 ≤ (↑y : Int) ∧ (↑y : Int) ≤ (↑(ByteArray.size s) : Int)), true), (decide (1000 - (↑n : Int) = 1000 - (↑n : Int)), true), (Nat.ble (ByteArray.size s) 1099511627776, true), (true, true), (true, true), (true, true), (decide (0 ≤ (↑y : Int) ∧ (↑y : Int) ≤ (↑(ByteArray.size s) : Int)), true), (decide (1000 - (↑n : Int) = 1000 - (↑n : Int)), true), (Nat.ble (ByteArray.size s) 1099511627776, true), (true, true), (true, true), (true, true), (decide (0 ≤ (↑y : Int) ∧ (↑y : Int) ≤ (↑(ByteArray.size s) : Int)), true), (decide (1000 - (↑n : Int) = 1000 - (↑n : Int)), true), (Nat.ble (ByteArray.size s) 1099511627776, true), (true, true), (true, true), (true, true), (decide (0 ≤ (↑y : Int) ∧ (↑y : Int) ≤ (↑(ByteArray.size s) : Int)), true), (decide (1000 - (↑n : Int) = 1000 - (↑n : Int)), true), (Nat.ble (ByteArray.size s) 1099511627776, true), (true, true), (true, true), (true, true), (decide (0 ≤ (↑y : Int) ∧ (↑y : Int) ≤ (↑(ByteArray.size s) : Int)), true), (decide (1000 - (↑n : Int) = 1000 - (↑n : Int)), true), (Nat.ble (ByteArray.size s) 1099511627776, true), (true, true), (true, true), (true, true), (decide (0 ≤ (↑y : Int) ∧ (↑y : Int) ≤ (↑(ByteArray.size s) : Int)), true), (decide (1000 - (↑n : Int) = 1000 - (↑n : Int)), true), (Nat.ble (ByteArray.size s) 1099511627776, true), (true, true), (true, true), (true, true), (decide (0 ≤ (↑y : Int) ∧ (↑y : Int) ≤ (↑(ByteArray.size s) : Int)), true), (decide (1000 - (↑n : Int) = 1000 - (↑n : Int)), true), (Nat.ble (ByteArray.size s) 1099511627776, true), (true, true), (true, true), (true, true)]) (by kernel_rfl) (by ((repeat' (first | exact okO_nil | refine okN ?_ ?_)); all_goals first | assumption | rfl | exact same_of rfl | exact sameS_self _ | (simp only [decide_eq_true_eq, decide_eq_false_iff_not, Nat.ble_eq, Nat.beq_eq, beq_eq_false_iff_ne, beq_iff_eq, ne_eq] <;> omega))) (fun st hst => hK2 st (.norm [4, 7] ?_))
          have hst2 : nrm [4, 7] st = ⟨[(4, .ptr 1 0), (7, .ptr 2 0)], ⟨[rB s (rdA s n y) (rdE s n y) (rdF s n y), nZ, nL a (.own 0 2)], [some (nR ([.int .i64 2, .int .i64 0, .str wQuote, .nil, .int .i64 a] ++ ndC (rdX s n y)) 2)]⟩⟩ := by
            simp only [List.mem_cons, List.not_mem_nil, or_false, or_self] at hst
            exact hst
          rw [hst2]
          obtain ⟨rr, hrr⟩ : ∃ rr, rr = [.int .i64 2, .int .i64 0, .str wQuote, .nil, .int .i64 a] ++ ndC (rdX s n y) := ⟨_, rfl⟩
          rw [← hrr]
          obtain ⟨p, hp⟩ : ∃ p, p = rdA s n y := ⟨_, rfl⟩
          obtain ⟨pe, hpe⟩ : ∃ p, p = rdE s n y := ⟨_, rfl⟩
          obtain ⟨pb, hpb⟩ : ∃ p, p = rdF s n y := ⟨_, rfl⟩
          rw [← hp, ← hpe, ← hpb]
          refine SWP.frz [0] ?_
          exact SWP.runQ (SRd true n ih [] []) 100 150 hnt [4] (e := .ret) (z := ⟨[(4, .ptr 1 0)], ⟨[⟨[.str s, .int .i64 (Int.ofNat p), .int .i64 pe, .int .i64 pb], 82⟩, ⟨[.int .i64 (3 : Int), .int .i64 (0 : Int), .str ⟨#[]⟩, .slice 2 rr, .int .i64 (Int.ofNat a)], 51⟩, ⟨[.int .i64 (3 : Int), .int .i64 (0 : Int), .str ⟨#[]⟩, .slice 2 rr, .int .i64 (Int.ofNat a)], 51⟩], [none]⟩⟩) (o := []) (by kernel_rfl) (by repeat' first | exact okO_nil | refine okN ?_ ?_ | assumption | rfl) (fun st hst => fin st (.mk 3 0 ⟨#[]⟩ (.cons (.mk 2 0 wQuote .nil a) (.cons (rdX s n y) .nil)) a) p pe pb (.slice 2 rr) [⟨[.int .i64 3, .int .i64 0, .str ⟨#[]⟩, .slice 2 rr, .int .i64 a], 51⟩] [none] (by rw [eq, hp, hpe, hpb]; rfl) (.inr (.inr ⟨_, _, rfl, by rw [hrr]⟩)) hst)
        · have e88 := beqF h39
          rw [if_neg h39] at eq
          refine Q.runSeq (SRd true n ih [(150, [(88, false)])] []) 100 150 hnt [0, 1, 4, 7] (z := ⟨[(0, .ptr 0 0), (1, .int .i64 w), (4, .ptr 1 0), (7, .ptr 2 0)], ⟨[⟨[.str s, .int .i64 (Int.ofNat y), .int .i64 (0 : Int), .int .i64 (0 : Int)], 82⟩, ⟨[.int .i64 (0 : Int), .int .i64 (0 : Int), .str ⟨#[]⟩, PV.nil, .int .i64 (0 : Int)], 51⟩, ⟨[.int .i64 (3 : Int), .int .i64 (0 : Int), .str ⟨#[]⟩, PV.nil, .int .i64 (Int.ofNat a)], 51⟩], []⟩⟩) (o := [(bt s (Int.ofNat a) == (39 : Int), false), (false, false)]) (by kernel_rfl) (by repeat' first | exact okO_nil | refine okN ?_ ?_ | assumption | rfl) ?_
          refine SWP.adoptB 2 3 51 5 rfl rfl ?_
          refine Q.seq fun K hK => ?_
          refine Q.block ?_
          let T (r : RS) (l : Nds) : AS := ⟨[(0, .ptr 0 0), (1, .int .i64 w), (4, .ptr 1 0), (7, .ptr 2 0)], ⟨[rB s r.a r.e r.b, nZ, nL a (.own 0 l.len)], [some (nR l.cells l.len)]⟩⟩
          have hst := rdD_steps s n
          refine Q.loopI (σ := { x : RS × Nds × Nat // x.1.In s n ∧ (x.1.e = 0 → s.size + 1 - x.1.a ≤ x.2.2) ∧ x.2.1.len + x.2.2 ≤ s.size + 1 ∧ rdL (rdD s n) s x.2.2 x.1 x.2.1 = rdL (rdD s n) s (s.size + 1) ⟨y, 0, 0⟩ .nil }) [0, 1, 4, 7] (fun x => T x.1.1 x.1.2.1) (fun x => x.1.2.2) ⟨(⟨y, 0, 0⟩, .nil, s.size + 1), In0 hy2, fun _ => Nat.sub_le _ _, by simp [Nds.len], rfl⟩ rfl fun ⟨(⟨x, e, b⟩, l, k), hin, hk, hlen, hrd⟩ => ?_
          have hin : RS.In s n ⟨x, e, b⟩ := hin
          have hk : e = 0 → s.size + 1 - x ≤ k := hk
          have hlen : l.len + k ≤ s.size + 1 := hlen
          have hrd : rdL (rdD s n) s k ⟨x, e, b⟩ l = rdL (rdD s n) s (s.size + 1) ⟨y, 0, 0⟩ .nil := hrd
          have hle : x ≤ s.size + n := hin.le
          show SWP G0 C _ _ ⟨[(0, .ptr 0 0), (1, .int .i64 w), (4, .ptr 1 0), (7, .ptr 2 0)], ⟨[rB s x e b, nZ, nL a (.own 0 l.len)], [some (nR l.cells l.len)]⟩⟩
          obtain ⟨m, hm⟩ : ∃ m, m = l.len := ⟨_, rfl⟩
          obtain ⟨rc, hrc⟩ : ∃ rc, rc = l.cells := ⟨_, rfl⟩
          refine swp_st (st' := ⟨[(0, .ptr 0 0), (1, .int .i64 w), (4, .ptr 1 0), (7, .ptr 2 0)], ⟨[rB s x e b, nZ, nL a (.own 0 m)], [some (nR rc m)]⟩⟩) (by rw [hm, hrc]) ?_
          rw [← hm] at hlen
          have out : goes s ⟨x, e, b⟩ = false → ∀ st, nrm [0, 1, 4, 7] st = ⟨[(0, .ptr 0 0), (1, .int .i64 w), (4, .ptr 1 0), (7, .ptr 2 0)], ⟨[rB s x e b, nZ, nL a (.own 0 m)], [some (nR rc m)]⟩⟩ → K st := fun hg st hst => hK st (.norm [0, 1, 4, 7] (by
            rw [hst]
            rw [rdL_stop hg] at hrd
            rw [← hrd] at eq
            have wx : IntKind.wrap IntKind.i64 (Int.ofNat (x + 1)) = ((x + 1 : Nat) : Int) := wrapI (x + 1) (by omega)
            refine Q.runSeq (SRd true n ih [] []) 100 150 hnt [4, 7] (z := ⟨[(4, .ptr 1 0), (7, .ptr 2 0)], ⟨[⟨[.str s, .int .i64 (IntKind.wrap IntKind.i64 (Int.ofNat (x + 1))), .int .i64 e, .int .i64 b], 82⟩, ⟨[.int .i64 (0 : Int), .int .i64 (0 : Int), .str ⟨#[]⟩, PV.nil, .int .i64 (0 : Int)], 51⟩, ⟨[.int .i64 (3 : Int), .int .i64 (0 : Int), .str ⟨#[]⟩, .own 0 m, .int .i64 (Int.ofNat a)], 51⟩], [some ⟨rc, m, 51, 5⟩]⟩⟩) (o := []) (by kernel_rfl) (by repeat' first | exact okO_nil | refine okN ?_ ?_ | assumption | rfl) ?_
            rw [wx]
            obtain ⟨p, hp⟩ : ∃ p, p = x + 1 := ⟨_, rfl⟩
            rw [← hp]
            refine SWP.frz [0] ?_
            exact SWP.runQ (SRd true n ih [] []) 100 150 hnt [4] (e := .ret) (z := ⟨[(4, .ptr 1 0)], ⟨[⟨[.str s, .int .i64 (Int.ofNat p), .int .i64 e, .int .i64 b], 82⟩, ⟨[.int .i64 (3 : Int), .int .i64 (0 : Int), .str ⟨#[]⟩, .slice m rc, .int .i64 (Int.ofNat a)], 51⟩, ⟨[.int .i64 (3 : Int), .int .i64 (0 : Int), .str ⟨#[]⟩, .slice m rc, .int .i64 (Int.ofNat a)], 51⟩], [none]⟩⟩) (o := []) (by kernel_rfl) (by repeat' first | exact okO_nil | refine okN ?_ ?_ | assumption | rfl) (fun st hst => fin st (.mk 3 0 ⟨#[]⟩ l a) p e b (.slice m rc) [⟨[.int .i64 3, .int .i64 0, .str ⟨#[]⟩, .slice m rc, .int .i64 a], 51⟩] [none] (by rw [eq, hp]) (.inl (by rw [hm, hrc]; rfl)) hst)))
          by_cases he : e = 0
          · subst he
            obtain ⟨hx, hb⟩ := hin.ok rfl
            have hb : b = 0 := hb
            subst hb
            have hx : x ≤ s.size := hx
            have hk := hk rfl
            obtain ⟨k, rfl⟩ : ∃ j, k = j + 1 := ⟨k - 1, by omega⟩
            have dx : decide (0 ≤ (x : Int) ∧ (x : Int) ≤ (s.size : Int)) = true := by rw [decide_eq_true_eq]; omega
            refine Q.seq fun K2 hK2 => ?_
            have cont : goes s ⟨x, 0, 0⟩ = true → ∀ st, nrm [0, 1, 4, 7] st = ⟨[(0, .ptr 0 0), (1, .int .i64 w), (4, .ptr 1 0), (7, .ptr 2 0)], ⟨[rB s x 0 0, nZ, nL a (.own 0 m)], [some (nR rc m)]⟩⟩ → K2 st := fun hg st hst' => hK2 st (.norm [0, 1, 4, 7] (by
              rw [hst']
              clear hst' hK2 hK
              rw [rdL, if_pos hg] at hrd
              have h2 := hst x hx
              refine Q.block ?_
              refine Q.seq fun K3 hK3 => ?_
              refine SWP.runLQ (SRd true n ih [(150, [(138, true)])] [(150, [(135, .int .i64 (1000 - (n : Int)))])]) 100 150 hnt [0, 1, 4, 7] (l := [{ t := [(0, PV.ptr 0 0), (1, PV.int IntKind.i64 w), (4, PV.ptr 1 0), (7, PV.ptr 2 0)], h := { bx := [{ cs := [PV.str s, PV.int IntKind.i64 (Int.ofNat (rdA s n (Int.toNat (Int.ofNat x)))), PV.int IntKind.i64 (rdE s n (Int.toNat (Int.ofNat x))), PV.int IntKind.i64 (rdF s n (Int.toNat (Int.ofNat x)))], ty := 82 }, { cs := [PV.int IntKind.i64 (0 : Int), PV.int IntKind.i64 (0 : Int), PV.str { data := #[] }, PV.nil, PV.int IntKind.i64 (0 : Int)], ty := 51 }, { cs := [PV.int IntKind.i64 (3 : Int), PV.int IntKind.i64 (0 : Int), PV.str { data := #[] }, PV.own 0 (m + 1), PV.int IntKind.i64 (Int.ofNat a)], ty := 51 }], rw := [some { cs := rc ++ [PV.int IntKind.i64 (ndK (rdX s n (Int.toNat (↑x : Int)))), PV.int IntKind.i64 (ndN (rdX s n (Int.toNat (↑x : Int)))), PV.str (ndT (rdX s n (Int.toNat (↑x : Int)))), PV.slice (Nds.len (ndS (rdX s n (Int.toNat (↑x : Int))))) (Nds.cells (ndS (rdX s n (Int.toNat (↑x : Int))))), PV.int IntKind.i64 (ndA (rdX s n (Int.toNat (↑x : Int))))], n := m + 1, ty := 51, sz := 5 }] } }, { t := [(0, PV.ptr 0 0), (1, PV.int IntKind.i64 w), (4, PV.ptr 1 0), (7, PV.ptr 2 0)], h := { bx := [{ cs := [PV.str s, PV.int IntKind.i64 (Int.ofNat (rdA s n (Int.toNat (Int.ofNat x)))), PV.int IntKind.i64 (rdE s n (Int.toNat (Int.ofNat x))), PV.int IntKind.i64 (rdF s n (Int.toNat (Int.ofNat x)))], ty := 82 }, { cs := [PV.int IntKind.i64 (0 : Int), PV.int IntKind.i64 (0 : Int), PV.str { data := #[] }, PV.nil, PV.int IntKind.i64 (0 : Int)], ty := 51 }, { cs := [PV.int IntKind.i64 (3 : Int), PV.int IntKind.i64 (0 : Int), PV.str { data := #[] }, PV.own 0 (m + 1), PV.int IntKind.i64 (Int.ofNat a)], ty := 51 }], rw := [some { cs := rc ++ [PV.int IntKind.i64 (ndK (rdX s n (Int.toNat (↑x : Int)))), PV.int IntKind.i64 (ndN (rdX s n (Int.toNat (↑x : Int)))), PV.str (ndT (rdX s n (Int.toNat (↑x : Int)))), PV.slice (Nds.len (ndS (rdX s n (Int.toNat (↑x : Int))))) (Nds.cells (ndS (rdX s n (Int.toNat (↑x : Int))))), PV.int IntKind.i64 (ndA (rdX s n (Int.toNat (↑x : Int))))], n := m + 1, ty := 51, sz := 5 }] } }, { t := [(0, PV.ptr 0 0), (1, PV.int IntKind.i64 w), (4, PV.ptr 1 0), (7, PV.ptr 2 0)], h := { bx := [{ cs := [PV.str s, PV.int IntKind.i64 (Int.ofNat (rdA s n (Int.toNat (Int.ofNat x)))), PV.int IntKind.i64 (rdE s n (Int.toNat (Int.ofNat x))), PV.int IntKind.i64 (rdF s n (Int.toNat (Int.ofNat x)))], ty := 82 }, { cs := [PV.int IntKind.i64 (0 : Int), PV.int IntKind.i64 (0 : Int), PV.str { data := #[] }, PV.nil, PV.int IntKind.i64 (0 : Int)], ty := 51 }, { cs := [PV.int IntKind.i64 (3 : Int), PV.int IntKind.i64 (0 : Int), PV.str { data := #[] }, PV.own 0 (m + 1), PV.int IntKind.i64 (Int.ofNat a)], ty := 51 }], rw := [some { cs := rc ++ [PV.int IntKind.i64 (ndK (rdX s n (Int.toNat (↑x : Int)))), PV.int IntKind.i64 (ndN (rdX s n (Int.toNat (↑x : Int)))), PV.str (ndT (rdX s n (Int.toNat (↑x : Int)))), PV.slice (Nds.len (ndS (rdX s n (Int.toNat (↑x : Int))))) (Nds.cells (ndS (rdX s n (Int.toNat (↑x : Int))))), PV.int IntKind.i64 (ndA (rdX s n (Int.toNat (↑x : Int))))], n := m + 1, ty := 51, sz := 5 }] } }]) (o := [(same (.int .i64 (IntKind.wrap IntKind.i64 (w + (1 : Int)))) (.int .i64 ((1000 : Int) - Int.ofNat n)), true), (decide (0 ≤ (↑x : Int) ∧ (↑x : Int) ≤ (↑(ByteArray.size s) : Int)), true), (decide (1000 - (↑n : Int) = 1000 - (↑n : Int)), true), (Nat.ble (ByteArray.size s) 1099511627776, true), (true, true), (Nat.ble ((m + 1) * 64) 140737488355328, true), (Nat.ble (m + 1) 9223372036854775807, true), (decide (0 ≤ (↑x : Int) ∧ (↑x : Int) ≤ (↑(ByteArray.size s) : Int)), true), (decide (1000 - (↑n : Int) = 1000 - (↑n : Int)), true), (Nat.ble (ByteArray.size s) 1099511627776, true), (true, true), (Nat.ble ((m + 1) * 64) 140737488355328, true), (Nat.ble (m + 1) 9223372036854775807, true), (decide (0 ≤ (↑x : Int) ∧ (↑x : Int) ≤ (↑(ByteArray.size s) : Int)), true), (decide (1000 - (↑n : Int) = 1000 - (↑n : Int)), true), (Nat.ble (ByteArray.size s) 1099511627776, true), (true, true), (Nat.ble ((m + 1) * 64) 140737488355328, true), (Nat.ble (m + 1) 9223372036854775807, true)]) (by kernel_rfl) (by ((repeat' (first | exact okO_nil | refine okN ?_ ?_)); all_goals first | assumption | rfl | exact same_of rfl | exact sameS_self _ | (simp only [decide_eq_true_eq, decide_eq_false_iff_not, Nat.ble_eq, Nat.beq_eq, beq_eq_false_iff_ne, beq_iff_eq, ne_eq] <;> omega))) (fun st hst => hK3 st (.norm [0, 1, 4, 7] ?_))
              have hst2 : nrm [0, 1, 4, 7] st = ⟨[(0, .ptr 0 0), (1, .int .i64 w), (4, .ptr 1 0), (7, .ptr 2 0)], ⟨[rB s (rdA s n x) (rdE s n x) (rdF s n x), nZ, nL a (.own 0 (m + 1))], [some (nR (rc ++ ndC (rdX s n x)) (m + 1))]⟩⟩ := by
                simp only [List.mem_cons, List.not_mem_nil, or_false, or_self] at hst
                exact hst
              rw [hst2]
              have g1 : (rdD s n x).2 = ⟨rdA s n x, rdE s n x, rdF s n x⟩ := rfl
              have g2 : (rdD s n x).1 = rdX s n x := rfl
              have g3 : m + 1 = (l.snoc (rdX s n x)).len := by rw [Nds.snoc_len, hm]
              have g4 : rc ++ ndC (rdX s n x) = (l.snoc (rdX s n x)).cells := by rw [Nds.snoc_cells, hrc, ndC_eq]
              rw [g1, g2] at hrd
              rw [g1] at h2
              obtain ⟨p, hp⟩ : ∃ p, p = rdA s n x := ⟨_, rfl⟩
              obtain ⟨pe, hpe⟩ : ∃ p, p = rdE s n x := ⟨_, rfl⟩
              obtain ⟨pb, hpb⟩ : ∃ p, p = rdF s n x := ⟨_, rfl⟩
              rw [← hp, ← hpe, ← hpb] at h2 hrd ⊢
              have i1 : pe = 0 → s.size + 1 - skp s p ≤ k := fun he => by
                have h3 : x < p := h2.2 he
                have : p ≤ skp s p := skp_ge s p
                omega
              have i2 : (l.snoc (rdX s n x)).len + k ≤ s.size + 1 := by rw [← g3]; omega
              rw [g3, g4]
              obtain ⟨mm, hmm⟩ : ∃ m, m = (l.snoc (rdX s n x)).len := ⟨_, rfl⟩
              obtain ⟨rr, hrr⟩ : ∃ m, m = (l.snoc (rdX s n x)).cells := ⟨_, rfl⟩
              rw [← hmm, ← hrr]
              exact SWP.runQ (SRd true n ih [] []) 100 150 hnt [0, 1, 4, 7] (e := .normal) (z := ⟨[(0, .ptr 0 0), (1, .int .i64 w), (4, .ptr 1 0), (7, .ptr 2 0)], ⟨[⟨[.str s, .int .i64 (Int.ofNat (skp s (Int.toNat (Int.ofNat p)))), .int .i64 pe, .int .i64 pb], 82⟩, ⟨[.int .i64 (0 : Int), .int .i64 (0 : Int), .str ⟨#[]⟩, PV.nil, .int .i64 (0 : Int)], 51⟩, ⟨[.int .i64 (3 : Int), .int .i64 (0 : Int), .str ⟨#[]⟩, .own 0 mm, .int .i64 (Int.ofNat a)], 51⟩], [some ⟨rr, mm, 51, 5⟩]⟩⟩) (o := [(true, true), (Nat.ble (ByteArray.size s) 1099511627776, true)]) (by kernel_rfl) (by ((repeat' (first | exact okO_nil | refine okN ?_ ?_)); all_goals first | assumption | rfl | exact same_of rfl | exact sameS_self _ | (simp only [decide_eq_true_eq, decide_eq_false_iff_not, Nat.ble_eq, Nat.beq_eq, beq_eq_false_iff_ne, beq_iff_eq, ne_eq] <;> omega))) (fun st hst => ⟨⟨(⟨skp s p, pe, pb⟩, l.snoc (rdX s n x), k), h2.1.skp, i1, i2, hrd⟩, Nat.lt_succ_self k, by rw [hst, hmm, hrr]; rfl⟩)))
            have go : goes s ⟨x, 0, 0⟩ = !(decide (x < s.size) && bt s (x : Int) == 41) := rfl
            rcases Nat.lt_or_ge x s.size with hl2 | hg2
            · have b1 := sameB (lt_at hl2)
              have b2 := in_at hl2
              by_cases h41 : bt s (x : Int) = 41
              · have b3 := sameB (beqT h41)
                exact SWP.runQ (SRd true n ih [(150, [(126, true)])] [(150, [(116, .bool true), (127, .bool true)])]) 100 150 hnt [0, 1, 4, 7] (e := .exit 0) (z := ⟨[(0, .ptr 0 0), (1, .int .i64 w), (4, .ptr 1 0), (7, .ptr 2 0)], ⟨[⟨[.str s, .int .i64 (Int.ofNat x), .int .i64 (0 : Int), .int .i64 (0 : Int)], 82⟩, ⟨[.int .i64 (0 : Int), .int .i64 (0 : Int), .str ⟨#[]⟩, PV.nil, .int .i64 (0 : Int)], 51⟩, ⟨[.int .i64 (3 : Int), .int .i64 (0 : Int), .str ⟨#[]⟩, .own 0 m, .int .i64 (Int.ofNat a)], 51⟩], [some ⟨rc, m, 51, 5⟩]⟩⟩) (o := [(same (.bool (decide ((↑x : Int) < (↑(ByteArray.size s) : Int)))) (.bool true), true), (decide (0 ≤ (↑x : Int) ∧ (↑x : Int) < (↑(ByteArray.size s) : Int)), true), (same (.bool (bt s (Int.ofNat x) == (41 : Int))) (.bool true), true)]) (by kernel_rfl) (by repeat' first | exact okO_nil | refine okN ?_ ?_ | assumption | rfl) (out (by rw [go, decide_eq_true hl2, beqT h41]; rfl))
              · have b3 := sameB (beqF h41)
                exact SWP.runQ (SRd true n ih [(150, [(126, true)])] [(150, [(116, .bool true), (127, .bool false)])]) 100 150 hnt [0, 1, 4, 7] (e := .normal) (z := ⟨[(0, .ptr 0 0), (1, .int .i64 w), (4, .ptr 1 0), (7, .ptr 2 0)], ⟨[⟨[.str s, .int .i64 (Int.ofNat x), .int .i64 (0 : Int), .int .i64 (0 : Int)], 82⟩, ⟨[.int .i64 (0 : Int), .int .i64 (0 : Int), .str ⟨#[]⟩, PV.nil, .int .i64 (0 : Int)], 51⟩, ⟨[.int .i64 (3 : Int), .int .i64 (0 : Int), .str ⟨#[]⟩, .own 0 m, .int .i64 (Int.ofNat a)], 51⟩], [some ⟨rc, m, 51, 5⟩]⟩⟩) (o := [(same (.bool (decide ((↑x : Int) < (↑(ByteArray.size s) : Int)))) (.bool true), true), (decide (0 ≤ (↑x : Int) ∧ (↑x : Int) < (↑(ByteArray.size s) : Int)), true), (same (.bool (bt s (Int.ofNat x) == (41 : Int))) (.bool false), true)]) (by kernel_rfl) (by repeat' first | exact okO_nil | refine okN ?_ ?_ | assumption | rfl) (cont (by rw [go, decide_eq_true hl2, beqF h41]; rfl))
            · have b1 := sameB (ge_at hg2)
              exact SWP.runQ (SRd true n ih [] [(150, [(116, .bool false)])]) 100 150 hnt [0, 1, 4, 7] (e := .normal) (z := ⟨[(0, .ptr 0 0), (1, .int .i64 w), (4, .ptr 1 0), (7, .ptr 2 0)], ⟨[⟨[.str s, .int .i64 (Int.ofNat x), .int .i64 (0 : Int), .int .i64 (0 : Int)], 82⟩, ⟨[.int .i64 (0 : Int), .int .i64 (0 : Int), .str ⟨#[]⟩, PV.nil, .int .i64 (0 : Int)], 51⟩, ⟨[.int .i64 (3 : Int), .int .i64 (0 : Int), .str ⟨#[]⟩, .own 0 m, .int .i64 (Int.ofNat a)], 51⟩], [some ⟨rc, m, 51, 5⟩]⟩⟩) (o := [(same (.bool (decide ((↑x : Int) < (↑(ByteArray.size s) : Int)))) (.bool false), true)]) (by kernel_rfl) (by repeat' first | exact okO_nil | refine okN ?_ ?_ | assumption | rfl) (cont (by rw [go, decide_eq_false (by omega)]; rfl))
          · have b1 := sameB (beqF he)
            refine Q.seq fun K2 hK2 => ?_
            exact SWP.runQ (SRd true n ih [] [(150, [(105, .bool false)])]) 100 150 hnt [0, 1, 4, 7] (e := .exit 0) (z := ⟨[(0, .ptr 0 0), (1, .int .i64 w), (4, .ptr 1 0), (7, .ptr 2 0)], ⟨[⟨[.str s, .int .i64 (Int.ofNat x), .int .i64 e, .int .i64 b], 82⟩, ⟨[.int .i64 (0 : Int), .int .i64 (0 : Int), .str ⟨#[]⟩, PV.nil, .int .i64 (0 : Int)], 51⟩, ⟨[.int .i64 (3 : Int), .int .i64 (0 : Int), .str ⟨#[]⟩, .own 0 m, .int .i64 (Int.ofNat a)], 51⟩], [some ⟨rc, m, 51, 5⟩]⟩⟩) (o := [(same (.bool (e == (0 : Int))) (.bool false), true)]) (by kernel_rfl) (by repeat' first | exact okO_nil | refine okN ?_ ?_ | assumption | rfl) (out (goes_err he))))
      by_cases h39 : bt s (a : Int) = 39
      · have e62 := beqT h39
        by_cases hn0 : n = 0
        · have e66 : decide (1000 ≤ IntKind.wrap IntKind.i64 (w + 1)) = true := by rw [w2, decide_eq_true_eq]; omega
          have eq' : rdD s (n + 1) a = (.zero, ⟨a, 3, a⟩) := by rw [eq]; simp only []; rw [if_pos ⟨h39, hn0⟩]
          exact SWP.runQ (SRd true n ih [(150, [(59, false), (62, true), (66, true)])] []) 100 150 hnt [4] (e := .ret) (z := ⟨[(4, .ptr 1 0)], ⟨[⟨[.str s, .int .i64 (Int.ofNat a), .int .i64 (3 : Int), .int .i64 (Int.ofNat a)], 82⟩, ⟨[.int .i64 (0 : Int), .int .i64 (0 : Int), .str ⟨#[]⟩, PV.nil, .int .i64 (0 : Int)], 51⟩], []⟩⟩) (o := [(decide (1000 ≤ w), false), (bt s (Int.ofNat a) == (39 : Int), true), (decide (1000 ≤ IntKind.wrap IntKind.i64 (w + 1)), true)]) (by kernel_rfl) (by repeat' first | exact okO_nil | refine okN ?_ ?_ | assumption | rfl) (fun st hst => fin st .zero a 3 a .nil [] [] eq' (.inr (.inl ⟨rfl, rfl⟩)) hst)
        · have e66 : decide (1000 ≤ IntKind.wrap IntKind.i64 (w + 1)) = false := by rw [w2, decide_eq_false_iff_not]; omega
          exact SWP.runQ (SRd true n ih [(150, [(59, false), (62, true), (66, false)])] []) 100 150 hnt [0, 1, 4, 5, 6] (e := .normal) (z := ⟨[(0, .ptr 0 0), (1, .int .i64 w), (4, .ptr 1 0), (5, .int .i64 (Int.ofNat a)), (6, PV.int IntKind.u8 (bt s (Int.ofNat a)))], ⟨[⟨[.str s, .int .i64 (Int.ofNat a), .int .i64 (0 : Int), .int .i64 (0 : Int)], 82⟩, ⟨[.int .i64 (0 : Int), .int .i64 (0 : Int), .str ⟨#[]⟩, PV.nil, .int .i64 (0 : Int)], 51⟩], []⟩⟩) (o := [(decide (1000 ≤ w), false), (bt s (Int.ofNat a) == (39 : Int), true), (decide (1000 ≤ IntKind.wrap IntKind.i64 (w + 1)), false)]) (by kernel_rfl) (by repeat' first | exact okO_nil | refine okN ?_ ?_ | assumption | rfl) (go8 (fun h => hn0 h.2))
      · have e62 := beqF h39
        exact SWP.runQ (SRd true n ih [(150, [(59, false), (62, false)])] []) 100 150 hnt [0, 1, 4, 5, 6] (e := .normal) (z := ⟨[(0, .ptr 0 0), (1, .int .i64 w), (4, .ptr 1 0), (5, .int .i64 (Int.ofNat a)), (6, PV.int IntKind.u8 (bt s (Int.ofNat a)))], ⟨[⟨[.str s, .int .i64 (Int.ofNat a), .int .i64 (0 : Int), .int .i64 (0 : Int)], 82⟩, ⟨[.int .i64 (0 : Int), .int .i64 (0 : Int), .str ⟨#[]⟩, PV.nil, .int .i64 (0 : Int)], 51⟩], []⟩⟩) (o := [(decide (1000 ≤ w), false), (bt s (Int.ofNat a) == (39 : Int), false)]) (by kernel_rfl) (by repeat' first | exact okO_nil | refine okN ?_ ?_ | assumption | rfl) (go8 (fun h => h39 h.1))))
  by_cases h40 : bt s (a : Int) = 40
  · have e45 : (!bt s (a : Int) == (40 : Int)) = false := by rw [beqT h40]; rfl
    exact SWP.runQ (SRd u n ih [(150, [(45, false)])] []) 100 150 hnt [0, 1, 4, 5, 6] (e := .normal) (z := ⟨[(0, .ptr 0 0), (1, .int .i64 w), (4, .ptr 1 0), (5, .int .i64 (Int.ofNat a)), (6, PV.int IntKind.u8 (bt s (Int.ofNat a)))], ⟨[⟨[.str s, .int .i64 (Int.ofNat a), .int .i64 (0 : Int), .int .i64 (0 : Int)], 82⟩, ⟨[.int .i64 (0 : Int), .int .i64 (0 : Int), .str ⟨#[]⟩, PV.nil, .int .i64 (0 : Int)], 51⟩], []⟩⟩) (o := [(!bt s (Int.ofNat a) == (40 : Int), false)]) (by kernel_rfl) (by repeat' first | exact okO_nil | refine okN ?_ ?_ | assumption | rfl) (go6 (fun h => h.1 h40))
  have e45 : (!bt s (a : Int) == (40 : Int)) = true := by rw [beqF h40]; rfl
  by_cases h39 : bt s (a : Int) = 39
  · have e48 : (!bt s (a : Int) == (39 : Int)) = false := by rw [beqT h39]; rfl
    exact SWP.runQ (SRd u n ih [(150, [(45, true), (48, false)])] []) 100 150 hnt [0, 1, 4, 5, 6] (e := .normal) (z := ⟨[(0, .ptr 0 0), (1, .int .i64 w), (4, .ptr 1 0), (5, .int .i64 (Int.ofNat a)), (6, PV.int IntKind.u8 (bt s (Int.ofNat a)))], ⟨[⟨[.str s, .int .i64 (Int.ofNat a), .int .i64 (0 : Int), .int .i64 (0 : Int)], 82⟩, ⟨[.int .i64 (0 : Int), .int .i64 (0 : Int), .str ⟨#[]⟩, PV.nil, .int .i64 (0 : Int)], 51⟩], []⟩⟩) (o := [(!bt s (Int.ofNat a) == (40 : Int), true), (!bt s (Int.ofNat a) == (39 : Int), false)]) (by kernel_rfl) (by repeat' first | exact okO_nil | refine okN ?_ ?_ | assumption | rfl) (go6 (fun h => h.2.1 h39))
  have e48 : (!bt s (a : Int) == (39 : Int)) = true := by rw [beqF h39]; rfl
  cases hl : letC (bt s (a : Int)) with
  | true => exact SWP.runQ (SRd u n ih [(150, [(45, true), (48, true), (52, true)])] []) 100 150 hnt [0, 1, 4, 5, 6] (e := .normal) (z := ⟨[(0, .ptr 0 0), (1, .int .i64 w), (4, .ptr 1 0), (5, .int .i64 (Int.ofNat a)), (6, PV.int IntKind.u8 (bt s (Int.ofNat a)))], ⟨[⟨[.str s, .int .i64 (Int.ofNat a), .int .i64 (0 : Int), .int .i64 (0 : Int)], 82⟩, ⟨[.int .i64 (0 : Int), .int .i64 (0 : Int), .str ⟨#[]⟩, PV.nil, .int .i64 (0 : Int)], 51⟩], []⟩⟩) (o := [(!bt s (Int.ofNat a) == (40 : Int), true), (!bt s (Int.ofNat a) == (39 : Int), true), (true, true), (decide (0 ≤ bt s (↑a : Int) ∧ bt s (↑a : Int) < 256), true), (letC (bt s (Int.ofNat a)), true)]) (by kernel_rfl) (by repeat' first | exact okO_nil | refine okN ?_ ?_ | assumption | rfl) (go6 (fun h => by rw [hl] at h; exact absurd h.2.2 (by decide)))
  | false =>
    rw [if_pos ⟨h40, h39, hl⟩] at eq
    exact SWP.runQ (SRd u n ih [(150, [(45, true), (48, true), (52, false)])] []) 100 150 hnt [4] (e := .ret) (z := ⟨[(4, .ptr 1 0)], ⟨[⟨[.str s, .int .i64 (Int.ofNat a), .int .i64 (4 : Int), .int .i64 (Int.ofNat a)], 82⟩, ⟨[.int .i64 (0 : Int), .int .i64 (0 : Int), .str ⟨#[]⟩, PV.nil, .int .i64 (0 : Int)], 51⟩], []⟩⟩) (o := [(!bt s (Int.ofNat a) == (40 : Int), true), (!bt s (Int.ofNat a) == (39 : Int), true), (true, true), (decide (0 ≤ bt s (↑a : Int) ∧ bt s (↑a : Int) < 256), true), (letC (bt s (Int.ofNat a)), false)]) (by kernel_rfl) (by repeat' first | exact okO_nil | refine okN ?_ ?_ | assumption | rfl) (fun st hst => fin st .zero a 4 a .nil [] [] eq (.inr (.inl ⟨rfl, rfl⟩)) hst)
theorem rd_at : ∀ N, N ≤ 1000 → RdAt N
  | 0, h => rd_step false 0 (fun h => by cases h) 0 (fun h => by cases h) (fun _ => rfl) h
  | n + 1, h => rd_step true n (fun _ => rd_at n (by omega)) (n + 1) (fun _ => rfl) (fun h => by cases h) h
end Seat
end Go.Proofs.YtkblfapbakfgpaaGreatDoor
namespace Go.Proofs.YtkblfapbakfgpaaGreatDoor
open Go.AS Go.RowKit
set_option linter.unusedVariables false
set_option linter.unusedSimpArgs false
set_option maxRecDepth 100000
set_option maxHeartbeats 4000000
namespace Seat
mutual
def Nd.size : Nd → Nat
  | .mk _ _ _ ks _ => ks.size + 1
def Nds.size : Nds → Nat
  | .nil => 0
  | .cons d ds => d.size + ds.size + 1
end
mutual
def Nd.ok : Nd → Prop
  | .mk _ _ _ ks _ => ks.len ≤ 1099511627777 ∧ ks.ok
def Nds.ok : Nds → Prop
  | .nil => True
  | .cons d ds => d.ok ∧ ds.ok
end
open Classical in
noncomputable def isNds (N m : Nat) (cs : List PV) : Bool := decide (∃ ks : Nds, ks.len = m ∧ ks.cells = cs ∧ ks.size < N ∧ ks.len ≤ 1099511627777 ∧ ks.ok)
theorem isNds_at {N : Nat} {ks : Nds} (h : ks.size < N) (hl : ks.len ≤ 1099511627777) (ho : ks.ok) : isNds N ks.len ks.cells = true := by
  unfold isNds
  classical exact decide_eq_true ⟨ks, rfl, rfl, h, hl, ho⟩
theorem isNds_of {N m : Nat} {cs : List PV} (h : isNds N m cs = true) : ∃ ks : Nds, ks.len = m ∧ ks.cells = cs ∧ ks.size < N ∧ ks.len ≤ 1099511627777 ∧ ks.ok := by
  unfold isNds at h
  classical exact of_decide_eq_true h
open Classical in
noncomputable def ndD (cs : List PV) : Dats := if h : ∃ ks : Nds, ks.cells = cs then h.choose.dat else .nil
theorem ndD_at (ks : Nds) : ndD ks.cells = ks.dat := by
  have h : ∃ e : Nds, e.cells = ks.cells := ⟨ks, rfl⟩
  unfold ndD
  rw [dif_pos h, Nds.inj _ _ h.choose_spec]
def DtAt (N : Nat) : Prop := ∀ (k n : Int) (t : ByteArray) (ks : Nds) (a : Int), ks.size < N → ks.len ≤ 1099511627777 → ks.ok → Pure G0 21 [.agg [.int .i64 k, .int .i64 n, .str t, .slice ks.len ks.cells, .int .i64 a]] (fun r => r = .agg [.int .i64 k, .int .i64 n, .str t, .slice ks.len ks.dat.cells])
noncomputable def ntS (N : Nat) (f : Nat) (args : List PV) : Option (PV × Ob) := match f, args with
  | 21, [.agg [.int .i64 k, .int .i64 n, .str t, .slice m cs, .int .i64 a]] => some (.agg [.int .i64 k, .int .i64 n, .str t, .slice m (ndD cs).cells], [(isNds N m cs, true)])
  | _, _ => none
theorem ntS_ok {N : Nat} (ih : DtAt N) (f : Nat) (args : List PV) (r : PV) (o : Ob) (h : ntS N f args = some (r, o)) (ho : ∀ p ∈ o, p.1 = p.2) (_ : pureL args = true) : Pure G0 f args (fun x => x = r) := by
  unfold ntS at h
  split at h
  · rename_i k n t m cs a _
    cases h
    obtain ⟨ks, rfl, rfl, h1, h2, h3⟩ := isNds_of (ho (isNds N m cs, true) (List.mem_singleton.2 rfl))
    rw [ndD_at]
    exact ih k n t ks a h1 h2 h3
  · cases h
noncomputable def SNd {N : Nat} (ih : DtAt N) (l : List (Nat × List (Nat × Bool))) (v : List (Nat × List (Nat × PV))) : Cfg G0 := { F := F, hF := hF, S := ntS N, hS := ntS_ok ih, orc := orcM l, val := valM v }
def nB (k n a : Int) (t : ByteArray) (ks : Nds) : Box := ⟨[.int .i64 k, .int .i64 n, .str t, .slice ks.len ks.cells, .int .i64 a], 51⟩
def dZ : Box := ⟨[.int .i64 0, .int .i64 0, .str ⟨#[]⟩, .nil], 24⟩
def dL (k n : Int) (t : ByteArray) (x : PV) : Box := ⟨[.int .i64 k, .int .i64 n, .str t, x], 24⟩
def dR (rc : List PV) (m : Nat) : Row := ⟨rc, m, 24, 4⟩
def Nds.get : Nds → Nat → Nd
  | .nil, _ => .zero
  | .cons d _, 0 => d
  | .cons _ ds, i + 1 => ds.get i
def Nds.take : Nds → Nat → Nds
  | _, 0 => .nil
  | .nil, _ => .nil
  | .cons d ds, i + 1 => .cons d (ds.take i)
theorem Nds.get_cells : ∀ (ds : Nds) (i : Nat), i < ds.len → (ds.cells.drop (i * 5)).take 5 = (ds.get i).cells
  | .nil, i, h => by simp [Nds.len] at h
  | .cons d ds, 0, h => by
    simp only [Nds.cells, Nds.get, Nat.zero_mul, List.drop_zero]
    rw [List.take_append_of_le_length (by rw [Nd.cells_len]; omega), List.take_of_length_le (by rw [Nd.cells_len]; omega)]
  | .cons d ds, i + 1, h => by
    simp only [Nds.cells, Nds.get]
    have e : (i + 1) * 5 = d.cells.length + i * 5 := by rw [Nd.cells_len]; omega
    rw [e, List.drop_append, ← Nds.get_cells ds i (by simp only [Nds.len] at h; omega)]
    congr 1
    rw [List.drop_eq_nil_of_le (by omega), List.nil_append]
    congr 1
    omega
theorem Nds.get_ok : ∀ (ds : Nds) (i : Nat), i < ds.len → ds.ok → (ds.get i).ok
  | .nil, i, h, _ => by simp [Nds.len] at h
  | .cons d ds, 0, h, ho => ho.1
  | .cons d ds, i + 1, h, ho => Nds.get_ok ds i (by simp only [Nds.len] at h; omega) ho.2
theorem Nds.get_size : ∀ (ds : Nds) (i : Nat), i < ds.len → (ds.get i).size < ds.size
  | .nil, i, h => by simp [Nds.len] at h
  | .cons d ds, 0, h => by simp only [Nds.get, Nds.size]; omega
  | .cons d ds, i + 1, h => by
    have := Nds.get_size ds i (by simp only [Nds.len] at h; omega)
    simp only [Nds.get, Nds.size]; omega
theorem Nds.take_dat : ∀ (ds : Nds) (j : Nat), j < ds.len → (ds.take (j + 1)).dat.cells = (ds.take j).dat.cells ++ (ds.get j).dat.cells
  | .nil, j, h => by simp [Nds.len] at h
  | .cons d ds, 0, h => by cases ds <;> simp [Nds.take, Nds.dat, Dats.cells, Nds.get]
  | .cons d ds, j + 1, h => by
    have := Nds.take_dat ds j (by simp only [Nds.len] at h; omega)
    show d.dat.cells ++ (ds.take (j + 1)).dat.cells = (d.dat.cells ++ (ds.take j).dat.cells) ++ (ds.get j).dat.cells
    rw [this, List.append_assoc]
theorem Nds.take_all : ∀ ds : Nds, ds.take ds.len = ds
  | .nil => rfl
  | .cons d ds => by show Nds.cons d (ds.take ds.len) = _; rw [Nds.take_all ds]
theorem nd_mk (d : Nd) : ∃ k n t ks a, d = .mk k n t ks a := by obtain ⟨k, n, t, ks, a⟩ := d; exact ⟨k, n, t, ks, a, rfl⟩
theorem dt_at (N : Nat) : DtAt N := by
  induction N with
  | zero => intro k n t ks a h; omega
  | succ N ih =>
    intro k n t ks a hN hl hok
    refine Fn.enterB Tryz.func21 Tryz.ntmps21 rfl (Nat.le_of_ble_eq_true rfl) fun C fr fp hnt hnb hp hfr hfp => ?_
    have fin : ∀ st m rc bx rw', m = ks.len → rc = ks.dat.cells → nrm [2] st = ⟨[(2, .ptr 1 0)], ⟨nB k n a t ks :: dL k n t (.slice m rc) :: bx, rw'⟩⟩ → fr st := fun st m rc bx rw' h1 h2 hst => hfr st [2] (by
      rw [hst, ← h1, ← h2]
      exact ⟨0, .agg [.int .i64 k, .int .i64 n, .str t, .slice m rc], Nat.le_refl _, Nat.zero_le _, rfl, rfl, rfl, rfl, _, rfl, rfl⟩)
    refine Q.runSeq (SNd ih [] []) 100 31 hnt [1, 2] (z := ⟨[(1, .ptr 0 0), (2, .ptr 1 0)], ⟨[⟨[.int .i64 k, .int .i64 n, .str t, .slice (Nds.len ks) (Nds.cells ks), .int .i64 a], 51⟩, ⟨[.int .i64 (0 : Int), .int .i64 (0 : Int), .str ⟨#[]⟩, PV.nil], 24⟩], []⟩⟩) (o := []) (by kernel_rfl) (by repeat' first | exact okO_nil | refine okN ?_ ?_ | assumption | rfl) ?_
    refine Q.runSeq (SNd ih [] []) 100 31 hnt [1, 2, 3] (z := ⟨[(1, .ptr 0 0), (2, .ptr 1 0), (3, .ptr 2 0)], ⟨[⟨[.int .i64 k, .int .i64 n, .str t, .slice (Nds.len ks) (Nds.cells ks), .int .i64 a], 51⟩, ⟨[.int .i64 (0 : Int), .int .i64 (0 : Int), .str ⟨#[]⟩, PV.nil], 24⟩, ⟨[.int .i64 k, .int .i64 n, .str t, PV.nil], 24⟩], []⟩⟩) (o := []) (by kernel_rfl) (by repeat' first | exact okO_nil | refine okN ?_ ?_ | assumption | rfl) ?_
    refine SWP.adoptB 2 3 24 4 rfl rfl ?_
    refine Q.seq fun K hK => ?_
    refine Q.runSeq (SNd ih [] []) 100 31 hnt [1, 2, 3, 4] (z := ⟨[(1, .ptr 0 0), (2, .ptr 1 0), (3, .ptr 2 0), (4, .int .i64 (0 : Int))], ⟨[⟨[.int .i64 k, .int .i64 n, .str t, .slice (Nds.len ks) (Nds.cells ks), .int .i64 a], 51⟩, ⟨[.int .i64 (0 : Int), .int .i64 (0 : Int), .str ⟨#[]⟩, PV.nil], 24⟩, ⟨[.int .i64 k, .int .i64 n, .str t, .own 0 0], 24⟩], [some ⟨[], 0, 24, 4⟩]⟩⟩) (o := []) (by kernel_rfl) (by repeat' first | exact okO_nil | refine okN ?_ ?_ | assumption | rfl) ?_
    refine Q.block ?_
    let T (j : Nat) : AS := ⟨[(1, .ptr 0 0), (2, .ptr 1 0), (3, .ptr 2 0), (4, .int .i64 j)], ⟨[nB k n a t ks, dZ, dL k n t (.own 0 j)], [some (dR (ks.take j).dat.cells j)]⟩⟩
    refine Q.loopI (σ := { j : Nat // j ≤ ks.len }) [1, 2, 3, 4] (fun j => T j.1) (fun j => ks.len - j.1) ⟨0, Nat.zero_le _⟩ (by cases ks <;> rfl) fun ⟨j, hj⟩ => ?_
    show SWP G0 C _ _ ⟨[(1, .ptr 0 0), (2, .ptr 1 0), (3, .ptr 2 0), (4, .int .i64 j)], ⟨[nB k n a t ks, dZ, dL k n t (.own 0 j)], [some (dR (ks.take j).dat.cells j)]⟩⟩
    obtain ⟨rc, hrc⟩ : ∃ rc, rc = (ks.take j).dat.cells := ⟨_, rfl⟩
    refine swp_st (st' := ⟨[(1, .ptr 0 0), (2, .ptr 1 0), (3, .ptr 2 0), (4, .int .i64 j)], ⟨[nB k n a t ks, dZ, dL k n t (.own 0 j)], [some (dR rc j)]⟩⟩) (by rw [hrc]) ?_
    rcases Nat.lt_or_ge j ks.len with hlt | hge
    · have d1 := lt_at hlt
      have d2 := in_at hlt
      refine Q.runSeq (SNd ih [(31, [(16, true)])] []) 100 31 hnt [1, 2, 3, 4] (z := ⟨[(1, .ptr 0 0), (2, .ptr 1 0), (3, .ptr 2 0), (4, .int .i64 (Int.ofNat j))], ⟨[⟨[.int .i64 k, .int .i64 n, .str t, .slice (Nds.len ks) (Nds.cells ks), .int .i64 a], 51⟩, ⟨[.int .i64 (0 : Int), .int .i64 (0 : Int), .str ⟨#[]⟩, PV.nil], 24⟩, ⟨[.int .i64 k, .int .i64 n, .str t, .own 0 j], 24⟩], [some ⟨rc, j, 24, 4⟩]⟩⟩) (o := [(decide ((↑j : Int) < (↑(Nds.len ks) : Int)), true), (true, true)]) (by kernel_rfl) (by repeat' first | exact okO_nil | refine okN ?_ ?_ | assumption | rfl) ?_
      obtain ⟨k', n', t', ks', a', hget⟩ := nd_mk (ks.get j)
      have hsz := Nds.get_size ks j hlt
      have hoj := Nds.get_ok ks j hlt hok
      rw [hget] at hsz hoj
      simp only [Nd.size] at hsz
      have d3 : decide (TD.size d51 ≤ List.length (List.drop (Int.toNat (j : Int) * TD.size d51) (Nds.cells ks))) = true := by
        show decide (5 ≤ List.length (List.drop (Int.toNat (j : Int) * 5) (Nds.cells ks))) = true
        simp only [Int.toNat_natCast, List.length_drop, Nds.cells_len, decide_eq_true_eq]; omega
      have d4 : same (PV.agg (List.take 5 (List.drop (Int.toNat (Int.ofNat j) * 5) (Nds.cells ks)))) (PV.agg [PV.int IntKind.i64 k', PV.int IntKind.i64 n', PV.str t', PV.slice (Nds.len ks') (Nds.cells ks'), PV.int IntKind.i64 a']) = true := same_of (by
        show PV.agg (List.take 5 (List.drop (j * 5) (Nds.cells ks))) = _
        rw [Nds.get_cells ks j hlt, hget]; rfl)
      have d5 : isNds N (Nds.len ks') (Nds.cells ks') = true := isNds_at (by omega) hoj.1 hoj.2
      have wj : IntKind.wrap IntKind.i64 (Int.ofNat (j + 1)) = ((j + 1 : Nat) : Int) := wrapI (j + 1) (by omega)
      refine Q.seq fun K3 hK3 => ?_
      refine Q.block ?_
      refine SWP.runLQ (SNd ih [(31, [(24, true), (25, true), (28, true)])] [(31, [(25, .agg [.int .i64 k', .int .i64 n', .str t', .slice ks'.len ks'.cells, .int .i64 a'])])]) 100 31 hnt [1, 2, 3, 4] (l := [{ t := [(1, PV.ptr 0 0), (2, PV.ptr 1 0), (3, PV.ptr 2 0), (4, PV.int IntKind.i64 (Int.ofNat j))], h := { bx := [{ cs := [PV.int IntKind.i64 k, PV.int IntKind.i64 n, PV.str t, PV.slice (Nds.len ks) (Nds.cells ks), PV.int IntKind.i64 a], ty := 51 }, { cs := [PV.int IntKind.i64 (0 : Int), PV.int IntKind.i64 (0 : Int), PV.str { data := #[] }, PV.nil], ty := 24 }, { cs := [PV.int IntKind.i64 k, PV.int IntKind.i64 n, PV.str t, PV.own 0 (j + 1)], ty := 24 }], rw := [some { cs := rc ++ [PV.int IntKind.i64 k', PV.int IntKind.i64 n', PV.str t', PV.slice (Nds.len ks') (Dats.cells (ndD (Nds.cells ks')))], n := j + 1, ty := 24, sz := 4 }] } }]) (o := [(decide (0 ≤ (↑j : Int) ∧ (↑j : Int) < (↑(Nds.len ks) : Int)), true), (decide (TD.size d51 ≤ List.length (List.drop (Int.toNat (↑j : Int) * TD.size d51) (Nds.cells ks))), true), (same (PV.agg (List.take 5 (List.drop (Int.toNat (Int.ofNat j) * 5) (Nds.cells ks)))) (PV.agg [PV.int IntKind.i64 k', PV.int IntKind.i64 n', PV.str t', PV.slice (Nds.len ks') (Nds.cells ks'), PV.int IntKind.i64 a']), true), (true, true), (isNds N (Nds.len ks') (Nds.cells ks'), true), (true, true), (Nat.ble ((j + 1) * 56) 140737488355328, true), (Nat.ble (j + 1) 9223372036854775807, true)]) (by kernel_rfl) (by ((repeat' (first | exact okO_nil | refine okN ?_ ?_)); all_goals first | assumption | rfl | exact same_of rfl | exact sameS_self _ | (simp only [decide_eq_true_eq, decide_eq_false_iff_not, Nat.ble_eq, Nat.beq_eq, beq_eq_false_iff_ne, beq_iff_eq, ne_eq] <;> omega))) (fun st hst => hK3 st (.norm [1, 2, 3, 4] ?_))
      have hst2 : nrm [1, 2, 3, 4] st = ⟨[(1, .ptr 0 0), (2, .ptr 1 0), (3, .ptr 2 0), (4, .int .i64 j)], ⟨[nB k n a t ks, dZ, dL k n t (.own 0 (j + 1))], [some (dR (rc ++ [.int .i64 k', .int .i64 n', .str t', .slice ks'.len (ndD ks'.cells).cells]) (j + 1))]⟩⟩ := by
        simp only [List.mem_cons, List.not_mem_nil, or_false, or_self] at hst
        exact hst
      rw [hst2]
      have hr2 : rc ++ [.int .i64 k', .int .i64 n', .str t', .slice ks'.len (ndD ks'.cells).cells] = (ks.take (j + 1)).dat.cells := by
        rw [Nds.take_dat ks j hlt, hrc, hget, ndD_at]
        simp only [Nd.dat, Dat.cells, Nds.dat_len]
      rw [hr2]
      obtain ⟨rr, hrr⟩ : ∃ rr, rr = (ks.take (j + 1)).dat.cells := ⟨_, rfl⟩
      rw [← hrr]
      exact SWP.runQ (SNd ih [] []) 100 31 hnt [1, 2, 3, 4] (e := .normal) (z := ⟨[(1, .ptr 0 0), (2, .ptr 1 0), (3, .ptr 2 0), (4, .int .i64 (IntKind.wrap IntKind.i64 (Int.ofNat (j + 1))))], ⟨[⟨[.int .i64 k, .int .i64 n, .str t, .slice (Nds.len ks) (Nds.cells ks), .int .i64 a], 51⟩, ⟨[.int .i64 (0 : Int), .int .i64 (0 : Int), .str ⟨#[]⟩, PV.nil], 24⟩, ⟨[.int .i64 k, .int .i64 n, .str t, .own 0 (j + 1)], 24⟩], [some ⟨rr, j + 1, 24, 4⟩]⟩⟩) (o := []) (by kernel_rfl) (by repeat' first | exact okO_nil | refine okN ?_ ?_ | assumption | rfl) (fun st hst => ⟨⟨j + 1, hlt⟩, Nat.sub_lt_sub_left hlt (Nat.lt_succ_self j), by rw [hst, wj, hrr]; rfl⟩)
    · have d1 := ge_at hge
      have hje : j = ks.len := by omega
      refine SWP.runQ (SNd ih [(31, [(16, false)])] []) 100 31 hnt [2, 3] (e := .exit 0) (z := ⟨[(2, .ptr 1 0), (3, .ptr 2 0)], ⟨[⟨[.int .i64 k, .int .i64 n, .str t, .slice (Nds.len ks) (Nds.cells ks), .int .i64 a], 51⟩, ⟨[.int .i64 (0 : Int), .int .i64 (0 : Int), .str ⟨#[]⟩, PV.nil], 24⟩, ⟨[.int .i64 k, .int .i64 n, .str t, .own 0 j], 24⟩], [some ⟨rc, j, 24, 4⟩]⟩⟩) (o := [(decide ((↑j : Int) < (↑(Nds.len ks) : Int)), false), (false, false)]) (by kernel_rfl) (by repeat' first | exact okO_nil | refine okN ?_ ?_ | assumption | rfl) (fun st hst => hK st (.norm [2, 3] ?_))
      rw [hst]
      refine SWP.frz [0] ?_
      exact SWP.runQ (SNd ih [] []) 100 31 hnt [2] (e := .ret) (z := ⟨[(2, .ptr 1 0)], ⟨[⟨[.int .i64 k, .int .i64 n, .str t, .slice (Nds.len ks) (Nds.cells ks), .int .i64 a], 51⟩, ⟨[.int .i64 k, .int .i64 n, .str t, .slice j rc], 24⟩, ⟨[.int .i64 k, .int .i64 n, .str t, .slice j rc], 24⟩], [none]⟩⟩) (o := []) (by kernel_rfl) (by repeat' first | exact okO_nil | refine okN ?_ ?_ | assumption | rfl) (fun st hst => fin st j rc [dL k n t (.slice j rc)] [none] hje (by rw [hrc, hje, Nds.take_all]) hst)
end Seat
end Go.Proofs.YtkblfapbakfgpaaGreatDoor
namespace Go.Proofs.YtkblfapbakfgpaaGreatDoor
open Go.AS Go.RowKit
set_option linter.unusedVariables false
set_option linter.unusedSimpArgs false
set_option maxRecDepth 100000
set_option maxHeartbeats 4000000
namespace Seat
noncomputable def SOn (l : List (Nat × List (Nat × Bool))) (v : List (Nat × List (Nat × PV))) : Cfg G0 := SRd true 1000 (fun _ => rd_at 1000 (Nat.le_refl _)) l v
def oneR (s : ByteArray) : Nd × Int × Int := if 20000 < s.size then (.zero, 0, 3) else
  if rdE s 1000 (skp s 0) = 0 then (if skp s (rdA s 1000 (skp s 0)) < s.size then (.zero, (skp s (rdA s 1000 (skp s 0)) : Nat), 4) else (rdX s 1000 (skp s 0), 0, 0)) else (.zero, rdF s 1000 (skp s 0), rdE s 1000 (skp s 0))
theorem oneR_eq (s : ByteArray) : oneR s = (if 20000 < s.size then (.zero, 0, 3) else
  if rdE s 1000 (skp s 0) = 0 then (if skp s (rdA s 1000 (skp s 0)) < s.size then (.zero, (skp s (rdA s 1000 (skp s 0)) : Nat), 4) else (rdX s 1000 (skp s 0), 0, 0)) else (.zero, rdF s 1000 (skp s 0), rdE s 1000 (skp s 0)) : Nd × Int × Int) := rfl
theorem tup_weak {x : PV} {d : Nd} (hx : NilS x d) {a b : PV} {E : Env} {w : World} {v : Value} (h : VRep E w (.tup [.agg [.int .i64 (ndK d), .int .i64 (ndN d), .str (ndT d), x, .int .i64 (ndA d)], a, b]) v) : VRep E w (.tup [.agg (ndC d), a, b]) v := by
  obtain ⟨vs, rfl, g⟩ := h.tup_inv
  obtain ⟨v1, vs, rfl, h1, g⟩ := g.cons_inv
  obtain ⟨v2, vs, rfl, h2, g⟩ := g.cons_inv
  obtain ⟨v3, vs, rfl, h3, g⟩ := g.cons_inv
  obtain rfl := g.nil_inv
  have h5 := node_weak hx h1
  exact .tup rfl fun j x v hx hv => by
    match j, hx, hv with
    | 0, hx, hv => cases hx; cases hv; exact h5
    | 1, hx, hv => cases hx; cases hv; exact h2
    | 2, hx, hv => cases hx; cases hv; exact h3
    | j + 3, hx, hv => cases hx
theorem one_weak {f : FuncId} {args : List PV} {d : Nd} {a b : PV} (h : Pure G0 f args (fun r => ∃ x, NilS x d ∧ r = .tup [.agg [.int .i64 (ndK d), .int .i64 (ndN d), .str (ndT d), x, .int .i64 (ndA d)], a, b])) : Pure G0 f args (fun r => r = .tup [.agg (ndC d), a, b]) := fun E w vs hh hv =>
  (h E w vs hh hv).mono fun e w' ⟨o, bx', E', ⟨hb, r, ho, x, hx, hr⟩, hout, hrest⟩ => by
    subst ho; subst hr
    obtain ⟨v, rfl, hv⟩ := hout
    exact ⟨.ret (.tup [.agg (ndC d), a, b]), bx', E', ⟨hb, _, rfl, rfl⟩, ⟨v, rfl, tup_weak hx hv⟩, hrest⟩
theorem one_ok (s : ByteArray) : Pure G0 20 [.str s] (fun r => r = .tup [.agg (ndC (oneR s).1), .int .i64 (oneR s).2.1, .int .i64 (oneR s).2.2]) := by
  refine one_weak ?_
  have eq := oneR_eq s
  refine Fn.enterB Tryz.func20 Tryz.ntmps20 rfl (Nat.le_of_ble_eq_true rfl) fun C fr fp hnt hnb hp hfr hfp => ?_
  have fin : ∀ st d a e x bx rw', oneR s = (d, a, e) → NilS x d → nrm [2, 3, 4] st = ⟨[(2, .ptr 0 0), (3, .int .i64 a), (4, .int .i64 e)], ⟨⟨[.int .i64 (ndK d), .int .i64 (ndN d), .str (ndT d), x, .int .i64 (ndA d)], 51⟩ :: bx, rw'⟩⟩ → fr st := fun st d a e x bx rw' h hx hst => hfr st [2, 3, 4] (by
    rw [hst, h]
    refine ⟨0, .tup [.agg [.int .i64 (ndK d), .int .i64 (ndN d), .str (ndT d), x, .int .i64 (ndA d)], .int .i64 a, .int .i64 e], Nat.le_refl _, Nat.zero_le _, rfl, ?_, rfl, rfl, _, rfl, x, hx, rfl⟩
    rcases hx with rfl | ⟨rfl, _⟩ | ⟨_, _, _, rfl⟩ <;> rfl)
  refine Q.runSeq (SOn [] []) 100 55 hnt [0, 2, 3, 4] (z := ⟨[(0, .str s), (2, .ptr 0 0), (3, .int .i64 (0 : Int)), (4, .int .i64 (0 : Int))], ⟨[⟨[.int .i64 (0 : Int), .int .i64 (0 : Int), .str ⟨#[]⟩, PV.nil, .int .i64 (0 : Int)], 51⟩], []⟩⟩) (o := []) (by kernel_rfl) (by repeat' first | exact okO_nil | refine okN ?_ ?_ | assumption | rfl) ?_
  by_cases hbig : 20000 < s.size
  · have d1 : decide (20000 < (s.size : Int)) = true := by rw [decide_eq_true_eq]; omega
    rw [if_pos hbig] at eq
    refine Q.seq fun K hK => ?_
    exact SWP.runQ (SOn [(55, [(9, true)])] []) 100 55 hnt [2, 3, 4] (e := .ret) (z := ⟨[(2, .ptr 0 0), (3, .int .i64 (0 : Int)), (4, .int .i64 (3 : Int))], ⟨[⟨[.int .i64 (0 : Int), .int .i64 (0 : Int), .str ⟨#[]⟩, PV.nil, .int .i64 (0 : Int)], 51⟩], []⟩⟩) (o := [(decide (20000 < (↑(ByteArray.size s) : Int)), true), (true, true)]) (by kernel_rfl) (by repeat' first | exact okO_nil | refine okN ?_ ?_ | assumption | rfl) (fun st hst => fin st .zero 0 3 .nil [] [] eq (.inr (.inl ⟨rfl, rfl⟩)) hst)
  have d1 : decide (20000 < (s.size : Int)) = false := by rw [decide_eq_false_iff_not]; omega
  have d2 : Nat.ble s.size 1099511627776 = true := by rw [Nat.ble_eq]; omega
  rw [if_neg hbig] at eq
  refine Q.runSeq (SOn [(55, [(9, false)])] []) 100 55 hnt [0, 2] (z := ⟨[(0, .str s), (2, .ptr 0 0)], ⟨[⟨[.int .i64 (0 : Int), .int .i64 (0 : Int), .str ⟨#[]⟩, PV.nil, .int .i64 (0 : Int)], 51⟩], []⟩⟩) (o := [(decide (20000 < (↑(ByteArray.size s) : Int)), false), (false, false)]) (by kernel_rfl) (by repeat' first | exact okO_nil | refine okN ?_ ?_ | assumption | rfl) ?_
  refine Q.runSeq (SOn [] []) 100 55 hnt [0, 2, 5] (z := ⟨[(0, .str s), (2, .ptr 0 0), (5, .ptr 1 0)], ⟨[⟨[.int .i64 (0 : Int), .int .i64 (0 : Int), .str ⟨#[]⟩, PV.nil, .int .i64 (0 : Int)], 51⟩, ⟨[.str s, .int .i64 (0 : Int), .int .i64 (0 : Int), .int .i64 (0 : Int)], 82⟩], []⟩⟩) (o := []) (by kernel_rfl) (by repeat' first | exact okO_nil | refine okN ?_ ?_ | assumption | rfl) ?_
  refine Q.runSeq (SOn [] []) 100 55 hnt [0, 2, 5] (z := ⟨[(0, .str s), (2, .ptr 0 0), (5, .ptr 1 0)], ⟨[⟨[.int .i64 (0 : Int), .int .i64 (0 : Int), .str ⟨#[]⟩, PV.nil, .int .i64 (0 : Int)], 51⟩, ⟨[.str s, .int .i64 (Int.ofNat (skp s 0)), .int .i64 (0 : Int), .int .i64 (0 : Int)], 82⟩], []⟩⟩) (o := [(true, true), (Nat.ble (ByteArray.size s) 1099511627776, true)]) (by kernel_rfl) (by repeat' first | exact okO_nil | refine okN ?_ ?_ | assumption | rfl) ?_
  obtain ⟨y, hy⟩ : ∃ y, y = skp s 0 := ⟨_, rfl⟩
  have hy2 : y ≤ s.size := by rw [hy]; exact skp_le s 0 (Nat.zero_le _)
  rw [← hy] at eq ⊢
  have dy : decide (0 ≤ (y : Int) ∧ (y : Int) ≤ (s.size : Int)) = true := by rw [decide_eq_true_eq]; omega
  refine Q.runSeq (SOn [] []) 100 55 hnt [0, 2, 5, 6] (z := ⟨[(0, .str s), (2, .ptr 0 0), (5, .ptr 1 0), (6, .ptr 2 0)], ⟨[⟨[.int .i64 (0 : Int), .int .i64 (0 : Int), .str ⟨#[]⟩, PV.nil, .int .i64 (0 : Int)], 51⟩, ⟨[.str s, .int .i64 (Int.ofNat (rdA s 1000 (Int.toNat (Int.ofNat y)))), .int .i64 (rdE s 1000 (Int.toNat (Int.ofNat y))), .int .i64 (rdF s 1000 (Int.toNat (Int.ofNat y)))], 82⟩, ⟨[.int .i64 (ndK (rdX s 1000 (Int.toNat (↑y : Int)))), .int .i64 (ndN (rdX s 1000 (Int.toNat (↑y : Int)))), .str (ndT (rdX s 1000 (Int.toNat (↑y : Int)))), .slice (Nds.len (ndS (rdX s 1000 (Int.toNat (↑y : Int))))) (Nds.cells (ndS (rdX s 1000 (Int.toNat (↑y : Int))))), .int .i64 (ndA (rdX s 1000 (Int.toNat (↑y : Int))))], 51⟩], []⟩⟩) (o := [(decide (0 ≤ (↑y : Int) ∧ (↑y : Int) ≤ (↑(ByteArray.size s) : Int)), true), (true, true), (Nat.ble (ByteArray.size s) 1099511627776, true)]) (by kernel_rfl) (by repeat' first | exact okO_nil | refine okN ?_ ?_ | assumption | rfl) ?_
  have hst := (rdD_steps s 1000 y hy2).1
  have hin : RS.In s 1000 ⟨rdA s 1000 y, rdE s 1000 y, rdF s 1000 y⟩ := hst
  show SWP G0 C _ _ ⟨[(0, .str s), (2, .ptr 0 0), (5, .ptr 1 0), (6, .ptr 2 0)], ⟨[nZ, rB s (rdA s 1000 y) (rdE s 1000 y) (rdF s 1000 y), ⟨ndC (rdX s 1000 y), 51⟩], []⟩⟩
  obtain ⟨q, hq⟩ : ∃ q, q = rdA s 1000 y := ⟨_, rfl⟩
  obtain ⟨e, he⟩ : ∃ q, q = rdE s 1000 y := ⟨_, rfl⟩
  obtain ⟨b, hb⟩ : ∃ q, q = rdF s 1000 y := ⟨_, rfl⟩
  obtain ⟨x, hx⟩ : ∃ q, q = rdX s 1000 y := ⟨_, rfl⟩
  rw [← hq, ← he, ← hb] at hin ⊢
  rw [← hq, ← he, ← hb, ← hx] at eq
  rw [← hx]
  refine Q.runSeq (SOn [] []) 100 55 hnt [0, 2, 5, 6] (z := ⟨[(0, .str s), (2, .ptr 0 0), (5, .ptr 1 0), (6, .ptr 2 0)], ⟨[⟨[.int .i64 (0 : Int), .int .i64 (0 : Int), .str ⟨#[]⟩, PV.nil, .int .i64 (0 : Int)], 51⟩, ⟨[.str s, .int .i64 (Int.ofNat (skp s (Int.toNat (Int.ofNat q)))), .int .i64 e, .int .i64 b], 82⟩, ⟨[.int .i64 (ndK x), .int .i64 (ndN x), .str (ndT x), .slice (Nds.len (ndS x)) (Nds.cells (ndS x)), .int .i64 (ndA x)], 51⟩], []⟩⟩) (o := [(true, true), (Nat.ble (ByteArray.size s) 1099511627776, true)]) (by kernel_rfl) (by repeat' first | exact okO_nil | refine okN ?_ ?_ | assumption | rfl) ?_
  show SWP G0 C _ _ ⟨[(0, .str s), (2, .ptr 0 0), (5, .ptr 1 0), (6, .ptr 2 0)], ⟨[nZ, rB s (skp s q) e b, ⟨ndC x, 51⟩], []⟩⟩
  clear hq
  obtain ⟨q, hq⟩ : ∃ z, z = skp s q := ⟨_, rfl⟩
  rw [← hq] at eq ⊢
  refine Q.seq fun K hK => ?_
  have bad : ∀ (q : Nat) (e b : Int), (!e == (0 : Int)) = true → (∀ st, nrm [2, 3, 4] st = ⟨[(2, .ptr 0 0), (3, .int .i64 b), (4, .int .i64 e)], ⟨[nZ, rB s q e b, ⟨ndC x, 51⟩], []⟩⟩ → fr st) → ∀ st, nrm [2, 5, 6] st = ⟨[(2, .ptr 0 0), (5, .ptr 1 0), (6, .ptr 2 0)], ⟨[nZ, rB s q e b, ⟨ndC x, 51⟩], []⟩⟩ → K st := fun q e b d4 hf st hst => hK st (.norm [2, 5, 6] (by
    rw [hst]
    refine Q.seq fun K hK => ?_
    refine Q.runSeq (SOn [(55, [(44, true)])] []) 100 55 hnt [2, 5, 6, 44] (z := ⟨[(2, .ptr 0 0), (5, .ptr 1 0), (6, .ptr 2 0), (44, .bool true)], ⟨[⟨[.int .i64 (0 : Int), .int .i64 (0 : Int), .str ⟨#[]⟩, PV.nil, .int .i64 (0 : Int)], 51⟩, ⟨[.str s, .int .i64 (Int.ofNat q), .int .i64 e, .int .i64 b], 82⟩, ⟨[.int .i64 (ndK x), .int .i64 (ndN x), .str (ndT x), .slice (Nds.len (ndS x)) (Nds.cells (ndS x)), .int .i64 (ndA x)], 51⟩], []⟩⟩) (o := [(!e == (0 : Int), true)]) (by kernel_rfl) (by repeat' first | exact okO_nil | refine okN ?_ ?_ | assumption | rfl) ?_
    refine Q.cond (b := true) rfl (fun _ => ?_) (fun h => by cases h)
    refine Q.seq fun K2 hK2 => ?_
    refine SWP.runLQ (SOn [] []) 100 55 hnt [2, 3, 4] (l := List.replicate 69 { t := [(2, PV.ptr 0 0), (3, PV.int IntKind.i64 b), (4, PV.int IntKind.i64 e)], h := { bx := [{ cs := [PV.int IntKind.i64 (0 : Int), PV.int IntKind.i64 (0 : Int), PV.str { data := #[] }, PV.nil, PV.int IntKind.i64 (0 : Int)], ty := 51 }, { cs := [PV.str s, PV.int IntKind.i64 (Int.ofNat q), PV.int IntKind.i64 e, PV.int IntKind.i64 b], ty := 82 }, { cs := [PV.int IntKind.i64 (ndK x), PV.int IntKind.i64 (ndN x), PV.str (ndT x), PV.slice (Nds.len (ndS x)) (Nds.cells (ndS x)), PV.int IntKind.i64 (ndA x)], ty := 51 }], rw := [] } }) (o := []) (by kernel_rfl) (by repeat' first | exact okO_nil | refine okN ?_ ?_ | assumption | rfl) (fun st hst => hK2 st (.norm [2, 3, 4] ?_))
    rw [List.eq_of_mem_replicate hst]
    exact .ret (hf _ rfl)))
  by_cases h0 : e = 0
  · rw [if_pos h0] at eq
    have hb0 : b = 0 := (hin.ok h0).2
    subst h0
    subst hb0
    rcases Nat.lt_or_ge q s.size with hl | hg
    · have d3 : decide ((q : Int) < (s.size : Int)) = true := by rw [decide_eq_true_eq]; omega
      rw [if_pos hl] at eq
      exact SWP.runQ (SOn [(55, [(32, true)])] []) 100 55 hnt [2, 5, 6] (e := .normal) (z := ⟨[(2, .ptr 0 0), (5, .ptr 1 0), (6, .ptr 2 0)], ⟨[⟨[.int .i64 (0 : Int), .int .i64 (0 : Int), .str ⟨#[]⟩, PV.nil, .int .i64 (0 : Int)], 51⟩, ⟨[.str s, .int .i64 (Int.ofNat q), .int .i64 (4 : Int), .int .i64 (Int.ofNat q)], 82⟩, ⟨[.int .i64 (ndK x), .int .i64 (ndN x), .str (ndT x), .slice (Nds.len (ndS x)) (Nds.cells (ndS x)), .int .i64 (ndA x)], 51⟩], []⟩⟩) (o := [(decide ((↑q : Int) < (↑(ByteArray.size s) : Int)), true)]) (by kernel_rfl) (by repeat' first | exact okO_nil | refine okN ?_ ?_ | assumption | rfl) (bad q 4 q rfl (fun st hst => fin st .zero q 4 .nil [rB s q 4 q, ⟨ndC x, 51⟩] [] eq (.inr (.inl ⟨rfl, rfl⟩)) hst))
    · have d3 : decide ((q : Int) < (s.size : Int)) = false := by rw [decide_eq_false_iff_not]; omega
      rw [if_neg (by omega)] at eq
      refine SWP.runQ (SOn [(55, [(32, false)])] []) 100 55 hnt [2, 5, 6] (e := .normal) (z := ⟨[(2, .ptr 0 0), (5, .ptr 1 0), (6, .ptr 2 0)], ⟨[⟨[.int .i64 (0 : Int), .int .i64 (0 : Int), .str ⟨#[]⟩, PV.nil, .int .i64 (0 : Int)], 51⟩, ⟨[.str s, .int .i64 (Int.ofNat q), .int .i64 (0 : Int), .int .i64 (0 : Int)], 82⟩, ⟨[.int .i64 (ndK x), .int .i64 (ndN x), .str (ndT x), .slice (Nds.len (ndS x)) (Nds.cells (ndS x)), .int .i64 (ndA x)], 51⟩], []⟩⟩) (o := [(decide ((↑q : Int) < (↑(ByteArray.size s) : Int)), false)]) (by kernel_rfl) (by repeat' first | exact okO_nil | refine okN ?_ ?_ | assumption | rfl) (fun st hst => hK st (.norm [2, 5, 6] ?_))
      rw [hst]
      exact SWP.runQ (SOn [] []) 100 55 hnt [2, 3, 4] (e := .ret) (z := ⟨[(2, .ptr 0 0), (3, .int .i64 (0 : Int)), (4, .int .i64 (0 : Int))], ⟨[⟨[.int .i64 (ndK x), .int .i64 (ndN x), .str (ndT x), .slice (Nds.len (ndS x)) (Nds.cells (ndS x)), .int .i64 (ndA x)], 51⟩, ⟨[.str s, .int .i64 (Int.ofNat q), .int .i64 (0 : Int), .int .i64 (0 : Int)], 82⟩, ⟨[.int .i64 (ndK x), .int .i64 (ndN x), .str (ndT x), .slice (Nds.len (ndS x)) (Nds.cells (ndS x)), .int .i64 (ndA x)], 51⟩], []⟩⟩) (o := []) (by kernel_rfl) (by repeat' first | exact okO_nil | refine okN ?_ ?_ | assumption | rfl) (fun st hst => fin st x 0 0 (.slice (ndS x).len (ndS x).cells) [rB s q 0 0, ⟨ndC x, 51⟩] [] eq (.inl rfl) hst)
  · rw [if_neg h0] at eq
    have d3 : (e == (0 : Int)) = false := beqF h0
    have d4 : (!e == (0 : Int)) = true := by rw [beqF h0]; rfl
    exact SWP.runQ (SOn [(55, [(24, false)])] []) 100 55 hnt [2, 5, 6] (e := .normal) (z := ⟨[(2, .ptr 0 0), (5, .ptr 1 0), (6, .ptr 2 0)], ⟨[⟨[.int .i64 (0 : Int), .int .i64 (0 : Int), .str ⟨#[]⟩, PV.nil, .int .i64 (0 : Int)], 51⟩, ⟨[.str s, .int .i64 (Int.ofNat q), .int .i64 e, .int .i64 b], 82⟩, ⟨[.int .i64 (ndK x), .int .i64 (ndN x), .str (ndT x), .slice (Nds.len (ndS x)) (Nds.cells (ndS x)), .int .i64 (ndA x)], 51⟩], []⟩⟩) (o := [(e == (0 : Int), false)]) (by kernel_rfl) (by repeat' first | exact okO_nil | refine okN ?_ ?_ | assumption | rfl) (bad q e b d4 (fun st hst => fin st .zero b e .nil [rB s q e b, ⟨ndC x, 51⟩] [] eq (.inr (.inl ⟨rfl, rfl⟩)) hst))
end Seat
end Go.Proofs.YtkblfapbakfgpaaGreatDoor
