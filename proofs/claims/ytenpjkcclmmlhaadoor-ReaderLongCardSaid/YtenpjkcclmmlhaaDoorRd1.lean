/- Texts of this session, packed: LawL, Flat3. -/
import Derived.Test.YtenpjkcclmmlhaaDoorRa6
/- The law of ReaderLong. Printed by dev/lwl.py and dev/nfsub.py (this session's). -/
namespace Go.Proofs.YtenpjkcclmmlhaaDoor
open Go.AS Go.RowKit
set_option linter.unusedVariables false
set_option linter.unusedSimpArgs false
set_option maxRecDepth 100000
set_option maxHeartbeats 4000000
namespace Seat
def lgW : ByteArray := ⟨#[97, 50, 51, 52, 53, 54, 55, 56, 57, 48, 49, 50, 51, 52, 53, 54, 55, 56, 57, 48, 49, 50, 51, 52, 53, 54, 55, 56, 57, 48, 49, 50, 51, 52, 53, 54, 55, 56, 57]⟩
def DBx (x : PV) : Box := ⟨[.int .i64 3, .int .i64 0, .str ⟨#[]⟩, x], 25⟩
theorem symR_ok (s : ByteArray) : Pure G0 23 [.str s] (fun r => r = .agg [.int .i64 2, .int .i64 0, .str s, .slice 0 []]) := by
  refine Pure.nz ?_
  refine Fn.enterB Tryd.func23 Tryd.ntmps23 rfl (Nat.le_of_ble_eq_true rfl) fun C fr fp hnt hnb hp hfr hfp => ?_
  refine SWP.runQ (SRe [] []) 100 _ hnt [2] (e := .ret) (z := ⟨[(2, .ptr 0 0)], ⟨[⟨[.int .i64 2, .int .i64 0, .str s, .nil], 25⟩], []⟩⟩) (o := []) (by kernel_rfl) okO_nil (fun st hst => hfr st [2] (by
    rw [hst]
    exact ⟨0, .agg [.int .i64 2, .int .i64 0, .str s, .nil], Nat.le_refl _, Nat.zero_le _, rfl, rfl, rfl, rfl, _, rfl, rfl⟩))
noncomputable def llS (f : Nat) (args : List PV) : Option (PV × Ob) := match f, args with
  | 20, [.agg cs] => some (.tup [.str (wrBC cs), .int .i64 (wrEC cs)], [(isSml cs, true)])
  | 22, [.agg cs] => some (.str (mkS (txC cs)), [(isTxt cs, true)])
  | 23, [.str s] => some (.agg [.int .i64 2, .int .i64 0, .str s, .slice 0 []], [])
  | 18, [] => some (.bool true, [])
  | _, _ => none
theorem llS_ok (f : Nat) (args : List PV) (r : PV) (o : Ob) (h : llS f args = some (r, o)) (ho : ∀ p ∈ o, p.1 = p.2) (_ : pureL args = true) : Pure G0 f args (fun x => x = r) := by
  unfold llS at h
  split at h
  · rename_i cs _
    cases h
    obtain ⟨d, rfl, h1⟩ := isSml_of (ho (isSml cs, true) (List.mem_singleton.2 rfl))
    unfold wrBC wrEC
    rw [ofCells_at, ofCells_at]
    exact writeP d h1.good h1.2.1 (by have := h1.2.2; omega)
  · rename_i cs _
    cases h
    obtain ⟨d, rfl, h1, h2, h3⟩ := isTxt_of (ho (isTxt cs, true) (List.mem_singleton.2 rfl))
    rw [txC_at]
    exact text_ref d h1 h2 h3
  · cases h
    exact symR_ok _
  · cases h
    exact alive_ok
  · cases h
noncomputable def SLl (l : List (Nat × List (Nat × Bool))) (v : List (Nat × List (Nat × PV))) : Cfg G0 := { F := F, hF := hF, S := llS, hS := llS_ok, orc := orcM l, val := valM v }
def lgD (w : ByteArray) : Dat := .mk 2 0 w .nil
def lgs (w : ByteArray) : Nat → Dats
  | 0 => .nil
  | j + 1 => .cons (lgD w) (lgs w j)
theorem lgs_len (w : ByteArray) : ∀ j, (lgs w j).len = j
  | 0 => rfl
  | j + 1 => by simp only [lgs, Dats.len, lgs_len w j]
theorem lgs_cells (w : ByteArray) : ∀ j, (lgs w (j + 1)).cells = (lgs w j).cells ++ [.int .i64 2, .int .i64 0, .str w, .slice 0 []]
  | 0 => rfl
  | j + 1 => by
    show (lgD w).cells ++ (lgs w (j + 1)).cells = ((lgD w).cells ++ (lgs w j).cells) ++ _
    rw [lgs_cells w j, List.append_assoc]
/-- So many words, and one more. -/
def lgK (w v : ByteArray) : Nat → Dats
  | 0 => .cons (lgD v) .nil
  | j + 1 => .cons (lgD w) (lgK w v j)
theorem lgK_cells (w v : ByteArray) : ∀ j, (lgK w v j).cells = (lgs w j).cells ++ [.int .i64 2, .int .i64 0, .str v, .slice 0 []]
  | 0 => rfl
  | j + 1 => by
    show (lgD w).cells ++ (lgK w v j).cells = ((lgD w).cells ++ (lgs w j).cells) ++ _
    rw [lgK_cells w v j, List.append_assoc]
theorem lgK_ok (w v : ByteArray) (hw : symOk w = true) (hv : symOk v = true) : ∀ j, (lgK w v j).len = j + 1 ∧ (lgK w v j).ok ∧ (lgK w v j).rng ∧ partsL (lgK w v j) = j + 1 ∧ formedL (lgK w v j) = true ∧ deepNL (lgK w v j) ≤ 1 ∧ (textL false (lgK w v j)).length = j * (w.size + 1) + v.size + 1
  | 0 => by
    refine ⟨rfl, ⟨⟨by decide, trivial⟩, trivial⟩, ⟨⟨by decide, trivial⟩, trivial⟩, rfl, ?_, (show max 1 0 ≤ 1 by decide), ?_⟩
    · show (formedD (lgD v) && true) = true
      simp only [lgD, formedD, hv, Dats.len]; rfl
    · show (32 :: (v.data.toList ++ [])).length = _
      have hlen : v.data.toList.length = v.size := Array.length_toList
      simp only [List.length_cons, List.append_nil, hlen]; omega
  | j + 1 => by
    obtain ⟨h1, h2, h3, h4, h5, h6, h7⟩ := lgK_ok w v hw hv j
    refine ⟨by simp only [lgK, Dats.len, h1], ⟨⟨by decide, trivial⟩, h2⟩, ⟨⟨by decide, trivial⟩, h3⟩, ?_, ?_, ?_, ?_⟩
    · show parts (lgD w) + partsL (lgK w v j) = _
      rw [h4, show parts (lgD w) = 1 from rfl]; omega
    · show (formedD (lgD w) && formedL (lgK w v j)) = true
      rw [h5]
      simp only [lgD, formedD, hw, Dats.len]; rfl
    · show max (deepN (lgD w)) (deepNL (lgK w v j)) ≤ 1
      rw [show deepN (lgD w) = 1 from rfl]; omega
    · show ((if false = true then [] else [32]) ++ (w.data.toList ++ textL false (lgK w v j))).length = _
      have hlen : w.data.toList.length = w.size := Array.length_toList
      simp only [Bool.false_eq_true, if_false, List.length_append, List.length_cons, List.length_nil, hlen, h7]
      rw [Nat.add_mul]; omega
theorem lgK_text (w v : ByteArray) (j : Nat) : (textL true (lgK w v j)).length + 1 = (textL false (lgK w v j)).length := by
  cases j with
  | zero => simp [lgK, textL]
  | succ j => simp [lgK, textL]
theorem chk_zero {d : Dat} (hf : formedD d = true) (hp : parts d ≤ 100000) (hd : deepN d ≤ 1000) : chkD d = 0 := by
  unfold chkD
  rw [if_neg (by rw [hf]; decide), wrap_in _ (by omega), if_neg (by omega), if_neg (by omega)]
theorem swp_dropR {C : Ctx} {c : Code} {Q : AEx → AS → Prop} {st : AS} (n : Nat) (h2 : n ≤ st.h.rw.length) (h3 : (st.h.bx.all fun b => scPL (belowN st.h.bx.length) (belowN n) b.cs) = true) (h4 : (st.t.all fun p => p.2.scP (belowN st.h.bx.length) (belowN n)) = true)
    (h : SWP G0 C c Q ⟨st.t, ⟨st.h.bx, st.h.rw.take n⟩⟩) : SWP G0 C c Q st := fun E a w hr => by
  have hc := closeH hr (m := st.h.bx.length) (n := n) (Nat.le_refl _) h2 (by simp only [Hp.scB, Hp.take, List.take_length]; exact h3)
  simp only [Hp.take, List.take_length] at hc
  have hlk : ∀ s, (lk st.t s).scP (belowN st.h.bx.length) (belowN n) = true := by
    intro s
    revert h4
    generalize st.t = t
    intro h4
    induction t with
    | nil => rfl
    | cons p t ih =>
      obtain ⟨i, x⟩ := p
      simp only [List.all_cons, Bool.and_eq_true] at h4
      simp only [lk]
      split
      · exact h4.1
      · exact ih h4.2
  refine h { E with nb := st.h.bx.length, nr := n } a w ⟨hr.defers, hr.size, fun s => (hr.fr s).sc2 (hlk s) (Nat.le_refl _) (Nat.le_refl _) (fun _ _ => rfl) (fun _ _ => rfl) (fun _ h => h), hc, hr.lo, by rw [← hr.hp.nb]; exact hr.nb, hr.β, fun i hi hj => hr.own i hi (by have := hr.hp.nb; simp only [] at hj; omega), hr.up, hr.dn, hr.keep, hr.os, hr.tape, hr.out, hr.sz, fun j s k hj hk => hr.rows j s k (by
    rw [List.getElem?_take] at hj
    split at hj
    · exact hj
    · cases hj) hk⟩
theorem lg36 : symOk (lgW.extract 0 36) = true := by kernel_rfl
theorem lg37 : symOk (lgW.extract 0 37) = true := by kernel_rfl
theorem lg38 : symOk (lgW.extract 0 38) = true := by kernel_rfl
theorem lg39 : symOk (lgW.extract 0 39) = true := by kernel_rfl
theorem lgOk : symOk lgW = true := by kernel_rfl
theorem lgZ (a q : Nat) (hq : q = a % 6) : IntKind.wrap IntKind.i64 ((36 : Int) + IntKind.wrap IntKind.i64 (Int.ofNat (a % 6))) = ((36 + q : Nat) : Int) := by
  rw [← hq, IntKind.wrap_i64, IntKind.wrap_i64, Int.ofNat_eq_natCast]; omega
theorem lgU (u q : Nat) (z n : Int) (hn : n = 39) (hz : z = ((36 + q : Nat) : Int)) (hu : u = min (36 + q) 39) : (if (if n < z then n else z) > 1 then if n < z then (39 : Int) else z else (1 : Int)) = (u : Int) := by
  subst hn hz
  split <;> split <;> omega
theorem lgS (n w : Int) (u : Nat) (hn : n = 39) (hw : w = (u : Int)) (hu : u ≤ 39) : IntKind.wrap IntKind.i64 (IntKind.wrap IntKind.i64 (2 + IntKind.wrap IntKind.i64 (49999 * IntKind.wrap IntKind.i64 (n + 1))) + w) = ((1999962 + u : Nat) : Int) := by
  subst hn hw
  simp only [IntKind.wrap_i64]
  omega
theorem long_law (b : Int) (hb : 0 ≤ b ∧ b < 256) : Pure G0 5 [.int .u8 b] (fun r => r = .bool true) := by
  obtain ⟨a, rfl⟩ : ∃ a : Nat, b = (a : Int) := ⟨b.toNat, by omega⟩
  refine Fn.enterB Tryd.func5 Tryd.ntmps5 rfl (Nat.le_of_ble_eq_true rfl) fun C fr fp hnt hnb hp hfr hfp => ?_
  have fin : ∀ st H, nrm [2] st = ⟨[(2, .bool true)], H⟩ → fr st := fun st H hst => hfr st [2] (by
    rw [hst]
    exact ⟨0, .bool true, Nat.le_refl _, Nat.zero_le _, rfl, rfl, rfl, rfl, _, rfl, rfl⟩)
  refine Q.runSeq (SLl [] []) 100 90 hnt [0] (z := { t := [(0, PV.int IntKind.u8 (Int.ofNat a))], h := { bx := [], rw := [] } }) (o := []) (by kernel_rfl) (by ((repeat' (first | exact okO_nil | refine okN ?_ ?_)); all_goals first | assumption | rfl | exact same_of rfl | exact sameS_self _ | (simp only [decide_eq_true_eq, decide_eq_false_iff_not, Nat.ble_eq, Nat.beq_eq, beq_eq_false_iff_ne, beq_iff_eq, ne_eq] <;> omega))) ?_
  refine Q.runSeq (SLl [] []) 100 90 hnt [0, 3] (z := { t := [(0, PV.int IntKind.u8 (Int.ofNat a)), (3, PV.ptr 0 0)], h := { bx := [{ cs := [PV.int IntKind.i64 (0 : Int), PV.int IntKind.i64 (0 : Int), PV.str { data := #[] }, PV.nil], ty := 25 }], rw := [] } }) (o := []) (by kernel_rfl) (by ((repeat' (first | exact okO_nil | refine okN ?_ ?_)); all_goals first | assumption | rfl | exact same_of rfl | exact sameS_self _ | (simp only [decide_eq_true_eq, decide_eq_false_iff_not, Nat.ble_eq, Nat.beq_eq, beq_eq_false_iff_ne, beq_iff_eq, ne_eq] <;> omega))) ?_
  refine Q.runSeq (SLl [] []) 100 90 hnt [0, 3] (z := ⟨[(0, .int .u8 a), (3, .ptr 0 0)], ⟨[DBx .nil], []⟩⟩) (o := []) (by kernel_rfl) (by ((repeat' (first | exact okO_nil | refine okN ?_ ?_)); all_goals first | assumption | rfl | exact same_of rfl | exact sameS_self _ | (simp only [decide_eq_true_eq, decide_eq_false_iff_not, Nat.ble_eq, Nat.beq_eq, beq_eq_false_iff_ne, beq_iff_eq, ne_eq] <;> omega))) ?_
  refine Q.runSeq (SLl [] []) 100 90 hnt [0, 3, 4] (z := ⟨[(0, .int .u8 a), (3, .ptr 0 0), (4, .str lgW)], ⟨[DBx .nil], []⟩⟩) (o := []) (by kernel_rfl) (by ((repeat' (first | exact okO_nil | refine okN ?_ ?_)); all_goals first | assumption | rfl | exact same_of rfl | exact sameS_self _ | (simp only [decide_eq_true_eq, decide_eq_false_iff_not, Nat.ble_eq, Nat.beq_eq, beq_eq_false_iff_ne, beq_iff_eq, ne_eq] <;> omega))) ?_
  refine SWP.adoptB 0 3 25 4 rfl rfl ?_
  refine Q.seq fun K hK => ?_
  refine Q.runSeq (SLl [] []) 100 90 hnt [0, 3, 4, 5] (z := ⟨[(0, .int .u8 a), (3, .ptr 0 0), (4, .str lgW), (5, .int .i64 (0 : Nat))], ⟨[DBx (.own 0 0)], [some (jR [] 0)]⟩⟩) (o := []) (by kernel_rfl) (by ((repeat' (first | exact okO_nil | refine okN ?_ ?_)); all_goals first | assumption | rfl | exact same_of rfl | exact sameS_self _ | (simp only [decide_eq_true_eq, decide_eq_false_iff_not, Nat.ble_eq, Nat.beq_eq, beq_eq_false_iff_ne, beq_iff_eq, ne_eq] <;> omega))) ?_
  refine Q.block ?_
  let T (j : Nat) : AS := ⟨[(0, .int .u8 a), (3, .ptr 0 0), (4, .str lgW), (5, .int .i64 j)], ⟨[DBx (.own 0 j)], [some (jR (lgs lgW j).cells j)]⟩⟩
  obtain ⟨N, hN⟩ : ∃ N : Nat, N = 49999 := ⟨_, rfl⟩
  refine Q.loopI (σ := { j : Nat // j ≤ N }) [0, 3, 4, 5] (fun j => T j.1) (fun j => N - j.1) ⟨0, Nat.zero_le _⟩ rfl fun ⟨j, hj⟩ => ?_
  show SWP G0 C _ _ ⟨[(0, .int .u8 a), (3, .ptr 0 0), (4, .str lgW), (5, .int .i64 j)], ⟨[DBx (.own 0 j)], [some (jR (lgs lgW j).cells j)]⟩⟩
  obtain ⟨rc, hrc⟩ : ∃ rc, rc = (lgs lgW j).cells := ⟨_, rfl⟩
  refine swp_st (st' := ⟨[(0, .int .u8 a), (3, .ptr 0 0), (4, .str lgW), (5, .int .i64 j)], ⟨[DBx (.own 0 j)], [some (jR rc j)]⟩⟩) (by rw [hrc]) ?_
  refine Q.seq fun K2 hK2 => ?_
  rcases Nat.lt_or_ge j N with hlt | hge
  · have d1 : decide ((j : Int) < 49999) = true := by rw [decide_eq_true_eq]; omega
    refine SWP.runQ (SLl [(90, [(12, true)])] []) 100 90 hnt [0, 3, 4, 5] (e := .normal) (z := { t := [(0, PV.int IntKind.u8 (Int.ofNat a)), (3, PV.ptr 0 0), (4, PV.str lgW), (5, PV.int IntKind.i64 (Int.ofNat j))], h := { bx := [{ cs := [PV.int IntKind.i64 (3 : Int), PV.int IntKind.i64 (0 : Int), PV.str { data := #[] }, PV.own 0 j], ty := 25 }], rw := [some { cs := rc, n := j, ty := 25, sz := 4 }] } }) (o := [(decide ((↑j : Int) < 49999), true), (true, true)]) (by kernel_rfl) ((okO_cons (d1) (okO_cons (rfl) okO_nil))) (fun st hst => hK2 st (.norm [0, 3, 4, 5] ?_))
    rw [hst]
    clear hst hK2 d1
    refine Q.seq fun K3 hK3 => ?_
    refine Q.block ?_
    refine SWP.runLQ (SLl [(90, [(20, true)])] []) 100 90 hnt [0, 3, 4, 5] (l := List.replicate 1 { t := [(0, PV.int IntKind.u8 (Int.ofNat a)), (3, PV.ptr 0 0), (4, PV.str lgW), (5, PV.int IntKind.i64 (Int.ofNat j))], h := { bx := [{ cs := [PV.int IntKind.i64 (3 : Int), PV.int IntKind.i64 (0 : Int), PV.str { data := #[] }, PV.own 0 (j + 1)], ty := 25 }], rw := [some { cs := rc ++ [PV.int IntKind.i64 (2 : Int), PV.int IntKind.i64 (0 : Int), PV.str lgW, PV.slice 0 []], n := j + 1, ty := 25, sz := 4 }] } }) (o := [(true, true), (true, true), (Nat.ble ((j + 1) * 56) 140737488355328, true), (Nat.ble (j + 1) 9223372036854775807, true)]) (by kernel_rfl) (by ((repeat' (first | exact okO_nil | refine okN ?_ ?_)); all_goals first | assumption | rfl | exact same_of rfl | exact sameS_self _ | (simp only [decide_eq_true_eq, decide_eq_false_iff_not, Nat.ble_eq, Nat.beq_eq, beq_eq_false_iff_ne, beq_iff_eq, ne_eq] <;> omega))) (fun st hst => hK3 st (.norm [0, 3, 4, 5] ?_))
    rw [List.eq_of_mem_replicate hst]
    have hr2 : rc ++ [.int .i64 2, .int .i64 0, .str lgW, .slice 0 []] = (lgs lgW (j + 1)).cells := by rw [lgs_cells, hrc]
    obtain ⟨r2, hr⟩ : ∃ r2, r2 = rc ++ [.int .i64 2, .int .i64 0, .str lgW, .slice 0 []] := ⟨_, rfl⟩
    refine swp_st (st' := ⟨[(0, .int .u8 a), (3, .ptr 0 0), (4, .str lgW), (5, .int .i64 j)], ⟨[DBx (.own 0 (j + 1))], [some (jR r2 (j + 1))]⟩⟩) (by rw [hr]; rfl) ?_
    rw [hr2] at hr
    have wj : IntKind.wrap IntKind.i64 (Int.ofNat (j + 1)) = ((j + 1 : Nat) : Int) := wrapI (j + 1) (by omega)
    have e2 : (⟨[(0, .int .u8 a), (3, .ptr 0 0), (4, .str lgW), (5, .int .i64 (IntKind.wrap IntKind.i64 (Int.ofNat (j + 1))))], ⟨[DBx (.own 0 (j + 1))], [some (jR r2 (j + 1))]⟩⟩ : AS) = T (j + 1) := by rw [wj, hr]
    exact SWP.runQ (SLl [] []) 100 90 hnt [0, 3, 4, 5] (e := .normal) (z := ⟨[(0, .int .u8 a), (3, .ptr 0 0), (4, .str lgW), (5, .int .i64 (IntKind.wrap IntKind.i64 (Int.ofNat (j + 1))))], ⟨[DBx (.own 0 (j + 1))], [some (jR r2 (j + 1))]⟩⟩) (o := []) (by kernel_rfl) (by ((repeat' (first | exact okO_nil | refine okN ?_ ?_)); all_goals first | assumption | rfl | exact same_of rfl | exact sameS_self _ | (simp only [decide_eq_true_eq, decide_eq_false_iff_not, Nat.ble_eq, Nat.beq_eq, beq_eq_false_iff_ne, beq_iff_eq, ne_eq] <;> omega))) (fun st hst => ⟨⟨j + 1, hlt⟩, Nat.sub_lt_sub_left hlt (Nat.lt_succ_self j), hst.trans e2⟩)
  · have d1 : decide ((j : Int) < 49999) = false := by rw [decide_eq_false_iff_not]; omega
    have hm : j = 49999 := by omega
    clear hN
    refine SWP.runQ (SLl [(90, [(12, false)])] []) 100 90 hnt [0, 3, 4] (e := .exit 0) (z := { t := [(0, PV.int IntKind.u8 (Int.ofNat a)), (3, PV.ptr 0 0), (4, PV.str lgW)], h := { bx := [{ cs := [PV.int IntKind.i64 (3 : Int), PV.int IntKind.i64 (0 : Int), PV.str { data := #[] }, PV.own 0 j], ty := 25 }], rw := [some { cs := rc, n := j, ty := 25, sz := 4 }] } }) (o := [(decide ((↑j : Int) < 49999), false), (false, false)]) (by kernel_rfl) ((okO_cons (d1) (okO_cons (rfl) okO_nil))) (fun st hst => hK st (.norm [0, 3, 4] ?_))
    rw [hst]
    clear hst hK hK2 K K2 d1 hge hj T
    obtain ⟨m, hmj⟩ : ∃ m, m = j := ⟨_, rfl⟩
    rw [← hmj] at hm hrc ⊢
    obtain ⟨q, hq⟩ : ∃ q, q = a % 6 := ⟨_, rfl⟩
    have hq6 : q < 6 := by omega
    obtain ⟨u, hu⟩ : ∃ u : Nat, u = min (36 + q) 39 := ⟨_, rfl⟩
    obtain ⟨w, hw⟩ : ∃ w, w = lgW.extract 0 u := ⟨_, rfl⟩
    have hWs : lgW.size = 39 := rfl
    have hws : w.size = u := by rw [hw, ByteArray.size_extract, hWs]; omega
    have hy : symOk w = true := by
      have h : u = 36 ∨ u = 37 ∨ u = 38 ∨ u = 39 := by omega
      rw [hw]
      rcases h with h | h | h | h
      · rw [h]; exact lg36
      · rw [h]; exact lg37
      · rw [h]; exact lg38
      · rw [h]; exact lg39
    have hyW : symOk lgW = true := lgOk
    have b1 : same (PV.int IntKind.i64 (IntKind.wrap IntKind.i64 ((36 : Int) + IntKind.wrap IntKind.i64 (Int.ofNat (a % 6))))) (PV.int IntKind.i64 ((36 + q : Nat) : Int)) = true := same_of (congrArg (PV.int IntKind.i64) (lgZ a q hq))
    refine Q.runSeq (SLl [] [(90, [(31, .int .i64 ((36 + q : Nat) : Int))])]) 100 90 hnt [3, 4, 6] (z := ⟨[(3, .ptr 0 0), (4, .str lgW), (6, .int .i64 ((36 + q : Nat) : Int))], ⟨[DBx (.own 0 m)], [some (jR rc m)]⟩⟩) (o := [(same (PV.int IntKind.i64 (IntKind.wrap IntKind.i64 ((36 : Int) + IntKind.wrap IntKind.i64 (Int.ofNat (a % 6))))) (PV.int IntKind.i64 ((36 + q : Nat) : Int)), true)]) (by kernel_rfl) (by ((repeat' (first | exact okO_nil | refine okN ?_ ?_)); all_goals first | assumption | rfl | exact same_of rfl | exact sameS_self _ | (simp only [decide_eq_true_eq, decide_eq_false_iff_not, Nat.ble_eq, Nat.beq_eq, beq_eq_false_iff_ne, beq_iff_eq, ne_eq] <;> omega))) ?_
    obtain ⟨z, hz⟩ : ∃ z : Int, z = ((36 + q : Nat) : Int) := ⟨_, rfl⟩
    rw [← hz]
    obtain ⟨v, hv⟩ : ∃ v : Int, v = (u : Int) := ⟨_, rfl⟩
    have c1 : same (PV.int IntKind.i64 (if (if (lgW.size : Int) < z then (lgW.size : Int) else z) > 1 then if (lgW.size : Int) < z then (39 : Int) else z else (1 : Int))) (PV.int IntKind.i64 v) = true := same_of (congrArg (PV.int IntKind.i64) ((lgU u q z _ (by rw [hWs]; rfl) hz hu).trans hv.symm))
    have c2 : decide ((0 : Int) ≤ ((0 : Nat) : Int) ∧ ((0 : Nat) : Int) ≤ v ∧ v ≤ (lgW.size : Int)) = true := by rw [decide_eq_true_eq, hWs, hv]; omega
    have c3 : same (PV.str (ByteArray.extract lgW 0 (Int.toNat v))) (PV.str w) = true := same_of (by rw [hv, hw, Int.toNat_natCast])
    refine Q.seq fun K hK => ?_
    refine SWP.runLQ (SLl [(90, [(40, true), (43, true)])] [(90, [(39, .int .i64 v), (40, .str w)])]) 100 90 hnt [3, 4] (l := List.replicate 1 { t := [(3, PV.ptr 0 0), (4, PV.str lgW)], h := { bx := [{ cs := [PV.int IntKind.i64 (3 : Int), PV.int IntKind.i64 (0 : Int), PV.str { data := #[] }, PV.own 0 (m + 1)], ty := 25 }], rw := [some { cs := rc ++ [PV.int IntKind.i64 (2 : Int), PV.int IntKind.i64 (0 : Int), PV.str w, PV.slice 0 []], n := m + 1, ty := 25, sz := 4 }] } }) (o := [(same (PV.int IntKind.i64 (if (if (lgW.size : Int) < z then (lgW.size : Int) else z) > 1 then if (lgW.size : Int) < z then (39 : Int) else z else (1 : Int))) (PV.int IntKind.i64 v), true), (decide ((0 : Int) ≤ ((0 : Nat) : Int) ∧ ((0 : Nat) : Int) ≤ v ∧ v ≤ (lgW.size : Int)), true), (same (PV.str (ByteArray.extract lgW 0 (Int.toNat v))) (PV.str w), true), (true, true), (true, true), (Nat.ble ((m + 1) * 56) 140737488355328, true), (Nat.ble (m + 1) 9223372036854775807, true)]) (by kernel_rfl) (by ((repeat' (first | exact okO_nil | refine okN ?_ ?_)); all_goals first | assumption | rfl | exact same_of rfl | exact sameS_self _ | (simp only [decide_eq_true_eq, decide_eq_false_iff_not, Nat.ble_eq, Nat.beq_eq, beq_eq_false_iff_ne, beq_iff_eq, ne_eq] <;> omega))) (fun st hst => hK st (.norm [3, 4] ?_))
    rw [List.eq_of_mem_replicate hst]
    clear hst hK
    refine SWP.frz [0] ?_
    refine swp_dropR 0 (Nat.zero_le _) rfl rfl ?_
    obtain ⟨k1, k2, k3, k4, k5, k6, k7⟩ := lgK_ok lgW w hyW hy m
    have hcells : rc ++ [.int .i64 2, .int .i64 0, .str w, .slice 0 []] = (lgK lgW w m).cells := by rw [lgK_cells, hrc]
    have htx := lgK_text lgW w m
    have hcell : (List.headD (List.drop 2 (List.drop (Int.toNat 49999 * 4) (lgK lgW w m).cells)) .junk) = .str w := by
      have hl : ((lgs lgW m).cells).length = m * 4 := by rw [Dats.cells_len, lgs_len]
      have ht : Int.toNat 49999 = m := by rw [hm]; rfl
      rw [lgK_cells, ht, ← hl, List.drop_left]
      rfl
    have hlenc : decide (1 ≤ List.length (List.drop 2 (List.drop (Int.toNat 49999 * 4) (lgK lgW w m).cells))) = true := by
      have ht : Int.toNat 49999 = m := by rw [hm]; rfl
      rw [decide_eq_true_eq, List.length_drop, List.length_drop, Dats.cells_len, k1, ht]; omega
    obtain ⟨ks, hks⟩ : ∃ ks, ks = lgK lgW w m := ⟨_, rfl⟩
    rw [← hks] at k1 k2 k3 k4 k5 k6 k7 hcells htx hcell hlenc
    have hn : m + 1 = ks.len := by rw [k1]
    obtain ⟨n, hn2⟩ : ∃ n, n = ks.len := ⟨_, rfl⟩
    obtain ⟨cs, hcs⟩ : ∃ cs, cs = ks.cells := ⟨_, rfl⟩
    refine swp_st (st' := ⟨[(3, .ptr 0 0), (4, .str lgW)], ⟨[DBx (.slice n cs)], []⟩⟩) (by rw [hn2, hcs, ← hn, ← hcells]; rfl) ?_
    have hD : ∀ {α : Type} (f : Dat → α) (z : α), ofCells f z [PV.int IntKind.i64 3, PV.int IntKind.i64 0, PV.str ⟨#[]⟩, PV.slice n cs] = f (.mk 3 0 ⟨#[]⟩ ks) := fun f z => by rw [hn2, hcs]; exact ofCells_at f z (.mk 3 0 ⟨#[]⟩ ks)
    have hform : formedD (.mk 3 0 ⟨#[]⟩ ks) = true := by simp only [formedD, k5]; rfl
    have hprt : parts (.mk 3 0 ⟨#[]⟩ ks) = 50001 := by show partsL ks + 1 = _; rw [k4, hm]
    have hchk : chkD (.mk 3 0 ⟨#[]⟩ ks) = 0 := chk_zero hform (by rw [hprt]; decide) (by show deepNL ks + 1 ≤ 1000; omega)
    have hokD : (Dat.mk 3 0 ⟨#[]⟩ ks).ok := ⟨by rw [k1]; omega, k2⟩
    have hrngD : (Dat.mk 3 0 ⟨#[]⟩ ks).rng := ⟨by decide, k3⟩
    have hsm : Small (.mk 3 0 ⟨#[]⟩ ks) := ⟨hokD, hrngD, by rw [hprt]; decide⟩
    have htl : (textD (.mk 3 0 ⟨#[]⟩ ks)).length = 1999962 + u := by
      have e : (textD (.mk 3 0 ⟨#[]⟩ ks)).length = (textL true ks).length + 2 := by
        rw [textD]
        simp only [show ¬ (3 : Int) = 1 by decide, show ¬ (3 : Int) = 2 by decide, if_false, List.length_cons, List.length_append, List.length_nil]
      rw [e]
      rw [hWs, hws, hm] at k7
      omega
    obtain ⟨y, hyy⟩ : ∃ y, y = wrBC [PV.int IntKind.i64 3, PV.int IntKind.i64 0, PV.str ⟨#[]⟩, PV.slice n cs] := ⟨_, rfl⟩
    have ee : wrEC [PV.int IntKind.i64 3, PV.int IntKind.i64 0, PV.str ⟨#[]⟩, PV.slice n cs] = wrE (.mk 3 0 ⟨#[]⟩ ks) := hD wrE 0
    have eb : wrBC [PV.int IntKind.i64 3, PV.int IntKind.i64 0, PV.str ⟨#[]⟩, PV.slice n cs] = wrB (.mk 3 0 ⟨#[]⟩ ks) := hD wrB ⟨#[]⟩
    have et : txC [PV.int IntKind.i64 3, PV.int IntKind.i64 0, PV.str ⟨#[]⟩, PV.slice n cs] = textD (.mk 3 0 ⟨#[]⟩ ks) := hD textD []
    have o1 : isSml [PV.int IntKind.i64 3, PV.int IntKind.i64 0, PV.str ⟨#[]⟩, PV.slice n cs] = true := by rw [hn2, hcs]; exact isSml_at (d := .mk 3 0 ⟨#[]⟩ ks) hsm
    have o2 : same (PV.str (wrBC [PV.int IntKind.i64 3, PV.int IntKind.i64 0, PV.str ⟨#[]⟩, PV.slice n cs])) (PV.str y) = true := same_of (by rw [hyy])
    have o3 : decide ((0 : Int) ≤ 49999 ∧ 49999 < (n : Int)) = true := by rw [decide_eq_true_eq, hn2, k1]; omega
    have o4 : decide (1 ≤ List.length (List.drop 2 (List.drop (Int.toNat 49999 * 4) cs))) = true := by rw [hcs]; exact hlenc
    have o5 : same (List.headD (List.drop 2 (List.drop (Int.toNat 49999 * 4) cs)) .junk) (PV.str w) = true := same_of (by rw [hcs]; exact hcell)
    have hsum : IntKind.wrap IntKind.i64 (IntKind.wrap IntKind.i64 (2 + IntKind.wrap IntKind.i64 (49999 * IntKind.wrap IntKind.i64 ((lgW.size : Int) + 1))) + (w.size : Int)) = ((1999962 + u : Nat) : Int) := lgS _ _ u (by rw [hWs]; rfl) (by rw [hws]) (by rw [hu]; exact Nat.min_le_right _ _)
    have hsum2 : IntKind.wrap IntKind.i64 (Int.ofNat (1999962 + w.size)) = ((1999962 + u : Nat) : Int) := by rw [hws]; exact wrapI _ (by omega)
    have o9 : isTxt [PV.int IntKind.i64 3, PV.int IntKind.i64 0, PV.str ⟨#[]⟩, PV.slice n cs] = true := by rw [hn2, hcs]; exact isTxt_at (d := .mk 3 0 ⟨#[]⟩ ks) hokD hrngD (by rw [htl]; omega)
    by_cases hbig : u = 39
    · have wE : wrE (.mk 3 0 ⟨#[]⟩ ks) = 3 := by unfold wrE; rw [if_pos hchk, if_neg (by omega)]
      have wB : wrB (.mk 3 0 ⟨#[]⟩ ks) = ⟨#[]⟩ := by unfold wrB; rw [if_pos hchk, if_neg (by omega)]
      have p1 : decide ((2000000 : Int) < IntKind.wrap IntKind.i64 (IntKind.wrap IntKind.i64 (2 + IntKind.wrap IntKind.i64 (49999 * IntKind.wrap IntKind.i64 ((lgW.size : Int) + 1))) + (w.size : Int))) = true := by rw [hsum, decide_eq_true_eq]; omega
      have p2 : (ByteArray.toList y == []) = true := by rw [hyy, eb, wB, bl_eq]; rfl
      have p3 : (wrEC [PV.int IntKind.i64 3, PV.int IntKind.i64 0, PV.str ⟨#[]⟩, PV.slice n cs] == (3 : Int)) = true := by rw [ee, wE]; rfl
      exact SWP.runQ (SLl [(90, [(57, true), (59, true), (63, true), (65, true), (68, true)])] [(90, [(48, .str y), (59, .str w)])]) 100 90 hnt [2] (e := .ret) (z := ⟨[(2, .bool true)], ⟨[⟨[PV.int IntKind.i64 3, PV.int IntKind.i64 0, PV.str ⟨#[]⟩, PV.slice n cs], 25⟩], []⟩⟩) (o := [(true, true), (isSml [PV.int IntKind.i64 3, PV.int IntKind.i64 0, PV.str ⟨#[]⟩, PV.slice n cs], true), (same (PV.str (wrBC [PV.int IntKind.i64 3, PV.int IntKind.i64 0, PV.str ⟨#[]⟩, PV.slice n cs])) (PV.str y), true), (decide ((0 : Int) ≤ 49999 ∧ 49999 < (n : Int)), true), (decide (1 ≤ List.length (List.drop 2 (List.drop (Int.toNat 49999 * 4) cs))), true), (same (List.headD (List.drop 2 (List.drop (Int.toNat 49999 * 4) cs)) .junk) (PV.str w), true), (decide ((2000000 : Int) < IntKind.wrap IntKind.i64 (IntKind.wrap IntKind.i64 (2 + IntKind.wrap IntKind.i64 (49999 * IntKind.wrap IntKind.i64 ((lgW.size : Int) + 1))) + (w.size : Int))), true), (true, true), (ByteArray.toList y == [], true), (wrEC [PV.int IntKind.i64 3, PV.int IntKind.i64 0, PV.str ⟨#[]⟩, PV.slice n cs] == (3 : Int), true), (true, true)]) (by kernel_rfl) (by ((repeat' (first | exact okO_nil | refine okN ?_ ?_)); all_goals first | assumption | rfl | exact same_of rfl | exact sameS_self _ | (simp only [decide_eq_true_eq, decide_eq_false_iff_not, Nat.ble_eq, Nat.beq_eq, beq_eq_false_iff_ne, beq_iff_eq, ne_eq] <;> omega))) (fun st hst => fin st _ hst)
    · have wE : wrE (.mk 3 0 ⟨#[]⟩ ks) = 0 := by unfold wrE; rw [if_pos hchk, if_pos (by omega)]
      have wB : wrB (.mk 3 0 ⟨#[]⟩ ks) = mkS (textD (.mk 3 0 ⟨#[]⟩ ks)) := by unfold wrB; rw [if_pos hchk, if_pos (by omega)]
      have p1 : decide ((2000000 : Int) < IntKind.wrap IntKind.i64 (IntKind.wrap IntKind.i64 (2 + IntKind.wrap IntKind.i64 (49999 * IntKind.wrap IntKind.i64 ((lgW.size : Int) + 1))) + (w.size : Int))) = false := by rw [hsum, decide_eq_false_iff_not]; omega
      have p2 : (wrEC [PV.int IntKind.i64 3, PV.int IntKind.i64 0, PV.str ⟨#[]⟩, PV.slice n cs] == (0 : Int)) = true := by rw [ee, wE]; rfl
      have p3 : (Int.ofNat (ByteArray.size y) == IntKind.wrap IntKind.i64 (Int.ofNat (1999962 + ByteArray.size w))) = true := by rw [hsum2, hyy, eb, wB, mkS_size, htl]; exact beq_self_eq_true _
      have p4 : (ByteArray.toList y == ByteArray.toList (mkS (txC [PV.int IntKind.i64 3, PV.int IntKind.i64 0, PV.str ⟨#[]⟩, PV.slice n cs]))) = true := by rw [hyy, eb, wB, et]; exact beq_self_eq_true _
      exact SWP.runQ (SLl [(90, [(57, true), (59, true), (63, false), (74, true), (79, true), (85, true)])] [(90, [(48, .str y), (59, .str w)])]) 100 90 hnt [2] (e := .ret) (z := ⟨[(2, .bool true)], ⟨[⟨[PV.int IntKind.i64 3, PV.int IntKind.i64 0, PV.str ⟨#[]⟩, PV.slice n cs], 25⟩], []⟩⟩) (o := [(true, true), (isSml [PV.int IntKind.i64 3, PV.int IntKind.i64 0, PV.str ⟨#[]⟩, PV.slice n cs], true), (same (PV.str (wrBC [PV.int IntKind.i64 3, PV.int IntKind.i64 0, PV.str ⟨#[]⟩, PV.slice n cs])) (PV.str y), true), (decide ((0 : Int) ≤ 49999 ∧ 49999 < (n : Int)), true), (decide (1 ≤ List.length (List.drop 2 (List.drop (Int.toNat 49999 * 4) cs))), true), (same (List.headD (List.drop 2 (List.drop (Int.toNat 49999 * 4) cs)) .junk) (PV.str w), true), (decide ((2000000 : Int) < IntKind.wrap IntKind.i64 (IntKind.wrap IntKind.i64 (2 + IntKind.wrap IntKind.i64 (49999 * IntKind.wrap IntKind.i64 ((lgW.size : Int) + 1))) + (w.size : Int))), false), (false, false), (wrEC [PV.int IntKind.i64 3, PV.int IntKind.i64 0, PV.str ⟨#[]⟩, PV.slice n cs] == (0 : Int), true), (Int.ofNat (ByteArray.size y) == IntKind.wrap IntKind.i64 (Int.ofNat (1999962 + ByteArray.size w)), true), (true, true), (isTxt [PV.int IntKind.i64 3, PV.int IntKind.i64 0, PV.str ⟨#[]⟩, PV.slice n cs], true), (ByteArray.toList y == ByteArray.toList (mkS (txC [PV.int IntKind.i64 3, PV.int IntKind.i64 0, PV.str ⟨#[]⟩, PV.slice n cs])), true), (true, true)]) (by kernel_rfl) (by ((repeat' (first | exact okO_nil | refine okN ?_ ?_)); all_goals first | assumption | rfl | exact same_of rfl | exact sameS_self _ | (simp only [decide_eq_true_eq, decide_eq_false_iff_not, Nat.ble_eq, Nat.beq_eq, beq_eq_false_iff_ne, beq_iff_eq, ne_eq] <;> omega))) (fun st hst => fin st _ hst)
end Seat
end Go.Proofs.YtenpjkcclmmlhaaDoor
/- Layout: numbers that are handed in. -/
namespace Go.Proofs.YtenpjkcclmmlhaaDoor.Seat
open Go.ChangeShapes Go.WideShapes Go.ChangeAt Go.RowKit Go.AS
set_option linter.unusedVariables false
set_option maxRecDepth 100000
def flatBT (t : TypeId) : Prop := t = 5
theorem flatB : Flat Tryd.prog flatBT := ⟨fun t ht => by
  rw [ht]
  exact .inr (.inl ⟨_, Tryd.underlying5⟩)⟩
theorem range8 {b : Int} (h : (Lit.int .u8 b).wf = true) : 0 ≤ b ∧ b < 256 := by
  have : 0 ≤ b ∧ b ≤ 255 := by simpa [Lit.wf, IntKind.min, IntKind.max, IntKind.signed, IntKind.bits] using h
  omega
end Go.Proofs.YtenpjkcclmmlhaaDoor.Seat
