/- PrimKinds: the law's walk. -/
import Derived.Test.YteimebpgmfhgjaaDoorBase1
namespace Go.Proofs.YteimebpgmfhgjaaDoor
open Go.AS
set_option linter.unusedVariables false
set_option linter.unusedSimpArgs false
set_option maxRecDepth 100000
namespace Seat
theorem chk0_kind {k n : Int} {s : ByteArray} {ks : Dats} (h : chkD (.mk k n s ks) = 0) : k = 1 ∨ k = 2 ∨ k = 3 := by
  unfold chkD at h
  split at h
  · cases h
  · rename_i h1
    simp only [Bool.not_eq_false, formedD, Bool.or_eq_true, Bool.and_eq_true, decide_eq_true_eq] at h1
    rcases h1 with (h1 | h1) | h1
    · exact .inl h1.1.1
    · exact .inr (.inl h1.1.1.1)
    · exact .inr (.inr h1.1.1.1)
def kName : Nat → ByteArray
  | 0 => ⟨#[108, 105, 115, 116, 63]⟩
  | 1 => ⟨#[110, 117, 109, 63]⟩
  | _ => ⟨#[115, 121, 109, 63]⟩
def kBit (k : Int) : Nat → Int
  | 0 => if k = 3 then 1 else 0
  | 1 => if k = 1 then 1 else 0
  | _ => if k = 2 then 1 else 0
def kSum (k : Int) : Nat → Int
  | 0 => 0
  | j + 1 => kSum k j + kBit k j
theorem kinds_law (d : Dat) (hd : d.ok) : Pure G0 9 [.agg d.cells] (fun r => r = .bool true) := by
  have hg := cut_good d hd 1000 300 (by omega)
  obtain ⟨k2, n2, s2, ks2, e⟩ := Dat.is_mk (cutD d 300 1000).1
  rw [e] at hg
  have hgA : isGood [.int .i64 k2, .int .i64 n2, .str s2, .slice ks2.len ks2.cells] = true := isGood_at hg
  have hcA : ofCells chkD 0 [.int .i64 k2, .int .i64 n2, .str s2, .slice ks2.len ks2.cells] = chkD (.mk k2 n2 s2 ks2) := ofCells_at chkD 0 (.mk k2 n2 s2 ks2)
  have e1 : ofCells (fun d => (cutD d 300 1000).1.cells) [] d.cells = [.int .i64 k2, .int .i64 n2, .str s2, .slice ks2.len ks2.cells] := by rw [ofCells_at, e]; rfl
  have hok := isOk_at hd
  obtain ⟨k, n, s, ks⟩ := d
  let D : Box := ⟨[.int .i64 k, .int .i64 n, .str s, .slice ks.len ks.cells], 24⟩
  let A : Box := ⟨[.int .i64 k2, .int .i64 n2, .str s2, .slice ks2.len ks2.cells], 24⟩
  refine Fn.enterB Tryd.func9 Tryd.ntmps9 rfl (Nat.le_of_ble_eq_true rfl) fun C fr fp hnt hnb hp hfr hfp => ?_
  refine Q.runSeq S0 50 64 hnt [1] (z := ⟨[(1, .ptr 0 0)], ⟨[D], []⟩⟩) (o := []) (by kernel_rfl) okO_nil ?_
  refine Q.runSeq (SL [] [(64, [(11, .agg A.cs)])]) 50 64 hnt [3] (z := ⟨[(3, .ptr 1 0)], ⟨[D, A], []⟩⟩) (o := [(true, true), (isOk D.cs, true), (true, true), (same (.agg (ofCells (fun d => (cutD d 300 1000).1.cells) [] D.cs)) (.agg A.cs), true)]) (by kernel_rfl) (fun p hm => ?_) ?_
  · simp only [List.mem_cons, List.not_mem_nil, or_false] at hm
    rcases hm with rfl | rfl | rfl | rfl
    · rfl
    · exact hok
    · rfl
    · exact same_of (congrArg PV.agg e1)
  refine Q.seq fun K hK => ?_
  by_cases hc : chkD (.mk k2 n2 s2 ks2) = 0
  rotate_left
  · refine SWP.runQ (SL [(64, [(14, true)])] []) 100 64 hnt [2] (e := .ret) (z := ⟨[(2, .bool true)], ⟨[D, A], []⟩⟩) (o := [(true, true), (isGood A.cs, true), (ofCells chkD 0 A.cs != 0, true), (true, true), (true, true)]) (by kernel_rfl) (fun p hm => ?_) (fun st hs => hfr st [2] ?_)
    · simp only [List.mem_cons, List.not_mem_nil, or_false] at hm
      rcases hm with rfl | rfl | rfl | rfl | rfl
      · rfl
      · exact hgA
      · show (ofCells chkD 0 [.int .i64 k2, .int .i64 n2, .str s2, .slice ks2.len ks2.cells] != 0) = true
        rw [hcA]; simpa using hc
      · rfl
      · rfl
    · rw [hs]
      exact ⟨0, .bool true, Nat.le_refl _, Nat.zero_le _, rfl, rfl, rfl, rfl, _, rfl, rfl⟩
  let PA : Ob := [(true, true), (isGood A.cs, true), (ofCells chkD 0 A.cs != 0, false), (false, false)]
  have okA : okO PA := fun p hm => by
    simp only [PA, List.mem_cons, List.not_mem_nil, or_false] at hm
    rcases hm with rfl | rfl | rfl | rfl
    · rfl
    · exact hgA
    · show (ofCells chkD 0 [.int .i64 k2, .int .i64 n2, .str s2, .slice ks2.len ks2.cells] != 0) = false
      rw [hcA, hc]; rfl
    · rfl
  refine SWP.runQ (SL [(64, [(14, false)])] []) 100 64 hnt [3] (e := .normal) (z := ⟨[(3, .ptr 1 0)], ⟨[D, A], []⟩⟩) (o := [(true, true), (isGood A.cs, true), (ofCells chkD 0 A.cs != 0, false), (false, false)]) (by kernel_rfl) okA (fun st hs => hK st (.norm [3] ?_))
  rw [hs]
  have hk := chk0_kind hc
  let N3 : PV := .slice 3 [.str (kName 0), .str (kName 1), .str (kName 2)]
  refine Q.runSeq S0 50 64 hnt [3, 4] (z := ⟨[(3, .ptr 1 0), (4, .int .i64 0)], ⟨[D, A], []⟩⟩) (o := []) (by kernel_rfl) okO_nil ?_
  refine Q.runSeq S0 50 64 hnt [3, 4, 5] (z := ⟨[(3, .ptr 1 0), (4, .int .i64 0), (5, N3)], ⟨[D, A], []⟩⟩) (o := []) (by kernel_rfl) okO_nil ?_
  refine Q.seq fun K6 hK6 => ?_
  let T (j : Nat) : AS := ⟨[(3, .ptr 1 0), (4, .int .i64 (kSum k2 j)), (5, N3), (6, .int .i64 j)], ⟨[D, A], []⟩⟩
  refine Q.runSeq S0 50 64 hnt [3, 4, 5, 6] (z := T 0) (o := []) (by kernel_rfl) okO_nil ?_
  refine Q.block ?_
  refine Q.loopI (σ := { j : Nat // j ≤ 3 }) [3, 4, 5, 6] (fun j => T j.1) (fun j => 3 - j.1) ⟨0, Nat.zero_le _⟩ rfl fun ⟨j, hj⟩ => ?_
  have hj3 : j = 0 ∨ j = 1 ∨ j = 2 ∨ j = 3 := by omega
  rcases hj3 with rfl | rfl | rfl | rfl
  rotate_right
  · refine SWP.runQ S0 50 64 hnt [3, 4, 5, 6] (e := .exit 0) (z := T 3) (o := []) (by kernel_rfl) okO_nil (fun st hs => hK6 st (.norm [3, 4, 5, 6] ?_))
    rw [hs]
    have hs1 : kSum k2 3 = 1 := by rcases hk with rfl | rfl | rfl <;> rfl
    simp only [T, hs1]
    refine SWP.runQ (SL [] []) 100 64 hnt [2] (e := .ret) (z := ⟨[(2, .bool true)], ⟨[D, A], []⟩⟩) (o := [(true, true)]) (by kernel_rfl) (fun p hm => by rw [List.mem_singleton.1 hm]) (fun st hs => hfr st [2] ?_)
    rw [hs]
    exact ⟨0, .bool true, Nat.le_refl _, Nat.zero_le _, rfl, rfl, rfl, rfl, _, rfl, rfl⟩
  · refine Q.runSeq S0 50 64 hnt [3, 4, 5, 6] (z := T 0) (o := []) (by kernel_rfl) okO_nil ?_
    refine Q.seq fun K4 hK4 => ?_
    refine Q.block ?_
    let R : Box := ⟨[.int .i64 1, .int .i64 (kBit k2 0), .str ⟨#[]⟩, .nil], 24⟩
    let Z9 : AS := ⟨(T 0).t ++ [(7, .ptr 2 0), (8, .int .i64 0), (9, .int .i64 0)], ⟨[D, A, R], []⟩⟩
    let Z12 : AS := ⟨[(3, .ptr 1 0), (4, .int .i64 (kSum k2 (0 + 1))), (5, N3), (6, .int .i64 0)], ⟨[D, A, R], []⟩⟩
    have more : ∀ st, nrm [3, 4, 5, 6] st = Z12 → K4 st := fun st hst => by
      refine hK4 st (.norm [3, 4, 5, 6] ?_)
      rw [hst]
      refine SWP.drop 2 (by rw [hnb]; exact Nat.zero_le _) (Nat.le_of_ble_eq_true rfl) rfl rfl rfl ?_
      exact SWP.runQ S0 50 64 hnt [3, 4, 5, 6] (e := .normal) (z := T (0 + 1)) (o := []) (by kernel_rfl) okO_nil (fun st hs => ⟨⟨0 + 1, Nat.le_of_ble_eq_true rfl⟩, Nat.le_of_ble_eq_true rfl, hs⟩)
    rcases hk with rfl | rfl | rfl
    all_goals
      refine runSeqN 21 (SL [(48, [(31, false)])] []) 100 64 hnt [3, 4, 5, 6, 7, 8, 9] (z := Z9) (o := PA ++ (PA ++ PA)) (by kernel_rfl) (okO_app okA (okO_app okA okA)) ?_
      exact SWP.runQ S0 50 64 hnt [3, 4, 5, 6] (e := .normal) (z := Z12) (o := []) (by kernel_rfl) okO_nil more
  · refine Q.runSeq S0 50 64 hnt [3, 4, 5, 6] (z := T 1) (o := []) (by kernel_rfl) okO_nil ?_
    refine Q.seq fun K4 hK4 => ?_
    refine Q.block ?_
    let R : Box := ⟨[.int .i64 1, .int .i64 (kBit k2 1), .str ⟨#[]⟩, .nil], 24⟩
    let Z9 : AS := ⟨(T 1).t ++ [(7, .ptr 2 0), (8, .int .i64 0), (9, .int .i64 0)], ⟨[D, A, R], []⟩⟩
    let Z12 : AS := ⟨[(3, .ptr 1 0), (4, .int .i64 (kSum k2 (1 + 1))), (5, N3), (6, .int .i64 1)], ⟨[D, A, R], []⟩⟩
    have more : ∀ st, nrm [3, 4, 5, 6] st = Z12 → K4 st := fun st hst => by
      refine hK4 st (.norm [3, 4, 5, 6] ?_)
      rw [hst]
      refine SWP.drop 2 (by rw [hnb]; exact Nat.zero_le _) (Nat.le_of_ble_eq_true rfl) rfl rfl rfl ?_
      exact SWP.runQ S0 50 64 hnt [3, 4, 5, 6] (e := .normal) (z := T (1 + 1)) (o := []) (by kernel_rfl) okO_nil (fun st hs => ⟨⟨1 + 1, Nat.le_of_ble_eq_true rfl⟩, Nat.le_of_ble_eq_true rfl, hs⟩)
    rcases hk with rfl | rfl | rfl
    all_goals
      refine runSeqN 21 (SL [(48, [(31, false)])] []) 100 64 hnt [3, 4, 5, 6, 7, 8, 9] (z := Z9) (o := PA ++ (PA ++ PA)) (by kernel_rfl) (okO_app okA (okO_app okA okA)) ?_
      exact SWP.runQ S0 50 64 hnt [3, 4, 5, 6] (e := .normal) (z := Z12) (o := []) (by kernel_rfl) okO_nil more
  · refine Q.runSeq S0 50 64 hnt [3, 4, 5, 6] (z := T 2) (o := []) (by kernel_rfl) okO_nil ?_
    refine Q.seq fun K4 hK4 => ?_
    refine Q.block ?_
    let R : Box := ⟨[.int .i64 1, .int .i64 (kBit k2 2), .str ⟨#[]⟩, .nil], 24⟩
    let Z9 : AS := ⟨(T 2).t ++ [(7, .ptr 2 0), (8, .int .i64 0), (9, .int .i64 0)], ⟨[D, A, R], []⟩⟩
    let Z12 : AS := ⟨[(3, .ptr 1 0), (4, .int .i64 (kSum k2 (2 + 1))), (5, N3), (6, .int .i64 2)], ⟨[D, A, R], []⟩⟩
    have more : ∀ st, nrm [3, 4, 5, 6] st = Z12 → K4 st := fun st hst => by
      refine hK4 st (.norm [3, 4, 5, 6] ?_)
      rw [hst]
      refine SWP.drop 2 (by rw [hnb]; exact Nat.zero_le _) (Nat.le_of_ble_eq_true rfl) rfl rfl rfl ?_
      exact SWP.runQ S0 50 64 hnt [3, 4, 5, 6] (e := .normal) (z := T (2 + 1)) (o := []) (by kernel_rfl) okO_nil (fun st hs => ⟨⟨2 + 1, Nat.le_of_ble_eq_true rfl⟩, Nat.le_of_ble_eq_true rfl, hs⟩)
    rcases hk with rfl | rfl | rfl
    all_goals
      refine runSeqN 21 (SL [(48, [(31, false)])] []) 100 64 hnt [3, 4, 5, 6, 7, 8, 9] (z := Z9) (o := PA ++ (PA ++ PA)) (by kernel_rfl) (okO_app okA (okO_app okA okA)) ?_
      exact SWP.runQ S0 50 64 hnt [3, 4, 5, 6] (e := .normal) (z := Z12) (o := []) (by kernel_rfl) okO_nil more
end Seat
end Go.Proofs.YteimebpgmfhgjaaDoor
