/- room.cut: the walk. -/
import Derived.Test.YteimebpgmfhgjaaDoorCut1
namespace Go.Proofs.YteimebpgmfhgjaaDoor
open Go.AS
set_option linter.unusedVariables false
set_option linter.unusedSimpArgs false
set_option maxRecDepth 100000
namespace Seat
theorem cutN_left (ks : Dats) (deep left : Int) (m : Nat) : (∀ i, i < m → 1 < deep ∧ 0 < (cutN ks deep left i).2) → (cutN ks deep left m).2 + m ≤ left ∧ (0 ≤ left → 0 ≤ (cutN ks deep left m).2) := by
  induction m with
  | zero => intro _; simp [cutN]
  | succ m ih =>
    intro h
    have h1 := ih fun i hi => h i (by omega)
    have h2 := h m (by omega)
    have h3 := cutD_parts (ks.get m) (deep - 1) (cutN ks deep left m).2 (by omega)
    have h4 : 1 ≤ parts (cutD (ks.get m) (deep - 1) (cutN ks deep left m).2).1 := by
      obtain ⟨k, n, s, ks', e⟩ := Dat.is_mk (cutD (ks.get m) (deep - 1) (cutN ks deep left m).2).1
      rw [e]; simp only [parts]; omega
    simp only [cutN]
    omega
theorem cutAt (N : Nat) : CutAt N := by
  induction N with
  | zero => intro d h; omega
  | succ N ih =>
    intro d hN hok deep left hd1 hd2 hl1 hl2
    obtain ⟨k, n, s, ks⟩ := d
    let D : Box := ⟨[.int .i64 k, .int .i64 n, .str s, .slice ks.len ks.cells], 24⟩
    let Z : Box := ⟨[.int .i64 0, .int .i64 0, .str ⟨#[]⟩, .nil], 24⟩
    have w1 : ∀ x : Int, 1 ≤ x → x ≤ 4611686018427387904 → IntKind.i64.wrap (x - 1) = x - 1 := fun x h1 h2 => by rw [IntKind.wrap_i64]; omega
    refine Fn.enterN Tryd.func44 Tryd.ntmps44 rfl (Nat.le_of_ble_eq_true rfl) fun C fr fp hnt hp hfr hfp => ?_
    refine Q.runSeq S0 50 61 hnt [0, 2, 4, 6] (z := ⟨[(0, .ptr 0 0), (2, .int .i64 deep), (4, .ptr 1 0), (6, .ptr 2 0)], ⟨[room left, D, Z], []⟩⟩) (o := []) (by kernel_rfl) okO_nil ?_
    refine Q.runSeq (SC ih [] [(61, [(13, .int .i64 (left - 1))])]) 50 61 hnt [0, 2, 4, 6] (z := ⟨[(0, .ptr 0 0), (2, .int .i64 deep), (4, .ptr 1 0), (6, .ptr 2 0)], ⟨[room (left - 1), D, Z], []⟩⟩) (o := [(same (.int .i64 (IntKind.i64.wrap (left - 1))) (.int .i64 (left - 1)), true)]) (by kernel_rfl) (fun p hm => by rw [List.mem_singleton.1 hm]; exact same_of (by rw [w1 left hl1 (by omega)])) ?_
    refine Q.runSeq (SC ih [(61, [(26, true)])] [(61, [(26, .str (cutS s))])]) 60 61 hnt [0, 2, 4, 6, 7] (z := ⟨[(0, .ptr 0 0), (2, .int .i64 deep), (4, .ptr 1 0), (6, .ptr 2 0), (7, .ptr 3 0)], ⟨[room (left - 1), D, Z, ⟨[.int .i64 k, .int .i64 n, .str (cutS s), .nil], 24⟩], []⟩⟩)
      (o := [(decide ((0 : Int) ≤ 0 ∧ (0 : Int) ≤ (if (42 : Int) < (s.size : Int) then 42 else (s.size : Int)) ∧ (if (42 : Int) < (s.size : Int) then 42 else (s.size : Int)) ≤ (s.size : Int)), true), (same (.str (s.extract (0 : Int).toNat (if (42 : Int) < (s.size : Int) then 42 else (s.size : Int)).toNat)) (.str (cutS s)), true)]) (by kernel_rfl) (fun p hm => ?_) ?_
    · simp only [List.mem_cons, List.not_mem_nil, or_false] at hm
      have e : (if (42 : Int) < (s.size : Int) then 42 else (s.size : Int)) = min (s.size : Int) 42 := by split <;> omega
      rcases hm with rfl | rfl
      · simp only [decide_eq_true_eq]; rw [e]; omega
      · refine same_of ?_
        rw [e]
        rfl
    refine SWP.adoptB 3 3 24 4 rfl rfl ?_
    refine Q.seq fun K hK => ?_
    let T (j : Nat) : AS := ⟨[(0, .ptr 0 0), (2, .int .i64 deep), (4, .ptr 1 0), (6, .ptr 2 0), (7, .ptr 3 0), (8, .int .i64 j)], ⟨[room (cutN ks deep (left - 1) j).2, D, Z, ⟨[.int .i64 k, .int .i64 n, .str (cutS s), .own 0 j], 24⟩], [some ⟨(cutN ks deep (left - 1) j).1.cells, j, 24, 4⟩]⟩⟩
    refine Q.runSeq S0 50 61 hnt [0, 2, 4, 6, 7, 8] (z := T 0) (o := []) (by kernel_rfl) okO_nil ?_
    refine Q.block ?_
    refine Q.loopI (σ := { j : Nat // j ≤ ks.len ∧ ∀ i, i < j → 1 < deep ∧ 0 < (cutN ks deep (left - 1) i).2 }) [0, 2, 4, 6, 7, 8] (fun j => T j.1) (fun j => ks.len - j.1) ⟨0, Nat.zero_le _, fun i h => absurd h (Nat.not_lt_zero _)⟩ rfl fun ⟨j, hj, hl⟩ => ?_
    have hleft := cutN_left ks deep (left - 1) j hl
    -- behind the loop
    have fin : (j = ks.len ∨ ¬ (1 < deep ∧ 0 < (cutN ks deep (left - 1) j).2)) → ∀ st, nrm [0, 2, 4, 6, 7, 8] st = T j → K st := fun hs st hst => by
      have hc := cutN_stop ks deep (left - 1) j hj hl hs
      have hcl := cutN_len ks deep (left - 1) j
      refine hK st (.norm [0, 2, 4, 6, 7, 8] ?_)
      rw [hst]
      refine SWP.frz [0] ?_
      refine SWP.runQ S0 50 61 hnt [6] (e := .ret) (z := ⟨[(6, .ptr 2 0)], ⟨[room (cutN ks deep (left - 1) j).2, D, ⟨[.int .i64 k, .int .i64 n, .str (cutS s), .slice j (cutN ks deep (left - 1) j).1.cells], 24⟩, ⟨[.int .i64 k, .int .i64 n, .str (cutS s), .slice j (cutN ks deep (left - 1) j).1.cells], 24⟩], [none]⟩⟩) (o := []) (by kernel_rfl) okO_nil (fun st hs => hfr st [6] ?_)
      rw [hs]
      refine ⟨1, .agg [.int .i64 k, .int .i64 n, .str (cutS s), .slice j (cutN ks deep (left - 1) j).1.cells], Nat.le_of_ble_eq_true rfl, Nat.le_of_ble_eq_true rfl, rfl, rfl, rfl, ?_, ?_⟩
      · simp only [cutD, hc, Dat.cells, hcl]
      · simp only [cutD, hc, List.take]
    let z43 (b : Bool) : AS := ⟨(T j).t ++ [(43, .bool b)], (T j).h⟩
    rcases Nat.lt_or_ge j ks.len with hlt | hge
    · by_cases hdp : 1 < deep
      · by_cases hl0 : 0 < (cutN ks deep (left - 1) j).2
        · refine Q.runSeq (SC ih [(61, [(32, true), (35, true), (42, true)])] []) 60 61 hnt [0, 2, 4, 6, 7, 8] (z := T j) (o := [(decide ((j : Int) < (ks.len : Int)), true), (decide ((1 : Int) < deep), true), (decide ((0 : Int) < (cutN ks deep (left - 1) j).2), true)]) (by kernel_rfl) (fun p hm => ?_) ?_
          · simp only [List.mem_cons, List.not_mem_nil, or_false] at hm
            rcases hm with rfl | rfl | rfl
            · simpa using hlt
            · simpa using hdp
            · simpa using hl0
          refine Q.seq fun K4 hK4 => ?_
          refine Q.block ?_
          obtain ⟨k', n', s', ks', hget⟩ := Dats.get_mk ks j
          obtain ⟨k2, n2, s2, ks2, hcut⟩ := Dat.is_mk (cutD (ks.get j) (deep - 1) (cutN ks deep (left - 1) j).2).1
          have hsz := Dats.get_size ks j hlt
          have hokj := Dats.get_ok ks j hlt hok.2
          have hcl : (ks.get j).cells = [.int .i64 k', .int .i64 n', .str s', .slice ks'.len ks'.cells] := by rw [hget]; rfl
          simp only [Dat.size] at hN
          let P : Ob := [(isDat N [.int .i64 k', .int .i64 n', .str s', .slice ks'.len ks'.cells], true), (decide (1 ≤ deep - 1 ∧ deep - 1 ≤ 4611686018427387904 ∧ 1 ≤ (cutN ks deep (left - 1) j).2 ∧ (cutN ks deep (left - 1) j).2 ≤ 1000000), true), (same (.agg (ofCells (fun d => (cutD d (deep - 1) (cutN ks deep (left - 1) j).2).1.cells) [] [.int .i64 k', .int .i64 n', .str s', .slice ks'.len ks'.cells])) (.agg [.int .i64 k2, .int .i64 n2, .str s2, .slice ks2.len ks2.cells]), true), (true, true), (Nat.ble ((j + 1) * 56) 140737488355328, true), (Nat.ble (j + 1) 9223372036854775807, true)]
          have okP : okO P := fun p hm => by
            simp only [P, List.mem_cons, List.not_mem_nil, or_false] at hm
            rcases hm with rfl | rfl | rfl | rfl | rfl | rfl
            · rw [← hcl]; exact isDat_at (by omega) hokj
            · simp only [decide_eq_true_eq]; omega
            · exact same_of (by rw [← hcl, ofCells_at, hcut]; rfl)
            · rfl
            · simp only [Nat.ble_eq]; omega
            · simp only [Nat.ble_eq]; omega
          refine SWP.runLQ (SC ih [(61, [(52, true), (53, true), (58, true)])] [(61, [(53, .agg [.int .i64 k', .int .i64 n', .str s', .slice ks'.len ks'.cells]), (55, .int .i64 (deep - 1)), (56, .agg [.int .i64 k2, .int .i64 n2, .str s2, .slice ks2.len ks2.cells])])]) 60 61 hnt [0, 2, 4, 6, 7, 8]
            (l := List.replicate 3 ⟨(T j).t, ⟨[room (ofCells (fun d => (cutD d (deep - 1) (cutN ks deep (left - 1) j).2).2) 0 [.int .i64 k', .int .i64 n', .str s', .slice ks'.len ks'.cells]), D, Z, ⟨[.int .i64 k, .int .i64 n, .str (cutS s), .own 0 (j + 1)], 24⟩], [some ⟨(cutN ks deep (left - 1) j).1.cells ++ [.int .i64 k2, .int .i64 n2, .str s2, .slice ks2.len ks2.cells], j + 1, 24, 4⟩]⟩⟩)
            (o := [(decide (0 ≤ (j : Int) ∧ (j : Int) < (ks.len : Int)), true), (decide (4 ≤ (ks.cells.drop ((j : Int).toNat * 4)).length), true), (same (.agg ((ks.cells.drop ((j : Int).toNat * 4)).take 4)) (.agg [.int .i64 k', .int .i64 n', .str s', .slice ks'.len ks'.cells]), true), (same (.int .i64 (IntKind.i64.wrap (deep - 1))) (.int .i64 (deep - 1)), true)] ++ (P ++ (P ++ P))) (by kernel_rfl) (okO_app (fun p hm => ?_) (okO_app okP (okO_app okP okP))) (fun st hs => ?_)
          · simp only [List.mem_cons, List.not_mem_nil, or_false, Int.toNat_natCast, Dats.get_cells ks j hlt] at hm
            rcases hm with rfl | rfl | rfl | rfl
            · simpa using hlt
            · simp only [List.length_drop, Dats.cells_len, decide_eq_true_eq]; omega
            · exact same_of (by rw [hcl])
            · exact same_of (by rw [w1 deep hd1 hd2])
          · refine hK4 st (.norm [0, 2, 4, 6, 7, 8] ?_)
            rw [List.eq_of_mem_replicate hs, ← hcl, ofCells_at]
            refine SWP.runQ (SC ih [] [(61, [(45, .int .i64 ((j + 1 : Nat) : Int))])]) 60 61 hnt [0, 2, 4, 6, 7, 8] (e := .normal) (z := ⟨[(0, .ptr 0 0), (2, .int .i64 deep), (4, .ptr 1 0), (6, .ptr 2 0), (7, .ptr 3 0), (8, .int .i64 ((j + 1 : Nat) : Int))], ⟨[room (cutD (ks.get j) (deep - 1) (cutN ks deep (left - 1) j).2).2, D, Z, ⟨[.int .i64 k, .int .i64 n, .str (cutS s), .own 0 (j + 1)], 24⟩], [some ⟨(cutN ks deep (left - 1) j).1.cells ++ [.int .i64 k2, .int .i64 n2, .str s2, .slice ks2.len ks2.cells], j + 1, 24, 4⟩]⟩⟩) (o := [(same (.int .i64 (IntKind.i64.wrap ((j : Int) + 1))) (.int .i64 ((j + 1 : Nat) : Int)), true)]) (by kernel_rfl) (fun p hm => by rw [List.mem_singleton.1 hm]; exact same_of (by rw [wrap1 j (by have := hok.1; omega)])) (fun st hs => ⟨⟨j + 1, hlt, fun i hi => ?_⟩, Nat.sub_lt_sub_left hlt (Nat.lt_succ_self j), ?_⟩)
            · rcases Nat.lt_succ_iff_lt_or_eq.1 hi with h | h
              · exact hl i h
              · rw [h]; exact ⟨hdp, hl0⟩
            · rw [hs]
              simp only [T, cutN, snoc_cells, hcut]
              rfl
        · refine SWP.runQ (SC ih [(61, [(32, true), (35, true), (42, false)])] []) 60 61 hnt [0, 2, 4, 6, 7, 8] (e := .exit 0) (z := T j) (o := [(decide ((j : Int) < (ks.len : Int)), true), (decide ((1 : Int) < deep), true), (decide ((0 : Int) < (cutN ks deep (left - 1) j).2), false)]) (by kernel_rfl) (fun p hm => ?_) (fin (.inr fun h => hl0 h.2))
          simp only [List.mem_cons, List.not_mem_nil, or_false] at hm
          rcases hm with rfl | rfl | rfl
          · simpa using hlt
          · simpa using hdp
          · simpa using hl0
      · refine SWP.runQ (SC ih [(61, [(32, true), (35, false)])] []) 60 61 hnt [0, 2, 4, 6, 7, 8] (e := .exit 0) (z := T j) (o := [(decide ((j : Int) < (ks.len : Int)), true), (decide ((1 : Int) < deep), false)]) (by kernel_rfl) (fun p hm => ?_) (fin (.inr fun h => hdp h.1))
        simp only [List.mem_cons, List.not_mem_nil, or_false] at hm
        rcases hm with rfl | rfl
        · simpa using hlt
        · simpa using hdp
    · refine SWP.runQ (SC ih [(61, [(32, false)])] []) 60 61 hnt [0, 2, 4, 6, 7, 8] (e := .exit 0) (z := T j) (o := [(decide ((j : Int) < (ks.len : Int)), false)]) (by kernel_rfl) (fun p hm => ?_) (fin (.inl (by omega)))
      rw [List.mem_singleton.1 hm]
      simp; omega
end Seat
end Go.Proofs.YteimebpgmfhgjaaDoor
