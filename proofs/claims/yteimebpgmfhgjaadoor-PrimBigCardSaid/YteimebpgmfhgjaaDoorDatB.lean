/- Data: cut off, the same. -/
import Derived.Test.YteimebpgmfhgjaaDoorDatA
/- pagodaref01.Cut: what it comes to. -/
namespace Go.Proofs.YteimebpgmfhgjaaDoor
open Go.AS
set_option linter.unusedVariables false
set_option linter.unusedSimpArgs false
namespace Seat
def Dats.snoc : Dats → Dat → Dats
  | .nil, e => .cons e .nil
  | .cons d ds, e => .cons d (Dats.snoc ds e)
theorem snoc_cells : ∀ (ds : Dats) (e : Dat), (Dats.snoc ds e).cells = ds.cells ++ e.cells
  | .nil, e => by simp [Dats.snoc, Dats.cells]
  | .cons d ds, e => by simp only [Dats.snoc, Dats.cells, snoc_cells ds e, List.append_assoc]
theorem snoc_len : ∀ (ds : Dats) (e : Dat), (Dats.snoc ds e).len = ds.len + 1
  | .nil, e => rfl
  | .cons d ds, e => by simp only [Dats.snoc, Dats.len, snoc_len ds e]
/-- The string, cut off. -/
def cutS (s : ByteArray) : ByteArray := s.extract 0 (min (s.size : Int) 42).toNat
mutual
/-- The datum, as far as there is room; the room that is left. -/
def cutD : Dat → Int → Int → Dat × Int
  | .mk k n s ks, deep, left =>
    let r := cutL ks deep (left - 1)
    (.mk k n (cutS s) r.1, r.2)
def cutL : Dats → Int → Int → Dats × Int
  | .nil, _, left => (.nil, left)
  | .cons d ds, deep, left => if 1 < deep ∧ 0 < left then
      let r := cutD d (deep - 1) left
      let q := cutL ds deep r.2
      (.cons r.1 q.1, q.2)
    else (.nil, left)
end
/-- The first j, whatever room there is. -/
def cutN (ks : Dats) (deep left : Int) : Nat → Dats × Int
  | 0 => (.nil, left)
  | j + 1 => (Dats.snoc (cutN ks deep left j).1 (cutD (ks.get j) (deep - 1) (cutN ks deep left j).2).1, (cutD (ks.get j) (deep - 1) (cutN ks deep left j).2).2)
theorem cutN_cons (d : Dat) (ds : Dats) (deep left : Int) (j : Nat) : cutN (.cons d ds) deep left (j + 1) = (.cons (cutD d (deep - 1) left).1 (cutN ds deep (cutD d (deep - 1) left).2 j).1, (cutN ds deep (cutD d (deep - 1) left).2 j).2) := by
  induction j with
  | zero => simp [cutN, Dats.get, Dats.snoc]
  | succ j ih =>
    rw [cutN, ih]
    simp only [cutN, Dats.get, Dats.snoc]
/-- Where the loop stops. -/
theorem cutN_stop : ∀ (ks : Dats) (deep left : Int) (m : Nat), m ≤ ks.len → (∀ i, i < m → 1 < deep ∧ 0 < (cutN ks deep left i).2) → (m = ks.len ∨ ¬ (1 < deep ∧ 0 < (cutN ks deep left m).2)) → cutL ks deep left = cutN ks deep left m
  | .nil, deep, left, m, hm, hl, hs => by
    simp only [Dats.len] at hm
    obtain rfl : m = 0 := by omega
    rfl
  | .cons d ds, deep, left, 0, hm, hl, hs => by
    rcases hs with h | h
    · simp [Dats.len] at h
    · simp only [cutN] at h
      simp only [cutL, if_neg h, cutN]
  | .cons d ds, deep, left, m + 1, hm, hl, hs => by
    have h0 := hl 0 (by omega)
    simp only [cutN] at h0
    have ih := cutN_stop ds deep (cutD d (deep - 1) left).2 m (by simp only [Dats.len] at hm; omega) (fun i hi => by have := hl (i + 1) (by omega); rw [cutN_cons] at this; exact this) (by
      rcases hs with h | h
      · left; simp only [Dats.len] at h; omega
      · right; rw [cutN_cons] at h; exact h)
    rw [cutN_cons]
    simp only [cutL, if_pos h0, ih]
theorem cutN_len (ks : Dats) (deep left : Int) (j : Nat) : (cutN ks deep left j).1.len = j := by
  induction j with
  | zero => rfl
  | succ j ih => simp only [cutN, snoc_len, ih]
mutual
/-- It takes as much room as it has parts. -/
theorem cutD_parts : ∀ (d : Dat) (deep left : Int), 1 ≤ left → 0 ≤ (cutD d deep left).2 ∧ (cutD d deep left).2 + parts (cutD d deep left).1 = left
  | .mk k n s ks, deep, left, h => by
    have := cutL_parts ks deep (left - 1) (by omega)
    simp only [cutD, parts]
    omega
theorem cutL_parts : ∀ (ks : Dats) (deep left : Int), 0 ≤ left → 0 ≤ (cutL ks deep left).2 ∧ (cutL ks deep left).2 + partsL (cutL ks deep left).1 = left
  | .nil, deep, left, h => by simp only [cutL, partsL]; omega
  | .cons d ds, deep, left, h => by
    simp only [cutL]
    split
    · have h1 := cutD_parts d (deep - 1) left (by omega)
      have h2 := cutL_parts ds deep (cutD d (deep - 1) left).2 h1.1
      simp only [partsL]
      omega
    · simp only [partsL]; omega
end
mutual
theorem cutD_deep : ∀ (d : Dat) (deep left : Int), 1 ≤ deep → (deepN (cutD d deep left).1 : Int) ≤ deep
  | .mk k n s ks, deep, left, h => by
    have := cutL_deep ks deep (left - 1) h
    simp only [cutD, deepN]
    omega
theorem cutL_deep : ∀ (ks : Dats) (deep left : Int), 1 ≤ deep → (deepNL (cutL ks deep left).1 : Int) ≤ deep - 1
  | .nil, deep, left, h => by simp only [cutL, deepNL]; omega
  | .cons d ds, deep, left, h => by
    simp only [cutL]
    split
    · have h1 := cutD_deep d (deep - 1) left (by omega)
      have h2 := cutL_deep ds deep (cutD d (deep - 1) left).2 h
      simp only [deepNL]
      omega
    · simp only [deepNL]; omega
end
end Seat
end Go.Proofs.YteimebpgmfhgjaaDoor
/- room.cut: the law that the interpreter takes. -/
namespace Go.Proofs.YteimebpgmfhgjaaDoor
open Go.AS
set_option linter.unusedVariables false
set_option linter.unusedSimpArgs false
set_option maxRecDepth 100000
namespace Seat
def room (n : Int) : Box := ⟨[.int .i64 n], 72⟩
/-- Law of room.cut, of data of less than N. -/
def CutAt (N : Nat) : Prop := ∀ d : Dat, d.size < N → d.ok → ∀ deep left : Int, 1 ≤ deep → deep ≤ 4611686018427387904 → 1 ≤ left → left ≤ 1000000 → PCalls G0 44 [.ptr 0 0, .agg d.cells, .int .i64 deep] [room left] (fun o b => o = .ret (.agg (cutD d deep left).1.cells) ∧ b = [room (cutD d deep left).2])
noncomputable def cutB (N : Nat) (f : Nat) (args : List PV) (x : Box) : Option (PV × Box × Ob) := match f, args, x with
  | 44, [.ptr 0 0, .agg cs, .int .i64 deep], ⟨[.int .i64 left], 72⟩ => some (.agg (ofCells (fun d => (cutD d deep left).1.cells) [] cs), room (ofCells (fun d => (cutD d deep left).2) 0 cs), [(isDat N cs, true), (decide (1 ≤ deep ∧ deep ≤ 4611686018427387904 ∧ 1 ≤ left ∧ left ≤ 1000000), true)])
  | _, _, _ => none
theorem cutB_ok {N : Nat} (ih : CutAt N) : ∀ f xs x r x' o, cutB N f xs x = some (r, x', o) → (∀ p ∈ o, p.1 = p.2) → PCalls G0 f xs [x] (fun o' b' => o' = .ret r ∧ b' = [x']) ∧ r.sc 0 = true ∧ scL 0 x.cs = true ∧ scL 0 x'.cs = true := by
  intro f args x r b o h ho
  unfold cutB at h
  split at h
  · rename_i cs deep left
    cases h
    obtain ⟨d, rfl, h1, h2⟩ := isDat_of (ho _ (List.mem_cons_self ..))
    have h3 : 1 ≤ deep ∧ deep ≤ 4611686018427387904 ∧ 1 ≤ left ∧ left ≤ 1000000 := of_decide_eq_true (ho (decide _, true) (List.mem_cons_of_mem _ (List.mem_cons_self ..)))
    simp only [ofCells_at]
    refine ⟨ih d h1 h2 deep left h3.1 h3.2.1 h3.2.2.1 h3.2.2.2, ?_, rfl, rfl⟩
    cases (cutD d deep left).1; rfl
  · cases h
noncomputable def SC {N : Nat} (ih : CutAt N) (l : List (Nat × List (Nat × Bool))) (v : List (Nat × List (Nat × PV))) : Cfg G0 := { F := F, hF := hF, S := fun _ _ => none, hS := fun _ _ _ _ h => (by cases h), orc := orcM l, val := valM v, B := cutB N, hB := cutB_ok ih, D := fun f => Nat.beq f 44 }
end Seat
end Go.Proofs.YteimebpgmfhgjaaDoor
/- room.cut: the walk. -/
namespace Go.Proofs.YteimebpgmfhgjaaDoor
open Go.AS
set_option linter.unusedVariables false
set_option linter.unusedSimpArgs false
set_option maxRecDepth 100000
namespace Seat
theorem cutN_left (ks : Dats) (deep left : Int) (m : Nat) : (∀ i, i < m → 1 < deep ∧ 0 < (cutN ks deep left i).2) → (cutN ks deep left m).2 + m ≤ left ∧ (0 ≤ left → 0 ≤ (cutN ks deep left m).2) := by
  induction m with
  | zero => intro _; simp [cutN]
  | succ m ih =>
    intro h
    have h1 := ih fun i hi => h i (by omega)
    have h2 := h m (by omega)
    have h3 := cutD_parts (ks.get m) (deep - 1) (cutN ks deep left m).2 (by omega)
    have h4 : 1 ≤ parts (cutD (ks.get m) (deep - 1) (cutN ks deep left m).2).1 := by
      obtain ⟨k, n, s, ks', e⟩ := Dat.is_mk (cutD (ks.get m) (deep - 1) (cutN ks deep left m).2).1
      rw [e]; simp only [parts]; omega
    simp only [cutN]
    omega
theorem cutAt (N : Nat) : CutAt N := by
  induction N with
  | zero => intro d h; omega
  | succ N ih =>
    intro d hN hok deep left hd1 hd2 hl1 hl2
    obtain ⟨k, n, s, ks⟩ := d
    let D : Box := ⟨[.int .i64 k, .int .i64 n, .str s, .slice ks.len ks.cells], 24⟩
    let Z : Box := ⟨[.int .i64 0, .int .i64 0, .str ⟨#[]⟩, .nil], 24⟩
    have w1 : ∀ x : Int, 1 ≤ x → x ≤ 4611686018427387904 → IntKind.i64.wrap (x - 1) = x - 1 := fun x h1 h2 => by rw [IntKind.wrap_i64]; omega
    refine Fn.enterN Tryd.func44 Tryd.ntmps44 rfl (Nat.le_of_ble_eq_true rfl) fun C fr fp hnt hp hfr hfp => ?_
    refine Q.runSeq S0 50 61 hnt [0, 2, 4, 6] (z := ⟨[(0, .ptr 0 0), (2, .int .i64 deep), (4, .ptr 1 0), (6, .ptr 2 0)], ⟨[room left, D, Z], []⟩⟩) (o := []) (by kernel_rfl) okO_nil ?_
    refine Q.runSeq (SC ih [] [(61, [(13, .int .i64 (left - 1))])]) 50 61 hnt [0, 2, 4, 6] (z := ⟨[(0, .ptr 0 0), (2, .int .i64 deep), (4, .ptr 1 0), (6, .ptr 2 0)], ⟨[room (left - 1), D, Z], []⟩⟩) (o := [(same (.int .i64 (IntKind.i64.wrap (left - 1))) (.int .i64 (left - 1)), true)]) (by kernel_rfl) (fun p hm => by rw [List.mem_singleton.1 hm]; exact same_of (by rw [w1 left hl1 (by omega)])) ?_
    refine Q.runSeq (SC ih [(61, [(26, true)])] [(61, [(26, .str (cutS s))])]) 60 61 hnt [0, 2, 4, 6, 7] (z := ⟨[(0, .ptr 0 0), (2, .int .i64 deep), (4, .ptr 1 0), (6, .ptr 2 0), (7, .ptr 3 0)], ⟨[room (left - 1), D, Z, ⟨[.int .i64 k, .int .i64 n, .str (cutS s), .nil], 24⟩], []⟩⟩)
      (o := [(decide ((0 : Int) ≤ 0 ∧ (0 : Int) ≤ (if (42 : Int) < (s.size : Int) then 42 else (s.size : Int)) ∧ (if (42 : Int) < (s.size : Int) then 42 else (s.size : Int)) ≤ (s.size : Int)), true), (same (.str (s.extract (0 : Int).toNat (if (42 : Int) < (s.size : Int) then 42 else (s.size : Int)).toNat)) (.str (cutS s)), true)]) (by kernel_rfl) (fun p hm => ?_) ?_
    · simp only [List.mem_cons, List.not_mem_nil, or_false] at hm
      have e : (if (42 : Int) < (s.size : Int) then 42 else (s.size : Int)) = min (s.size : Int) 42 := by split <;> omega
      rcases hm with rfl | rfl
      · simp only [decide_eq_true_eq]; rw [e]; omega
      · refine same_of ?_
        rw [e]
        rfl
    refine SWP.adoptB 3 3 24 4 rfl rfl ?_
    refine Q.seq fun K hK => ?_
    let T (j : Nat) : AS := ⟨[(0, .ptr 0 0), (2, .int .i64 deep), (4, .ptr 1 0), (6, .ptr 2 0), (7, .ptr 3 0), (8, .int .i64 j)], ⟨[room (cutN ks deep (left - 1) j).2, D, Z, ⟨[.int .i64 k, .int .i64 n, .str (cutS s), .own 0 j], 24⟩], [some ⟨(cutN ks deep (left - 1) j).1.cells, j, 24, 4⟩]⟩⟩
    refine Q.runSeq S0 50 61 hnt [0, 2, 4, 6, 7, 8] (z := T 0) (o := []) (by kernel_rfl) okO_nil ?_
    refine Q.block ?_
    refine Q.loopI (σ := { j : Nat // j ≤ ks.len ∧ ∀ i, i < j → 1 < deep ∧ 0 < (cutN ks deep (left - 1) i).2 }) [0, 2, 4, 6, 7, 8] (fun j => T j.1) (fun j => ks.len - j.1) ⟨0, Nat.zero_le _, fun i h => absurd h (Nat.not_lt_zero _)⟩ rfl fun ⟨j, hj, hl⟩ => ?_
    have hleft := cutN_left ks deep (left - 1) j hl
    -- behind the loop
    have fin : (j = ks.len ∨ ¬ (1 < deep ∧ 0 < (cutN ks deep (left - 1) j).2)) → ∀ st, nrm [0, 2, 4, 6, 7, 8] st = T j → K st := fun hs st hst => by
      have hc := cutN_stop ks deep (left - 1) j hj hl hs
      have hcl := cutN_len ks deep (left - 1) j
      refine hK st (.norm [0, 2, 4, 6, 7, 8] ?_)
      rw [hst]
      refine SWP.frz [0] ?_
      refine SWP.runQ S0 50 61 hnt [6] (e := .ret) (z := ⟨[(6, .ptr 2 0)], ⟨[room (cutN ks deep (left - 1) j).2, D, ⟨[.int .i64 k, .int .i64 n, .str (cutS s), .slice j (cutN ks deep (left - 1) j).1.cells], 24⟩, ⟨[.int .i64 k, .int .i64 n, .str (cutS s), .slice j (cutN ks deep (left - 1) j).1.cells], 24⟩], [none]⟩⟩) (o := []) (by kernel_rfl) okO_nil (fun st hs => hfr st [6] ?_)
      rw [hs]
      refine ⟨1, .agg [.int .i64 k, .int .i64 n, .str (cutS s), .slice j (cutN ks deep (left - 1) j).1.cells], Nat.le_of_ble_eq_true rfl, Nat.le_of_ble_eq_true rfl, rfl, rfl, rfl, ?_, ?_⟩
      · simp only [cutD, hc, Dat.cells, hcl]
      · simp only [cutD, hc, List.take]
    let z43 (b : Bool) : AS := ⟨(T j).t ++ [(43, .bool b)], (T j).h⟩
    rcases Nat.lt_or_ge j ks.len with hlt | hge
    · by_cases hdp : 1 < deep
      · by_cases hl0 : 0 < (cutN ks deep (left - 1) j).2
        · refine Q.runSeq (SC ih [(61, [(32, true), (35, true), (42, true)])] []) 60 61 hnt [0, 2, 4, 6, 7, 8] (z := T j) (o := [(decide ((j : Int) < (ks.len : Int)), true), (decide ((1 : Int) < deep), true), (decide ((0 : Int) < (cutN ks deep (left - 1) j).2), true)]) (by kernel_rfl) (fun p hm => ?_) ?_
          · simp only [List.mem_cons, List.not_mem_nil, or_false] at hm
            rcases hm with rfl | rfl | rfl
            · simpa using hlt
            · simpa using hdp
            · simpa using hl0
          refine Q.seq fun K4 hK4 => ?_
          refine Q.block ?_
          obtain ⟨k', n', s', ks', hget⟩ := Dats.get_mk ks j
          obtain ⟨k2, n2, s2, ks2, hcut⟩ := Dat.is_mk (cutD (ks.get j) (deep - 1) (cutN ks deep (left - 1) j).2).1
          have hsz := Dats.get_size ks j hlt
          have hokj := Dats.get_ok ks j hlt hok.2
          have hcl : (ks.get j).cells = [.int .i64 k', .int .i64 n', .str s', .slice ks'.len ks'.cells] := by rw [hget]; rfl
          simp only [Dat.size] at hN
          let P : Ob := [(isDat N [.int .i64 k', .int .i64 n', .str s', .slice ks'.len ks'.cells], true), (decide (1 ≤ deep - 1 ∧ deep - 1 ≤ 4611686018427387904 ∧ 1 ≤ (cutN ks deep (left - 1) j).2 ∧ (cutN ks deep (left - 1) j).2 ≤ 1000000), true), (same (.agg (ofCells (fun d => (cutD d (deep - 1) (cutN ks deep (left - 1) j).2).1.cells) [] [.int .i64 k', .int .i64 n', .str s', .slice ks'.len ks'.cells])) (.agg [.int .i64 k2, .int .i64 n2, .str s2, .slice ks2.len ks2.cells]), true), (true, true), (Nat.ble ((j + 1) * 56) 140737488355328, true), (Nat.ble (j + 1) 9223372036854775807, true)]
          have okP : okO P := fun p hm => by
            simp only [P, List.mem_cons, List.not_mem_nil, or_false] at hm
            rcases hm with rfl | rfl | rfl | rfl | rfl | rfl
            · rw [← hcl]; exact isDat_at (by omega) hokj
            · simp only [decide_eq_true_eq]; omega
            · exact same_of (by rw [← hcl, ofCells_at, hcut]; rfl)
            · rfl
            · simp only [Nat.ble_eq]; omega
            · simp only [Nat.ble_eq]; omega
          refine SWP.runLQ (SC ih [(61, [(52, true), (53, true), (58, true)])] [(61, [(53, .agg [.int .i64 k', .int .i64 n', .str s', .slice ks'.len ks'.cells]), (55, .int .i64 (deep - 1)), (56, .agg [.int .i64 k2, .int .i64 n2, .str s2, .slice ks2.len ks2.cells])])]) 60 61 hnt [0, 2, 4, 6, 7, 8]
            (l := List.replicate 3 ⟨(T j).t, ⟨[room (ofCells (fun d => (cutD d (deep - 1) (cutN ks deep (left - 1) j).2).2) 0 [.int .i64 k', .int .i64 n', .str s', .slice ks'.len ks'.cells]), D, Z, ⟨[.int .i64 k, .int .i64 n, .str (cutS s), .own 0 (j + 1)], 24⟩], [some ⟨(cutN ks deep (left - 1) j).1.cells ++ [.int .i64 k2, .int .i64 n2, .str s2, .slice ks2.len ks2.cells], j + 1, 24, 4⟩]⟩⟩)
            (o := [(decide (0 ≤ (j : Int) ∧ (j : Int) < (ks.len : Int)), true), (decide (4 ≤ (ks.cells.drop ((j : Int).toNat * 4)).length), true), (same (.agg ((ks.cells.drop ((j : Int).toNat * 4)).take 4)) (.agg [.int .i64 k', .int .i64 n', .str s', .slice ks'.len ks'.cells]), true), (same (.int .i64 (IntKind.i64.wrap (deep - 1))) (.int .i64 (deep - 1)), true)] ++ (P ++ (P ++ P))) (by kernel_rfl) (okO_app (fun p hm => ?_) (okO_app okP (okO_app okP okP))) (fun st hs => ?_)
          · simp only [List.mem_cons, List.not_mem_nil, or_false, Int.toNat_natCast, Dats.get_cells ks j hlt] at hm
            rcases hm with rfl | rfl | rfl | rfl
            · simpa using hlt
            · simp only [List.length_drop, Dats.cells_len, decide_eq_true_eq]; omega
            · exact same_of (by rw [hcl])
            · exact same_of (by rw [w1 deep hd1 hd2])
          · refine hK4 st (.norm [0, 2, 4, 6, 7, 8] ?_)
            rw [List.eq_of_mem_replicate hs, ← hcl, ofCells_at]
            refine SWP.runQ (SC ih [] [(61, [(45, .int .i64 ((j + 1 : Nat) : Int))])]) 60 61 hnt [0, 2, 4, 6, 7, 8] (e := .normal) (z := ⟨[(0, .ptr 0 0), (2, .int .i64 deep), (4, .ptr 1 0), (6, .ptr 2 0), (7, .ptr 3 0), (8, .int .i64 ((j + 1 : Nat) : Int))], ⟨[room (cutD (ks.get j) (deep - 1) (cutN ks deep (left - 1) j).2).2, D, Z, ⟨[.int .i64 k, .int .i64 n, .str (cutS s), .own 0 (j + 1)], 24⟩], [some ⟨(cutN ks deep (left - 1) j).1.cells ++ [.int .i64 k2, .int .i64 n2, .str s2, .slice ks2.len ks2.cells], j + 1, 24, 4⟩]⟩⟩) (o := [(same (.int .i64 (IntKind.i64.wrap ((j : Int) + 1))) (.int .i64 ((j + 1 : Nat) : Int)), true)]) (by kernel_rfl) (fun p hm => by rw [List.mem_singleton.1 hm]; exact same_of (by rw [wrap1 j (by have := hok.1; omega)])) (fun st hs => ⟨⟨j + 1, hlt, fun i hi => ?_⟩, Nat.sub_lt_sub_left hlt (Nat.lt_succ_self j), ?_⟩)
            · rcases Nat.lt_succ_iff_lt_or_eq.1 hi with h | h
              · exact hl i h
              · rw [h]; exact ⟨hdp, hl0⟩
            · rw [hs]
              simp only [T, cutN, snoc_cells, hcut]
              rfl
        · refine SWP.runQ (SC ih [(61, [(32, true), (35, true), (42, false)])] []) 60 61 hnt [0, 2, 4, 6, 7, 8] (e := .exit 0) (z := T j) (o := [(decide ((j : Int) < (ks.len : Int)), true), (decide ((1 : Int) < deep), true), (decide ((0 : Int) < (cutN ks deep (left - 1) j).2), false)]) (by kernel_rfl) (fun p hm => ?_) (fin (.inr fun h => hl0 h.2))
          simp only [List.mem_cons, List.not_mem_nil, or_false] at hm
          rcases hm with rfl | rfl | rfl
          · simpa using hlt
          · simpa using hdp
          · simpa using hl0
      · refine SWP.runQ (SC ih [(61, [(32, true), (35, false)])] []) 60 61 hnt [0, 2, 4, 6, 7, 8] (e := .exit 0) (z := T j) (o := [(decide ((j : Int) < (ks.len : Int)), true), (decide ((1 : Int) < deep), false)]) (by kernel_rfl) (fun p hm => ?_) (fin (.inr fun h => hdp h.1))
        simp only [List.mem_cons, List.not_mem_nil, or_false] at hm
        rcases hm with rfl | rfl
        · simpa using hlt
        · simpa using hdp
    · refine SWP.runQ (SC ih [(61, [(32, false)])] []) 60 61 hnt [0, 2, 4, 6, 7, 8] (e := .exit 0) (z := T j) (o := [(decide ((j : Int) < (ks.len : Int)), false)]) (by kernel_rfl) (fun p hm => ?_) (fin (.inl (by omega)))
      rw [List.mem_singleton.1 hm]
      simp; omega
end Seat
end Go.Proofs.YteimebpgmfhgjaaDoor
/- Data and lists of data, told by their cells. -/
namespace Go.Proofs.YteimebpgmfhgjaaDoor
open Go.AS
set_option linter.unusedVariables false
set_option linter.unusedSimpArgs false
set_option maxRecDepth 100000
namespace Seat
/-- The state, its last boxes and other slots let go, is this one. -/
def DropTo (sl : List Nat) (m : Nat) (s t : AS) : Prop := m ≤ s.h.bx.length ∧ ((s.h.bx.take m).all fun b => scL m b.cs) = true ∧ ((nrm sl s).t.all fun p => p.2.sc m) = true ∧ s.h.rw = [] ∧ (⟨(nrm sl s).t, ⟨s.h.bx.take m, []⟩⟩ : AS) = t
theorem dropTo {C : Ctx} {c : Code} {Q : AEx → AS → Prop} {s t : AS} {sl : List Nat} {m : Nat} (hm : C.nb ≤ m) (h : DropTo sl m s t) (hc : SWP G0 C c Q t) : SWP G0 C c Q s := by
  obtain ⟨h1, h2, h3, h4, rfl⟩ := h
  refine .norm sl (.drop m hm h1 h2 h3 h4 ?_)
  exact hc
/-- A loop whose rounds leave boxes behind. -/
theorem loopD {C : Ctx} {st : AS} {n : AS → Prop} {xs : List (Nat × (AS → Prop))} {r : AS → Prop} {p : PV → AS → Prop} {c : Code} {σ : Type} (sl : List Nat) (m : Nat) (hm : C.nb ≤ m) (T : σ → AS) (μ : σ → Nat) (x : σ) (h0 : DropTo sl m st (T x))
    (hr : ∀ x, SWP G0 C c (QT (fun s => ∃ y, μ y < μ x ∧ DropTo sl m s (T y)) xs r p) (T x)) : SWP G0 C (.loop c) (QT n xs r p) st :=
  Q.loop (fun x s => DropTo sl m s (T x)) μ x h0 fun x s hs K hK => dropTo hm hs ((hr x).mono fun e s' q => by
    cases e with
    | normal => obtain ⟨y, h1, h2⟩ := q; exact hK y s' h2 h1
    | exit i => exact q
    | ret => exact q
    | panic x => exact q)
theorem okO_cons {a b : Bool} {o : Ob} (h : a = b) (ho : okO o) : okO ((a, b) :: o) := fun p hp => by
  rcases List.mem_cons.1 hp with rfl | hp
  · exact h
  · exact ho p hp
theorem lt_at {j n : Nat} (h : j < n) : decide ((j : Int) < (n : Int)) = true := by simpa using h
theorem ge_at {j n : Nat} (h : n ≤ j) : decide ((j : Int) < (n : Int)) = false := by simpa using h
theorem in_at {j n : Nat} (h : j < n) : decide (0 ≤ (j : Int) ∧ (j : Int) < (n : Int)) = true := by simpa using h
theorem kid_len {ks : Dats} {j : Nat} (h : j < ks.len) : decide (4 ≤ (ks.cells.drop ((j : Int).toNat * 4)).length) = true := by
  simp only [Int.toNat_natCast, List.length_drop, Dats.cells_len, decide_eq_true_eq]; omega
theorem kid_same {ks : Dats} {j : Nat} (h : j < ks.len) : same (.agg ((ks.cells.drop ((j : Int).toNat * 4)).take 4)) (.agg (ks.get j).cells) = true := same_of (by rw [Int.toNat_natCast, Dats.get_cells ks j h])
theorem kid_same' {ks : Dats} {j : Nat} {k n : Int} {s : ByteArray} {ls : Dats} (h : j < ks.len) (e : ks.get j = .mk k n s ls) : same (.agg ((ks.cells.drop ((j : Int).toNat * 4)).take 4)) (.agg [.int .i64 k, .int .i64 n, .str s, .slice ls.len ls.cells]) = true := by
  have := kid_same h
  rw [e] at this
  exact this
open Classical in
/-- The cells are those of so many trees, of less than N. -/
noncomputable def isDats (N n : Nat) (cs : List PV) : Bool := decide (∃ ks : Dats, ks.cells = cs ∧ ks.len = n ∧ ks.size < N ∧ ks.len ≤ 9223372036854775807 ∧ ks.ok)
open Classical in
noncomputable def ofCellsL {α : Type} (f : Dats → α) (z : α) (cs : List PV) : α := if h : ∃ ks : Dats, ks.cells = cs then f h.choose else z
theorem ofCellsL_at {α : Type} (f : Dats → α) (z : α) (ks : Dats) : ofCellsL f z ks.cells = f ks := by
  have h : ∃ e : Dats, e.cells = ks.cells := ⟨ks, rfl⟩
  unfold ofCellsL
  rw [dif_pos h, Dats.inj _ _ h.choose_spec]
theorem isDats_at {N : Nat} {ks : Dats} (h : ks.size < N) (hl : ks.len ≤ 9223372036854775807) (ho : ks.ok) : isDats N ks.len ks.cells = true := by
  unfold isDats
  classical exact decide_eq_true ⟨ks, rfl, rfl, h, hl, ho⟩
theorem isDats_of {N n : Nat} {cs : List PV} (h : isDats N n cs = true) : ∃ ks : Dats, ks.cells = cs ∧ ks.len = n ∧ ks.size < N ∧ ks.len ≤ 9223372036854775807 ∧ ks.ok := by
  unfold isDats at h
  classical exact of_decide_eq_true h
/-- Said of two trees, said of their cells. -/
noncomputable def ofCells2 {α : Type} (f : Dat → Dat → α) (z : α) (a b : List PV) : α := ofCells (fun d => ofCells (fun e => f d e) z b) z a
theorem ofCells2_at {α : Type} (f : Dat → Dat → α) (z : α) (d e : Dat) : ofCells2 f z d.cells e.cells = f d e := by unfold ofCells2; rw [ofCells_at, ofCells_at]
noncomputable def ofCellsL2 {α : Type} (f : Dats → Dats → α) (z : α) (a b : List PV) : α := ofCellsL (fun d => ofCellsL (fun e => f d e) z b) z a
theorem ofCellsL2_at {α : Type} (f : Dats → Dats → α) (z : α) (d e : Dats) : ofCellsL2 f z d.cells e.cells = f d e := by unfold ofCellsL2; rw [ofCellsL_at, ofCellsL_at]
open Classical in
noncomputable def isOk (cs : List PV) : Bool := decide (∃ d : Dat, d.cells = cs ∧ d.ok)
theorem isOk_at {d : Dat} (h : d.ok) : isOk d.cells = true := by
  unfold isOk
  classical exact decide_eq_true ⟨d, rfl, h⟩
theorem isOk_of {cs : List PV} (h : isOk cs = true) : ∃ d : Dat, d.cells = cs ∧ d.ok := by
  unfold isOk at h
  classical exact of_decide_eq_true h
open Classical in
noncomputable def isOkL (n : Nat) (cs : List PV) : Bool := decide (∃ ks : Dats, ks.cells = cs ∧ ks.len = n ∧ ks.len ≤ 9223372036854775807 ∧ ks.ok)
theorem isOkL_at {ks : Dats} (hl : ks.len ≤ 9223372036854775807) (h : ks.ok) : isOkL ks.len ks.cells = true := by
  unfold isOkL
  classical exact decide_eq_true ⟨ks, rfl, rfl, hl, h⟩
theorem isOkL_of {n : Nat} {cs : List PV} (h : isOkL n cs = true) : ∃ ks : Dats, ks.cells = cs ∧ ks.len = n ∧ ks.len ≤ 9223372036854775807 ∧ ks.ok := by
  unfold isOkL at h
  classical exact of_decide_eq_true h
end Seat
end Go.Proofs.YteimebpgmfhgjaaDoor
/- Which data are the same: what it says. -/
namespace Go.Proofs.YteimebpgmfhgjaaDoor
open Go.AS
set_option linter.unusedVariables false
set_option linter.unusedSimpArgs false
set_option maxRecDepth 100000
namespace Seat
mutual
def eqD : Dat → Dat → Bool
  | .mk k n s ks, .mk k' n' s' ks' => decide (k = k') && decide (n = n') && (s.toList == s'.toList) && eqL ks ks'
def eqL : Dats → Dats → Bool
  | .nil, .nil => true
  | .cons d ds, .cons e es => eqD d e && eqL ds es
  | .nil, .cons _ _ => false
  | .cons _ _, .nil => false
end
theorem eqL_iff : ∀ ks ls : Dats, eqL ks ls = true ↔ ks.len = ls.len ∧ ∀ j, j < ks.len → eqD (ks.get j) (ls.get j) = true
  | .nil, .nil => by simp [eqL, Dats.len]
  | .nil, .cons _ _ => by simp [eqL, Dats.len]
  | .cons _ _, .nil => by simp [eqL, Dats.len]
  | .cons d ds, .cons e es => by
    simp only [eqL, Bool.and_eq_true, eqL_iff ds es, Dats.len]
    constructor
    · rintro ⟨h1, h2, h3⟩
      refine ⟨by omega, fun j hj => ?_⟩
      cases j with
      | zero => exact h1
      | succ j => exact h3 j (by omega)
    · rintro ⟨h1, h2⟩
      exact ⟨h2 0 (by omega), by omega, fun j hj => h2 (j + 1) (by omega)⟩
theorem eqL_len {ks ls : Dats} (h : ks.len ≠ ls.len) : eqL ks ls = false := by
  cases hf : eqL ks ls with
  | false => rfl
  | true => exact absurd ((eqL_iff ks ls).1 hf).1 h
theorem eqL_not {ks ls : Dats} {j : Nat} (hj : j < ks.len) (h : eqD (ks.get j) (ls.get j) = false) : eqL ks ls = false := by
  cases hf : eqL ks ls with
  | false => rfl
  | true => rw [((eqL_iff ks ls).1 hf).2 j hj] at h; cases h
/-- Law of Equal, of Same: of first data of less than N. -/
def EqAt (f : Nat) (N : Nat) : Prop := ∀ d e : Dat, d.size < N → d.ok → e.ok → Pure G0 f [.agg d.cells, .agg e.cells] (fun r => r = .bool (eqD d e))
def EqFAt (N : Nat) : Prop := ∀ ks ls : Dats, ks.size < N → ks.len ≤ 9223372036854775807 → ks.ok → ls.len ≤ 9223372036854775807 → ls.ok → Pure G0 48 [.slice ks.len ks.cells, .slice ls.len ls.cells, .func (.func 26) []] (fun r => r = .bool (eqL ks ls))
noncomputable def eqS (g N : Nat) (f : Nat) (args : List PV) : Option (PV × Ob) := match Nat.beq f g, args with
  | true, [.agg a, .agg b] => some (.bool (ofCells2 eqD false a b), [(isDat N a, true), (isOk b, true)])
  | _, _ => none
theorem eqS_ok {g N : Nat} (ih : EqAt g N) (f : Nat) (args : List PV) (r : PV) (o : Ob) (h : eqS g N f args = some (r, o)) (ho : ∀ p ∈ o, p.1 = p.2) (hpu : pureL args = true) : Pure G0 f args (fun x => x = r) := by
  clear hpu
  unfold eqS at h
  split at h
  · rename_i a b hf
    cases h
    obtain rfl := Nat.eq_of_beq_eq_true hf
    obtain ⟨d, rfl, h1, h2⟩ := isDat_of (ho _ (List.mem_cons_self ..))
    obtain ⟨e, rfl, h3⟩ := isOk_of (ho (isOk b, true) (List.mem_cons_of_mem _ (List.mem_cons_self ..)))
    rw [ofCells2_at]
    exact ih d e h1 h2 h3
  · cases h
noncomputable def eqFS (N : Nat) (f : Nat) (args : List PV) : Option (PV × Ob) := match f, args with
  | 48, [.slice n a, .slice m b, .func (.func 26) []] => some (.bool (ofCellsL2 eqL false a b), [(isDats N n a, true), (isOkL m b, true)])
  | _, _ => none
theorem eqFS_ok {N : Nat} (ih : EqFAt N) (f : Nat) (args : List PV) (r : PV) (o : Ob) (h : eqFS N f args = some (r, o)) (ho : ∀ p ∈ o, p.1 = p.2) (hpu : pureL args = true) : Pure G0 f args (fun x => x = r) := by
  clear hpu
  unfold eqFS at h
  split at h
  · rename_i n a m b
    cases h
    obtain ⟨ks, rfl, rfl, h1, h2, h3⟩ := isDats_of (ho _ (List.mem_cons_self ..))
    obtain ⟨ls, rfl, rfl, h4, h5⟩ := isOkL_of (ho (isOkL m b, true) (List.mem_cons_of_mem _ (List.mem_cons_self ..)))
    rw [ofCellsL2_at]
    exact ih ks ls h1 h2 h3 h4 h5
  · cases h
noncomputable def SQ {g N : Nat} (ih : EqAt g N) (l : List (Nat × List (Nat × Bool))) (v : List (Nat × List (Nat × PV))) : Cfg G0 := { F := F, hF := hF, S := eqS g N, hS := eqS_ok ih, orc := orcM l, val := valM v }
noncomputable def SQF {N : Nat} (ih : EqFAt N) (l : List (Nat × List (Nat × Bool))) : Cfg G0 := { F := F, hF := hF, S := eqFS N, hS := eqFS_ok ih, orc := orcM l }
end Seat
end Go.Proofs.YteimebpgmfhgjaaDoor
/- slices.EqualFunc of Equal; datum.Equal; pagodaref01.Same. -/
namespace Go.Proofs.YteimebpgmfhgjaaDoor
open Go.AS
set_option linter.unusedVariables false
set_option linter.unusedSimpArgs false
set_option maxRecDepth 100000
namespace Seat
theorem eqFAt {N : Nat} (ih : EqAt 26 N) : EqFAt (N + 1) := fun ks ls hN hlen hok llen lok => by
  refine Fn.enterB Tryd.func48 Tryd.ntmps48 rfl (Nat.le_of_ble_eq_true rfl) fun C fr fp hnt hnb hp hfr hfp => ?_
  let T0 : List (Nat × PV) := [(0, .slice ks.len ks.cells), (1, .slice ls.len ls.cells), (2, .func (.func 26) [])]
  refine Q.runSeq S0 50 32 hnt [0, 1, 2] (z := ⟨T0, ⟨[], []⟩⟩) (o := []) (by kernel_rfl) okO_nil ?_
  refine Q.seq fun K hK => ?_
  have len_ne : ∀ b, (ks.len == ls.len) = b → okO [(!((ks.len : Int) == (ls.len : Int)), !b), (!b, !b)] := fun b h => by
    have e : ((ks.len : Int) == (ls.len : Int)) = (ks.len == ls.len) := Bool.eq_iff_iff.2 (by simp only [beq_iff_eq]; omega)
    refine okO_cons (by rw [e, h]) (okO_cons rfl okO_nil)
  by_cases hl : ks.len = ls.len
  rotate_left
  · refine SWP.runQ (SQ ih [(32, [(14, true)])] []) 60 32 hnt [6] (e := .ret) (z := ⟨[(6, .bool false)], ⟨[], []⟩⟩) (by kernel_rfl) (len_ne false (by simpa using hl)) (fun st hs => hfr st [6] ?_)
    rw [hs]
    exact FinR.pure (r := .bool false) (by kernel_rfl) rfl (by rw [eqL_len hl])
  refine SWP.runQ (SQ ih [(32, [(14, false)])] []) 60 32 hnt [0, 1, 2] (e := .normal) (z := ⟨T0, ⟨[], []⟩⟩) (by kernel_rfl) (len_ne true (by simpa using hl)) (fun st hs => hK st (.norm [0, 1, 2] ?_))
  rw [hs]
  refine Q.seq fun K3 hK3 => ?_
  let T (j : Int) : List (Nat × PV) := T0 ++ [(15, .slice ks.len ks.cells), (16, .int .i64 ks.len), (17, .int .i64 j)]
  refine Q.runSeq S0 50 32 hnt [0, 1, 2, 15, 16, 17] (z := ⟨T 0, ⟨[], []⟩⟩) (o := []) (by kernel_rfl) okO_nil ?_
  refine Q.block ?_
  refine loopD (σ := { j : Nat // j ≤ ks.len ∧ ∀ i, i < j → eqD (ks.get i) (ls.get i) = true }) [0, 1, 2, 15, 16, 17] 0 (by rw [hnb]; exact Nat.le_refl _) (fun j => ⟨T j.1, ⟨[], []⟩⟩) (fun j => ks.len - j.1) ⟨0, Nat.zero_le _, fun i h => absurd h (Nat.not_lt_zero _)⟩ ⟨Nat.zero_le _, rfl, rfl, rfl, rfl⟩ fun ⟨j, hj, hall⟩ => ?_
  rcases Nat.lt_or_ge j ks.len with hlt | hge
  · have hlt2 : j < ls.len := by omega
    obtain ⟨k', n', s', ks', hget⟩ := Dats.get_mk ks j
    obtain ⟨k2, n2, s2, ls', hget2⟩ := Dats.get_mk ls j
    have hsz := Dats.get_size ks j hlt
    have hokj := Dats.get_ok ks j hlt hok
    have lokj := Dats.get_ok ls j hlt2 lok
    rw [hget] at hsz hokj
    rw [hget2] at lokj
    have d1 : isDat N [.int .i64 k', .int .i64 n', .str s', .slice ks'.len ks'.cells] = true := isDat_at (d := .mk k' n' s' ks') (by omega) hokj
    have d2 : isOk [.int .i64 k2, .int .i64 n2, .str s2, .slice ls'.len ls'.cells] = true := isOk_at (d := .mk k2 n2 s2 ls') lokj
    have d3 : ofCells2 eqD false [.int .i64 k', .int .i64 n', .str s', .slice ks'.len ks'.cells] [.int .i64 k2, .int .i64 n2, .str s2, .slice ls'.len ls'.cells] = eqD (ks.get j) (ls.get j) := by
      rw [hget, hget2]; exact ofCells2_at eqD false (.mk k' n' s' ks') (.mk k2 n2 s2 ls')
    cases hf : eqD (ks.get j) (ls.get j) with
    | true =>
      refine SWP.runQ (SQ ih [(32, [(18, true), (20, true), (21, true), (24, true), (25, true), (29, true)])] [(32, [(21, .agg [.int .i64 k', .int .i64 n', .str s', .slice ks'.len ks'.cells]), (25, .agg [.int .i64 k2, .int .i64 n2, .str s2, .slice ls'.len ls'.cells])])]) 100 32 hnt [0, 1, 2, 15, 16, 17] (e := .normal) (z := { t := [(0, PV.slice (Dats.len ks) (Dats.cells ks)), (1, PV.slice (Dats.len ls) (Dats.cells ls)), (2, PV.func (Fn.func 26) []), (15, PV.slice (Dats.len ks) (Dats.cells ks)), (16, PV.int IntKind.i64 (Int.ofNat (Dats.len ks))), (17, PV.int IntKind.i64 (IntKind.wrap IntKind.i64 (Int.ofNat (j + 1))))], h := { bx := [{ cs := [PV.int IntKind.i64 k', PV.int IntKind.i64 n', PV.str s', PV.slice (Dats.len ks') (Dats.cells ks')], ty := 24 }, { cs := [PV.int IntKind.i64 k2, PV.int IntKind.i64 n2, PV.str s2, PV.slice (Dats.len ls') (Dats.cells ls')], ty := 24 }], rw := [] } }) (o := [(decide ((↑j : Int) < (↑(Dats.len ks) : Int)), true), (true, true), (decide (0 ≤ (↑j : Int) ∧ (↑j : Int) < (↑(Dats.len ks) : Int)), true), (decide (TD.size d24 ≤ List.length (List.drop (Int.toNat (↑j : Int) * TD.size d24) (Dats.cells ks))), true), (same (PV.agg (List.take (TD.size d24) (List.drop (Int.toNat (↑j : Int) * TD.size d24) (Dats.cells ks)))) (PV.agg [PV.int IntKind.i64 k', PV.int IntKind.i64 n', PV.str s', PV.slice (Dats.len ks') (Dats.cells ks')]), true), (decide (0 ≤ (↑j : Int) ∧ (↑j : Int) < (↑(Dats.len ls) : Int)), true), (decide (TD.size d24 ≤ List.length (List.drop (Int.toNat (↑j : Int) * TD.size d24) (Dats.cells ls))), true), (same (PV.agg (List.take (TD.size d24) (List.drop (Int.toNat (↑j : Int) * TD.size d24) (Dats.cells ls)))) (PV.agg [PV.int IntKind.i64 k2, PV.int IntKind.i64 n2, PV.str s2, PV.slice (Dats.len ls') (Dats.cells ls')]), true), (true, true), (isDat N [PV.int IntKind.i64 k', PV.int IntKind.i64 n', PV.str s', PV.slice (Dats.len ks') (Dats.cells ks')], true), (isOk [PV.int IntKind.i64 k2, PV.int IntKind.i64 n2, PV.str s2, PV.slice (Dats.len ls') (Dats.cells ls')], true), (ofCells2 eqD false [PV.int IntKind.i64 k', PV.int IntKind.i64 n', PV.str s', PV.slice (Dats.len ks') (Dats.cells ks')] [PV.int IntKind.i64 k2, PV.int IntKind.i64 n2, PV.str s2, PV.slice (Dats.len ls') (Dats.cells ls')], true)]) (by kernel_rfl)
        (okO_cons (lt_at hlt) (okO_cons (rfl) (okO_cons (in_at hlt) (okO_cons (kid_len hlt) (okO_cons (kid_same' hlt hget) (okO_cons (in_at hlt2) (okO_cons (kid_len hlt2) (okO_cons (kid_same' hlt2 hget2) (okO_cons (rfl) (okO_cons (d1) (okO_cons (d2) (okO_cons (d3.trans hf) okO_nil)))))))))))) (fun st hs => ⟨⟨j + 1, hlt, fun i hi => ?_⟩, Nat.sub_lt_sub_left hlt (Nat.lt_succ_self j), ?_⟩)
      · rcases Nat.lt_succ_iff_lt_or_eq.1 hi with h | h
        · exact hall i h
        · rw [h]; exact hf
      · have e2 := congrArg AS.h hs
        change st.h = _ at e2
        refine ⟨Nat.zero_le _, rfl, ?_, ?_, ?_⟩
        · rw [hs]; rfl
        · rw [e2]
        · rw [hs]
          have := wrap1 j (by omega)
          push_cast at this
          simp only [List.take, T, T0, List.cons_append, List.nil_append]
          rw [show ((j + 1 : Nat) : Int) = (j : Int) + 1 from rfl, ← this]
          rfl
    | false =>
      refine SWP.runQ (SQ ih [(32, [(18, true), (20, true), (21, true), (24, true), (25, true), (29, false)])] [(32, [(21, .agg [.int .i64 k', .int .i64 n', .str s', .slice ks'.len ks'.cells]), (25, .agg [.int .i64 k2, .int .i64 n2, .str s2, .slice ls'.len ls'.cells])])]) 100 32 hnt [6] (e := .ret) (z := { t := [(6, PV.bool false)], h := { bx := [{ cs := [PV.int IntKind.i64 k', PV.int IntKind.i64 n', PV.str s', PV.slice (Dats.len ks') (Dats.cells ks')], ty := 24 }, { cs := [PV.int IntKind.i64 k2, PV.int IntKind.i64 n2, PV.str s2, PV.slice (Dats.len ls') (Dats.cells ls')], ty := 24 }], rw := [] } }) (o := [(decide ((↑j : Int) < (↑(Dats.len ks) : Int)), true), (true, true), (decide (0 ≤ (↑j : Int) ∧ (↑j : Int) < (↑(Dats.len ks) : Int)), true), (decide (TD.size d24 ≤ List.length (List.drop (Int.toNat (↑j : Int) * TD.size d24) (Dats.cells ks))), true), (same (PV.agg (List.take (TD.size d24) (List.drop (Int.toNat (↑j : Int) * TD.size d24) (Dats.cells ks)))) (PV.agg [PV.int IntKind.i64 k', PV.int IntKind.i64 n', PV.str s', PV.slice (Dats.len ks') (Dats.cells ks')]), true), (decide (0 ≤ (↑j : Int) ∧ (↑j : Int) < (↑(Dats.len ls) : Int)), true), (decide (TD.size d24 ≤ List.length (List.drop (Int.toNat (↑j : Int) * TD.size d24) (Dats.cells ls))), true), (same (PV.agg (List.take (TD.size d24) (List.drop (Int.toNat (↑j : Int) * TD.size d24) (Dats.cells ls)))) (PV.agg [PV.int IntKind.i64 k2, PV.int IntKind.i64 n2, PV.str s2, PV.slice (Dats.len ls') (Dats.cells ls')]), true), (true, true), (isDat N [PV.int IntKind.i64 k', PV.int IntKind.i64 n', PV.str s', PV.slice (Dats.len ks') (Dats.cells ks')], true), (isOk [PV.int IntKind.i64 k2, PV.int IntKind.i64 n2, PV.str s2, PV.slice (Dats.len ls') (Dats.cells ls')], true), (ofCells2 eqD false [PV.int IntKind.i64 k', PV.int IntKind.i64 n', PV.str s', PV.slice (Dats.len ks') (Dats.cells ks')] [PV.int IntKind.i64 k2, PV.int IntKind.i64 n2, PV.str s2, PV.slice (Dats.len ls') (Dats.cells ls')], false)]) (by kernel_rfl)
        (okO_cons (lt_at hlt) (okO_cons (rfl) (okO_cons (in_at hlt) (okO_cons (kid_len hlt) (okO_cons (kid_same' hlt hget) (okO_cons (in_at hlt2) (okO_cons (kid_len hlt2) (okO_cons (kid_same' hlt2 hget2) (okO_cons (rfl) (okO_cons (d1) (okO_cons (d2) (okO_cons (d3.trans hf) okO_nil)))))))))))) (fun st hs => hfr st [6] ?_)
      rw [hs]
      exact ⟨0, .bool false, Nat.le_refl _, Nat.zero_le _, rfl, rfl, rfl, rfl, _, rfl, by rw [eqL_not hlt hf]⟩
  · refine SWP.runQ (SQ ih [(32, [(18, false)])] []) 60 32 hnt [0] (e := .exit 0) (z := ⟨[(0, .slice ks.len ks.cells)], ⟨[], []⟩⟩) (o := [(decide ((j : Int) < (ks.len : Int)), false), (false, false)]) (by kernel_rfl) (okO_cons (ge_at hge) (okO_cons (rfl) okO_nil)) (fun st hs => hK3 st (.norm [0] ?_))
    rw [hs]
    refine SWP.runQ S0 50 32 hnt [6] (e := .ret) (z := ⟨[(6, .bool true)], ⟨[], []⟩⟩) (o := []) (by kernel_rfl) okO_nil (fun st hs => hfr st [6] ?_)
    rw [hs]
    exact FinR.pure (r := .bool true) (by kernel_rfl) rfl (by rw [(eqL_iff ks ls).2 ⟨hl, fun i hi => hall i (by omega)⟩])
end Seat
end Go.Proofs.YteimebpgmfhgjaaDoor
/- datum.Equal; pagodaref01.Same: the laws. -/
namespace Go.Proofs.YteimebpgmfhgjaaDoor
open Go.AS
set_option linter.unusedVariables false
set_option linter.unusedSimpArgs false
set_option maxRecDepth 100000
namespace Seat
theorem equalAt (N : Nat) : EqAt 26 N := by
  induction N with
  | zero => intro d e h; omega
  | succ N ih =>
    intro d e hN hok lok
    have hI := eqFAt ih
    obtain ⟨k, n, s, ks⟩ := d
    obtain ⟨k2, n2, s2, ls⟩ := e
    have hks : ks.size < N + 1 := by simp only [Dat.size] at hN; omega
    have run : ∀ (l : List (Nat × Bool)) (r : Bool) (o : Ob), call (SQF hI [(31, l)]) 100 26 [.agg [.int .i64 k, .int .i64 n, .str s, .slice ks.len ks.cells], .agg [.int .i64 k2, .int .i64 n2, .str s2, .slice ls.len ls.cells]] = some (.bool r, o) → okO o → r = eqD (.mk k n s ks) (.mk k2 n2 s2 ls) → Pure G0 26 [.agg (Dat.mk k n s ks).cells, .agg (Dat.mk k2 n2 s2 ls).cells] (fun r => r = .bool (eqD (.mk k n s ks) (.mk k2 n2 s2 ls))) := fun l r o h ho hr => by
      rw [← hr]
      exact Pure.runO 100 h ho
    have d1 := isDats_at (N := N + 1) hks hok.1 hok.2
    have d2 := isOkL_at lok.1 lok.2
    by_cases h1 : k = k2
    · by_cases h2 : n = n2
      · cases h3 : (s.toList == s2.toList) with
        | true => exact run [(9, true), (15, true), (22, true)] (ofCellsL2 eqL false ks.cells ls.cells) [(k == k2, true), (n == n2, true), (s.toList == s2.toList, true), (true, true), (isDats (N + 1) ks.len ks.cells, true), (isOkL ls.len ls.cells, true)] (by kernel_rfl) (okO_cons (by simp [h1]) (okO_cons (by simp [h2]) (okO_cons (h3) (okO_cons (rfl) (okO_cons (d1) (okO_cons (d2) okO_nil)))))) (by rw [ofCellsL2_at]; simp [eqD, h1, h2, h3])
        | false => exact run [(9, true), (15, true), (22, false)] false [(k == k2, true), (n == n2, true), (s.toList == s2.toList, false)] (by kernel_rfl) (okO_cons (by simp [h1]) (okO_cons (by simp [h2]) (okO_cons (h3) okO_nil))) (by simp [eqD, h3])
      · exact run [(9, true), (15, false)] false [(k == k2, true), (n == n2, false)] (by kernel_rfl) (okO_cons (by simp [h1]) (okO_cons (by simp [h2]) okO_nil)) (by simp [eqD, h2])
    · exact run [(9, false)] false [(k == k2, false)] (by kernel_rfl) (okO_cons (by simp [h1]) okO_nil) (by simp [eqD, h1])
theorem equal_ok (d e : Dat) (hd : d.ok) (he : e.ok) : Pure G0 26 [.agg d.cells, .agg e.cells] (fun r => r = .bool (eqD d e)) := equalAt (d.size + 1) d e (Nat.lt_succ_self _) hd he
theorem sameAt (N : Nat) : EqAt 14 N := by
  induction N with
  | zero => intro d e h; omega
  | succ N ih =>
    intro d e hN hok lok
    obtain ⟨k, n, s, ks⟩ := d
    obtain ⟨k2, n2, s2, ls⟩ := e
    have hks : ks.size < N + 1 := by simp only [Dat.size] at hN; omega
    let H : Hp := ⟨[⟨[.int .i64 k, .int .i64 n, .str s, .slice ks.len ks.cells], 24⟩, ⟨[.int .i64 k2, .int .i64 n2, .str s2, .slice ls.len ls.cells], 24⟩], []⟩
    refine Fn.enterN Tryd.func14 Tryd.ntmps14 rfl (Nat.le_of_ble_eq_true rfl) fun C fr fp hnt hp hfr hfp => ?_
    refine Q.runSeq S0 50 53 hnt [2, 3] (z := ⟨[(2, .ptr 0 0), (3, .ptr 1 0)], H⟩) (o := []) (by kernel_rfl) okO_nil ?_
    refine Q.seq fun K hK => ?_
    have no : ∀ (st : AS), nrm [4] st = ⟨[(4, .bool false)], H⟩ → eqD (.mk k n s ks) (.mk k2 n2 s2 ls) = false → fr st := fun st hs h => hfr st [4] (by
      rw [hs]
      exact ⟨0, .bool false, Nat.le_refl _, Nat.zero_le _, rfl, rfl, rfl, rfl, _, rfl, by rw [h]⟩)
    by_cases h1 : k = k2
    rotate_left
    · exact SWP.runQ (SQ ih [(53, [(10, true)])] []) 100 53 hnt [4] (e := .ret) (z := ⟨[(4, .bool false)], H⟩) (o := [(k != k2, true)]) (by kernel_rfl) (okO_cons (by simp [h1]) okO_nil) (fun st hs => no st hs (by simp [eqD, h1]))
    by_cases h2 : n = n2
    rotate_left
    · exact SWP.runQ (SQ ih [(53, [(10, false), (16, true)])] []) 100 53 hnt [4] (e := .ret) (z := ⟨[(4, .bool false)], H⟩) (o := [(k != k2, false), (n != n2, true)]) (by kernel_rfl) (okO_cons (by simp [h1]) (okO_cons (by simp [h2]) okO_nil)) (fun st hs => no st hs (by simp [eqD, h2]))
    cases h3 : (s.toList == s2.toList) with
    | false => exact SWP.runQ (SQ ih [(53, [(10, false), (16, false), (23, true)])] []) 100 53 hnt [4] (e := .ret) (z := ⟨[(4, .bool false)], H⟩) (o := [(k != k2, false), (n != n2, false), (!(s.toList == s2.toList), true)]) (by kernel_rfl) (okO_cons (by simp [h1]) (okO_cons (by simp [h2]) (okO_cons (by rw [h3]; rfl) okO_nil))) (fun st hs => no st hs (by simp [eqD, h3]))
    | true =>
      by_cases h4 : ks.len = ls.len
      rotate_left
      · exact SWP.runQ (SQ ih [(53, [(10, false), (16, false), (23, false), (32, true)])] []) 100 53 hnt [4] (e := .ret) (z := ⟨[(4, .bool false)], H⟩) (o := [(k != k2, false), (n != n2, false), (!(s.toList == s2.toList), false), ((ks.len : Int) != (ls.len : Int), true)]) (by kernel_rfl) (okO_cons (by simp [h1]) (okO_cons (by simp [h2]) (okO_cons (by rw [h3]; rfl) (okO_cons (by simp; omega) okO_nil)))) (fun st hs => no st hs (by simp [eqD, eqL_len h4]))
      refine SWP.runQ (SQ ih [(53, [(10, false), (16, false), (23, false), (32, false)])] []) 100 53 hnt [2, 3] (e := .normal) (z := ⟨[(2, .ptr 0 0), (3, .ptr 1 0)], H⟩) (o := [(k != k2, false), (n != n2, false), (!(s.toList == s2.toList), false), ((ks.len : Int) != (ls.len : Int), false)]) (by kernel_rfl) (okO_cons (by simp [h1]) (okO_cons (by simp [h2]) (okO_cons (by rw [h3]; rfl) (okO_cons (by simp; omega) okO_nil)))) (fun st hs => hK st (.norm [2, 3] ?_))
      rw [hs]
      have heq : eqD (.mk k n s ks) (.mk k2 n2 s2 ls) = eqL ks ls := by simp [eqD, h1, h2, h3]
      refine Q.seq fun K3 hK3 => ?_
      refine Q.runSeq S0 50 53 hnt [2, 3, 5] (z := ⟨[(2, .ptr 0 0), (3, .ptr 1 0), (5, .int .i64 0)], H⟩) (o := []) (by kernel_rfl) okO_nil ?_
      refine Q.block ?_
      refine Q.loopI (σ := { j : Nat // j ≤ ks.len ∧ ∀ i, i < j → eqD (ks.get i) (ls.get i) = true }) [2, 3, 5] (fun j => ⟨[(2, .ptr 0 0), (3, .ptr 1 0), (5, .int .i64 j.1)], H⟩) (fun j => ks.len - j.1) ⟨0, Nat.zero_le _, fun i h => absurd h (Nat.not_lt_zero _)⟩ rfl fun ⟨j, hj, hall⟩ => ?_
      rcases Nat.lt_or_ge j ks.len with hlt | hge
      · have hlt2 : j < ls.len := by omega
        obtain ⟨k', n', s', ks', hget⟩ := Dats.get_mk ks j
        obtain ⟨k3, n3, s3, ls', hget2⟩ := Dats.get_mk ls j
        have hsz := Dats.get_size ks j hlt
        have hokj := Dats.get_ok ks j hlt hok.2
        have lokj := Dats.get_ok ls j hlt2 lok.2
        have hlen := hok.1
        rw [hget] at hsz hokj
        rw [hget2] at lokj
        have d1 : isDat N [.int .i64 k', .int .i64 n', .str s', .slice ks'.len ks'.cells] = true := isDat_at (d := .mk k' n' s' ks') (by omega) hokj
        have d2 : isOk [.int .i64 k3, .int .i64 n3, .str s3, .slice ls'.len ls'.cells] = true := isOk_at (d := .mk k3 n3 s3 ls') lokj
        have d3 : ofCells2 eqD false [.int .i64 k', .int .i64 n', .str s', .slice ks'.len ks'.cells] [.int .i64 k3, .int .i64 n3, .str s3, .slice ls'.len ls'.cells] = eqD (ks.get j) (ls.get j) := by
          rw [hget, hget2]; exact ofCells2_at eqD false (.mk k' n' s' ks') (.mk k3 n3 s3 ls')
        cases hf : eqD (ks.get j) (ls.get j) with
        | true =>
          refine SWP.runQ (SQ ih [(53, [(38, true), (44, true), (45, true), (49, true), (50, true), (51, true)])] [(53, [(45, .agg [.int .i64 k', .int .i64 n', .str s', .slice ks'.len ks'.cells]), (50, .agg [.int .i64 k3, .int .i64 n3, .str s3, .slice ls'.len ls'.cells])])]) 100 53 hnt [2, 3, 5] (e := .normal) (z := { t := [(2, PV.ptr 0 0), (3, PV.ptr 1 0), (5, PV.int IntKind.i64 (IntKind.wrap IntKind.i64 (Int.ofNat (j + 1))))], h := { bx := [{ cs := [PV.int IntKind.i64 k, PV.int IntKind.i64 n, PV.str s, PV.slice (Dats.len ks) (Dats.cells ks)], ty := 24 }, { cs := [PV.int IntKind.i64 k2, PV.int IntKind.i64 n2, PV.str s2, PV.slice (Dats.len ls) (Dats.cells ls)], ty := 24 }], rw := [] } }) (o := [(decide ((↑j : Int) < (↑(Dats.len ks) : Int)), true), (true, true), (decide (0 ≤ (↑j : Int) ∧ (↑j : Int) < (↑(Dats.len ks) : Int)), true), (decide (TD.size d24 ≤ List.length (List.drop (Int.toNat (↑j : Int) * TD.size d24) (Dats.cells ks))), true), (same (PV.agg (List.take (TD.size d24) (List.drop (Int.toNat (↑j : Int) * TD.size d24) (Dats.cells ks)))) (PV.agg [PV.int IntKind.i64 k', PV.int IntKind.i64 n', PV.str s', PV.slice (Dats.len ks') (Dats.cells ks')]), true), (decide (0 ≤ (↑j : Int) ∧ (↑j : Int) < (↑(Dats.len ls) : Int)), true), (decide (TD.size d24 ≤ List.length (List.drop (Int.toNat (↑j : Int) * TD.size d24) (Dats.cells ls))), true), (same (PV.agg (List.take (TD.size d24) (List.drop (Int.toNat (↑j : Int) * TD.size d24) (Dats.cells ls)))) (PV.agg [PV.int IntKind.i64 k3, PV.int IntKind.i64 n3, PV.str s3, PV.slice (Dats.len ls') (Dats.cells ls')]), true), (true, true), (isDat N [PV.int IntKind.i64 k', PV.int IntKind.i64 n', PV.str s', PV.slice (Dats.len ks') (Dats.cells ks')], true), (isOk [PV.int IntKind.i64 k3, PV.int IntKind.i64 n3, PV.str s3, PV.slice (Dats.len ls') (Dats.cells ls')], true), (ofCells2 eqD false [PV.int IntKind.i64 k', PV.int IntKind.i64 n', PV.str s', PV.slice (Dats.len ks') (Dats.cells ks')] [PV.int IntKind.i64 k3, PV.int IntKind.i64 n3, PV.str s3, PV.slice (Dats.len ls') (Dats.cells ls')], true)]) (by kernel_rfl)
            (okO_cons (lt_at hlt) (okO_cons (rfl) (okO_cons (in_at hlt) (okO_cons (kid_len hlt) (okO_cons (kid_same' hlt hget) (okO_cons (in_at hlt2) (okO_cons (kid_len hlt2) (okO_cons (kid_same' hlt2 hget2) (okO_cons (rfl) (okO_cons (d1) (okO_cons (d2) (okO_cons (d3.trans hf) okO_nil)))))))))))) (fun st hs => ⟨⟨j + 1, hlt, fun i hi => ?_⟩, Nat.sub_lt_sub_left hlt (Nat.lt_succ_self j), ?_⟩)
          · rcases Nat.lt_succ_iff_lt_or_eq.1 hi with h | h
            · exact hall i h
            · rw [h]; exact hf
          · rw [hs]
            have := wrap1 j (by omega)
            push_cast at this
            simp only []
            rw [show ((j + 1 : Nat) : Int) = (j : Int) + 1 from rfl, ← this]
            rfl
        | false =>
          exact SWP.runQ (SQ ih [(53, [(38, true), (44, true), (45, true), (49, true), (50, true), (51, false)])] [(53, [(45, .agg [.int .i64 k', .int .i64 n', .str s', .slice ks'.len ks'.cells]), (50, .agg [.int .i64 k3, .int .i64 n3, .str s3, .slice ls'.len ls'.cells])])]) 100 53 hnt [4] (e := .ret) (z := { t := [(4, PV.bool false)], h := { bx := [{ cs := [PV.int IntKind.i64 k, PV.int IntKind.i64 n, PV.str s, PV.slice (Dats.len ks) (Dats.cells ks)], ty := 24 }, { cs := [PV.int IntKind.i64 k2, PV.int IntKind.i64 n2, PV.str s2, PV.slice (Dats.len ls) (Dats.cells ls)], ty := 24 }], rw := [] } }) (o := [(decide ((↑j : Int) < (↑(Dats.len ks) : Int)), true), (true, true), (decide (0 ≤ (↑j : Int) ∧ (↑j : Int) < (↑(Dats.len ks) : Int)), true), (decide (TD.size d24 ≤ List.length (List.drop (Int.toNat (↑j : Int) * TD.size d24) (Dats.cells ks))), true), (same (PV.agg (List.take (TD.size d24) (List.drop (Int.toNat (↑j : Int) * TD.size d24) (Dats.cells ks)))) (PV.agg [PV.int IntKind.i64 k', PV.int IntKind.i64 n', PV.str s', PV.slice (Dats.len ks') (Dats.cells ks')]), true), (decide (0 ≤ (↑j : Int) ∧ (↑j : Int) < (↑(Dats.len ls) : Int)), true), (decide (TD.size d24 ≤ List.length (List.drop (Int.toNat (↑j : Int) * TD.size d24) (Dats.cells ls))), true), (same (PV.agg (List.take (TD.size d24) (List.drop (Int.toNat (↑j : Int) * TD.size d24) (Dats.cells ls)))) (PV.agg [PV.int IntKind.i64 k3, PV.int IntKind.i64 n3, PV.str s3, PV.slice (Dats.len ls') (Dats.cells ls')]), true), (true, true), (isDat N [PV.int IntKind.i64 k', PV.int IntKind.i64 n', PV.str s', PV.slice (Dats.len ks') (Dats.cells ks')], true), (isOk [PV.int IntKind.i64 k3, PV.int IntKind.i64 n3, PV.str s3, PV.slice (Dats.len ls') (Dats.cells ls')], true), (ofCells2 eqD false [PV.int IntKind.i64 k', PV.int IntKind.i64 n', PV.str s', PV.slice (Dats.len ks') (Dats.cells ks')] [PV.int IntKind.i64 k3, PV.int IntKind.i64 n3, PV.str s3, PV.slice (Dats.len ls') (Dats.cells ls')], false)]) (by kernel_rfl)
            (okO_cons (lt_at hlt) (okO_cons (rfl) (okO_cons (in_at hlt) (okO_cons (kid_len hlt) (okO_cons (kid_same' hlt hget) (okO_cons (in_at hlt2) (okO_cons (kid_len hlt2) (okO_cons (kid_same' hlt2 hget2) (okO_cons (rfl) (okO_cons (d1) (okO_cons (d2) (okO_cons (d3.trans hf) okO_nil)))))))))))) (fun st hs => no st hs (by rw [heq, eqL_not hlt hf]))
      · refine SWP.runQ (SQ ih [(53, [(38, false)])] []) 60 53 hnt [2] (e := .exit 0) (z := ⟨[(2, .ptr 0 0)], H⟩) (o := [(decide ((j : Int) < (ks.len : Int)), false), (false, false)]) (by kernel_rfl) (okO_cons (ge_at hge) (okO_cons (rfl) okO_nil)) (fun st hs => hK3 st (.norm [2] ?_))
        rw [hs]
        refine SWP.runQ S0 50 53 hnt [4] (e := .ret) (z := ⟨[(4, .bool true)], H⟩) (o := []) (by kernel_rfl) okO_nil (fun st hs => hfr st [4] ?_)
        rw [hs]
        exact ⟨0, .bool true, Nat.le_refl _, Nat.zero_le _, rfl, rfl, rfl, rfl, _, rfl, by rw [heq, (eqL_iff ks ls).2 ⟨h4, fun i hi => hall i (by omega)⟩]⟩
theorem same_ok (d e : Dat) (hd : d.ok) (he : e.ok) : Pure G0 14 [.agg d.cells, .agg e.cells] (fun r => r = .bool (eqD d e)) := sameAt (d.size + 1) d e (Nat.lt_succ_self _) hd he
end Seat
end Go.Proofs.YteimebpgmfhgjaaDoor
