/- Data: how many parts, how deep. -/
import Derived.Test.YteimebpgmfhgjaaDoorBase
/- pagodaref01.Parts: how many parts a datum has. -/
namespace Go.Proofs.YteimebpgmfhgjaaDoor
open Go.AS
set_option linter.unusedVariables false
set_option linter.unusedSimpArgs false
set_option maxRecDepth 100000
namespace Seat
abbrev w64 (n : Int) : Int := IntKind.i64.wrap n
mutual
def parts : Dat → Nat
  | .mk _ _ _ ks => partsL ks + 1
def partsL : Dats → Nat
  | .nil => 0
  | .cons d ds => parts d + partsL ds
end
def psum (ks : Dats) : Nat → Nat
  | 0 => 0
  | j + 1 => psum ks j + parts (ks.get j)
theorem psum_len : ∀ ks : Dats, psum ks ks.len = partsL ks := by
  have shift : ∀ (d : Dat) (ds : Dats) (j : Nat), psum (.cons d ds) (j + 1) = parts d + psum ds j := by
    intro d ds j
    induction j with
    | zero => simp [psum, Dats.get]
    | succ j ih => rw [psum, ih]; simp only [psum, Dats.get]; omega
  intro ks
  induction ks using Dats.rec (motive_1 := fun _ => True) with
  | mk => trivial
  | nil => rfl
  | cons d ds _ ih => simp only [Dats.len, partsL]; rw [shift, ih]
noncomputable def partsC (cs : List PV) : Int := ofCells (fun d => w64 (parts d)) 0 cs
noncomputable def partsS (N : Nat) : Nat → List PV → Option (PV × Ob)
  | 42, [.agg cs] => some (.int .i64 (partsC cs), [(isDat N cs, true)])
  | _, _ => none
theorem partsS_ok {N : Nat} (ih : ∀ d : Dat, d.size < N → d.ok → Pure G0 42 [.agg d.cells] (fun r => r = .int .i64 (w64 (parts d)))) (f : Nat) (args : List PV) (r : PV) (o : Ob) (h : partsS N f args = some (r, o)) (ho : okO o) (_ : pureL args = true) : Pure G0 f args (fun x => x = r) := by
  unfold partsS at h
  split at h
  · rename_i cs
    cases h
    obtain ⟨d, rfl, h1, h2⟩ := isDat_of (ho _ (List.mem_singleton.2 rfl))
    simp only [partsC, ofCells_at]
    exact ih d h1 h2
  · cases h
def partsO (b : Bool) (nt k : Nat) : Option Bool := match Nat.beq nt 21 with
  | true => match k with
    | 9 => some b
    | 16 => some true
    | 17 => some true
    | _ => none
  | false => none
theorem wrap_in (n : Int) (h : -9223372036854775808 ≤ n ∧ n ≤ 9223372036854775807) : w64 n = n := by unfold w64; rw [IntKind.wrap_i64]; omega
theorem wrap_add (a b : Int) : w64 (w64 a + w64 b) = w64 (a + b) := by unfold w64; simp only [IntKind.wrap_i64]; omega
theorem parts_ok (N : Nat) : ∀ d : Dat, d.size < N → d.ok → Pure G0 42 [.agg d.cells] (fun r => r = .int .i64 (w64 (parts d))) := by
  induction N with
  | zero => intro d h; omega
  | succ N ih =>
    intro d hN hok
    obtain ⟨k, n, s, ks⟩ := d
    let S (b : Bool) : Cfg G0 := { F := F, hF := hF, S := partsS N, hS := partsS_ok ih, orc := partsO b }
    let H : Hp := ⟨[⟨[.int .i64 k, .int .i64 n, .str s, .slice ks.len ks.cells], 24⟩], []⟩
    refine Fn.enterN Tryd.func42 Tryd.ntmps42 rfl (Nat.le_of_ble_eq_true rfl) fun C fr fp hnt hp hfr hfp => ?_
    refine Q.runSeq (S true) 50 21 hnt [1] (z := ⟨[(1, .ptr 0 0)], H⟩) (o := []) (by kernel_rfl) (fun p h => by cases h) ?_
    refine Q.runSeq (S true) 50 21 hnt [1, 3] (z := ⟨[(1, .ptr 0 0), (3, .int .i64 1)], H⟩) (o := []) (by kernel_rfl) (fun p h => by cases h) ?_
    refine Q.seq fun K hK => ?_
    refine Q.runSeq (S true) 50 21 hnt [1, 3, 4] (z := ⟨[(1, .ptr 0 0), (3, .int .i64 1), (4, .int .i64 0)], H⟩) (o := []) (by kernel_rfl) (fun p h => by cases h) ?_
    refine Q.block ?_
    refine Q.loopI (σ := { j : Nat // j ≤ ks.len }) [1, 3, 4] (fun j => ⟨[(1, .ptr 0 0), (3, .int .i64 (w64 (1 + psum ks j.1))), (4, .int .i64 j.1)], H⟩) (fun j => ks.len - j.1) ⟨0, Nat.zero_le _⟩ rfl fun ⟨j, hj⟩ => ?_
    rcases Nat.lt_or_ge j ks.len with hlt | hge
    · refine SWP.runQ (S true) 60 21 hnt [1, 3, 4] (e := .normal) (z := ⟨[(1, .ptr 0 0), (3, .int .i64 (w64 (w64 (1 + psum ks j) + partsC ((ks.cells.drop ((j : Int).toNat * 4)).take 4)))), (4, .int .i64 (w64 ((j : Int) + 1)))], H⟩)
        (o := [(decide ((j : Int) < (ks.len : Int)), true), (true, true), (decide (0 ≤ (j : Int) ∧ (j : Int) < (ks.len : Int)), true), (decide (4 ≤ (ks.cells.drop ((j : Int).toNat * 4)).length), true), (pureL [.agg ((ks.cells.drop ((j : Int).toNat * 4)).take 4)], true), (isDat N ((ks.cells.drop ((j : Int).toNat * 4)).take 4), true)]) (by kernel_rfl) ?_ ?_
      · intro p hm
        simp only [List.mem_cons, List.not_mem_nil, or_false, Int.toNat_natCast, Dats.get_cells ks j hlt] at hm
        have := Dats.get_size ks j hlt
        rcases hm with rfl | rfl | rfl | rfl | rfl | rfl
        · simpa using hlt
        · rfl
        · simpa using hlt
        · simp only [List.length_drop, Dats.cells_len, decide_eq_true_eq]; omega
        · exact Dat.pure1 _
        · exact isDat_at (by simp only [Dat.size] at hN; omega) (Dats.get_ok ks j hlt hok.2)
      · intro s' hs
        refine ⟨⟨j + 1, hlt⟩, Nat.sub_lt_sub_left hlt (Nat.lt_succ_self j), ?_⟩
        rw [hs]
        simp only [Int.toNat_natCast, Dats.get_cells ks j hlt, partsC, ofCells_at, wrap_add, psum]
        rw [wrap_in ((j : Int) + 1) (by have := hok.1; omega)]
        have e : (1 + (psum ks j : Int) + (parts (ks.get j) : Int)) = 1 + ((psum ks j + parts (ks.get j) : Nat) : Int) := by push_cast; omega
        rw [e]
        rfl
    · have hje : j = ks.len := by omega
      subst hje
      refine SWP.runQ (S false) 60 21 hnt [1, 3, 4] (e := .exit 0) (z := ⟨[(1, .ptr 0 0), (3, .int .i64 (w64 (1 + psum ks ks.len))), (4, .int .i64 ks.len)], H⟩) (o := [(decide ((ks.len : Int) < (ks.len : Int)), false), (false, false)]) (by kernel_rfl) ?_ ?_
      · intro p hm
        simp only [List.mem_cons, List.not_mem_nil, or_false] at hm
        rcases hm with rfl | rfl
        · simp
        · rfl
      · intro s' hs
        refine hK s' (.norm [1, 3, 4] ?_)
        rw [hs]
        refine Q.runSeq (S true) 50 21 hnt [2] (z := ⟨[(2, .int .i64 (w64 (1 + psum ks ks.len)))], H⟩) (o := []) (by kernel_rfl) (fun p h => by cases h) ?_
        refine Q.ret (hfr _ [2] (FinR.pure (r := .int .i64 (w64 (1 + psum ks ks.len))) (by kernel_rfl) rfl ?_))
        simp only [psum_len, parts]
        congr 1
        push_cast
        congr 1
        omega
end Seat
end Go.Proofs.YteimebpgmfhgjaaDoor
/- pagodaref01.Deep: how deep a datum is. -/
namespace Go.Proofs.YteimebpgmfhgjaaDoor
open Go.AS
set_option linter.unusedVariables false
set_option linter.unusedSimpArgs false
set_option maxRecDepth 100000
namespace Seat
abbrev w64' (n : Int) : Int := IntKind.i64.wrap n
def mx (x y : Int) : Int := if y > x then y else x
mutual
def deep : Dat → Int
  | .mk _ _ _ ks => w64' (deepL ks 0 + 1)
def deepL : Dats → Int → Int
  | .nil, acc => acc
  | .cons d ds, acc => deepL ds (mx acc (deep d))
end
def dmax (ks : Dats) (acc : Int) : Nat → Int
  | 0 => acc
  | j + 1 => mx (dmax ks acc j) (deep (ks.get j))
theorem dmax_len : ∀ (ks : Dats) (acc : Int), dmax ks acc ks.len = deepL ks acc := by
  have shift : ∀ (d : Dat) (ds : Dats) (acc : Int) (j : Nat), dmax (.cons d ds) acc (j + 1) = dmax ds (mx acc (deep d)) j := by
    intro d ds acc j
    induction j with
    | zero => simp [dmax, Dats.get]
    | succ j ih => rw [dmax, ih]; simp only [dmax, Dats.get]
  intro ks
  induction ks using Dats.rec (motive_1 := fun _ => True) with
  | mk => trivial
  | nil => intro acc; rfl
  | cons d ds _ ih => intro acc; simp only [Dats.len, deepL]; rw [shift, ih]
noncomputable def deepC (cs : List PV) : Int := ofCells deep 0 cs
noncomputable def deepS (N : Nat) : Nat → List PV → Option (PV × Ob)
  | 43, [.agg cs] => some (.int .i64 (deepC cs), [(isDat N cs, true)])
  | _, _ => none
theorem deepS_ok {N : Nat} (ih : ∀ d : Dat, d.size < N → d.ok → Pure G0 43 [.agg d.cells] (fun r => r = .int .i64 (deep d))) (f : Nat) (args : List PV) (r : PV) (o : Ob) (h : deepS N f args = some (r, o)) (ho : okO o) (_ : pureL args = true) : Pure G0 f args (fun x => x = r) := by
  unfold deepS at h
  split at h
  · rename_i cs
    cases h
    obtain ⟨d, rfl, h1, h2⟩ := isDat_of (ho _ (List.mem_singleton.2 rfl))
    simp only [deepC, ofCells_at]
    exact ih d h1 h2
  · cases h
def deepO (b : Bool) (nt k : Nat) : Option Bool := match Nat.beq nt 22 with
  | true => match k with
    | 9 => some b
    | 16 => some true
    | 17 => some true
    | _ => none
  | false => none
theorem wrap_in' (n : Int) (h : -9223372036854775808 ≤ n ∧ n ≤ 9223372036854775807) : w64' n = n := by unfold w64'; rw [IntKind.wrap_i64]; omega
theorem deep_ok (N : Nat) : ∀ d : Dat, d.size < N → d.ok → Pure G0 43 [.agg d.cells] (fun r => r = .int .i64 (deep d)) := by
  induction N with
  | zero => intro d h; omega
  | succ N ih =>
    intro d hN hok
    obtain ⟨k, n, s, ks⟩ := d
    let S (b : Bool) : Cfg G0 := { F := F, hF := hF, S := deepS N, hS := deepS_ok ih, orc := deepO b }
    let H : Hp := ⟨[⟨[.int .i64 k, .int .i64 n, .str s, .slice ks.len ks.cells], 24⟩], []⟩
    refine Fn.enterN Tryd.func43 Tryd.ntmps43 rfl (Nat.le_of_ble_eq_true rfl) fun C fr fp hnt hp hfr hfp => ?_
    refine Q.runSeq (S true) 50 22 hnt [1] (z := ⟨[(1, .ptr 0 0)], H⟩) (o := []) (by kernel_rfl) (fun p h => by cases h) ?_
    refine Q.runSeq (S true) 50 22 hnt [1, 3] (z := ⟨[(1, .ptr 0 0), (3, .int .i64 0)], H⟩) (o := []) (by kernel_rfl) (fun p h => by cases h) ?_
    refine Q.seq fun K hK => ?_
    refine Q.runSeq (S true) 50 22 hnt [1, 3, 4] (z := ⟨[(1, .ptr 0 0), (3, .int .i64 0), (4, .int .i64 0)], H⟩) (o := []) (by kernel_rfl) (fun p h => by cases h) ?_
    refine Q.block ?_
    refine Q.loopI (σ := { j : Nat // j ≤ ks.len }) [1, 3, 4] (fun j => ⟨[(1, .ptr 0 0), (3, .int .i64 (dmax ks 0 j.1)), (4, .int .i64 j.1)], H⟩) (fun j => ks.len - j.1) ⟨0, Nat.zero_le _⟩ rfl fun ⟨j, hj⟩ => ?_
    rcases Nat.lt_or_ge j ks.len with hlt | hge
    · refine SWP.runQ (S true) 60 22 hnt [1, 3, 4] (e := .normal) (z := ⟨[(1, .ptr 0 0), (3, .int .i64 (mx (dmax ks 0 j) (deepC ((ks.cells.drop ((j : Int).toNat * 4)).take 4)))), (4, .int .i64 (w64' ((j : Int) + 1)))], H⟩)
        (o := [(decide ((j : Int) < (ks.len : Int)), true), (true, true), (decide (0 ≤ (j : Int) ∧ (j : Int) < (ks.len : Int)), true), (decide (4 ≤ (ks.cells.drop ((j : Int).toNat * 4)).length), true), (pureL [.agg ((ks.cells.drop ((j : Int).toNat * 4)).take 4)], true), (isDat N ((ks.cells.drop ((j : Int).toNat * 4)).take 4), true)]) (by kernel_rfl) ?_ ?_
      · intro p hm
        simp only [List.mem_cons, List.not_mem_nil, or_false, Int.toNat_natCast, Dats.get_cells ks j hlt] at hm
        have := Dats.get_size ks j hlt
        rcases hm with rfl | rfl | rfl | rfl | rfl | rfl
        · simpa using hlt
        · rfl
        · simpa using hlt
        · simp only [List.length_drop, Dats.cells_len, decide_eq_true_eq]; omega
        · exact Dat.pure1 _
        · exact isDat_at (by simp only [Dat.size] at hN; omega) (Dats.get_ok ks j hlt hok.2)
      · intro s' hs
        refine ⟨⟨j + 1, hlt⟩, Nat.sub_lt_sub_left hlt (Nat.lt_succ_self j), ?_⟩
        rw [hs]
        simp only [Int.toNat_natCast, Dats.get_cells ks j hlt, deepC, ofCells_at, dmax]
        rw [wrap_in' ((j : Int) + 1) (by have := hok.1; omega)]
        rfl
    · have hje : j = ks.len := by omega
      subst hje
      refine SWP.runQ (S false) 60 22 hnt [1, 3, 4] (e := .exit 0) (z := ⟨[(1, .ptr 0 0), (3, .int .i64 (dmax ks 0 ks.len)), (4, .int .i64 ks.len)], H⟩) (o := [(decide ((ks.len : Int) < (ks.len : Int)), false), (false, false)]) (by kernel_rfl) ?_ ?_
      · intro p hm
        simp only [List.mem_cons, List.not_mem_nil, or_false] at hm
        rcases hm with rfl | rfl
        · simp
        · rfl
      · intro s' hs
        refine hK s' (.norm [1, 3, 4] ?_)
        rw [hs]
        refine Q.runSeq (S true) 50 22 hnt [2] (z := ⟨[(2, .int .i64 (w64' (dmax ks 0 ks.len + 1)))], H⟩) (o := []) (by kernel_rfl) (fun p h => by cases h) ?_
        refine Q.ret (hfr _ [2] (FinR.pure (r := .int .i64 (w64' (dmax ks 0 ks.len + 1))) (by kernel_rfl) rfl ?_))
        simp only [dmax_len, deep]
end Seat
end Go.Proofs.YteimebpgmfhgjaaDoor
/- datum.each: what its yields do: Parts$1 counts, Deep$1 keeps the greatest length. -/
namespace Go.Proofs.YteimebpgmfhgjaaDoor
open Go.AS
set_option linter.unusedVariables false
set_option linter.unusedSimpArgs false
set_option maxRecDepth 100000
namespace Seat
def ctr (n : Int) : Box := ⟨[.int .i64 n], 3⟩
/-- A box whose cells nobody looks at. -/
def scr (m : Nat) : Box := ⟨List.replicate m .junk, 3⟩
theorem scL_rep (k m : Nat) : scL k (List.replicate m PV.junk) = true := by
  induction m with
  | zero => rfl
  | succ m ih => rw [List.replicate_succ]; simp only [scL, ih, Bool.and_true]; rfl
def yOf (Y : Nat) : PV := .func (.func Y) [.ptr 0 0]
/-- What a yield does: the counter turns by f. -/
structure Yok (Y : Nat) (f : Int → Nat → Int) : Prop where
  fn : ∃ q, F Y = some q
  nil : ∀ (k n : Int) (s : ByteArray) (m : Nat) (cs : List PV) (cnt : Int), PCalls G0 Y [.agg [.int .i64 k, .int .i64 n, .str s, .slice m cs], .nil, .ptr 0 0] [ctr cnt] (fun o b => o = .ret (.bool true) ∧ b = [ctr (f cnt 0)])
  scr : ∀ (k n : Int) (s : ByteArray) (m : Nat) (cs : List PV) (cnt : Int) (pl pm : Nat), pl ≤ pm → PCalls G0 Y [.agg [.int .i64 k, .int .i64 n, .str s, .slice m cs], .bsl 1 pl pm, .ptr 0 0] [ctr cnt, scr pm] (fun o b => o = .ret (.bool true) ∧ b = [ctr (f cnt pl), scr pm])
def fParts (c : Int) (_ : Nat) : Int := IntKind.i64.wrap (c + 1)
def mxi (x y : Int) : Int := if y > x then y else x
def fDeep (c : Int) (n : Nat) : Int := mxi c (IntKind.i64.wrap ((n : Int) + 1))
theorem yParts : Yok 65 fParts where
  fn := ⟨_, rfl⟩
  nil := fun k n s m cs cnt => PCalls.run (S := S0) (o := []) 100 (by kernel_rfl) (fun p h => by cases h)
  scr := fun k n s m cs cnt pl pm h => by
    refine Fn.enterN Tryd.func65 Tryd.ntmps65 rfl (Nat.le_of_ble_eq_true rfl) fun C fr fp hnt hp hfr hfp => ?_
    refine SWP.runQ S0 60 8 hnt [5] (e := .ret) (z := ⟨[(5, .bool true)], ⟨[ctr (fParts cnt pl), Seat.scr pm, ⟨[.int .i64 k, .int .i64 n, .str s, .slice m cs], 24⟩], []⟩⟩) (o := []) (by kernel_rfl) (fun p h => by cases h) (fun s hs => hfr s [5] ?_)
    rw [hs]
    exact ⟨2, .bool true, Nat.le_of_ble_eq_true rfl, Nat.le_of_ble_eq_true rfl, rfl, rfl, by simp only [Seat.scr, ctr, List.take, List.all_cons, List.all_nil, scL_rep]; rfl, rfl, rfl⟩
theorem yDeep : Yok 66 fDeep where
  fn := ⟨_, rfl⟩
  nil := fun k n s m cs cnt => PCalls.run (S := S0) (o := []) 100 (by kernel_rfl) (fun p h => by cases h)
  scr := fun k n s m cs cnt pl pm h => by
    refine Fn.enterN Tryd.func66 Tryd.ntmps66 rfl (Nat.le_of_ble_eq_true rfl) fun C fr fp hnt hp hfr hfp => ?_
    refine SWP.runQ S0 60 11 hnt [5] (e := .ret) (z := ⟨[(5, .bool true)], ⟨[ctr (fDeep cnt pl), Seat.scr pm, ⟨[.int .i64 k, .int .i64 n, .str s, .slice m cs], 24⟩], []⟩⟩) (o := []) (by kernel_rfl) (fun p h => by cases h) (fun s hs => hfr s [5] ?_)
    rw [hs]
    exact ⟨2, .bool true, Nat.le_of_ble_eq_true rfl, Nat.le_of_ble_eq_true rfl, rfl, rfl, by simp only [Seat.scr, ctr, List.take, List.all_cons, List.all_nil, scL_rep]; rfl, rfl, rfl⟩
end Seat
end Go.Proofs.YteimebpgmfhgjaaDoor
/- datum.each: what it comes to; the yield's call. -/
namespace Go.Proofs.YteimebpgmfhgjaaDoor
open Go.AS
set_option linter.unusedVariables false
set_option linter.unusedSimpArgs false
set_option maxRecDepth 100000
namespace Seat
mutual
/-- The counter, behind all data in a datum at a depth. -/
def eachF (f : Int → Nat → Int) : Dat → Int → Nat → Int
  | .mk _ _ _ ks, c, n => eachL f ks (f c n) (n + 1)
def eachL (f : Int → Nat → Int) : Dats → Int → Nat → Int
  | .nil, c, _ => c
  | .cons d ds, c, n => eachL f ds (eachF f d c n) n
end
def eachP (f : Int → Nat → Int) (ks : Dats) (c : Int) (n : Nat) : Nat → Int
  | 0 => c
  | j + 1 => eachF f (ks.get j) (eachP f ks c n j) n
theorem eachP_len (f : Int → Nat → Int) (n : Nat) : ∀ (ks : Dats) (c : Int), eachP f ks c n ks.len = eachL f ks c n := by
  have shift : ∀ (d : Dat) (ds : Dats) (c : Int) (j : Nat), eachP f (.cons d ds) c n (j + 1) = eachP f ds (eachF f d c n) n j := by
    intro d ds c j
    induction j with
    | zero => simp [eachP, Dats.get]
    | succ j ih => rw [eachP, ih]; simp only [eachP, Dats.get]
  intro ks
  induction ks using Dats.rec (motive_1 := fun _ => True) with
  | mk => trivial
  | nil => intro c; rfl
  | cons d ds _ ih => intro c; simp only [Dats.len, eachL]; rw [shift, ih]
mutual
def deepN : Dat → Nat
  | .mk _ _ _ ks => deepNL ks + 1
def deepNL : Dats → Nat
  | .nil => 0
  | .cons d ds => max (deepN d) (deepNL ds)
end
theorem deepN_get : ∀ (ks : Dats) (j : Nat), j < ks.len → deepN (ks.get j) ≤ deepNL ks
  | .nil, j, h => by simp [Dats.len] at h
  | .cons d ds, 0, h => by simp only [Dats.get, deepNL]; omega
  | .cons d ds, j + 1, h => by
    have := deepN_get ds j (by simp only [Dats.len] at h; omega)
    simp only [Dats.get, deepNL]; omega
theorem wrapN (n : Nat) (h : n ≤ 9223372036854775807) : IntKind.i64.wrap (n : Int) = n := by rw [IntKind.wrap_i64]; omega
section
variable {Y : Nat} {f : Int → Nat → Int}
/-- The yield's call in region 1, of a path that is a box's. -/
theorem yield_scr (hY : Yok Y f) (k n : Int) (s : ByteArray) (m : Nat) (cs : List PV) (cnt : Int) (pl pm : Nat) (hp : pl ≤ pm) {C : Ctx} {Q : AEx → AS → Prop} {K : AS → Prop} (hnt : C.nt = 31) (st : AS) (h3 : lk st.t 9 = yOf Y) (h4 : lk st.t 10 = .agg [.int .i64 k, .int .i64 n, .str s, .slice m cs]) (h5 : lk st.t 11 = .bsl 1 pl pm) (hb : st.h.bx[0]? = some (ctr cnt)) (hb1 : st.h.bx[1]? = some (scr pm))
    (hK : K (({ st with h := ⟨st.h.bx.set 0 (ctr (f cnt pl)), st.h.rw⟩ } : AS).put (some 12) (.bool true))) :
    SOne G0 C (some 12) (.call ⟨.value (.tmp 9), #[.tmp 10, .tmp 11], #[24, 78]⟩) Q K st := fun o h1 h2 => by
  obtain ⟨q, hq⟩ := hY.fn
  obtain ⟨a1, a2, a3⟩ := hF _ _ hq
  refine SOp.callF (f := Y) (ys := [.agg [.int .i64 k, .int .i64 n, .str s, .slice m cs], .bsl 1 pl pm, .ptr 0 0]) (xs := [.agg [.int .i64 k, .int .i64 n, .str s, .slice m cs], .bsl 1 pl pm, .ptr 0 0]) (fun i => i) [ctr cnt, scr pm] h2 ?_ a1 a2 a3 rfl ?_ ?_ ?_ ?_ ?_ (hY.scr k n s m cs cnt pl pm hp) ?_
  · simp only [target, AS.ev, h3, yOf, List.map_cons, List.map_nil, h4, h5, List.cons_append, List.nil_append]
  · intro j y x hy hx
    match j with
    | 0 => simp at hy hx; subst hy; subst hx; exact .pure rfl
    | 1 => simp at hy hx; subst hy; subst hx; exact .bsl (by simp)
    | 2 => simp at hy hx; subst hy; subst hx; exact .ptr (by simp)
    | j + 3 => simp at hy
  · intro i b hi
    match i with
    | 0 => simp at hi; subst hi; exact hb
    | 1 => simp at hi; subst hi; exact hb1
    | i + 2 => simp at hi
  · simp only [List.all_cons, List.all_nil, scr, ctr, scL_rep]; rfl
  · intro i j hi hj h; exact h
  · rw [h1, hnt]; rfl
  · rintro o' b ⟨rfl, rfl⟩
    refine ⟨_, _, rfl, rfl, by simp only [List.take, List.length_cons, List.length_nil, List.all_cons, List.all_nil, scr, ctr, scL_rep]; rfl, List.length_set .., fun i hi => ?_, fun j hj => ?_, by rw [h1]; exact hK⟩
    · match i with
      | 0 => rw [List.getElem?_set_self (List.getElem?_eq_some_iff.1 hb).1]; rfl
      | 1 => rw [List.getElem?_set_ne (by simp)]; exact hb1
      | i + 2 => exact absurd hi (by simp only [List.length_cons, List.length_nil]; omega)
    · rw [List.getElem?_set_ne (hj 0 (by simp))]
/-- The same, of no path. -/
theorem yield_nil (hY : Yok Y f) (k n : Int) (s : ByteArray) (m : Nat) (cs : List PV) (cnt : Int) {C : Ctx} {Q : AEx → AS → Prop} {K : AS → Prop} (hnt : C.nt = 31) (st : AS) (h3 : lk st.t 9 = yOf Y) (h4 : lk st.t 10 = .agg [.int .i64 k, .int .i64 n, .str s, .slice m cs]) (h5 : lk st.t 11 = .nil) (hb : st.h.bx[0]? = some (ctr cnt))
    (hK : K (({ st with h := ⟨st.h.bx.set 0 (ctr (f cnt 0)), st.h.rw⟩ } : AS).put (some 12) (.bool true))) :
    SOne G0 C (some 12) (.call ⟨.value (.tmp 9), #[.tmp 10, .tmp 11], #[24, 78]⟩) Q K st := fun o h1 h2 => by
  obtain ⟨q, hq⟩ := hY.fn
  obtain ⟨a1, a2, a3⟩ := hF _ _ hq
  refine SOp.callF (f := Y) (ys := [.agg [.int .i64 k, .int .i64 n, .str s, .slice m cs], .nil, .ptr 0 0]) (xs := [.agg [.int .i64 k, .int .i64 n, .str s, .slice m cs], .nil, .ptr 0 0]) (fun i => i) [ctr cnt] h2 ?_ a1 a2 a3 rfl ?_ ?_ rfl ?_ ?_ (hY.nil k n s m cs cnt) ?_
  · simp only [target, AS.ev, h3, yOf, List.map_cons, List.map_nil, h4, h5, List.cons_append, List.nil_append]
  · intro j y x hy hx
    match j with
    | 0 => simp at hy hx; subst hy; subst hx; exact .pure rfl
    | 1 => simp at hy hx; subst hy; subst hx; exact .pure rfl
    | 2 => simp at hy hx; subst hy; subst hx; exact .ptr (by simp)
    | j + 3 => simp at hy
  · intro i b hi
    match i with
    | 0 => simp at hi; subst hi; exact hb
    | i + 1 => simp at hi
  · intro i j hi hj h; exact h
  · rw [h1, hnt]; rfl
  · rintro o' b ⟨rfl, rfl⟩
    refine ⟨_, _, rfl, rfl, rfl, List.length_set .., fun i hi => ?_, fun j hj => ?_, by rw [h1]; exact hK⟩
    · have : i = 0 := by simp at hi; exact hi
      subst this
      rw [List.getElem?_set_self (List.getElem?_eq_some_iff.1 hb).1]
      rfl
    · rw [List.getElem?_set_ne (hj 0 (by simp))]
/-- What a call of each is known to do, of data of less than N. -/
def EachAt (Y : Nat) (f : Int → Nat → Int) (N : Nat) : Prop := ∀ d : Dat, d.size < N → d.ok → ∀ (cnt : Int) (n m : Nat), n ≤ m → n + deepN d ≤ 17592186044415 → PCalls G0 64 [.agg d.cells, .bsl 1 n m, yOf Y] [ctr cnt, scr m] (fun o b => o = .ret (.bool true) ∧ b = [ctr (eachF f d cnt n), scr m])
/-- The call of each in region 6: box 0 is the counter, box q the path's. -/
theorem each_call {N : Nat} (hN : EachAt Y f N) (d : Dat) (hd : d.size < N) (hok : d.ok) (cnt : Int) (q n m : Nat) (hq : q ≠ 0) (hnm : n ≤ m) (hdeep : n + deepN d ≤ 17592186044415) {C : Ctx} {Q : AEx → AS → Prop} {K : AS → Prop} (hnt : C.nt = 31) (st : AS) (h3 : lk st.t 22 = .agg d.cells) (h4 : lk st.t 26 = .bsl q n m) (h5 : lk st.t 27 = yOf Y) (hb : st.h.bx[0]? = some (ctr cnt)) (hb1 : st.h.bx[q]? = some (scr m))
    (hK : K (({ st with h := ⟨st.h.bx.set 0 (ctr (eachF f d cnt n)), st.h.rw⟩ } : AS).put (some 28) (.bool true))) :
    SOne G0 C (some 28) (.call ⟨.value (.func 64), #[.tmp 22, .tmp 26, .tmp 27], #[24, 78, 89]⟩) Q K st := fun o h1 h2 => by
  obtain ⟨a1, a2, a3⟩ := hF 64 _ rfl
  refine SOp.callF (f := 64) (ys := [.agg d.cells, .bsl q n m, yOf Y]) (xs := [.agg d.cells, .bsl 1 n m, yOf Y]) (fun i => match i with | 0 => 0 | _ => q) [ctr cnt, scr m] h2 ?_ a1 a2 a3 rfl ?_ ?_ ?_ ?_ ?_ (hN d hd hok cnt n m hnm hdeep) ?_
  · simp only [target, AS.ev, h3, yOf, List.map_cons, List.map_nil, h4, h5, List.cons_append, List.nil_append, List.append_nil]
  · intro j y x hy hx
    match j with
    | 0 => simp at hy hx; subst hy; subst hx; exact .pure (by simp only [PV.pure, Dat.pure])
    | 1 => simp at hy hx; subst hy; subst hx; exact .bsl (pos := fun i => match i with | 0 => 0 | _ => q) (b := 1) (by simp)
    | 2 =>
      simp [yOf] at hy hx; subst hy; subst hx
      refine .func rfl fun j y x hy hx => ?_
      match j with
      | 0 => simp at hy hx; subst hy; subst hx; exact .ptr (pos := fun i => match i with | 0 => 0 | _ => q) (b := 0) (by simp)
      | j + 1 => simp at hy
    | j + 3 => simp at hy
  · intro i b hi
    match i with
    | 0 => simp at hi; subst hi; exact hb
    | 1 => simp at hi; subst hi; exact hb1
    | i + 2 => simp at hi
  · simp only [List.all_cons, List.all_nil, scr, ctr, scL_rep]; rfl
  · intro i j hi hj h
    match i, j with
    | 0, 0 => rfl
    | 0, 1 => exact absurd h.symm hq
    | 1, 0 => exact absurd h hq
    | 1, 1 => rfl
    | i + 2, _ => exact absurd hi (by simp only [List.length_cons, List.length_nil]; omega)
    | _, j + 2 => exact absurd hj (by simp only [List.length_cons, List.length_nil]; omega)
  · rw [h1, hnt]; rfl
  · rintro o' b ⟨rfl, rfl⟩
    refine ⟨_, _, rfl, rfl, by simp only [List.take, List.length_cons, List.length_nil, List.all_cons, List.all_nil, scr, ctr, scL_rep]; rfl, List.length_set .., fun i hi => ?_, fun j hj => ?_, by rw [h1]; exact hK⟩
    · match i with
      | 0 => exact (List.getElem?_set_self (List.getElem?_eq_some_iff.1 hb).1).trans rfl
      | 1 => exact (List.getElem?_set_ne (Ne.symm hq)).trans hb1
      | i + 2 => exact absurd hi (by simp only [List.length_cons, List.length_nil]; omega)
    · have := hj 0 (by simp)
      exact List.getElem?_set_ne this
end
end Seat
end Go.Proofs.YteimebpgmfhgjaaDoor
/- datum.each, of a path that is a box's: the walk. -/
namespace Go.Proofs.YteimebpgmfhgjaaDoor
open Go.AS
set_option linter.unusedVariables false
set_option linter.unusedSimpArgs false
set_option maxRecDepth 100000
namespace Seat
def eachO (b : Bool) (nt k : Nat) : Option Bool := match Nat.beq nt 31 with
  | true => match k with
    | 18 => some b
    | 20 => some true
    | 21 => some true
    | _ => none
  | false => none
def eachV (v : PV) (nt k : Nat) : Option PV := match Nat.beq nt 31 with
  | true => match k with
    | 21 => some v
    | _ => none
  | false => none
theorem eachAt {Y : Nat} {f : Int → Nat → Int} (hY : Yok Y f) (N : Nat) : EachAt Y f N := by
  induction N with
  | zero => intro d h; omega
  | succ N ih =>
    intro d hN hok cnt n m hnm hdeep
    obtain ⟨dk, dn, ds, ks⟩ := d
    let D : Box := ⟨[.int .i64 dk, .int .i64 dn, .str ds, .slice ks.len ks.cells], 24⟩
    let S (b : Bool) (v : PV) : Cfg G0 := { F := F, hF := hF, S := fun _ _ => none, hS := fun _ _ _ _ h => (by cases h), orc := eachO b, val := eachV v }
    refine Fn.enterB Tryd.func64 Tryd.ntmps64 rfl (Nat.le_of_ble_eq_true rfl) fun C fr fp hnt hnb hp hfr hfp => ?_
    refine Q.runSeq S0 50 31 hnt [1, 2, 3] (z := ⟨[(1, .bsl 1 n m), (2, yOf Y), (3, .ptr 2 0)], ⟨[ctr cnt, scr m, D], []⟩⟩) (o := []) (by kernel_rfl) (fun p h => by cases h) ?_
    refine Q.seq fun K hK => ?_
    refine Q.seq fun K2 hK2 => ?_
    (with_reducible refine Q.region (l := ?_) ?_ ?_); rotate_left; focus (simp only [strip, SO.of, List.toList_toArray, List.getElem?_cons_zero, List.getElem?_cons_succ, Option.bind_some]; rfl)
    refine SRun.step _ (by simp only [push_cast, hnt, Nat.reduceEqDiff, reduceIte, Nat.reduceAdd, Nat.reduceSub, Nat.reduceMul, Nat.reduceLeDiff, Nat.reduceLT, Nat.reduceBEq, Nat.reduceBNe, decide_true, decide_false, Nat.le_refl, Bool.not_true, Bool.not_false, Bool.false_eq_true, reduceCtorEq, Bool.true_and, Bool.and_true, ge_iff_le, Nat.lt_irrefl, Nat.zero_le]; rfl) ?_
    refine SRun.step _ (by simp only [push_cast, hnt, Nat.reduceEqDiff, reduceIte, Nat.reduceAdd, Nat.reduceSub, Nat.reduceMul, Nat.reduceLeDiff, Nat.reduceLT, Nat.reduceBEq, Nat.reduceBNe, decide_true, decide_false, Nat.le_refl, Bool.not_true, Bool.not_false, Bool.false_eq_true, reduceCtorEq, Bool.true_and, Bool.and_true, ge_iff_le, Nat.lt_irrefl, Nat.zero_le]; rfl) ?_
    refine SRun.step _ (by simp only [push_cast, hnt, Nat.reduceEqDiff, reduceIte, Nat.reduceAdd, Nat.reduceSub, Nat.reduceMul, Nat.reduceLeDiff, Nat.reduceLT, Nat.reduceBEq, Nat.reduceBNe, decide_true, decide_false, Nat.le_refl, Bool.not_true, Bool.not_false, Bool.false_eq_true, reduceCtorEq, Bool.true_and, Bool.and_true, ge_iff_le, Nat.lt_irrefl, Nat.zero_le]; rfl) ?_
    refine SRun.cons (yield_scr hY dk dn ds ks.len ks.cells cnt n m hnm hnt _ rfl rfl rfl rfl rfl ?_)
    refine SRun.step _ (by simp only [push_cast, hnt, Nat.reduceEqDiff, reduceIte, Nat.reduceAdd, Nat.reduceSub, Nat.reduceMul, Nat.reduceLeDiff, Nat.reduceLT, Nat.reduceBEq, Nat.reduceBNe, decide_true, decide_false, Nat.le_refl, Bool.not_true, Bool.not_false, Bool.false_eq_true, reduceCtorEq, Bool.true_and, Bool.and_true, ge_iff_le, Nat.lt_irrefl, Nat.zero_le]; rfl) ?_
    refine Q.nil (hK2 _ ?_)
    refine Q.cond (b := false) rfl (fun h => by cases h) (fun _ => ?_)
    refine Q.skip (hK _ (.norm [1, 2, 3] ?_))
    have e1 : ∀ (a : Int) t, nrm [1, 2, 3] ⟨t, ⟨[ctr cnt, scr m, D].set 0 (ctr a), []⟩⟩ = nrm [1, 2, 3] ⟨t, ⟨[ctr a, scr m, D], []⟩⟩ := fun _ _ => rfl
    refine Q.seq fun K3 hK3 => ?_
    refine Q.runSeq S0 50 31 hnt [1, 2, 3, 15, 16, 17] (z := ⟨[(1, .bsl 1 n m), (2, yOf Y), (3, .ptr 2 0), (15, .slice ks.len ks.cells), (16, .int .i64 ks.len), (17, .int .i64 0)], ⟨[ctr (f cnt n), scr m, D], []⟩⟩) (o := []) (by kernel_rfl) (fun p h => by cases h) ?_
    refine Q.block ?_
    let T (j : Nat) : AS := ⟨[(1, .bsl 1 n m), (2, yOf Y), (3, .ptr 2 0), (15, .slice ks.len ks.cells), (16, .int .i64 ks.len), (17, .int .i64 j)], ⟨[ctr (eachP f ks (f cnt n) (n + 1) j), scr m, D], []⟩⟩
    refine Q.loopI (σ := { j : Nat // j ≤ ks.len }) [1, 2, 3, 15, 16, 17] (fun j => T j.1) (fun j => ks.len - j.1) ⟨0, Nat.zero_le _⟩ rfl fun ⟨j, hj⟩ => ?_
    rcases Nat.lt_or_ge j ks.len with hlt | hge
    · refine Q.runSeq (S true .nil) 50 31 hnt [1, 2, 3, 15, 16, 17, 18] (z := ⟨(T j).t ++ [(18, .bool true)], (T j).h⟩) (o := [(decide ((j : Int) < (ks.len : Int)), true)]) (by kernel_rfl) (fun p hm => ?_) ?_
      · simp only [List.mem_cons, List.not_mem_nil, or_false] at hm
        subst hm
        simpa using hlt
      refine Q.runSeq S0 50 31 hnt [1, 2, 3, 15, 16, 17] (z := T j) (o := []) (by kernel_rfl) (fun p h => by cases h) ?_
      refine Q.seq fun K4 hK4 => ?_
      refine Q.block ?_
      obtain ⟨k', n', s', ks', hget⟩ : ∃ k' n' s' ks', ks.get j = .mk k' n' s' ks' := by cases h : ks.get j with | mk k n s ks => exact ⟨k, n, s, ks, rfl⟩
      let Kb : Box := ⟨[.int .i64 k', .int .i64 n', .str s', .slice ks'.len ks'.cells], 24⟩
      refine Q.runSeq (S true (.agg Kb.cs)) 50 31 hnt [1, 2, 3, 7, 8, 15, 16, 17] (z := ⟨[(1, .bsl 1 n m), (2, yOf Y), (3, .ptr 2 0), (7, .int .i64 j), (8, .ptr 3 0), (15, .slice ks.len ks.cells), (16, .int .i64 ks.len), (17, .int .i64 j)], ⟨[ctr (eachP f ks (f cnt n) (n + 1) j), scr m, D, Kb], []⟩⟩)
        (o := [(decide (0 ≤ (j : Int) ∧ (j : Int) < (ks.len : Int)), true), (decide (4 ≤ (ks.cells.drop ((j : Int).toNat * 4)).length), true), (same (.agg ((ks.cells.drop ((j : Int).toNat * 4)).take 4)) (.agg Kb.cs), true)]) (by kernel_rfl) (fun p hm => ?_) ?_
      · simp only [List.mem_cons, List.not_mem_nil, or_false, Int.toNat_natCast, Dats.get_cells ks j hlt] at hm
        rcases hm with rfl | rfl | rfl
        · simpa using hlt
        · simp only [List.length_drop, Dats.cells_len, decide_eq_true_eq]; omega
        · exact same_of (by rw [hget]; rfl)
      refine Q.seq fun K6 hK6 => ?_
      have hsz : (ks.get j).size < N := by have := Dats.get_size ks j hlt; simp only [Dat.size] at hN; omega
      have hokj : (ks.get j).ok := Dats.get_ok ks j hlt hok.2
      have hdp : n + 1 + deepN (ks.get j) ≤ 17592186044415 := by have := deepN_get ks j hlt; simp only [deepN] at hdeep; omega
      have hcs : (ks.get j).cells = Kb.cs := by rw [hget]; rfl
      have fin6 : ∀ (s : AS) (more : List Box), nrm [1, 2, 3, 15, 16, 17, 29] s = ⟨(T j).t ++ [(29, .bool false)], ⟨ctr (eachP f ks (f cnt n) (n + 1) (j + 1)) :: scr m :: D :: more, []⟩⟩ → K6 s := fun s more hs => by
        refine hK6 s (.norm [1, 2, 3, 15, 16, 17, 29] ?_)
        rw [hs]
        refine .drop 3 (by rw [hnb]; exact Nat.le_of_ble_eq_true rfl) (by simp) (by simp only [Seat.scr, ctr, List.take, List.all_cons, List.all_nil, scL_rep]; rfl) rfl rfl ?_
        refine SWP.runQ S0 50 31 hnt [1, 2, 3, 15, 16, 17] (e := .normal) (z := ⟨(T j).t, ⟨[ctr (eachP f ks (f cnt n) (n + 1) (j + 1)), scr m, D], []⟩⟩) (o := []) (by kernel_rfl) (fun p h => by cases h) (fun s hs => hK4 s (.norm [1, 2, 3, 15, 16, 17] ?_))
        rw [hs]
        refine SWP.runQ S0 50 31 hnt [1, 2, 3, 15, 16, 17] (e := .normal) (z := ⟨[(1, .bsl 1 n m), (2, yOf Y), (3, .ptr 2 0), (15, .slice ks.len ks.cells), (16, .int .i64 ks.len), (17, .int .i64 (IntKind.i64.wrap ((j : Int) + 1)))], ⟨[ctr (eachP f ks (f cnt n) (n + 1) (j + 1)), scr m, D], []⟩⟩) (o := []) (by kernel_rfl) (fun p h => by cases h) (fun s hs => ⟨⟨j + 1, hlt⟩, Nat.sub_lt_sub_left hlt (Nat.lt_succ_self j), ?_⟩)
        rw [hs]
        have := hok.1
        have e := wrapN (j + 1) (by omega)
        push_cast at e
        rw [e]
        rfl
      refine SWP.draw [4, 6] #[false, false, false, false, false, false, false, false] rfl ?_
      refine SAny.with 2 #[true, true, true, true, true, true, false, false] (fun s => ∃ (q c : Nat) (more : List Box), q ≠ 0 ∧ n + 1 ≤ c ∧ (scr m :: D :: Kb :: more)[q - 1]? = some (scr c) ∧ nrm [1, 2, 3, 15, 16, 17, 22, 26, 27] s = ⟨(T j).t ++ [(22, .agg Kb.cs), (26, .bsl q (n + 1) c), (27, yOf Y)], ⟨ctr (eachP f ks (f cnt n) (n + 1) j) :: scr m :: D :: Kb :: more, []⟩⟩) ?_ ?_
      · rintro s ⟨q, c, more, hq, hc, hbq, hs⟩
        refine SAny.norm [1, 2, 3, 15, 16, 17, 22, 26, 27] ?_
        rw [hs]
        refine SAny.last (i := 6) #[true, true, true, true, true, true, true, false] rfl rfl (by kernel_rfl) rfl ?_
        refine each_call ih (ks.get j) hsz hokj (eachP f ks (f cnt n) (n + 1) j) q (n + 1) c hq hc hdp hnt _ ?_ rfl rfl rfl ?_ ?_ _ rfl rfl
        · rw [hcs]; rfl
        · cases q with
          | zero => exact absurd rfl hq
          | succ q => simpa using hbq
        refine SAny.one (i := 7) #[true, true, true, true, true, true, true, true] rfl rfl (by kernel_rfl) ?_
        refine SOpG.val (x := .bool false) rfl (by rw [hnt]; rfl) ?_
        exact SAny.done (by kernel_rfl) (fin6 _ (Kb :: more) rfl)
      intro tail
      refine SAny.free (i := 1) (l' := #[false, true, false, false, false, false, false, false]) (x := .bsl 1 n m) rfl rfl rfl (by rw [hnt]; rfl) (by kernel_rfl) hp.q ?_
      refine SAny.free (i := 2) (l' := #[false, true, true, false, false, false, false, false]) (x := .int .i64 j) rfl rfl rfl (by rw [hnt]; rfl) (by kernel_rfl) hp.q ?_
      refine SAny.free (i := 5) (l' := #[false, true, true, false, false, true, false, false]) (x := yOf Y) rfl rfl rfl (by rw [hnt]; rfl) (by kernel_rfl) hp.q ?_
      have app : ∀ (Q : AEx → AS → Prop) (K : AS → Prop) (s : AS) (o : Oper), o.op = .call ⟨.builtin .append, #[.tmp 23, .tmp 25], #[78, 78]⟩ → o.dst = some 26 → lk s.t 23 = .bsl 1 n m → lk s.t 25 = .slice 1 [.int .i64 j] → s.h = ⟨[ctr (eachP f ks (f cnt n) (n + 1) j), scr m, D, Kb], []⟩ →
          (∀ (q c : Nat) (more : List Box), q ≠ 0 → n + 1 ≤ c → (scr m :: D :: Kb :: more)[q - 1]? = some (scr c) → K (({ s with h := ⟨ctr (eachP f ks (f cnt n) (n + 1) j) :: scr m :: D :: Kb :: more, []⟩ } : AS).put (some 26) (.bsl q (n + 1) c))) → SOp G0 C o Q K s := fun Q K s o ho hd h23 h25 hh h => by
        have hdo : dstOk C.nt o.dst = true := by rw [hd, hnt]; rfl
        rcases Nat.lt_or_ge m (n + 1) with hm | hm
        · refine SOp.scrGrow (b := 1) (n := n) (m := m) (k := 1) (cs := [.int .i64 j]) (e := 3) (td := d3) (tdt := d78) ho h23 h25 (by rw [hh]; rfl) rfl rfl rfl rfl rfl rfl (by omega) hm ?_ (by omega) hdo fun c hc => ?_
          · show (n + 1) * 8 ≤ _
            omega
          · rw [hd, hh]
            exact h 4 c [scr c] (by omega) hc rfl
        · refine SOp.scrRoom (b := 1) (n := n) (m := m) (k := 1) (cs := [.int .i64 j]) (e := 3) (td := d3) (tdt := d78) ho h23 h25 (by rw [hh]; rfl) rfl rfl rfl rfl rfl (by omega) hm hdo ?_
          rw [hd]
          have := h 1 m [] (by omega) hm rfl
          rw [← hh] at this
          exact this
      refine SAny.two (i := 0) (j := 3) #[true, true, true, false, false, true, false, false] #[false, true, true, true, false, true, false, false] rfl rfl rfl rfl (by kernel_rfl) ?_ ?_
      · refine SOpG.val (x := .agg Kb.cs) rfl (by rw [hnt]; rfl) ?_
        refine SAny.one (i := 3) #[true, true, true, true, false, true, false, false] rfl rfl (by kernel_rfl) ?_
        refine SOpG.buildSlice (e := 3) (td := d3) (tdt := d78) (out := [.int .i64 j]) rfl rfl rfl rfl rfl (by decide) rfl rfl (by rw [hnt]; rfl) ?_
        refine SAny.last (i := 4) #[true, true, true, true, true, true, false, false] rfl rfl (by kernel_rfl) rfl ?_
        refine app _ _ _ _ rfl rfl rfl rfl rfl fun q c more hq hc hb => ?_
        exact tail _ ⟨q, c, more, hq, hc, hb, rfl⟩
      · refine SOpG.buildSlice (e := 3) (td := d3) (tdt := d78) (out := [.int .i64 j]) rfl rfl rfl rfl rfl (by decide) rfl rfl (by rw [hnt]; rfl) ?_
        refine SAny.twoL (i := 0) (j := 4) #[true, true, true, true, false, true, false, false] #[false, true, true, true, true, true, false, false] rfl rfl rfl rfl (by kernel_rfl) rfl ?_ ?_
        · refine SOpG.val (x := .agg Kb.cs) rfl (by rw [hnt]; rfl) ?_
          refine SAny.last (i := 4) #[true, true, true, true, true, true, false, false] rfl rfl (by kernel_rfl) rfl ?_
          refine app _ _ _ _ rfl rfl rfl rfl rfl fun q c more hq hc hb => ?_
          exact tail _ ⟨q, c, more, hq, hc, hb, rfl⟩
        · refine app _ _ _ _ rfl rfl rfl rfl rfl fun q c more hq hc hb => ?_
          refine SAny.one (i := 0) #[true, true, true, true, true, true, false, false] rfl rfl (by kernel_rfl) ?_
          refine SOpG.val (x := .agg Kb.cs) rfl (by rw [hnt]; rfl) ?_
          exact tail _ ⟨q, c, more, hq, hc, hb, rfl⟩
    · have hje : j = ks.len := by omega
      subst hje
      refine SWP.runQ (S false .nil) 60 31 hnt [1, 2, 3, 15, 16, 17] (e := .exit 0) (z := T ks.len) (o := [(decide ((ks.len : Int) < (ks.len : Int)), false), (false, false)]) (by kernel_rfl) ?_ ?_
      · intro p hm
        simp only [List.mem_cons, List.not_mem_nil, or_false] at hm
        rcases hm with rfl | rfl
        · simp
        · rfl
      · intro s' hs
        refine hK3 s' (.norm [1, 2, 3, 15, 16, 17] ?_)
        rw [hs]
        refine SWP.runQ S0 50 31 hnt [6] (e := .ret) (z := ⟨[(6, .bool true)], ⟨[ctr (eachP f ks (f cnt n) (n + 1) ks.len), scr m, D], []⟩⟩) (o := []) (by kernel_rfl) (fun p h => by cases h) (fun s hs => hfr s [6] ?_)
        rw [hs]
        refine ⟨2, .bool true, Nat.le_of_ble_eq_true rfl, Nat.le_of_ble_eq_true rfl, rfl, rfl, by simp only [Seat.scr, ctr, List.take, List.all_cons, List.all_nil, scL_rep]; rfl, rfl, ?_⟩
        rw [eachP_len]
        rfl
end Seat
end Go.Proofs.YteimebpgmfhgjaaDoor
/- datum.each, of no path: the walk. -/
namespace Go.Proofs.YteimebpgmfhgjaaDoor
open Go.AS
set_option linter.unusedVariables false
set_option linter.unusedSimpArgs false
set_option maxRecDepth 100000
namespace Seat
theorem each_nil {Y : Nat} {f : Int → Nat → Int} (hY : Yok Y f) (d : Dat) (hok : d.ok) (cnt : Int) (hdeep : deepN d ≤ 17592186044415) : PCalls G0 64 [.agg d.cells, .nil, yOf Y] [ctr cnt] (fun o b => o = .ret (.bool true) ∧ b = [ctr (eachF f d cnt 0)]) := by
  have ih := eachAt hY
  have hZ : True := trivial
  ·
    obtain ⟨dk, dn, ds, ks⟩ := d
    let D : Box := ⟨[.int .i64 dk, .int .i64 dn, .str ds, .slice ks.len ks.cells], 24⟩
    let S (b : Bool) (v : PV) : Cfg G0 := { F := F, hF := hF, S := fun _ _ => none, hS := fun _ _ _ _ h => (by cases h), orc := eachO b, val := eachV v }
    refine Fn.enterB Tryd.func64 Tryd.ntmps64 rfl (Nat.le_of_ble_eq_true rfl) fun C fr fp hnt hnb hp hfr hfp => ?_
    refine Q.runSeq S0 50 31 hnt [1, 2, 3] (z := ⟨[(1, .nil), (2, yOf Y), (3, .ptr 1 0)], ⟨[ctr cnt, D], []⟩⟩) (o := []) (by kernel_rfl) (fun p h => by cases h) ?_
    refine Q.seq fun K hK => ?_
    refine Q.seq fun K2 hK2 => ?_
    (with_reducible refine Q.region (l := ?_) ?_ ?_); rotate_left; focus (simp only [strip, SO.of, List.toList_toArray, List.getElem?_cons_zero, List.getElem?_cons_succ, Option.bind_some]; rfl)
    refine SRun.step _ (by simp only [push_cast, hnt, Nat.reduceEqDiff, reduceIte, Nat.reduceAdd, Nat.reduceSub, Nat.reduceMul, Nat.reduceLeDiff, Nat.reduceLT, Nat.reduceBEq, Nat.reduceBNe, decide_true, decide_false, Nat.le_refl, Bool.not_true, Bool.not_false, Bool.false_eq_true, reduceCtorEq, Bool.true_and, Bool.and_true, ge_iff_le, Nat.lt_irrefl, Nat.zero_le]; rfl) ?_
    refine SRun.step _ (by simp only [push_cast, hnt, Nat.reduceEqDiff, reduceIte, Nat.reduceAdd, Nat.reduceSub, Nat.reduceMul, Nat.reduceLeDiff, Nat.reduceLT, Nat.reduceBEq, Nat.reduceBNe, decide_true, decide_false, Nat.le_refl, Bool.not_true, Bool.not_false, Bool.false_eq_true, reduceCtorEq, Bool.true_and, Bool.and_true, ge_iff_le, Nat.lt_irrefl, Nat.zero_le]; rfl) ?_
    refine SRun.step _ (by simp only [push_cast, hnt, Nat.reduceEqDiff, reduceIte, Nat.reduceAdd, Nat.reduceSub, Nat.reduceMul, Nat.reduceLeDiff, Nat.reduceLT, Nat.reduceBEq, Nat.reduceBNe, decide_true, decide_false, Nat.le_refl, Bool.not_true, Bool.not_false, Bool.false_eq_true, reduceCtorEq, Bool.true_and, Bool.and_true, ge_iff_le, Nat.lt_irrefl, Nat.zero_le]; rfl) ?_
    refine SRun.cons (yield_nil hY dk dn ds ks.len ks.cells cnt hnt _ rfl rfl rfl rfl ?_)
    refine SRun.step _ (by simp only [push_cast, hnt, Nat.reduceEqDiff, reduceIte, Nat.reduceAdd, Nat.reduceSub, Nat.reduceMul, Nat.reduceLeDiff, Nat.reduceLT, Nat.reduceBEq, Nat.reduceBNe, decide_true, decide_false, Nat.le_refl, Bool.not_true, Bool.not_false, Bool.false_eq_true, reduceCtorEq, Bool.true_and, Bool.and_true, ge_iff_le, Nat.lt_irrefl, Nat.zero_le]; rfl) ?_
    refine Q.nil (hK2 _ ?_)
    refine Q.cond (b := false) rfl (fun h => by cases h) (fun _ => ?_)
    refine Q.skip (hK _ (.norm [1, 2, 3] ?_))
    have e1 : ∀ (a : Int) t, nrm [1, 2, 3] ⟨t, ⟨[ctr cnt, D].set 0 (ctr a), []⟩⟩ = nrm [1, 2, 3] ⟨t, ⟨[ctr a, D], []⟩⟩ := fun _ _ => rfl
    refine Q.seq fun K3 hK3 => ?_
    refine Q.runSeq S0 50 31 hnt [1, 2, 3, 15, 16, 17] (z := ⟨[(1, .nil), (2, yOf Y), (3, .ptr 1 0), (15, .slice ks.len ks.cells), (16, .int .i64 ks.len), (17, .int .i64 0)], ⟨[ctr (f cnt 0), D], []⟩⟩) (o := []) (by kernel_rfl) (fun p h => by cases h) ?_
    refine Q.block ?_
    let T (j : Nat) : AS := ⟨[(1, .nil), (2, yOf Y), (3, .ptr 1 0), (15, .slice ks.len ks.cells), (16, .int .i64 ks.len), (17, .int .i64 j)], ⟨[ctr (eachP f ks (f cnt 0) (0 + 1) j), D], []⟩⟩
    refine Q.loopI (σ := { j : Nat // j ≤ ks.len }) [1, 2, 3, 15, 16, 17] (fun j => T j.1) (fun j => ks.len - j.1) ⟨0, Nat.zero_le _⟩ rfl fun ⟨j, hj⟩ => ?_
    rcases Nat.lt_or_ge j ks.len with hlt | hge
    · refine Q.runSeq (S true .nil) 50 31 hnt [1, 2, 3, 15, 16, 17, 18] (z := ⟨(T j).t ++ [(18, .bool true)], (T j).h⟩) (o := [(decide ((j : Int) < (ks.len : Int)), true)]) (by kernel_rfl) (fun p hm => ?_) ?_
      · simp only [List.mem_cons, List.not_mem_nil, or_false] at hm
        subst hm
        simpa using hlt
      refine Q.runSeq S0 50 31 hnt [1, 2, 3, 15, 16, 17] (z := T j) (o := []) (by kernel_rfl) (fun p h => by cases h) ?_
      refine Q.seq fun K4 hK4 => ?_
      refine Q.block ?_
      obtain ⟨k', n', s', ks', hget⟩ : ∃ k' n' s' ks', ks.get j = .mk k' n' s' ks' := by cases h : ks.get j with | mk k n s ks => exact ⟨k, n, s, ks, rfl⟩
      let Kb : Box := ⟨[.int .i64 k', .int .i64 n', .str s', .slice ks'.len ks'.cells], 24⟩
      refine Q.runSeq (S true (.agg Kb.cs)) 50 31 hnt [1, 2, 3, 7, 8, 15, 16, 17] (z := ⟨[(1, .nil), (2, yOf Y), (3, .ptr 1 0), (7, .int .i64 j), (8, .ptr 2 0), (15, .slice ks.len ks.cells), (16, .int .i64 ks.len), (17, .int .i64 j)], ⟨[ctr (eachP f ks (f cnt 0) (0 + 1) j), D, Kb], []⟩⟩)
        (o := [(decide (0 ≤ (j : Int) ∧ (j : Int) < (ks.len : Int)), true), (decide (4 ≤ (ks.cells.drop ((j : Int).toNat * 4)).length), true), (same (.agg ((ks.cells.drop ((j : Int).toNat * 4)).take 4)) (.agg Kb.cs), true)]) (by kernel_rfl) (fun p hm => ?_) ?_
      · simp only [List.mem_cons, List.not_mem_nil, or_false, Int.toNat_natCast, Dats.get_cells ks j hlt] at hm
        rcases hm with rfl | rfl | rfl
        · simpa using hlt
        · simp only [List.length_drop, Dats.cells_len, decide_eq_true_eq]; omega
        · exact same_of (by rw [hget]; rfl)
      refine Q.seq fun K6 hK6 => ?_
      have hsz : (ks.get j).size < (ks.get j).size + 1 := Nat.lt_succ_self _
      have hokj : (ks.get j).ok := Dats.get_ok ks j hlt hok.2
      have hdp : 0 + 1 + deepN (ks.get j) ≤ 17592186044415 := by have := deepN_get ks j hlt; simp only [deepN] at hdeep; omega
      have hcs : (ks.get j).cells = Kb.cs := by rw [hget]; rfl
      have fin6 : ∀ (s : AS) (more : List Box), nrm [1, 2, 3, 15, 16, 17, 29] s = ⟨(T j).t ++ [(29, .bool false)], ⟨ctr (eachP f ks (f cnt 0) (0 + 1) (j + 1)) :: D :: more, []⟩⟩ → K6 s := fun s more hs => by
        refine hK6 s (.norm [1, 2, 3, 15, 16, 17, 29] ?_)
        rw [hs]
        refine .drop 2 (by rw [hnb]; exact Nat.le_of_ble_eq_true rfl) (by simp) (by simp only [Seat.scr, ctr, List.take, List.all_cons, List.all_nil, scL_rep]; rfl) rfl rfl ?_
        refine SWP.runQ S0 50 31 hnt [1, 2, 3, 15, 16, 17] (e := .normal) (z := ⟨(T j).t, ⟨[ctr (eachP f ks (f cnt 0) (0 + 1) (j + 1)), D], []⟩⟩) (o := []) (by kernel_rfl) (fun p h => by cases h) (fun s hs => hK4 s (.norm [1, 2, 3, 15, 16, 17] ?_))
        rw [hs]
        refine SWP.runQ S0 50 31 hnt [1, 2, 3, 15, 16, 17] (e := .normal) (z := ⟨[(1, .nil), (2, yOf Y), (3, .ptr 1 0), (15, .slice ks.len ks.cells), (16, .int .i64 ks.len), (17, .int .i64 (IntKind.i64.wrap ((j : Int) + 1)))], ⟨[ctr (eachP f ks (f cnt 0) (0 + 1) (j + 1)), D], []⟩⟩) (o := []) (by kernel_rfl) (fun p h => by cases h) (fun s hs => ⟨⟨j + 1, hlt⟩, Nat.sub_lt_sub_left hlt (Nat.lt_succ_self j), ?_⟩)
        rw [hs]
        have := hok.1
        have e := wrapN (j + 1) (by omega)
        push_cast at e
        rw [e]
        rfl
      refine SWP.draw [4, 6] #[false, false, false, false, false, false, false, false] rfl ?_
      refine SAny.with 2 #[true, true, true, true, true, true, false, false] (fun s => ∃ (q c : Nat) (more : List Box), q ≠ 0 ∧ 0 + 1 ≤ c ∧ (D :: Kb :: more)[q - 1]? = some (scr c) ∧ nrm [1, 2, 3, 15, 16, 17, 22, 26, 27] s = ⟨(T j).t ++ [(22, .agg Kb.cs), (26, .bsl q (0 + 1) c), (27, yOf Y)], ⟨ctr (eachP f ks (f cnt 0) (0 + 1) j) :: D :: Kb :: more, []⟩⟩) ?_ ?_
      · rintro s ⟨q, c, more, hq, hc, hbq, hs⟩
        refine SAny.norm [1, 2, 3, 15, 16, 17, 22, 26, 27] ?_
        rw [hs]
        refine SAny.last (i := 6) #[true, true, true, true, true, true, true, false] rfl rfl (by kernel_rfl) rfl ?_
        refine each_call (ih ((ks.get j).size + 1)) (ks.get j) hsz hokj (eachP f ks (f cnt 0) (0 + 1) j) q (0 + 1) c hq hc hdp hnt _ ?_ rfl rfl rfl ?_ ?_ _ rfl rfl
        · rw [hcs]; rfl
        · cases q with
          | zero => exact absurd rfl hq
          | succ q => simpa using hbq
        refine SAny.one (i := 7) #[true, true, true, true, true, true, true, true] rfl rfl (by kernel_rfl) ?_
        refine SOpG.val (x := .bool false) rfl (by rw [hnt]; rfl) ?_
        exact SAny.done (by kernel_rfl) (fin6 _ (Kb :: more) rfl)
      intro tail
      refine SAny.free (i := 1) (l' := #[false, true, false, false, false, false, false, false]) (x := .nil) rfl rfl rfl (by rw [hnt]; rfl) (by kernel_rfl) hp.q ?_
      refine SAny.free (i := 2) (l' := #[false, true, true, false, false, false, false, false]) (x := .int .i64 j) rfl rfl rfl (by rw [hnt]; rfl) (by kernel_rfl) hp.q ?_
      refine SAny.free (i := 5) (l' := #[false, true, true, false, false, true, false, false]) (x := yOf Y) rfl rfl rfl (by rw [hnt]; rfl) (by kernel_rfl) hp.q ?_
      have app : ∀ (Q : AEx → AS → Prop) (K : AS → Prop) (s : AS) (o : Oper), o.op = .call ⟨.builtin .append, #[.tmp 23, .tmp 25], #[78, 78]⟩ → o.dst = some 26 → lk s.t 23 = .nil → lk s.t 25 = .slice 1 [.int .i64 j] → s.h = ⟨[ctr (eachP f ks (f cnt 0) (0 + 1) j), D, Kb], []⟩ →
          (∀ (q c : Nat) (more : List Box), q ≠ 0 → 0 + 1 ≤ c → (D :: Kb :: more)[q - 1]? = some (scr c) → K (({ s with h := ⟨ctr (eachP f ks (f cnt 0) (0 + 1) j) :: D :: Kb :: more, []⟩ } : AS).put (some 26) (.bsl q (0 + 1) c))) → SOp G0 C o Q K s := fun Q K s o ho hd h23 h25 hh h => by
        have hdo : dstOk C.nt o.dst = true := by rw [hd, hnt]; rfl
        refine SOp.scrNil (k := 1) (cs := [.int .i64 j]) (e := 3) (td := d3) (tdt := d78) ho h23 h25 rfl rfl rfl rfl rfl rfl (by omega) (by show 1 * 8 ≤ _; omega) (by omega) hdo fun c hc => ?_
        rw [hd, hh]
        exact h 3 c [scr c] (by omega) hc rfl
      refine SAny.two (i := 0) (j := 3) #[true, true, true, false, false, true, false, false] #[false, true, true, true, false, true, false, false] rfl rfl rfl rfl (by kernel_rfl) ?_ ?_
      · refine SOpG.val (x := .agg Kb.cs) rfl (by rw [hnt]; rfl) ?_
        refine SAny.one (i := 3) #[true, true, true, true, false, true, false, false] rfl rfl (by kernel_rfl) ?_
        refine SOpG.buildSlice (e := 3) (td := d3) (tdt := d78) (out := [.int .i64 j]) rfl rfl rfl rfl rfl (by decide) rfl rfl (by rw [hnt]; rfl) ?_
        refine SAny.last (i := 4) #[true, true, true, true, true, true, false, false] rfl rfl (by kernel_rfl) rfl ?_
        refine app _ _ _ _ rfl rfl rfl rfl rfl fun q c more hq hc hb => ?_
        exact tail _ ⟨q, c, more, hq, hc, hb, rfl⟩
      · refine SOpG.buildSlice (e := 3) (td := d3) (tdt := d78) (out := [.int .i64 j]) rfl rfl rfl rfl rfl (by decide) rfl rfl (by rw [hnt]; rfl) ?_
        refine SAny.twoL (i := 0) (j := 4) #[true, true, true, true, false, true, false, false] #[false, true, true, true, true, true, false, false] rfl rfl rfl rfl (by kernel_rfl) rfl ?_ ?_
        · refine SOpG.val (x := .agg Kb.cs) rfl (by rw [hnt]; rfl) ?_
          refine SAny.last (i := 4) #[true, true, true, true, true, true, false, false] rfl rfl (by kernel_rfl) rfl ?_
          refine app _ _ _ _ rfl rfl rfl rfl rfl fun q c more hq hc hb => ?_
          exact tail _ ⟨q, c, more, hq, hc, hb, rfl⟩
        · refine app _ _ _ _ rfl rfl rfl rfl rfl fun q c more hq hc hb => ?_
          refine SAny.one (i := 0) #[true, true, true, true, true, true, false, false] rfl rfl (by kernel_rfl) ?_
          refine SOpG.val (x := .agg Kb.cs) rfl (by rw [hnt]; rfl) ?_
          exact tail _ ⟨q, c, more, hq, hc, hb, rfl⟩
    · have hje : j = ks.len := by omega
      subst hje
      refine SWP.runQ (S false .nil) 60 31 hnt [1, 2, 3, 15, 16, 17] (e := .exit 0) (z := T ks.len) (o := [(decide ((ks.len : Int) < (ks.len : Int)), false), (false, false)]) (by kernel_rfl) ?_ ?_
      · intro p hm
        simp only [List.mem_cons, List.not_mem_nil, or_false] at hm
        rcases hm with rfl | rfl
        · simp
        · rfl
      · intro s' hs
        refine hK3 s' (.norm [1, 2, 3, 15, 16, 17] ?_)
        rw [hs]
        refine SWP.runQ S0 50 31 hnt [6] (e := .ret) (z := ⟨[(6, .bool true)], ⟨[ctr (eachP f ks (f cnt 0) (0 + 1) ks.len), D], []⟩⟩) (o := []) (by kernel_rfl) (fun p h => by cases h) (fun s hs => hfr s [6] ?_)
        rw [hs]
        refine ⟨1, .bool true, Nat.le_of_ble_eq_true rfl, Nat.le_of_ble_eq_true rfl, rfl, rfl, by simp only [Seat.scr, ctr, List.take, List.all_cons, List.all_nil, scL_rep]; rfl, rfl, ?_⟩
        rw [eachP_len]
        rfl
end Seat
end Go.Proofs.YteimebpgmfhgjaaDoor
/- datum.Parts, datum.Deep. -/
namespace Go.Proofs.YteimebpgmfhgjaaDoor
open Go.AS
set_option linter.unusedVariables false
set_option linter.unusedSimpArgs false
set_option maxRecDepth 100000
namespace Seat
mutual
theorem eachF_parts : ∀ (d : Dat) (c : Int) (n : Nat), eachF fParts d c n = w64 (c + parts d)
  | .mk k n' s ks, c, n => by
    simp only [eachF, parts, fParts]
    rw [eachL_parts ks]
    congr 1
    push_cast
    omega
theorem eachL_parts : ∀ (ks : Dats) (c : Int) (n : Nat), eachL fParts ks (w64 c) n = w64 (c + partsL ks)
  | .nil, c, n => by simp [eachL, partsL]
  | .cons d ds, c, n => by
    simp only [eachL, partsL]
    rw [eachF_parts d]
    have e : w64 (w64 c + (parts d : Int)) = w64 (c + parts d) := by unfold w64; simp only [IntKind.wrap_i64]; omega
    rw [e, eachL_parts ds]
    congr 1
    push_cast
    omega
end
mutual
theorem eachF_deep : ∀ (d : Dat) (c : Int) (n : Nat), n + deepN d ≤ 17592186044415 → eachF fDeep d c n = max c ((n + deepN d : Nat) : Int)
  | .mk k n' s ks, c, n, h => by
    simp only [deepN] at h
    have e : fDeep c n = max c ((n + 1 : Nat) : Int) := by
      unfold fDeep mxi
      have := wrapN (n + 1) (by omega)
      push_cast at this ⊢
      rw [this]
      split <;> omega
    simp only [eachF, deepN]
    rw [eachL_deep ks _ _ (by omega) (by rw [e]; omega), e]
    omega
theorem eachL_deep : ∀ (ks : Dats) (c : Int) (n : Nat), n + deepNL ks ≤ 17592186044415 → (n : Int) ≤ c → eachL fDeep ks c n = max c ((n + deepNL ks : Nat) : Int)
  | .nil, c, n, h, hc => by simp only [eachL, deepNL]; omega
  | .cons d ds, c, n, h, hc => by
    simp only [deepNL] at h
    simp only [eachL, deepNL]
    rw [eachF_deep d _ _ (by omega), eachL_deep ds _ _ (by omega) (by omega)]
    omega
end
/-- Not too deep. -/
def Good (d : Dat) : Prop := d.ok ∧ deepN d ≤ 17592186044415
open Classical in
noncomputable def isGood (cs : List PV) : Bool := decide (∃ d : Dat, d.cells = cs ∧ Good d)
theorem isGood_at {d : Dat} (h : Good d) : isGood d.cells = true := by
  unfold isGood
  classical exact decide_eq_true ⟨d, rfl, h⟩
theorem isGood_of {cs : List PV} (h : isGood cs = true) : ∃ d : Dat, d.cells = cs ∧ Good d := by
  unfold isGood at h
  classical exact of_decide_eq_true h
/-- each, of no path, as the interpreter takes it. -/
noncomputable def eachB (f : Nat) (args : List PV) (x : Box) : Option (PV × Box × Ob) := match f, args, x with
  | 64, [.agg cs, .nil, .func (.func Y) [.ptr 0 0]], ⟨[.int .i64 cnt], 3⟩ => match Y with
      | 65 => some (.bool true, ctr (ofCells (fun d => eachF fParts d cnt 0) 0 cs), [(isGood cs, true)])
      | 66 => some (.bool true, ctr (ofCells (fun d => eachF fDeep d cnt 0) 0 cs), [(isGood cs, true)])
      | _ => none
  | _, _, _ => none
theorem eachB_ok : ∀ f xs x r x' o, eachB f xs x = some (r, x', o) → (∀ p ∈ o, p.1 = p.2) → PCalls G0 f xs [x] (fun o' b' => o' = .ret r ∧ b' = [x']) ∧ r.sc 0 = true ∧ scL 0 x.cs = true ∧ scL 0 x'.cs = true := by
  intro f args x r b o h ho
  unfold eachB at h
  split at h
  · rename_i cs Y cnt
    split at h
    · cases h
      obtain ⟨d, rfl, h1⟩ := isGood_of (ho _ (List.mem_singleton.2 rfl))
      simp only [ofCells_at]
      exact ⟨each_nil yParts d h1.1 cnt h1.2, rfl, rfl, rfl⟩
    · cases h
      obtain ⟨d, rfl, h1⟩ := isGood_of (ho _ (List.mem_singleton.2 rfl))
      simp only [ofCells_at]
      exact ⟨each_nil yDeep d h1.1 cnt h1.2, rfl, rfl, rfl⟩
    · cases h
  · cases h
noncomputable def SE : Cfg G0 := { F := F, hF := hF, S := fun _ _ => none, hS := fun _ _ _ _ h => (by cases h), B := eachB, hB := eachB_ok }
theorem dparts_ok (d : Dat) (hd : Good d) : Pure G0 46 [.agg d.cells] (fun r => r = .int .i64 (w64 (parts d))) := by
  have e : w64 (parts d) = ofCells (fun d => eachF fParts d 0 0) 0 d.cells := by rw [ofCells_at, eachF_parts, Int.zero_add]
  rw [e]
  obtain ⟨k, n, s, ks⟩ := d
  exact Pure.runO (S := SE) 100 (o := [(isGood (Dat.mk k n s ks).cells, true)]) (by kernel_rfl) (fun p hp => by
    rw [List.mem_singleton.1 hp]; exact isGood_at hd)
theorem ddeep_ok (d : Dat) (hd : Good d) : Pure G0 47 [.agg d.cells] (fun r => r = .int .i64 (deepN d)) := by
  have e : (deepN d : Int) = ofCells (fun d => eachF fDeep d 0 0) 0 d.cells := by rw [ofCells_at, eachF_deep _ _ _ (by have := hd.2; omega)]; omega
  rw [e]
  obtain ⟨k, n, s, ks⟩ := d
  exact Pure.runO (S := SE) 100 (o := [(isGood (Dat.mk k n s ks).cells, true)]) (by kernel_rfl) (fun p hp => by
    rw [List.mem_singleton.1 hp]; exact isGood_at hd)
end Seat
end Go.Proofs.YteimebpgmfhgjaaDoor
