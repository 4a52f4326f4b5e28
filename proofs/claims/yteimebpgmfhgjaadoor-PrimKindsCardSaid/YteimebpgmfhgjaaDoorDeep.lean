/- pagodaref01.Deep: how deep a datum is. -/
import Derived.Test.YteimebpgmfhgjaaDoorBase
namespace Go.Proofs.YteimebpgmfhgjaaDoor
open Go.AS
set_option linter.unusedVariables false
set_option linter.unusedSimpArgs false
set_option maxRecDepth 100000
namespace Seat
abbrev w64' (n : Int) : Int := IntKind.i64.wrap n
def mx (x y : Int) : Int := if y > x then y else x
mutual
def deep : Dat → Int
  | .mk _ _ _ ks => w64' (deepL ks 0 + 1)
def deepL : Dats → Int → Int
  | .nil, acc => acc
  | .cons d ds, acc => deepL ds (mx acc (deep d))
end
def dmax (ks : Dats) (acc : Int) : Nat → Int
  | 0 => acc
  | j + 1 => mx (dmax ks acc j) (deep (ks.get j))
theorem dmax_len : ∀ (ks : Dats) (acc : Int), dmax ks acc ks.len = deepL ks acc := by
  have shift : ∀ (d : Dat) (ds : Dats) (acc : Int) (j : Nat), dmax (.cons d ds) acc (j + 1) = dmax ds (mx acc (deep d)) j := by
    intro d ds acc j
    induction j with
    | zero => simp [dmax, Dats.get]
    | succ j ih => rw [dmax, ih]; simp only [dmax, Dats.get]
  intro ks
  induction ks using Dats.rec (motive_1 := fun _ => True) with
  | mk => trivial
  | nil => intro acc; rfl
  | cons d ds _ ih => intro acc; simp only [Dats.len, deepL]; rw [shift, ih]
noncomputable def deepC (cs : List PV) : Int := ofCells deep 0 cs
noncomputable def deepS (N : Nat) : Nat → List PV → Option (PV × Ob)
  | 43, [.agg cs] => some (.int .i64 (deepC cs), [(isDat N cs, true)])
  | _, _ => none
theorem deepS_ok {N : Nat} (ih : ∀ d : Dat, d.size < N → d.ok → Pure G0 43 [.agg d.cells] (fun r => r = .int .i64 (deep d))) (f : Nat) (args : List PV) (r : PV) (o : Ob) (h : deepS N f args = some (r, o)) (ho : okO o) (_ : pureL args = true) : Pure G0 f args (fun x => x = r) := by
  unfold deepS at h
  split at h
  · rename_i cs
    cases h
    obtain ⟨d, rfl, h1, h2⟩ := isDat_of (ho _ (List.mem_singleton.2 rfl))
    simp only [deepC, ofCells_at]
    exact ih d h1 h2
  · cases h
def deepO (b : Bool) (nt k : Nat) : Option Bool := match Nat.beq nt 22 with
  | true => match k with
    | 9 => some b
    | 16 => some true
    | 17 => some true
    | _ => none
  | false => none
theorem wrap_in' (n : Int) (h : -9223372036854775808 ≤ n ∧ n ≤ 9223372036854775807) : w64' n = n := by unfold w64'; rw [IntKind.wrap_i64]; omega
theorem deep_ok (N : Nat) : ∀ d : Dat, d.size < N → d.ok → Pure G0 43 [.agg d.cells] (fun r => r = .int .i64 (deep d)) := by
  induction N with
  | zero => intro d h; omega
  | succ N ih =>
    intro d hN hok
    obtain ⟨k, n, s, ks⟩ := d
    let S (b : Bool) : Cfg G0 := { F := F, hF := hF, S := deepS N, hS := deepS_ok ih, orc := deepO b }
    let H : Hp := ⟨[⟨[.int .i64 k, .int .i64 n, .str s, .slice ks.len ks.cells], 24⟩], []⟩
    refine Fn.enterN Tryd.func43 Tryd.ntmps43 rfl (Nat.le_of_ble_eq_true rfl) fun C fr fp hnt hp hfr hfp => ?_
    refine Q.runSeq (S true) 50 22 hnt [1] (z := ⟨[(1, .ptr 0 0)], H⟩) (o := []) (by kernel_rfl) (fun p h => by cases h) ?_
    refine Q.runSeq (S true) 50 22 hnt [1, 3] (z := ⟨[(1, .ptr 0 0), (3, .int .i64 0)], H⟩) (o := []) (by kernel_rfl) (fun p h => by cases h) ?_
    refine Q.seq fun K hK => ?_
    refine Q.runSeq (S true) 50 22 hnt [1, 3, 4] (z := ⟨[(1, .ptr 0 0), (3, .int .i64 0), (4, .int .i64 0)], H⟩) (o := []) (by kernel_rfl) (fun p h => by cases h) ?_
    refine Q.block ?_
    refine Q.loopI (σ := { j : Nat // j ≤ ks.len }) [1, 3, 4] (fun j => ⟨[(1, .ptr 0 0), (3, .int .i64 (dmax ks 0 j.1)), (4, .int .i64 j.1)], H⟩) (fun j => ks.len - j.1) ⟨0, Nat.zero_le _⟩ rfl fun ⟨j, hj⟩ => ?_
    rcases Nat.lt_or_ge j ks.len with hlt | hge
    · refine SWP.runQ (S true) 60 22 hnt [1, 3, 4] (e := .normal) (z := ⟨[(1, .ptr 0 0), (3, .int .i64 (mx (dmax ks 0 j) (deepC ((ks.cells.drop ((j : Int).toNat * 4)).take 4)))), (4, .int .i64 (w64' ((j : Int) + 1)))], H⟩)
        (o := [(decide ((j : Int) < (ks.len : Int)), true), (true, true), (decide (0 ≤ (j : Int) ∧ (j : Int) < (ks.len : Int)), true), (decide (4 ≤ (ks.cells.drop ((j : Int).toNat * 4)).length), true), (pureL [.agg ((ks.cells.drop ((j : Int).toNat * 4)).take 4)], true), (isDat N ((ks.cells.drop ((j : Int).toNat * 4)).take 4), true)]) (by kernel_rfl) ?_ ?_
      · intro p hm
        simp only [List.mem_cons, List.not_mem_nil, or_false, Int.toNat_natCast, Dats.get_cells ks j hlt] at hm
        have := Dats.get_size ks j hlt
        rcases hm with rfl | rfl | rfl | rfl | rfl | rfl
        · simpa using hlt
        · rfl
        · simpa using hlt
        · simp only [List.length_drop, Dats.cells_len, decide_eq_true_eq]; omega
        · exact Dat.pure1 _
        · exact isDat_at (by simp only [Dat.size] at hN; omega) (Dats.get_ok ks j hlt hok.2)
      · intro s' hs
        refine ⟨⟨j + 1, hlt⟩, Nat.sub_lt_sub_left hlt (Nat.lt_succ_self j), ?_⟩
        rw [hs]
        simp only [Int.toNat_natCast, Dats.get_cells ks j hlt, deepC, ofCells_at, dmax]
        rw [wrap_in' ((j : Int) + 1) (by have := hok.1; omega)]
        rfl
    · have hje : j = ks.len := by omega
      subst hje
      refine SWP.runQ (S false) 60 22 hnt [1, 3, 4] (e := .exit 0) (z := ⟨[(1, .ptr 0 0), (3, .int .i64 (dmax ks 0 ks.len)), (4, .int .i64 ks.len)], H⟩) (o := [(decide ((ks.len : Int) < (ks.len : Int)), false), (false, false)]) (by kernel_rfl) ?_ ?_
      · intro p hm
        simp only [List.mem_cons, List.not_mem_nil, or_false] at hm
        rcases hm with rfl | rfl
        · simp
        · rfl
      · intro s' hs
        refine hK s' (.norm [1, 3, 4] ?_)
        rw [hs]
        refine Q.runSeq (S true) 50 22 hnt [2] (z := ⟨[(2, .int .i64 (w64' (dmax ks 0 ks.len + 1)))], H⟩) (o := []) (by kernel_rfl) (fun p h => by cases h) ?_
        refine Q.ret (hfr _ [2] (FinR.pure (r := .int .i64 (w64' (dmax ks 0 ks.len + 1))) (by kernel_rfl) rfl ?_))
        simp only [dmax_len, deep]
end Seat
end Go.Proofs.YteimebpgmfhgjaaDoor
