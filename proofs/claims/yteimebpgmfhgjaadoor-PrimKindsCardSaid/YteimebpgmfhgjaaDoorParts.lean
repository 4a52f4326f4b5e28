/- pagodaref01.Parts: how many parts a datum has. -/
import Derived.Test.YteimebpgmfhgjaaDoorBase
namespace Go.Proofs.YteimebpgmfhgjaaDoor
open Go.AS
set_option linter.unusedVariables false
set_option linter.unusedSimpArgs false
set_option maxRecDepth 100000
namespace Seat
abbrev w64 (n : Int) : Int := IntKind.i64.wrap n
mutual
def parts : Dat → Nat
  | .mk _ _ _ ks => partsL ks + 1
def partsL : Dats → Nat
  | .nil => 0
  | .cons d ds => parts d + partsL ds
end
def psum (ks : Dats) : Nat → Nat
  | 0 => 0
  | j + 1 => psum ks j + parts (ks.get j)
theorem psum_len : ∀ ks : Dats, psum ks ks.len = partsL ks := by
  have shift : ∀ (d : Dat) (ds : Dats) (j : Nat), psum (.cons d ds) (j + 1) = parts d + psum ds j := by
    intro d ds j
    induction j with
    | zero => simp [psum, Dats.get]
    | succ j ih => rw [psum, ih]; simp only [psum, Dats.get]; omega
  intro ks
  induction ks using Dats.rec (motive_1 := fun _ => True) with
  | mk => trivial
  | nil => rfl
  | cons d ds _ ih => simp only [Dats.len, partsL]; rw [shift, ih]
noncomputable def partsC (cs : List PV) : Int := ofCells (fun d => w64 (parts d)) 0 cs
noncomputable def partsS (N : Nat) : Nat → List PV → Option (PV × Ob)
  | 42, [.agg cs] => some (.int .i64 (partsC cs), [(isDat N cs, true)])
  | _, _ => none
theorem partsS_ok {N : Nat} (ih : ∀ d : Dat, d.size < N → d.ok → Pure G0 42 [.agg d.cells] (fun r => r = .int .i64 (w64 (parts d)))) (f : Nat) (args : List PV) (r : PV) (o : Ob) (h : partsS N f args = some (r, o)) (ho : okO o) (_ : pureL args = true) : Pure G0 f args (fun x => x = r) := by
  unfold partsS at h
  split at h
  · rename_i cs
    cases h
    obtain ⟨d, rfl, h1, h2⟩ := isDat_of (ho _ (List.mem_singleton.2 rfl))
    simp only [partsC, ofCells_at]
    exact ih d h1 h2
  · cases h
def partsO (b : Bool) (nt k : Nat) : Option Bool := match Nat.beq nt 21 with
  | true => match k with
    | 9 => some b
    | 16 => some true
    | 17 => some true
    | _ => none
  | false => none
theorem wrap_in (n : Int) (h : -9223372036854775808 ≤ n ∧ n ≤ 9223372036854775807) : w64 n = n := by unfold w64; rw [IntKind.wrap_i64]; omega
theorem wrap_add (a b : Int) : w64 (w64 a + w64 b) = w64 (a + b) := by unfold w64; simp only [IntKind.wrap_i64]; omega
theorem parts_ok (N : Nat) : ∀ d : Dat, d.size < N → d.ok → Pure G0 42 [.agg d.cells] (fun r => r = .int .i64 (w64 (parts d))) := by
  induction N with
  | zero => intro d h; omega
  | succ N ih =>
    intro d hN hok
    obtain ⟨k, n, s, ks⟩ := d
    let S (b : Bool) : Cfg G0 := { F := F, hF := hF, S := partsS N, hS := partsS_ok ih, orc := partsO b }
    let H : Hp := ⟨[⟨[.int .i64 k, .int .i64 n, .str s, .slice ks.len ks.cells], 24⟩], []⟩
    refine Fn.enterN Tryd.func42 Tryd.ntmps42 rfl (Nat.le_of_ble_eq_true rfl) fun C fr fp hnt hp hfr hfp => ?_
    refine Q.runSeq (S true) 50 21 hnt [1] (z := ⟨[(1, .ptr 0 0)], H⟩) (o := []) (by kernel_rfl) (fun p h => by cases h) ?_
    refine Q.runSeq (S true) 50 21 hnt [1, 3] (z := ⟨[(1, .ptr 0 0), (3, .int .i64 1)], H⟩) (o := []) (by kernel_rfl) (fun p h => by cases h) ?_
    refine Q.seq fun K hK => ?_
    refine Q.runSeq (S true) 50 21 hnt [1, 3, 4] (z := ⟨[(1, .ptr 0 0), (3, .int .i64 1), (4, .int .i64 0)], H⟩) (o := []) (by kernel_rfl) (fun p h => by cases h) ?_
    refine Q.block ?_
    refine Q.loopI (σ := { j : Nat // j ≤ ks.len }) [1, 3, 4] (fun j => ⟨[(1, .ptr 0 0), (3, .int .i64 (w64 (1 + psum ks j.1))), (4, .int .i64 j.1)], H⟩) (fun j => ks.len - j.1) ⟨0, Nat.zero_le _⟩ rfl fun ⟨j, hj⟩ => ?_
    rcases Nat.lt_or_ge j ks.len with hlt | hge
    · refine SWP.runQ (S true) 60 21 hnt [1, 3, 4] (e := .normal) (z := ⟨[(1, .ptr 0 0), (3, .int .i64 (w64 (w64 (1 + psum ks j) + partsC ((ks.cells.drop ((j : Int).toNat * 4)).take 4)))), (4, .int .i64 (w64 ((j : Int) + 1)))], H⟩)
        (o := [(decide ((j : Int) < (ks.len : Int)), true), (true, true), (decide (0 ≤ (j : Int) ∧ (j : Int) < (ks.len : Int)), true), (decide (4 ≤ (ks.cells.drop ((j : Int).toNat * 4)).length), true), (pureL [.agg ((ks.cells.drop ((j : Int).toNat * 4)).take 4)], true), (isDat N ((ks.cells.drop ((j : Int).toNat * 4)).take 4), true)]) (by kernel_rfl) ?_ ?_
      · intro p hm
        simp only [List.mem_cons, List.not_mem_nil, or_false, Int.toNat_natCast, Dats.get_cells ks j hlt] at hm
        have := Dats.get_size ks j hlt
        rcases hm with rfl | rfl | rfl | rfl | rfl | rfl
        · simpa using hlt
        · rfl
        · simpa using hlt
        · simp only [List.length_drop, Dats.cells_len, decide_eq_true_eq]; omega
        · exact Dat.pure1 _
        · exact isDat_at (by simp only [Dat.size] at hN; omega) (Dats.get_ok ks j hlt hok.2)
      · intro s' hs
        refine ⟨⟨j + 1, hlt⟩, Nat.sub_lt_sub_left hlt (Nat.lt_succ_self j), ?_⟩
        rw [hs]
        simp only [Int.toNat_natCast, Dats.get_cells ks j hlt, partsC, ofCells_at, wrap_add, psum]
        rw [wrap_in ((j : Int) + 1) (by have := hok.1; omega)]
        have e : (1 + (psum ks j : Int) + (parts (ks.get j) : Int)) = 1 + ((psum ks j + parts (ks.get j) : Nat) : Int) := by push_cast; omega
        rw [e]
        rfl
    · have hje : j = ks.len := by omega
      subst hje
      refine SWP.runQ (S false) 60 21 hnt [1, 3, 4] (e := .exit 0) (z := ⟨[(1, .ptr 0 0), (3, .int .i64 (w64 (1 + psum ks ks.len))), (4, .int .i64 ks.len)], H⟩) (o := [(decide ((ks.len : Int) < (ks.len : Int)), false), (false, false)]) (by kernel_rfl) ?_ ?_
      · intro p hm
        simp only [List.mem_cons, List.not_mem_nil, or_false] at hm
        rcases hm with rfl | rfl
        · simp
        · rfl
      · intro s' hs
        refine hK s' (.norm [1, 3, 4] ?_)
        rw [hs]
        refine Q.runSeq (S true) 50 21 hnt [2] (z := ⟨[(2, .int .i64 (w64 (1 + psum ks ks.len)))], H⟩) (o := []) (by kernel_rfl) (fun p h => by cases h) ?_
        refine Q.ret (hfr _ [2] (FinR.pure (r := .int .i64 (w64 (1 + psum ks ks.len))) (by kernel_rfl) rfl ?_))
        simp only [psum_len, parts]
        congr 1
        push_cast
        congr 1
        omega
end Seat
end Go.Proofs.YteimebpgmfhgjaaDoor
