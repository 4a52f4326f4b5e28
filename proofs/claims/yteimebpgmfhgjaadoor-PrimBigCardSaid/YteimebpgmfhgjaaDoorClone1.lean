/- datum.Clone: the law. -/
import Derived.Test.YteimebpgmfhgjaaDoorClone0
namespace Go.Proofs.YteimebpgmfhgjaaDoor
open Go.AS
set_option linter.unusedVariables false
set_option linter.unusedSimpArgs false
set_option maxRecDepth 100000
namespace Seat
theorem cloneAt (N : Nat) : CloneAt N := by
  induction N with
  | zero => intro d h; omega
  | succ N ih =>
    intro d hN hsm
    obtain ⟨k, n, s, ks⟩ := d
    have hks : ks.size < N + 1 := by simp only [Dat.size] at hN; omega
    have hlen := hsm.1
    let Z : Box := ⟨[.int .i64 0, .int .i64 0, .str ⟨#[]⟩, .nil], 24⟩
    let X : Box := ⟨[.int .i64 k, .int .i64 n, .str s, .own 0 ks.len], 24⟩
    let H : Hp := ⟨[X, Z], [some ⟨ks.cells, ks.len, 24, 4⟩]⟩
    refine Fn.enterN Tryd.func56 Tryd.ntmps56 rfl (Nat.le_of_ble_eq_true rfl) fun C fr fp hnt hp hfr hfp => ?_
    refine Q.runSeq S0 50 26 hnt [1, 2] (z := ⟨[(1, .ptr 0 0), (2, .ptr 1 0)], ⟨[⟨[.int .i64 k, .int .i64 n, .str s, .slice ks.len ks.cells], 24⟩, Z], []⟩⟩) (o := []) (by kernel_rfl) okO_nil ?_
    refine Q.runSeq (SZ ih [] []) 50 26 hnt [1, 2] (z := ⟨[(1, .ptr 0 0), (2, .ptr 1 0)], H⟩) (o := [(true, true), (isSmallL (Dats.len ks) (Dats.cells ks), true)]) (by kernel_rfl) (okO_cons (rfl) (okO_cons (isSmallL_at hlen) okO_nil)) ?_
    refine Q.seq fun K hK => ?_
    let T (j : Nat) : AS := ⟨[(1, .ptr 0 0), (2, .ptr 1 0), (10, .int .i64 ks.len), (11, .int .i64 j)], H⟩
    refine Q.runSeq S0 50 26 hnt [1, 2, 10, 11] (z := T 0) (o := []) (by kernel_rfl) okO_nil ?_
    refine Q.block ?_
    refine Q.loopI (σ := { j : Nat // j ≤ ks.len }) [1, 2, 10, 11] (fun j => T j.1) (fun j => ks.len - j.1) ⟨0, Nat.zero_le _⟩ rfl fun ⟨j, hj⟩ => ?_
    rcases Nat.lt_or_ge j ks.len with hlt | hge
    · obtain ⟨k', n', s', ks', hget⟩ := Dats.get_mk ks j
      have hsz := Dats.get_size ks j hlt
      have hsj := smallL_get ks j hlt hsm.2
      have hspl := splice_kid ks j hlt
      rw [hget] at hsz hsj hspl
      have hsp2 : splice ks.cells ((j : Int).toNat * 4) [.int .i64 k', .int .i64 n', .str s', .slice ks'.len ks'.cells] = ks.cells := by rw [Int.toNat_natCast]; exact hspl
      have c1 : isSmall N [.int .i64 k', .int .i64 n', .str s', .slice ks'.len ks'.cells] = true := isSmall_at (d := .mk k' n' s' ks') (by omega) hsj
      have c2 : Nat.ble ((j : Int).toNat * 4 + 4) ks.cells.length = true := by rw [Nat.ble_eq, Int.toNat_natCast, Dats.cells_len]; omega
      refine SWP.runQ (SZ ih [(26, [(12, true), (20, true), (21, true), (23, true)])] [(26, [(21, .agg [.int .i64 k', .int .i64 n', .str s', .slice ks'.len ks'.cells])])]) 100 26 hnt [1, 2, 10, 11] (e := .normal) (z := ⟨[(1, .ptr 0 0), (2, .ptr 1 0), (10, .int .i64 ks.len), (11, .int .i64 (IntKind.i64.wrap ((j : Int) + 1)))], ⟨[X, Z], [some ⟨splice ks.cells ((j : Int).toNat * 4) [.int .i64 k', .int .i64 n', .str s', .slice ks'.len ks'.cells], ks.len, 24, 4⟩]⟩⟩) (o := [(decide ((j : Int) < (ks.len : Int)), true), (true, true), (decide (0 ≤ (j : Int) ∧ (j : Int) < (ks.len : Int)), true), (decide (4 ≤ (ks.cells.drop ((j : Int).toNat * 4)).length), true), (same (.agg ((ks.cells.drop ((j : Int).toNat * 4)).take 4)) (.agg [.int .i64 k', .int .i64 n', .str s', .slice ks'.len ks'.cells]), true), (true, true), (isSmall N [.int .i64 k', .int .i64 n', .str s', .slice ks'.len ks'.cells], true), (decide (0 ≤ (j : Int) ∧ (j : Int) < (ks.len : Int)), true), (Nat.ble ((j : Int).toNat * 4 + 4) ks.cells.length, true)]) (by kernel_rfl) (okO_cons (lt_at hlt) (okO_cons (rfl) (okO_cons (in_at hlt) (okO_cons (kid_len hlt) (okO_cons (kid_same' hlt hget) (okO_cons (rfl) (okO_cons (c1) (okO_cons (in_at hlt) (okO_cons (c2) okO_nil))))))))) (fun st hs => ⟨⟨j + 1, hlt⟩, Nat.sub_lt_sub_left hlt (Nat.lt_succ_self j), ?_⟩)
      rw [hs, hsp2, wrap1 j (by omega)]
    · refine SWP.runQ (SZ ih [(26, [(12, false)])] []) 60 26 hnt [1, 2] (e := .exit 0) (z := ⟨[(1, .ptr 0 0), (2, .ptr 1 0)], H⟩) (o := [(decide ((↑j : Int) < (↑(Dats.len ks) : Int)), false), (false, false)]) (by kernel_rfl) (okO_cons (ge_at hge) (okO_cons (rfl) okO_nil)) (fun st hs => hK st (.norm [1, 2] ?_))
      rw [hs]
      refine SWP.frz [0] ?_
      refine SWP.runQ S0 50 26 hnt [2] (e := .ret) (z := ⟨[(2, .ptr 1 0)], ⟨[⟨[.int .i64 k, .int .i64 n, .str s, .slice ks.len ks.cells], 24⟩, ⟨[.int .i64 k, .int .i64 n, .str s, .slice ks.len ks.cells], 24⟩], [none]⟩⟩) (o := []) (by kernel_rfl) okO_nil (fun st hs => hfr st [2] ?_)
      rw [hs]
      exact ⟨0, .agg [.int .i64 k, .int .i64 n, .str s, .slice ks.len ks.cells], Nat.le_refl _, Nat.zero_le _, rfl, rfl, rfl, rfl, _, rfl, rfl⟩
theorem clone_ok (d : Dat) (h : smallD d) : Pure G0 56 [.agg d.cells] (fun r => r = .agg d.cells) := cloneAt (d.size + 1) d (Nat.lt_succ_self _) h
end Seat
end Go.Proofs.YteimebpgmfhgjaaDoor
