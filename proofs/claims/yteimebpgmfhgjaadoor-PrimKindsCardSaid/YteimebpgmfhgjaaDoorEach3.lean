/- datum.each, of no path: the walk. -/
import Derived.Test.YteimebpgmfhgjaaDoorEach2
namespace Go.Proofs.YteimebpgmfhgjaaDoor
open Go.AS
set_option linter.unusedVariables false
set_option linter.unusedSimpArgs false
set_option maxRecDepth 100000
namespace Seat
theorem each_nil {Y : Nat} {f : Int → Nat → Int} (hY : Yok Y f) (d : Dat) (hok : d.ok) (cnt : Int) (hdeep : deepN d ≤ 17592186044415) : PCalls G0 64 [.agg d.cells, .nil, yOf Y] [ctr cnt] (fun o b => o = .ret (.bool true) ∧ b = [ctr (eachF f d cnt 0)]) := by
  have ih := eachAt hY
  have hZ : True := trivial
  ·
    obtain ⟨dk, dn, ds, ks⟩ := d
    let D : Box := ⟨[.int .i64 dk, .int .i64 dn, .str ds, .slice ks.len ks.cells], 24⟩
    let S (b : Bool) (v : PV) : Cfg G0 := { F := F, hF := hF, S := fun _ _ => none, hS := fun _ _ _ _ h => (by cases h), orc := eachO b, val := eachV v }
    refine Fn.enterB Tryd.func64 Tryd.ntmps64 rfl (Nat.le_of_ble_eq_true rfl) fun C fr fp hnt hnb hp hfr hfp => ?_
    refine Q.runSeq S0 50 31 hnt [1, 2, 3] (z := ⟨[(1, .nil), (2, yOf Y), (3, .ptr 1 0)], ⟨[ctr cnt, D], []⟩⟩) (o := []) (by kernel_rfl) (fun p h => by cases h) ?_
    refine Q.seq fun K hK => ?_
    refine Q.seq fun K2 hK2 => ?_
    (with_reducible refine Q.region (l := ?_) ?_ ?_); rotate_left; focus (simp only [strip, SO.of, List.toList_toArray, List.getElem?_cons_zero, List.getElem?_cons_succ, Option.bind_some]; rfl)
    refine SRun.step _ (by simp only [push_cast, hnt, Nat.reduceEqDiff, reduceIte, Nat.reduceAdd, Nat.reduceSub, Nat.reduceMul, Nat.reduceLeDiff, Nat.reduceLT, Nat.reduceBEq, Nat.reduceBNe, decide_true, decide_false, Nat.le_refl, Bool.not_true, Bool.not_false, Bool.false_eq_true, reduceCtorEq, Bool.true_and, Bool.and_true, ge_iff_le, Nat.lt_irrefl, Nat.zero_le]; rfl) ?_
    refine SRun.step _ (by simp only [push_cast, hnt, Nat.reduceEqDiff, reduceIte, Nat.reduceAdd, Nat.reduceSub, Nat.reduceMul, Nat.reduceLeDiff, Nat.reduceLT, Nat.reduceBEq, Nat.reduceBNe, decide_true, decide_false, Nat.le_refl, Bool.not_true, Bool.not_false, Bool.false_eq_true, reduceCtorEq, Bool.true_and, Bool.and_true, ge_iff_le, Nat.lt_irrefl, Nat.zero_le]; rfl) ?_
    refine SRun.step _ (by simp only [push_cast, hnt, Nat.reduceEqDiff, reduceIte, Nat.reduceAdd, Nat.reduceSub, Nat.reduceMul, Nat.reduceLeDiff, Nat.reduceLT, Nat.reduceBEq, Nat.reduceBNe, decide_true, decide_false, Nat.le_refl, Bool.not_true, Bool.not_false, Bool.false_eq_true, reduceCtorEq, Bool.true_and, Bool.and_true, ge_iff_le, Nat.lt_irrefl, Nat.zero_le]; rfl) ?_
    refine SRun.cons (yield_nil hY dk dn ds ks.len ks.cells cnt hnt _ rfl rfl rfl rfl ?_)
    refine SRun.step _ (by simp only [push_cast, hnt, Nat.reduceEqDiff, reduceIte, Nat.reduceAdd, Nat.reduceSub, Nat.reduceMul, Nat.reduceLeDiff, Nat.reduceLT, Nat.reduceBEq, Nat.reduceBNe, decide_true, decide_false, Nat.le_refl, Bool.not_true, Bool.not_false, Bool.false_eq_true, reduceCtorEq, Bool.true_and, Bool.and_true, ge_iff_le, Nat.lt_irrefl, Nat.zero_le]; rfl) ?_
    refine Q.nil (hK2 _ ?_)
    refine Q.cond (b := false) rfl (fun h => by cases h) (fun _ => ?_)
    refine Q.skip (hK _ (.norm [1, 2, 3] ?_))
    have e1 : ∀ (a : Int) t, nrm [1, 2, 3] ⟨t, ⟨[ctr cnt, D].set 0 (ctr a), []⟩⟩ = nrm [1, 2, 3] ⟨t, ⟨[ctr a, D], []⟩⟩ := fun _ _ => rfl
    refine Q.seq fun K3 hK3 => ?_
    refine Q.runSeq S0 50 31 hnt [1, 2, 3, 15, 16, 17] (z := ⟨[(1, .nil), (2, yOf Y), (3, .ptr 1 0), (15, .slice ks.len ks.cells), (16, .int .i64 ks.len), (17, .int .i64 0)], ⟨[ctr (f cnt 0), D], []⟩⟩) (o := []) (by kernel_rfl) (fun p h => by cases h) ?_
    refine Q.block ?_
    let T (j : Nat) : AS := ⟨[(1, .nil), (2, yOf Y), (3, .ptr 1 0), (15, .slice ks.len ks.cells), (16, .int .i64 ks.len), (17, .int .i64 j)], ⟨[ctr (eachP f ks (f cnt 0) (0 + 1) j), D], []⟩⟩
    refine Q.loopI (σ := { j : Nat // j ≤ ks.len }) [1, 2, 3, 15, 16, 17] (fun j => T j.1) (fun j => ks.len - j.1) ⟨0, Nat.zero_le _⟩ rfl fun ⟨j, hj⟩ => ?_
    rcases Nat.lt_or_ge j ks.len with hlt | hge
    · refine Q.runSeq (S true .nil) 50 31 hnt [1, 2, 3, 15, 16, 17, 18] (z := ⟨(T j).t ++ [(18, .bool true)], (T j).h⟩) (o := [(decide ((j : Int) < (ks.len : Int)), true)]) (by kernel_rfl) (fun p hm => ?_) ?_
      · simp only [List.mem_cons, List.not_mem_nil, or_false] at hm
        subst hm
        simpa using hlt
      refine Q.runSeq S0 50 31 hnt [1, 2, 3, 15, 16, 17] (z := T j) (o := []) (by kernel_rfl) (fun p h => by cases h) ?_
      refine Q.seq fun K4 hK4 => ?_
      refine Q.block ?_
      obtain ⟨k', n', s', ks', hget⟩ : ∃ k' n' s' ks', ks.get j = .mk k' n' s' ks' := by cases h : ks.get j with | mk k n s ks => exact ⟨k, n, s, ks, rfl⟩
      let Kb : Box := ⟨[.int .i64 k', .int .i64 n', .str s', .slice ks'.len ks'.cells], 24⟩
      refine Q.runSeq (S true (.agg Kb.cs)) 50 31 hnt [1, 2, 3, 7, 8, 15, 16, 17] (z := ⟨[(1, .nil), (2, yOf Y), (3, .ptr 1 0), (7, .int .i64 j), (8, .ptr 2 0), (15, .slice ks.len ks.cells), (16, .int .i64 ks.len), (17, .int .i64 j)], ⟨[ctr (eachP f ks (f cnt 0) (0 + 1) j), D, Kb], []⟩⟩)
        (o := [(decide (0 ≤ (j : Int) ∧ (j : Int) < (ks.len : Int)), true), (decide (4 ≤ (ks.cells.drop ((j : Int).toNat * 4)).length), true), (same (.agg ((ks.cells.drop ((j : Int).toNat * 4)).take 4)) (.agg Kb.cs), true)]) (by kernel_rfl) (fun p hm => ?_) ?_
      · simp only [List.mem_cons, List.not_mem_nil, or_false, Int.toNat_natCast, Dats.get_cells ks j hlt] at hm
        rcases hm with rfl | rfl | rfl
        · simpa using hlt
        · simp only [List.length_drop, Dats.cells_len, decide_eq_true_eq]; omega
        · exact same_of (by rw [hget]; rfl)
      refine Q.seq fun K6 hK6 => ?_
      have hsz : (ks.get j).size < (ks.get j).size + 1 := Nat.lt_succ_self _
      have hokj : (ks.get j).ok := Dats.get_ok ks j hlt hok.2
      have hdp : 0 + 1 + deepN (ks.get j) ≤ 17592186044415 := by have := deepN_get ks j hlt; simp only [deepN] at hdeep; omega
      have hcs : (ks.get j).cells = Kb.cs := by rw [hget]; rfl
      have fin6 : ∀ (s : AS) (more : List Box), nrm [1, 2, 3, 15, 16, 17, 29] s = ⟨(T j).t ++ [(29, .bool false)], ⟨ctr (eachP f ks (f cnt 0) (0 + 1) (j + 1)) :: D :: more, []⟩⟩ → K6 s := fun s more hs => by
        refine hK6 s (.norm [1, 2, 3, 15, 16, 17, 29] ?_)
        rw [hs]
        refine .drop 2 (by rw [hnb]; exact Nat.le_of_ble_eq_true rfl) (by simp) (by simp only [Seat.scr, ctr, List.take, List.all_cons, List.all_nil, scL_rep]; rfl) rfl rfl ?_
        refine SWP.runQ S0 50 31 hnt [1, 2, 3, 15, 16, 17] (e := .normal) (z := ⟨(T j).t, ⟨[ctr (eachP f ks (f cnt 0) (0 + 1) (j + 1)), D], []⟩⟩) (o := []) (by kernel_rfl) (fun p h => by cases h) (fun s hs => hK4 s (.norm [1, 2, 3, 15, 16, 17] ?_))
        rw [hs]
        refine SWP.runQ S0 50 31 hnt [1, 2, 3, 15, 16, 17] (e := .normal) (z := ⟨[(1, .nil), (2, yOf Y), (3, .ptr 1 0), (15, .slice ks.len ks.cells), (16, .int .i64 ks.len), (17, .int .i64 (IntKind.i64.wrap ((j : Int) + 1)))], ⟨[ctr (eachP f ks (f cnt 0) (0 + 1) (j + 1)), D], []⟩⟩) (o := []) (by kernel_rfl) (fun p h => by cases h) (fun s hs => ⟨⟨j + 1, hlt⟩, Nat.sub_lt_sub_left hlt (Nat.lt_succ_self j), ?_⟩)
        rw [hs]
        have := hok.1
        have e := wrapN (j + 1) (by omega)
        push_cast at e
        rw [e]
        rfl
      refine SWP.draw [4, 6] #[false, false, false, false, false, false, false, false] rfl ?_
      refine SAny.with 2 #[true, true, true, true, true, true, false, false] (fun s => ∃ (q c : Nat) (more : List Box), q ≠ 0 ∧ 0 + 1 ≤ c ∧ (D :: Kb :: more)[q - 1]? = some (scr c) ∧ nrm [1, 2, 3, 15, 16, 17, 22, 26, 27] s = ⟨(T j).t ++ [(22, .agg Kb.cs), (26, .bsl q (0 + 1) c), (27, yOf Y)], ⟨ctr (eachP f ks (f cnt 0) (0 + 1) j) :: D :: Kb :: more, []⟩⟩) ?_ ?_
      · rintro s ⟨q, c, more, hq, hc, hbq, hs⟩
        refine SAny.norm [1, 2, 3, 15, 16, 17, 22, 26, 27] ?_
        rw [hs]
        refine SAny.last (i := 6) #[true, true, true, true, true, true, true, false] rfl rfl (by kernel_rfl) rfl ?_
        refine each_call (ih ((ks.get j).size + 1)) (ks.get j) hsz hokj (eachP f ks (f cnt 0) (0 + 1) j) q (0 + 1) c hq hc hdp hnt _ ?_ rfl rfl rfl ?_ ?_ _ rfl rfl
        · rw [hcs]; rfl
        · cases q with
          | zero => exact absurd rfl hq
          | succ q => simpa using hbq
        refine SAny.one (i := 7) #[true, true, true, true, true, true, true, true] rfl rfl (by kernel_rfl) ?_
        refine SOpG.val (x := .bool false) rfl (by rw [hnt]; rfl) ?_
        exact SAny.done (by kernel_rfl) (fin6 _ (Kb :: more) rfl)
      intro tail
      refine SAny.free (i := 1) (l' := #[false, true, false, false, false, false, false, false]) (x := .nil) rfl rfl rfl (by rw [hnt]; rfl) (by kernel_rfl) hp.q ?_
      refine SAny.free (i := 2) (l' := #[false, true, true, false, false, false, false, false]) (x := .int .i64 j) rfl rfl rfl (by rw [hnt]; rfl) (by kernel_rfl) hp.q ?_
      refine SAny.free (i := 5) (l' := #[false, true, true, false, false, true, false, false]) (x := yOf Y) rfl rfl rfl (by rw [hnt]; rfl) (by kernel_rfl) hp.q ?_
      have app : ∀ (Q : AEx → AS → Prop) (K : AS → Prop) (s : AS) (o : Oper), o.op = .call ⟨.builtin .append, #[.tmp 23, .tmp 25], #[78, 78]⟩ → o.dst = some 26 → lk s.t 23 = .nil → lk s.t 25 = .slice 1 [.int .i64 j] → s.h = ⟨[ctr (eachP f ks (f cnt 0) (0 + 1) j), D, Kb], []⟩ →
          (∀ (q c : Nat) (more : List Box), q ≠ 0 → 0 + 1 ≤ c → (D :: Kb :: more)[q - 1]? = some (scr c) → K (({ s with h := ⟨ctr (eachP f ks (f cnt 0) (0 + 1) j) :: D :: Kb :: more, []⟩ } : AS).put (some 26) (.bsl q (0 + 1) c))) → SOp G0 C o Q K s := fun Q K s o ho hd h23 h25 hh h => by
        have hdo : dstOk C.nt o.dst = true := by rw [hd, hnt]; rfl
        refine SOp.scrNil (k := 1) (cs := [.int .i64 j]) (e := 3) (td := d3) (tdt := d78) ho h23 h25 rfl rfl rfl rfl rfl rfl (by omega) (by show 1 * 8 ≤ _; omega) (by omega) hdo fun c hc => ?_
        rw [hd, hh]
        exact h 3 c [scr c] (by omega) hc rfl
      refine SAny.two (i := 0) (j := 3) #[true, true, true, false, false, true, false, false] #[false, true, true, true, false, true, false, false] rfl rfl rfl rfl (by kernel_rfl) ?_ ?_
      · refine SOpG.val (x := .agg Kb.cs) rfl (by rw [hnt]; rfl) ?_
        refine SAny.one (i := 3) #[true, true, true, true, false, true, false, false] rfl rfl (by kernel_rfl) ?_
        refine SOpG.buildSlice (e := 3) (td := d3) (tdt := d78) (out := [.int .i64 j]) rfl rfl rfl rfl rfl (by decide) rfl rfl (by rw [hnt]; rfl) ?_
        refine SAny.last (i := 4) #[true, true, true, true, true, true, false, false] rfl rfl (by kernel_rfl) rfl ?_
        refine app _ _ _ _ rfl rfl rfl rfl rfl fun q c more hq hc hb => ?_
        exact tail _ ⟨q, c, more, hq, hc, hb, rfl⟩
      · refine SOpG.buildSlice (e := 3) (td := d3) (tdt := d78) (out := [.int .i64 j]) rfl rfl rfl rfl rfl (by decide) rfl rfl (by rw [hnt]; rfl) ?_
        refine SAny.twoL (i := 0) (j := 4) #[true, true, true, true, false, true, false, false] #[false, true, true, true, true, true, false, false] rfl rfl rfl rfl (by kernel_rfl) rfl ?_ ?_
        · refine SOpG.val (x := .agg Kb.cs) rfl (by rw [hnt]; rfl) ?_
          refine SAny.last (i := 4) #[true, true, true, true, true, true, false, false] rfl rfl (by kernel_rfl) rfl ?_
          refine app _ _ _ _ rfl rfl rfl rfl rfl fun q c more hq hc hb => ?_
          exact tail _ ⟨q, c, more, hq, hc, hb, rfl⟩
        · refine app _ _ _ _ rfl rfl rfl rfl rfl fun q c more hq hc hb => ?_
          refine SAny.one (i := 0) #[true, true, true, true, true, true, false, false] rfl rfl (by kernel_rfl) ?_
          refine SOpG.val (x := .agg Kb.cs) rfl (by rw [hnt]; rfl) ?_
          exact tail _ ⟨q, c, more, hq, hc, hb, rfl⟩
    · have hje : j = ks.len := by omega
      subst hje
      refine SWP.runQ (S false .nil) 60 31 hnt [1, 2, 3, 15, 16, 17] (e := .exit 0) (z := T ks.len) (o := [(decide ((ks.len : Int) < (ks.len : Int)), false), (false, false)]) (by kernel_rfl) ?_ ?_
      · intro p hm
        simp only [List.mem_cons, List.not_mem_nil, or_false] at hm
        rcases hm with rfl | rfl
        · simp
        · rfl
      · intro s' hs
        refine hK3 s' (.norm [1, 2, 3, 15, 16, 17] ?_)
        rw [hs]
        refine SWP.runQ S0 50 31 hnt [6] (e := .ret) (z := ⟨[(6, .bool true)], ⟨[ctr (eachP f ks (f cnt 0) (0 + 1) ks.len), D], []⟩⟩) (o := []) (by kernel_rfl) (fun p h => by cases h) (fun s hs => hfr s [6] ?_)
        rw [hs]
        refine ⟨1, .bool true, Nat.le_of_ble_eq_true rfl, Nat.le_of_ble_eq_true rfl, rfl, rfl, by simp only [Seat.scr, ctr, List.take, List.all_cons, List.all_nil, scL_rep]; rfl, rfl, ?_⟩
        rw [eachP_len]
        rfl
end Seat
end Go.Proofs.YteimebpgmfhgjaaDoor
