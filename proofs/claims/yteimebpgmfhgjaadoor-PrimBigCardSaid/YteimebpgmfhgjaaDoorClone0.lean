/- slices.Clone, datum.Clone: what they ask; the laws that the interpreter takes. -/
import Derived.Test.YteimebpgmfhgjaaDoorDatB
namespace Go.Proofs.YteimebpgmfhgjaaDoor
open Go.AS
set_option linter.unusedVariables false
set_option linter.unusedSimpArgs false
set_option maxRecDepth 100000
namespace Seat
mutual
/-- No list is long. -/
def smallD : Dat → Prop
  | .mk _ _ _ ks => ks.len ≤ 2000000 ∧ smallL ks
def smallL : Dats → Prop
  | .nil => True
  | .cons d ds => smallD d ∧ smallL ds
end
mutual
theorem smallD_of : ∀ d : Dat, parts d ≤ 2000000 → smallD d
  | .mk k n s ks, h => by
    simp only [parts] at h
    have := smallL_of ks (by omega)
    exact ⟨by omega, this.2⟩
theorem smallL_of : ∀ ks : Dats, partsL ks ≤ 2000000 → ks.len ≤ partsL ks ∧ smallL ks
  | .nil, h => ⟨Nat.le_refl _, trivial⟩
  | .cons d ds, h => by
    simp only [partsL] at h
    have h1 := smallD_of d (by omega)
    have h2 := smallL_of ds (by omega)
    have h3 : 1 ≤ parts d := by cases d; simp only [parts]; omega
    exact ⟨by simp only [Dats.len, partsL]; omega, h1, h2.2⟩
end
mutual
theorem smallD_ok : ∀ d : Dat, smallD d → d.ok
  | .mk k n s ks, h => ⟨by have := h.1; omega, smallL_ok ks h.2⟩
theorem smallL_ok : ∀ ks : Dats, smallL ks → ks.ok
  | .nil, _ => trivial
  | .cons d ds, h => ⟨smallD_ok d h.1, smallL_ok ds h.2⟩
end
theorem smallL_get : ∀ (ks : Dats) (j : Nat), j < ks.len → smallL ks → smallD (ks.get j)
  | .nil, j, h, _ => by simp [Dats.len] at h
  | .cons d ds, 0, h, ho => ho.1
  | .cons d ds, j + 1, h, ho => smallL_get ds j (by simp only [Dats.len] at h; omega) ho.2
open Classical in
noncomputable def isSmall (N : Nat) (cs : List PV) : Bool := decide (∃ d : Dat, d.cells = cs ∧ d.size < N ∧ smallD d)
theorem isSmall_at {N : Nat} {d : Dat} (h : d.size < N) (ho : smallD d) : isSmall N d.cells = true := by
  unfold isSmall
  classical exact decide_eq_true ⟨d, rfl, h, ho⟩
theorem isSmall_of {N : Nat} {cs : List PV} (h : isSmall N cs = true) : ∃ d : Dat, d.cells = cs ∧ d.size < N ∧ smallD d := by
  unfold isSmall at h
  classical exact of_decide_eq_true h
open Classical in
noncomputable def isSmallL (n : Nat) (cs : List PV) : Bool := decide (∃ ks : Dats, ks.cells = cs ∧ ks.len = n ∧ ks.len ≤ 2000000)
theorem isSmallL_at {ks : Dats} (h : ks.len ≤ 2000000) : isSmallL ks.len ks.cells = true := by
  unfold isSmallL
  classical exact decide_eq_true ⟨ks, rfl, rfl, h⟩
theorem isSmallL_of {n : Nat} {cs : List PV} (h : isSmallL n cs = true) : ∃ ks : Dats, ks.cells = cs ∧ ks.len = n ∧ ks.len ≤ 2000000 := by
  unfold isSmallL at h
  classical exact of_decide_eq_true h
theorem set_same {α : Type} {l : List α} {i : Nat} {a : α} (h : l[i]? = some a) : l.set i a = l := by
  apply List.ext_getElem?
  intro j
  by_cases hj : i = j
  · subst hj; rw [List.getElem?_set_self (List.getElem?_eq_some_iff.1 h).1, h]
  · rw [List.getElem?_set_ne hj]
theorem splice_same {α : Type} (l : List α) : ∀ (vs : List α) (o : Nat), (∀ (i : Nat) (v : α), vs[i]? = some v → l[o + i]? = some v) → splice l o vs = l
  | [], o, h => rfl
  | v :: vs, o, h => by
    have h0 := h 0 v rfl
    show splice (l.set o v) (o + 1) vs = l
    rw [set_same (by simpa using h0)]
    exact splice_same l vs (o + 1) fun i u hu => by
      have := h (i + 1) u (by simpa using hu)
      rw [show o + 1 + i = o + (i + 1) from by omega]
      exact this
theorem splice_kid (ks : Dats) (j : Nat) (h : j < ks.len) : splice ks.cells (j * 4) (ks.get j).cells = ks.cells := splice_same _ _ _ fun i v hv => by
  rw [← Dats.get_cells ks j h] at hv
  rw [List.getElem?_take] at hv
  split at hv
  · rw [List.getElem?_drop] at hv; exact hv
  · cases hv
/-- slices.Clone: a new row of the same cells. -/
theorem sclone_ok (ks : Dats) (hlen : ks.len ≤ 2000000) : Fresh G0 68 [.slice ks.len ks.cells] ⟨ks.cells, ks.len, 24, 4⟩ := by
  refine Fn.enterF Tryd.func68 Tryd.ntmps68 rfl (Nat.le_of_ble_eq_true rfl) fun C fr hnt hfr => ?_
  refine Q.runSeq S0 50 8 hnt [0] (z := ⟨[(0, .slice ks.len ks.cells)], ⟨[], []⟩⟩) (o := []) (by kernel_rfl) okO_nil ?_
  refine Q.seq fun K hK => ?_
  have rest : ∀ st, nrm [0] st = ⟨[(0, .slice ks.len ks.cells)], ⟨[], []⟩⟩ → K st := fun st hst => by
    refine hK st (.norm [0] ?_)
    rw [hst]
    refine SWP.runQ { S0 with orc := orcM [(8, [(7, true)])] } 60 8 hnt [2] (e := .ret) (z := ⟨[(2, .own 0 (0 + ks.len))], ⟨[], [some ⟨[] ++ ks.cells, 0 + ks.len, 24, 4⟩]⟩⟩) (o := [(Nat.beq ks.cells.length (ks.len * 4), true), (Nat.ble ((0 + ks.len) * 56) 140737488355328, true), (Nat.ble (0 + ks.len) 9223372036854775807, true)]) (by kernel_rfl) (okO_cons (by rw [Nat.beq_eq]; exact Dats.cells_len ks) (okO_cons (by rw [Nat.ble_eq]; omega) (okO_cons (by rw [Nat.ble_eq]; omega) okO_nil))) (fun st hs => hfr st [2] ?_)
    rw [hs, Nat.zero_add]
    exact ⟨0, rfl, rfl⟩
  refine Q.seq fun K1 hK1 => ?_
  cases ks with
  | cons d ds =>
    refine SWP.runQ S0 60 8 hnt [0, 4] (e := .normal) (z := ⟨[(0, .slice (Dats.cons d ds).len (Dats.cons d ds).cells), (4, .bool false)], ⟨[], []⟩⟩) (o := []) (by kernel_rfl) okO_nil (fun st hs => hK1 st (.norm [0, 4] ?_))
    rw [hs]
    exact SWP.runQ S0 60 8 hnt [0] (e := .normal) (z := ⟨[(0, .slice (Dats.cons d ds).len (Dats.cons d ds).cells)], ⟨[], []⟩⟩) (o := []) (by kernel_rfl) okO_nil rest
  | nil =>
    (with_reducible refine Q.region (l := ?_) ?_ ?_); rotate_left; focus (simp only [strip, SO.of, List.toList_toArray, List.getElem?_cons_zero, List.getElem?_cons_succ, Option.bind_some]; rfl)
    refine SRun.step _ (by simp only [push_cast, hnt, Nat.reduceEqDiff, reduceIte, Nat.reduceAdd, Nat.reduceSub, Nat.reduceMul, Nat.reduceLeDiff, Nat.reduceLT, Nat.reduceBEq, Nat.reduceBNe, decide_true, decide_false, Nat.le_refl, Bool.not_true, Bool.not_false, Bool.false_eq_true, reduceCtorEq, Bool.true_and, Bool.and_true, ge_iff_le, Nat.lt_irrefl, Nat.zero_le]; rfl) ?_
    refine SRun.cons (SOneG.one fun o h1 h2 => SOpG.isNil0 (e := 24) (td := d22) h2 rfl rfl rfl rfl (by rw [h1, hnt]; rfl) fun b => ?_)
    rw [h1]
    refine Q.nil (hK1 _ (.norm [0, 4] ?_))
    cases b with
    | false => exact SWP.runQ S0 60 8 hnt [0] (e := .normal) (z := ⟨[(0, .slice 0 [])], ⟨[], []⟩⟩) (o := []) (by kernel_rfl) okO_nil rest
    | true =>
      refine Q.cond (b := true) rfl (fun _ => ?_) (fun h => by cases h)
      refine Q.runSeq S0 60 8 hnt [2] (z := ⟨[(2, .nil)], ⟨[], []⟩⟩) (o := []) (by kernel_rfl) okO_nil ?_
      intro E a w hr
      obtain ⟨E', hr'⟩ := hr.adopt (s := 2) rfl 24 4
      exact (Q.ret (n := fun _ => False) (xs := []) (p := fun _ _ => False) (hfr _ [2] ⟨0, rfl, rfl⟩) : SWP G0 C .ret _ _).mono (fun e s q => by
        cases e with
        | normal => exact q.elim
        | exit i => exact q.elim
        | ret => exact q
        | panic x => exact q.elim) E' a w hr'
noncomputable def sclW (f : Nat) (args : List PV) : Option (Row × Ob) := match f, args with
  | 68, [.slice n cs] => some (⟨cs, n, 24, 4⟩, [(isSmallL n cs, true)])
  | _, _ => none
theorem sclW_ok : ∀ f args row o, sclW f args = some (row, o) → (∀ p ∈ o, p.1 = p.2) → Fresh G0 f args row := by
  intro f args row o h ho
  unfold sclW at h
  split at h
  · cases h
    obtain ⟨ks, rfl, rfl, h1⟩ := isSmallL_of (ho _ (List.mem_singleton.2 rfl))
    exact sclone_ok ks h1
  · cases h
def CloneAt (N : Nat) : Prop := ∀ d : Dat, d.size < N → smallD d → Pure G0 56 [.agg d.cells] (fun r => r = .agg d.cells)
noncomputable def cloS (N : Nat) (f : Nat) (args : List PV) : Option (PV × Ob) := match f, args with
  | 56, [.agg cs] => some (.agg cs, [(isSmall N cs, true)])
  | _, _ => none
theorem cloS_ok {N : Nat} (ih : CloneAt N) (f : Nat) (args : List PV) (r : PV) (o : Ob) (h : cloS N f args = some (r, o)) (ho : ∀ p ∈ o, p.1 = p.2) (hpu : pureL args = true) : Pure G0 f args (fun x => x = r) := by
  clear hpu
  unfold cloS at h
  split at h
  · cases h
    obtain ⟨d, rfl, h1, h2⟩ := isSmall_of (ho _ (List.mem_singleton.2 rfl))
    exact ih d h1 h2
  · cases h
noncomputable def SZ {N : Nat} (ih : CloneAt N) (l : List (Nat × List (Nat × Bool))) (v : List (Nat × List (Nat × PV))) : Cfg G0 := { F := F, hF := hF, S := cloS N, hS := cloS_ok ih, orc := orcM l, val := valM v, W := sclW, hW := sclW_ok, tst := true }
end Seat
end Go.Proofs.YteimebpgmfhgjaaDoor
